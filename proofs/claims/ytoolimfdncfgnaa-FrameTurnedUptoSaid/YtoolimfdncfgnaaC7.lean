/- The document's head. -/
import Derived.Test.YtoolimfdncfgnaaC6
import Derived.ArgAppend
import Derived.Lib.SlBytesConst
namespace Go.Proofs.Ytoolimfdncfgnaa
open Go.RowKit
set_option linter.unusedVariables false
set_option linter.unusedSimpArgs false

def OwnPost (l : List Int) (w : World) (e : Ending) (w' : World) : Prop := ∃ v', e = .returned v' ∧ w'.ownsRow w.heap.size 5 1 v' l.length (nums .u8 l) ∧ Kept (fun _ => False) w w'

set_option maxHeartbeats 1000000 in
theorem big1_any (g x : Nat) (w : World) (hx : x < 256) (h0 : w.cell? ⟨g, 0, none⟩ = some (.int .u8 83)) (h1 : w.cell? ⟨g, 1, none⟩ = some (.int .u8 80)) (h2 : w.cell? ⟨g, 2, none⟩ = some (.int .u8 82)) :
    Calls Try.prog 46 #[.slice (some ⟨g, 0, none⟩) 3 3, .int .u64 x, .int .i64 1] w (OwnPost [83, 80, 82, (x : Int)] w) := by
  obtain ⟨i0, hi, hz0, hz1, hz2⟩ := info_parts Try.info5
  go_enter Try.func46, Try.ntmps46
  have k0 := cell_alloc h0 (.cells #[.int .u8 x] 5)
  have k1 := cell_alloc h1 (.cells #[.int .u8 x] 5)
  have k2 := cell_alloc h2 (.cells #[.int .u8 x] 5)
  have HK := Lib.hid (And.intro k0 (And.intro k1 k2))
  clear h0 h1 h2 k0 k1 k2
  have hx8 : (x : Int) % 256 = x := by omega
  have hx9 : IntKind.u8.wrap (x : Int) = x := by rw [IntKind.wrap_u8]; omega
  go_wp2_with fail
  refine wp_loop_rounds 2 ?_
  rw [rounds_succ]
  go_wp2_with (at_builtin; refine wpList_append_grows _ rfl _ _ 25 rfl 5 i0 (.int .u8 0) 1 1 Try.underlying25 hi hz0 hz1 hz2 rfl (by decide) (some ⟨g, 0, none⟩) 3 3 [.int .u8 83, .int .u8 80, .int .u8 82] rfl (fun h => by cases h) rfl ?c0 ⟨w.heap.size, 0, none⟩ 1 1 _ rfl ?c1 (cell_one_new _ _ _) ?c2 ?c3 ?c4 ?c5 ?_)
  case c0 =>
    intro b hb j u hu
    injection hb with hb
    subst hb
    have ha : ∀ j, (⟨g, 0, none⟩ : Addr).add j = ⟨g, j, none⟩ := fun j => by unfold Addr.add; split <;> simp_all
    rw [ha]
    match j, hu with
    | 0, hu => injection hu with hu; subst hu; exact HK.out.1
    | 1, hu => injection hu with hu; subst hu; exact HK.out.2.1
    | 2, hu => injection hu with hu; subst hu; exact HK.out.2.2
    | j + 3, hu => simp at hu
  case c1 => rfl
  case c2 => simp [Value.oneCell']
  case c3 => decide
  case c4 => simp [maxLen]
  case c5 => simp
  rintro v2 w1 hown hgr
  have hs := (Kept.alloc (fun _ => False) w (.cells #[.int .u8 x] 5)).size
  have hk : Kept (fun _ => False) w w1 := (Kept.alloc _ _ _).trans (Kept.of_grown (S := fun _ => False) hgr (by simp)) (fun _ _ e => e) (fun _ _ e => e)
  have hown2 : w1.ownsRow w.heap.size 5 1 v2 4 (nums .u8 [83, 80, 82, (x : Int)]) := by
    obtain ⟨h1, h2⟩ := hown
    refine ⟨h1, ?_⟩
    rcases h2 with ⟨h, h'⟩ | ⟨g', cap, cur, e1, e2, r⟩
    · exact absurd h' (by decide)
    · exact .inr ⟨g', cap, cur, e1, Nat.le_trans (Nat.le_succ _) e2, r⟩
  have HO := Lib.hid (And.intro hown2 hk)
  clear hown2 hown hgr hk
  go_wp2_with fail
  try rw [rounds_succ]
  go_wp2_with fail
  go_ret
  exact ⟨v2, rfl, HO.out.1, HO.out.2⟩
theorem own_low {w : World} {B B' E n : Nat} {v : Value} {xs : List Value} (h : w.ownsRow B E 1 v n xs) (hB : B' ≤ B) : w.ownsRow B' E 1 v n xs := by
  obtain ⟨h1, h2⟩ := h
  refine ⟨h1, ?_⟩
  rcases h2 with h | ⟨g', cap, cur, e1, e2, r⟩
  · exact .inl h
  · exact .inr ⟨g', cap, cur, e1, Nat.le_trans hB e2, r⟩
theorem own_lo {w : World} {B E n : Nat} {v : Value} {xs : List Value} (h : w.ownsRow B E 1 v n xs) : ∀ i, v.ownBlock = some i → B ≤ i := fun i hi => (h.lt i hi).1

set_option maxHeartbeats 2000000 in
theorem refHead_any (k s n m : Nat) (w : World) (hk : k < 256) (hs : s < 18446744073709551616) (hn : n < 4294967296) (hm : m < 4294967296) :
    Calls Try.prog 36 #[.agg #[.int .i64 k, .int .u64 s, .int .i64 n, .int .u32 m]] w (OwnPost (head24 k s n m) w) := by
  have hsz : (w.alloc (.cells #[.int .i64 k, .int .u64 s, .int .i64 n, .int .u32 m] 43)).heap.size = w.heap.size + 1 := by simp
  have kc : (convert 25 25 (.slice (some ⟨w.heap.size + 1, 0, none⟩) 3 3)).run Try.prog ((w.alloc (.cells #[.int .i64 k, .int .u64 s, .int .i64 n, .int .u32 m] 43)).alloc (.cells #[.int .u8 83, .int .u8 80, .int .u8 82] 5)) =
      .ok (.slice (some ⟨w.heap.size + 1, 0, none⟩) 3 3) ((w.alloc (.cells #[.int .i64 k, .int .u64 s, .int .i64 n, .int .u32 m] 43)).alloc (.cells #[.int .u8 83, .int .u8 80, .int .u8 82] 5 (3, 4))) := by
    have := Lib.run_convert_bytes_const (P := Try.prog) (w.alloc (.cells #[.int .i64 k, .int .u64 s, .int .i64 n, .int .u32 m] 43)) 25 5 #[.int .u8 83, .int .u8 80, .int .u8 82] 3 3 Try.underlying25 Try.underlying5
    rw [hsz] at this
    exact this
  have kw : IntKind.u64.wrap (k : Int) = k := IntWalk.u64_in _ (by omega)
  go_enter Try.func36, Try.ntmps36
  go_wp2_with fail
  have hb := heap_alloc_new (w.alloc (.cells #[.int .i64 k, .int .u64 s, .int .i64 n, .int .u32 m] 43)) (.cells #[.int .u8 83, .int .u8 80, .int .u8 82] 5 (3, 4))
  rw [hsz] at hb
  refine (big1_any (w.heap.size + 1) k _ hk (blk_cell hb 0) (blk_cell hb 1) (blk_cell hb 2)).mono ?_
  rintro e w1 ⟨v1, rfl, hown1, hk1⟩
  have hbk : ((w.alloc (.cells #[.int .i64 k, .int .u64 s, .int .i64 n, .int .u32 m] 43)).alloc (.cells #[.int .u8 83, .int .u8 80, .int .u8 82] 5 (3, 4))).heap[w.heap.size]? = some (.cells #[.int .i64 k, .int .u64 s, .int .i64 n, .int .u32 m] 43 (0, 0)) := heap_alloc2_old _ _ _
  have hk0 : Kept (fun _ => False) w ((w.alloc (.cells #[.int .i64 k, .int .u64 s, .int .i64 n, .int .u32 m] 43)).alloc (.cells #[.int .u8 83, .int .u8 80, .int .u8 82] 5 (3, 4))) := (Kept.alloc _ _ _).trans (Kept.alloc _ _ _) (fun _ _ e => e) (fun _ _ e => e)
  clear hb hsz kc kw
  generalize ((w.alloc (.cells #[.int .i64 k, .int .u64 s, .int .i64 n, .int .u32 m] 43)).alloc (.cells #[.int .u8 83, .int .u8 80, .int .u8 82] 5 (3, 4))) = W at *
  have hB := hk0.size
  have hs1 := hk1.size
  have hb1 := blk_kept hk1 hbk id
  have hW := blk_lt hbk
  have hK := kt hk0 hk1
  clear hbk hk0 hk1
  have c0 : w1.cell? ⟨w.heap.size, 0, none⟩ = some (.int .i64 k) := blk_cell hb1 0
  have c1 : w1.cell? ⟨w.heap.size, 1, none⟩ = some (.int .u64 s) := blk_cell hb1 1
  obtain ⟨Bb, hBb⟩ : ∃ Bb, Bb = W.heap.size := ⟨_, rfl⟩
  rw [← hBb] at hown1 hs1 hB hW
  have H1 := Lib.hid (And.intro hown1 (And.intro hK (And.intro hb1 hs1)))
  have kn : IntKind.u64.wrap (n : Int) = n := IntWalk.u64_in _ (by omega)
  clear hown1 hK hb1 hs1 hBb
  go_wp2_with fail
  refine (big_any Bb 8 s v1 _ w1 H1.out.2.2.2 hs (by decide) H1.out.1 (by simp)).mono ?_
  rintro e w2 ⟨v2, rfl, h2⟩
  have K2 := h2.old H1.out.2.1 (fun i hi => Nat.le_trans hB (own_lo H1.out.1 i hi))
  have B2 := blk_kept h2.kept H1.out.2.2.1 (fun e => absurd (own_lo H1.out.1 _ e) (by omega))
  have S2 := Nat.le_trans H1.out.2.2.2 h2.kept.size
  have c22 : w2.cell? ⟨w.heap.size, 2, none⟩ = some (.int .i64 n) := blk_cell B2 2
  have H2 : Hid (w2.ownsRow Bb 5 1 v2 ([83, 80, 82, (k : Int)] ++ hiB 8 s).length (nums .u8 ([83, 80, 82, (k : Int)] ++ hiB 8 s)) ∧ Kept (fun _ => False) w w2 ∧ w2.heap[w.heap.size]? = some (.cells #[.int .i64 k, .int .u64 s, .int .i64 n, .int .u32 m] 43 (0, 0)) ∧ Bb ≤ w2.heap.size) := Lib.hid ⟨h2.own, K2, B2, S2⟩
  clear h2 K2 B2 S2
  go_wp2_with fail
  refine (big_any Bb 4 n v2 _ w2 H2.out.2.2.2 (by omega) (by decide) H2.out.1 (by simp [hiB_len])).mono ?_
  rintro e w3 ⟨v3, rfl, h3⟩
  have K3 := h3.old H2.out.2.1 (fun i hi => Nat.le_trans hB (own_lo H2.out.1 i hi))
  have B3 := blk_kept h3.kept H2.out.2.2.1 (fun e => absurd (own_lo H2.out.1 _ e) (by omega))
  have S3 := Nat.le_trans H2.out.2.2.2 h3.kept.size
  have c33 : w3.cell? ⟨w.heap.size, 3, none⟩ = some (.int .u32 m) := blk_cell B3 3
  have H3 : Hid (w3.ownsRow Bb 5 1 v3 ([83, 80, 82, (k : Int)] ++ hiB 8 s ++ hiB 4 n).length (nums .u8 ([83, 80, 82, (k : Int)] ++ hiB 8 s ++ hiB 4 n)) ∧ Kept (fun _ => False) w w3 ∧ w3.heap[w.heap.size]? = some (.cells #[.int .i64 k, .int .u64 s, .int .i64 n, .int .u32 m] 43 (0, 0)) ∧ Bb ≤ w3.heap.size) := Lib.hid ⟨h3.own, K3, B3, S3⟩
  clear h3 K3 B3 S3
  go_wp2_with fail
  refine (small_any Bb m v3 _ w3 H3.out.2.2.2 hm H3.out.1 (by simp [hiB_len])).mono ?_
  rintro e w4 ⟨v4, rfl, h4⟩
  have K4 := h4.old H3.out.2.1 (fun i hi => Nat.le_trans hB (own_lo H3.out.1 i hi))
  have B4 := blk_kept h4.kept H3.out.2.2.1 (fun e => absurd (own_lo H3.out.1 _ e) (by omega))
  have S4 := Nat.le_trans H3.out.2.2.2 h4.kept.size
  have H4 : Hid (w4.ownsRow Bb 5 1 v4 (head20 k s n m).length (nums .u8 (head20 k s n m)) ∧ Kept (fun _ => False) w w4 ∧ w4.heap[w.heap.size]? = some (.cells #[.int .i64 k, .int .u64 s, .int .i64 n, .int .u32 m] 43 (0, 0)) ∧ Bb ≤ w4.heap.size) := Lib.hid ⟨h4.own, K4, B4, S4⟩
  clear h4 K4 B4 S4
  go_wp2_with fail
  have hr4 : Reads w4 v4 (head20 k s n m) := (Lies.of_own H4.out.1).reads
  refine (refSum_any v4 _ w4 (head20_bytes s n m hk) (by rw [head20_len]; decide) hr4).mono ?_
  rintro e w5 ⟨rfl, k5⟩
  have H5 := Lib.hid (And.intro (own_kept H4.out.1 k5 (fun _ _ => id)) (And.intro (kt H4.out.2.1 k5) (And.intro (blk_kept k5 H4.out.2.2.1 id) (Nat.le_trans H4.out.2.2.2 k5.size))))
  clear k5 hr4
  go_wp2_with fail
  refine (small_any Bb (sumS (head20 k s n m)) v4 _ w5 H5.out.2.2.2 (more_lt (by decide) (head20_bytes s n m hk)) H5.out.1 (by rw [head20_len]; decide)).mono ?_
  rintro e w6 ⟨v6, rfl, h6⟩
  have K6 := h6.old H5.out.2.1 (fun i hi => Nat.le_trans hB (own_lo H5.out.1 i hi))
  have B6 := blk_kept h6.kept H5.out.2.2.1 (fun e => absurd (own_lo H5.out.1 _ e) (by omega))
  have S6 := Nat.le_trans H5.out.2.2.2 h6.kept.size
  have H6 : Hid (w6.ownsRow Bb 5 1 v6 (head24 k s n m).length (nums .u8 (head24 k s n m)) ∧ Kept (fun _ => False) w w6 ∧ w6.heap[w.heap.size]? = some (.cells #[.int .i64 k, .int .u64 s, .int .i64 n, .int .u32 m] 43 (0, 0)) ∧ Bb ≤ w6.heap.size) := Lib.hid ⟨h6.own, K6, B6, S6⟩
  clear h6 K6 B6 S6
  go_wp2_with fail
  go_ret
  exact ⟨v6, rfl, own_low H6.out.1 hB, H6.out.2.1⟩
end Go.Proofs.Ytoolimfdncfgnaa
