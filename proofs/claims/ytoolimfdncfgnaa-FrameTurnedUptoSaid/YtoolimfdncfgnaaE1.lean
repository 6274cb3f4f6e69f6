/- mark, full; the document's Make. -/
import Derived.Test.YtoolimfdncfgnaaD3
namespace Go.Proofs.Ytoolimfdncfgnaa
open Go.RowKit
set_option linter.unusedVariables false
set_option linter.unusedSimpArgs false

def mkB (i : Nat) : Nat := 1 + i % 251
theorem mark_any (i : Nat) (w : World) (hi : i < 4294967296) : Calls Try.prog 37 #[.int .i64 i] w fun e w' => e = .returned (.int .u8 (mkB i)) ∧ w' = w := by
  have h1 : (0 : Int) ≤ (i : Int) % 251 := by omega
  have h2 : (i : Int) % 251 < 251 := by omega
  have h3 : IntKind.u8.wrap (1 + (i : Int) % 251) = 1 + (i : Int) % 251 := IntWalk.u8_in _ (by omega)
  have h4 : (mkB i : Int) = 1 + (i : Int) % 251 := by unfold mkB; omega
  have H4 := Lib.hid h4
  clear h4
  go_enter Try.func37, Try.ntmps37
  go_wp2_with fail
  go_ret
  exact ⟨ret_eq H4.out.symm, rfl⟩
theorem full_nil (A : Option Addr) (c : Nat) (x : Nat) (w : World) : Calls Try.prog 38 #[.slice A 0 c, .int .u8 x] w fun e w' => e = .returned (.bool true) ∧ w' = w := by
  go_enter Try.func38, Try.ntmps38
  go_wp2_with fail
  refine wp_loop_rounds 1 ?_
  rw [rounds_succ]
  go_wp2_with fail
  go_ret
  exact ⟨rfl, rfl⟩
theorem full_pos (g n c x : Nat) (w : World) (hn : n ≤ 9223372036854775807) (hc : ∀ j, j < n → w.cell? ⟨g, j, none⟩ = some (.int .u8 x)) :
    Calls Try.prog 38 #[.slice (some ⟨g, 0, none⟩) n c, .int .u8 x] w fun e w' => e = .returned (.bool true) ∧ w' = w := by
  have HC := Lib.hid hc
  clear hc
  go_enter Try.func38, Try.ntmps38
  go_wp2_with fail
  go_loop [5] (fun i => ∃ k : Nat, i = .int .i64 k ∧ k ≤ n) (fun i => n - (intOf i).toNat)
  case atStart => exact ⟨0, rfl, by omega⟩
  case round =>
    obtain ⟨k, rfl, hk⟩ := hrel
    by_cases h : k < n
    · have h1 : (k : Int) < n := by omega
      have hcell := HC.out k h
      go_wp2_with fail
      exact ⟨⟨k + 1, by congr 1, by omega⟩, by simp [intOf]; omega⟩
    · obtain rfl : k = n := by omega
      go_wp2_with fail
      go_ret
      exact ⟨rfl, rfl⟩
def bmk (i : Nat) : List Value := [.int .u8 (mkB i)]
theorem full_own {B i n : Nat} {v : Value} {w : World} (h : w.ownsRow B 5 1 v n (reps n (bmk i))) : Calls Try.prog 38 #[v, .int .u8 (mkB i)] w fun e w' => e = .returned (.bool true) ∧ w' = w := by
  obtain ⟨A, c, rfl, hc, hn, hA⟩ := own_at h
  rcases Nat.eq_zero_or_pos n with rfl | h0
  · exact full_nil A c _ w
  · obtain ⟨g, rfl⟩ := hA h0
    refine full_pos g n c _ w (by omega) fun j hj => ?_
    obtain ⟨u, hu, hcell⟩ := own_cellAt h j (by omega)
    have := reps_get n (bmk i) j 0 hj (Nat.zero_lt_one)
    simp only [bmk, List.length_cons, List.length_nil, Nat.zero_add, Nat.mul_one, Nat.add_zero] at this hu
    rw [hu] at this
    simp at this
    rw [hcell, this]

/-! ### the document's Make -/
def MakeIs (k : Int) (s : Nat) (p : List Int) (l : List Int) (q : Nat) : Prop :=
  if k < 1 ∨ 9 < k then l = [] ∧ q = 21 else if 1048576 < p.length then l = [] ∧ q = 22 else l = frameB k.toNat s p ∧ q = 0
theorem make_is (k : Int) (s : Nat) (p : List Int) : ∃ l q, MakeIs k s p l q := by
  unfold MakeIs
  split
  · exact ⟨_, _, rfl, rfl⟩
  · split
    · exact ⟨_, _, rfl, rfl⟩
    · exact ⟨_, _, rfl, rfl⟩
/-- A list of its own, and an error. -/
def GivesL (l : List Int) (q : Nat) (w : World) (e : Ending) (w' : World) : Prop :=
  ∃ A c, e = .returned (.tuple #[.slice A l.length c, .int .i64 q]) ∧ w'.ownsRow w.heap.size 5 1 (.slice A l.length c) l.length (nums .u8 l) ∧ Kept (fun _ => False) w w'
theorem GivesL.mk {l : List Int} {q : Nat} {w w' : World} {v : Value} (ho : w'.ownsRow w.heap.size 5 1 v l.length (nums .u8 l)) (hk : Kept (fun _ => False) w w') : GivesL l q w (.returned (.tuple #[v, .int .i64 q])) w' := by
  obtain ⟨A, c, rfl, _⟩ := own_at ho
  exact ⟨A, c, rfl, ho, hk⟩

theorem refMake_kind (kind seq : Int) (v : Value) (w : World) (hk : kind < 1 ∨ 9 < kind) :
    Calls Try.prog 18 #[.int .i64 kind, .int .u64 seq, v] w (fun e w' => e = .returned (.tuple #[.slice none 0 0, .int .i64 21]) ∧ w' = w) := by
  rcases hk with hk | hk
  · go_enter Try.func18, Try.ntmps18
    go_wp2_with fail
    go_ret2
    exact ⟨rfl, rfl⟩
  · have hk' : ¬ kind < 1 := by omega
    go_enter Try.func18, Try.ntmps18
    go_wp2_with fail
    go_ret2
    exact ⟨rfl, rfl⟩
theorem refMake_long (kind : Nat) (seq : Int) (A : Option Addr) (n c : Nat) (w : World) (hk0 : 1 ≤ kind) (hk1 : kind ≤ 9) (hn : 1048576 < n) (hn2 : n ≤ 9223372036854775807) :
    Calls Try.prog 18 #[.int .i64 kind, .int .u64 seq, .slice A n c] w (fun e w' => e = .returned (.tuple #[.slice none 0 0, .int .i64 22]) ∧ w' = w) := by
  have k0 : (1 : Int) ≤ kind := by omega
  have k1 : (kind : Int) ≤ 9 := by omega
  go_enter Try.func18, Try.ntmps18
  go_wp2_with fail
  go_ret2
  exact ⟨rfl, rfl⟩
set_option maxHeartbeats 2000000 in
theorem refMake_ok (kind seq : Nat) (v : Value) (p : List Int) (w : World) (hk0 : 1 ≤ kind) (hk1 : kind ≤ 9) (hs : seq < 18446744073709551616) (hp : p.length ≤ 1048576) (hb : Bytes p) (hr : Reads w v p) :
    Calls Try.prog 18 #[.int .i64 kind, .int .u64 seq, v] w (GivesL (frameB kind seq p) 0 w) := by
  obtain ⟨i0, hi, hz0, hz1, hz2⟩ := info_u8
  have hm : maxLen = 9223372036854775807 := rfl
  have HM := Lib.hid hm
  clear hm
  obtain ⟨A, c, rfl⟩ : ∃ A c, v = .slice A p.length c := by obtain ⟨A, c, e, _⟩ := hr; exact ⟨A, c, e⟩
  have k0 : (1 : Int) ≤ kind := by omega
  have k1 : (kind : Int) ≤ 9 := by omega
  have HR := Lib.hid hr; clear hr
  go_enter Try.func18, Try.ntmps18
  go_wp2_with fail
  refine (refSum_any _ p w hb (by omega) HR.out).mono ?_
  rintro e w1 ⟨rfl, hk1'⟩
  have K1 := Lib.hid hk1'
  clear hk1'
  go_wp2_with fail
  refine (refHead_any kind seq p.length (sumS p) w1 (by omega) hs (by omega) (more_lt (by decide) hb)).mono ?_
  rintro e w2 ⟨v2, rfl, ho2, hk2⟩
  have hl24 : (head24 kind seq p.length (sumS p)).length = 24 := head24_len _ _ _ _
  obtain ⟨H, hH⟩ : ∃ H, H = head24 kind seq p.length (sumS p) := ⟨_, rfl⟩
  rw [← hH] at ho2 hl24
  have hr2 := HR.out.kept (kt K1.out hk2)
  have HF : Hid (frameB kind seq p = H ++ p) := Lib.hid (by rw [hH]; rfl)
  have K2 := Lib.hid (kt K1.out hk2)
  have HL := Lib.hid hl24
  have HS := Lib.hid (Nat.le_trans (Nat.le_refl w1.heap.size) hk2.size)
  clear hk2 hH hl24
  go_wp2_with (at_builtin; refine wpList_append_reads rfl _ _ 25 rfl w1.heap.size 5 i0 (.int .u8 0) 1 Try.underlying25 hi hz0 hz1 hz2 rfl v2 (.slice A p.length c) H p (by rfl) (by rfl) hr2 ho2 ?c2 ?c3 ?c4 ?_)
  case c2 => have := HM.out; have := HL.out; omega
  case c3 => have := HL.out; omega
  case c4 => exact HS.out
  rintro v3 w3 st3
  have K3 := Lib.hid (And.intro st3.own (st3.old K2.out (fun i hi => by have := (ho2.lt i hi).1; have := K1.out.size; omega)))
  clear st3 ho2 hr2
  go_wp2_with fail
  go_ret2
  rw [HF.out]
  exact .mk (own_lower K3.out.1 K1.out.size) K3.out.2
theorem gives_nil {q : Nat} {w : World} : GivesL [] q w (.returned (.tuple #[.slice none 0 0, .int .i64 q])) w := ⟨none, 0, rfl, World.ownsRow_nil _ _ _ _, .refl _ _⟩
theorem makeG (k : Int) (s : Nat) (v : Value) (p l : List Int) (w : World) {q : Nat} (hi : MakeIs k s p l q) (hs : s < 18446744073709551616) (hp : p.length ≤ 4294967296) (hb : Bytes p) (hr : Reads w v p) :
    Calls Try.prog 17 #[.int .i64 k, .int .u64 s, v] w (GivesL l q w) := by
  unfold MakeIs at hi
  by_cases hk : k < 1 ∨ 9 < k
  · rw [if_pos hk] at hi
    obtain ⟨rfl, rfl⟩ := hi
    exact (make_kind k s v w hk).mono fun e w' ⟨h1, h2⟩ => by subst h1 h2; exact gives_nil
  · rw [if_neg hk] at hi
    obtain ⟨kk, rfl⟩ : ∃ kk : Nat, k = kk := ⟨k.toNat, by omega⟩
    by_cases hl : 1048576 < p.length
    · rw [if_pos hl] at hi
      obtain ⟨rfl, rfl⟩ := hi
      obtain ⟨A, c, rfl, _⟩ := hr
      exact (make_long kk s A p.length c w (by omega) (by omega) hl (by omega)).mono fun e w' ⟨h1, h2⟩ => by subst h1 h2; exact gives_nil
    · rw [if_neg hl] at hi
      obtain ⟨rfl, rfl⟩ := hi
      refine (make_ok kk s v p w (by omega) (by omega) hs (by omega) hb hr).mono fun e w' h => ?_
      obtain ⟨v', he, ho, hk', hz⟩ := h
      rw [he]
      exact .mk ho hk'
theorem refMakeG (k : Int) (s : Nat) (v : Value) (p l : List Int) (w : World) {q : Nat} (hi : MakeIs k s p l q) (hs : s < 18446744073709551616) (hp : p.length ≤ 4294967296) (hb : Bytes p) (hr : Reads w v p) :
    Calls Try.prog 18 #[.int .i64 k, .int .u64 s, v] w (GivesL l q w) := by
  unfold MakeIs at hi
  by_cases hk : k < 1 ∨ 9 < k
  · rw [if_pos hk] at hi
    obtain ⟨rfl, rfl⟩ := hi
    exact (refMake_kind k s v w hk).mono fun e w' ⟨h1, h2⟩ => by subst h1 h2; exact gives_nil
  · rw [if_neg hk] at hi
    obtain ⟨kk, rfl⟩ : ∃ kk : Nat, k = kk := ⟨k.toNat, by omega⟩
    by_cases hl : 1048576 < p.length
    · rw [if_pos hl] at hi
      obtain ⟨rfl, rfl⟩ := hi
      obtain ⟨A, c, rfl, _⟩ := hr
      exact (refMake_long kk s A p.length c w (by omega) (by omega) hl (by omega)).mono fun e w' ⟨h1, h2⟩ => by subst h1 h2; exact gives_nil
    · rw [if_neg hl] at hi
      obtain ⟨rfl, rfl⟩ := hi
      exact refMake_ok kk s v p w (by omega) (by omega) hs (by omega) hb hr
theorem MakeIs.len {k : Int} {s : Nat} {p l : List Int} {q : Nat} (h : MakeIs k s p l q) (hp : p.length ≤ 4294967000) : l.length ≤ 4294967296 := by
  unfold MakeIs at h
  split at h
  · rw [h.1]; simp
  · split at h
    · rw [h.1]; simp
    · rw [h.1, frameB_len]; omega
theorem MakeIs.bytes {k : Int} {s : Nat} {p l : List Int} {q : Nat} (h : MakeIs k s p l q) (hb : Bytes p) : Bytes l := by
  unfold MakeIs at h
  split at h
  · rw [h.1]; exact fun x hx => by cases hx
  · split at h
    · rw [h.1]; exact fun x hx => by cases hx
    · rw [h.1]; exact frameB_bytes s (by omega) hb
end Go.Proofs.Ytoolimfdncfgnaa
