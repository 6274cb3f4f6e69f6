/- pieces: lists of pieces are their owner's: the marks. -/
import Derived.Test.YtoolimfdncfgnaaB2
import Derived.Test.YtoolimfdncfgnaaP1
namespace Go.Proofs.Ytoolimfdncfgnaa
open Go.RowKit
set_option linter.unusedVariables false
set_option linter.unusedSimpArgs false

theorem Try.info47 : (Try.prog.info? 47).map (fun i => (i.zero, i.size, i.bytes)) = some (some (.slice none 0 0), 1, 24) := by kernel_rfl
def mk (i : Nat) : List Value := [.int .i64 (-1 - (i : Int)), .int .u64 0, .int .i64 0, .int .i64 0]
theorem mk_len (i : Nat) : (mk i).length = 4 := rfl
theorem mk_ones (i : Nat) : ∀ u ∈ mk i, u.oneCell' = true := by simp [mk, Value.oneCell']
/-- Rows that lie apart, and the list of them. -/
structure Rws (B gL : Nat) (vs : List Value) (w : World) : Prop where
  base : B ≤ w.heap.size
  lt : ∃ arr, w.heap[gL]? = some (.cells arr 47 (0, 0))
  cell : ∀ (j : Nat) v, vs[j]? = some v → w.cell? ⟨gL, j, none⟩ = some v
  row : ∀ (j : Nat) v, vs[j]? = some v → ∃ n xs, n ≤ 4294967296 ∧ w.ownsRow B 60 4 v n xs
  sep : ∀ (i j : Nat) v u k, vs[i]? = some v → vs[j]? = some u → v.ownBlock = some k → u.ownBlock = some k → i = j
  len : vs.length ≤ 8
def Blocks (vs : List Value) (k : Nat) : Prop := ∃ (j : Nat) (v : Value), vs[j]? = some v ∧ v.ownBlock = some k
theorem Rws.out {B gL : Nat} {vs : List Value} {w : World} (h : Rws B gL vs w) : ¬ Blocks vs gL := by
  rintro ⟨j, v, hv, hb⟩
  obtain ⟨n, xs, _, ho⟩ := h.row j v hv
  obtain ⟨arr, ha⟩ := h.lt
  exact own_ne ho ha (by decide) hb
theorem Rws.cellAt {B gL : Nat} {vs : List Value} {w wr : World} (h : Rws B gL vs w) (hk : Kept (Blocks vs) w wr) (j : Nat) (v : Value) (hv : vs[j]? = some v) : wr.cell? ⟨gL, j, none⟩ = some v :=
  (World.cell?_of_block (hk.block gL (blk_lt h.lt.choose_spec) h.out)).trans (h.cell j v hv)
/-- What the rows hold, of which the first i are marked. -/
def Marked (B : Nat) (vs : List Value) (i : Nat) (wr : World) : Prop :=
  ∀ (j : Nat) v, vs[j]? = some v → ∃ n xs, n ≤ 4294967296 ∧ wr.ownsRow B 60 4 v n xs ∧ (j < i → xs = reps n (mk j))
theorem own_cellAt {w : World} {B E size g n c : Nat} {xs : List Value} (h : w.ownsRow B E size (.slice (some ⟨g, 0, none⟩) n c) n xs) (j : Nat) (hj : j < n * size) : ∃ u, xs[j]? = some u ∧ w.cell? ⟨g, j, none⟩ = some u := by
  obtain ⟨u, hu⟩ : ∃ u, xs[j]? = some u := ⟨_, List.getElem?_eq_getElem (by rw [h.1]; exact hj)⟩
  have := h.cells rfl j u hu
  have hadd : (⟨g, 0, none⟩ : Addr).add j = ⟨g, j, none⟩ := by unfold Addr.add; split <;> simp_all
  rw [hadd] at this
  exact ⟨u, hu, this⟩
theorem own_at {w : World} {B E size n : Nat} {v : Value} {xs : List Value} (h : w.ownsRow B E size v n xs) : ∃ A c, v = .slice A n c ∧ c ≤ 9223372036854775807 ∧ n ≤ c ∧ (0 < n → ∃ g, A = some ⟨g, 0, none⟩) := by
  rcases h.2 with ⟨rfl, rfl⟩ | ⟨g, cap, cur, rfl, _, _, h1, h2, _⟩
  · exact ⟨none, 0, rfl, by omega, by omega, fun h => by omega⟩
  · exact ⟨_, cap, rfl, by unfold maxLen at h2; omega, h1, fun _ => ⟨g, rfl⟩⟩
/-- Four cells of a row are written. -/
theorem own_store4 {w : World} {B g n c k : Nat} {xs : List Value} {x0 x1 x2 x3 : Value} (h : w.ownsRow B 60 4 (.slice (some ⟨g, 0, none⟩) n c) n xs) (hk : k < n) (ht : xs.take (k * 4) = reps k [x0, x1, x2, x3]) :
    ∃ ys, ((((w.setCell ⟨g, k * 4, none⟩ x0).setCell ⟨g, k * 4 + 1, none⟩ x1).setCell ⟨g, k * 4 + 2, none⟩ x2).setCell ⟨g, k * 4 + 3, none⟩ x3).ownsRow B 60 4 (.slice (some ⟨g, 0, none⟩) n c) n ys ∧ ys.take ((k + 1) * 4) = reps (k + 1) [x0, x1, x2, x3] ∧
      Kept (fun i => i = g) w ((((w.setCell ⟨g, k * 4, none⟩ x0).setCell ⟨g, k * 4 + 1, none⟩ x1).setCell ⟨g, k * 4 + 2, none⟩ x2).setCell ⟨g, k * 4 + 3, none⟩ x3) := by
  have h0 := (h.stored (k * 4) x0).1
  have h1 := (h0.stored (k * 4 + 1) x1).1
  have h2 := (h1.stored (k * 4 + 2) x2).1
  have h3 := (h2.stored (k * 4 + 3) x3).1
  refine ⟨_, h3, ?_, ?_⟩
  · have hl : xs.length = n * 4 := h.1
    rw [reps_succ, ← ht]
    refine List.ext_getElem? fun p => ?_
    have hlt : (xs.take (k * 4)).length = k * 4 := by simp; omega
    rcases Nat.lt_or_ge p (k * 4) with hp | hp
    · rw [List.getElem?_append_left (by rw [hlt]; exact hp), List.getElem?_take, List.getElem?_take, if_pos hp, if_pos (by omega)]
      rw [List.getElem?_set_ne (by omega), List.getElem?_set_ne (by omega), List.getElem?_set_ne (by omega), List.getElem?_set_ne (by omega)]
    · rw [List.getElem?_append_right (by rw [hlt]; exact hp), hlt, List.getElem?_take]
      by_cases e : p < (k + 1) * 4
      · rw [if_pos e]
        obtain ⟨q, rfl⟩ : ∃ q, p = k * 4 + q := ⟨p - k * 4, by omega⟩
        have hq : q < 4 := by omega
        rw [Nat.add_sub_cancel_left]
        rcases q with _ | _ | _ | _ | q
        · rw [List.getElem?_set_ne (by omega), List.getElem?_set_ne (by omega), List.getElem?_set_ne (by omega), Nat.add_zero, List.getElem?_set_self (by omega)]; rfl
        · rw [List.getElem?_set_ne (by omega), List.getElem?_set_ne (by omega), List.getElem?_set_self (by simp; omega)]; rfl
        · rw [List.getElem?_set_ne (by omega), List.getElem?_set_self (by simp; omega)]; rfl
        · rw [List.getElem?_set_self (by simp; omega)]; rfl
        · omega
      · rw [if_neg e, List.getElem?_eq_none (by simp; omega)]
  · have s := fun (W : World) (j : Nat) (x : Value) => Kept.setCell (S := fun i => i = g) W ⟨g, j, none⟩ x rfl
    exact (((s w _ x0).trans (s _ _ x1) (fun _ _ e => e) (fun _ _ e => e)).trans (s _ _ x2) (fun _ _ e => e) (fun _ _ e => e)).trans (s _ _ x3) (fun _ _ e => e) (fun _ _ e => e)

/-- What stands in the long list: each row's, and what grew out of it. -/
def Good (B : Nat) (vs : List Value) (w1 : World) (us : List Value) (wr : World) : Prop :=
  ∀ (t : Nat) u, us[t]? = some u → ∃ v m, vs[t / 3]? = some v ∧ m ≤ 4294967396 ∧ wr.ownsRow B 60 4 u m (reps m (mk (t / 3))) ∧ (u.ownBlock = v.ownBlock ∨ ∀ k, u.ownBlock = some k → w1.heap.size ≤ k)
def Fulls (B : Nat) (vs : List Value) (wr : World) : Prop := ∀ (j : Nat) v, vs[j]? = some v → ∃ n, n ≤ 4294967296 ∧ wr.ownsRow B 60 4 v n (reps n (mk j))
def PiecesPost (vs : List Value) (w : World) (e : Ending) (w' : World) : Prop := e = .returned (.bool true) ∧ Kept (Blocks vs) w w'
set_option maxHeartbeats 8000000 in
theorem pieces_any (B gL c : Nat) (vs : List Value) (w : World) (hr : Rws B gL vs w) (hc : vs.length ≤ c) :
    Calls Try.prog 27 #[.slice (some ⟨gL, 0, none⟩) vs.length c] w (PiecesPost vs w) := by
  have HR := Lib.hid hr
  have hlen := hr.len
  clear hr
  go_enter Try.func27, Try.ntmps27
  go_wp2_with fail
  go_loopw [3, 4] (fun i k wr => ∃ n : Nat, i = .int .i64 n ∧ n ≤ vs.length ∧ Kept (Blocks vs) w wr ∧ Marked B vs n wr) (fun i _ _ => vs.length - (intOf i).toNat)
  case atStart => exact ⟨0, rfl, by omega, .refl _ _, fun j v hv => by obtain ⟨n, xs, h1, h2⟩ := HR.out.row j v hv; exact ⟨n, xs, h1, h2, fun h => by omega⟩⟩
  case round =>
    obtain ⟨i, rfl, hi, hk, hM⟩ := hrel
    by_cases h : i < vs.length
    · obtain ⟨v, hv⟩ : ∃ v, vs[i]? = some v := ⟨_, List.getElem?_eq_getElem h⟩
      obtain ⟨n, xs, hn, hown, -⟩ := hM i v hv
      obtain ⟨A, cv, rfl, hcv, hncv, hA⟩ := own_at hown
      have hcell := HR.out.cellAt hk i _ hv
      obtain ⟨w0, rfl⟩ : ∃ w0 : World, w0 = wr := ⟨_, rfl⟩
      have H0 := Lib.hid (And.intro hk (And.intro hM (And.intro hown (And.intro hA hv))))
      have HC := Lib.hid hcell
      clear hk hM hown hA hv
      have h1 : (i : Int) < vs.length := by omega
      have h2 : (0 : Int) ≤ i := by omega
      go_wp2_with fail
      go_loopw [4] (fun k wr => ∃ m : Nat, k = .int .i64 m ∧ m ≤ n ∧ Kept (fun b => (Value.slice A n cv).ownBlock = some b) w0 wr ∧ ∃ ys, wr.ownsRow B 60 4 (.slice A n cv) n ys ∧ ys.take (m * 4) = reps m (mk i)) (fun k _ => n - (intOf k).toNat)
      case atStart => exact ⟨0, rfl, by omega, .refl _ _, _, H0.out.2.2.1, by simp [reps_nil]⟩
      case round =>
        obtain ⟨m, rfl, hm, hk2, ys, hown2, htake⟩ := hrel
        have hcell2 : wr.cell? ⟨gL, i, none⟩ = some (.slice A n cv) := by
          refine (World.cell?_of_block (hk2.block gL (World.block_lt_of_cell? w0 _ HC.out) fun e => ?_)).trans HC.out
          exact HR.out.out ⟨i, _, H0.out.2.2.2.2, e⟩
        clear hcell
        by_cases h3 : m < n
        · obtain ⟨g, rfl⟩ := H0.out.2.2.2.1 (by omega)
          have h4 : (m : Int) < n := by omega
          obtain ⟨x0, -, c0⟩ := own_cellAt hown2 (m * 4) (by omega)
          obtain ⟨x1, -, c1⟩ := own_cellAt hown2 (m * 4 + 1) (by omega)
          obtain ⟨x2, -, c2⟩ := own_cellAt hown2 (m * 4 + 2) (by omega)
          obtain ⟨x3, -, c3⟩ := own_cellAt hown2 (m * 4 + 3) (by omega)
          have hf := fun j => hown2.frozenAt j
          have HST := Lib.hid (own_store4 hown2 h3 htake)
          have HK2 := Lib.hid hk2
          clear hown2 htake hk2
          go_wp2_with fail
          obtain ⟨ys2, o2, t2, k2⟩ := HST.out
          exact ⟨⟨m + 1, by congr 1, by omega, HK2.out.trans k2 (fun _ _ e => e) (fun _ _ e => by subst e; rfl), ys2, o2, t2⟩, by simp [intOf]; omega⟩
        · obtain rfl : m = n := by omega
          have HE : Hid (Kept (Blocks vs) w wr ∧ Marked B vs (i + 1) wr) := Lib.hid ⟨H0.out.1.trans hk2 (fun _ _ e => e) (fun b _ e => ⟨i, _, H0.out.2.2.2.2, e⟩), fun j u hu => by
            rcases Decidable.em (j = i) with e | e
            · subst e
              obtain rfl : Value.slice A m cv = u := by have := H0.out.2.2.2.2; rw [hu] at this; injection this with this; exact this.symm
              exact ⟨m, ys, hn, hown2, fun _ => by rw [← htake, List.take_of_length_le (by rw [hown2.1]; omega)]⟩
            · obtain ⟨n', xs', b1, b2, b3⟩ := H0.out.2.1 j u hu
              exact ⟨n', xs', b1, own_kept b2 hk2 (fun b hb e2 => e (HR.out.sep j i u _ b hu H0.out.2.2.2.2 hb e2)), fun hj => b3 (by omega)⟩⟩
          clear hown2 htake hk2
          go_wp2_with fail
          exact ⟨⟨i + 1, by congr 1, by omega, HE.out.1, HE.out.2⟩, by simp [intOf]; omega⟩
    · obtain rfl : i = vs.length := by omega
      obtain ⟨w1, rfl⟩ : ∃ w1 : World, w1 = wr := ⟨_, rfl⟩
      have HM : Hid (Kept (Blocks vs) w w1 ∧ Fulls B vs w1) := Lib.hid ⟨hk, fun j v hv => by
        obtain ⟨n, xs, b1, b2, b3⟩ := hM j v hv
        have := (List.getElem?_eq_some_iff.1 hv).1
        exact ⟨n, b1, by rw [← b3 (by omega)]; exact b2⟩⟩
      clear hk hM
      obtain ⟨i0, hi0, hz0, hz1, hz2⟩ := info_parts Try.info60
      obtain ⟨i1, hi1, hy0, hy1, hy2⟩ := info_parts Try.info47
      go_wp2_with fail
      go_loopw [5, 6, 7, 8, 9, 10] (fun lo i _ _ _ _ wr => ∃ (n : Nat) (us : List Value), i = .int .i64 n ∧ n ≤ vs.length ∧ us.length = 3 * n ∧ wr.ownsRow w1.heap.size 47 1 lo us.length us ∧ Kept (Blocks vs) w1 wr ∧ Fulls B vs wr ∧ Good B vs w1 us wr) (fun _ i _ _ _ _ _ => vs.length - (intOf i).toNat)
      case atStart => exact ⟨0, [], rfl, by omega, rfl, World.ownsRow_nil _ _ _ _, .refl _ _, HM.out.2, fun t u hu => by simp at hu⟩
      case round =>
        obtain ⟨i, us, rfl, hi, hus, hlo, hk, hF, hG⟩ := hrel
        by_cases h : i < vs.length
        · obtain ⟨v, hv⟩ : ∃ v, vs[i]? = some v := ⟨_, List.getElem?_eq_getElem h⟩
          obtain ⟨n, hn, hown⟩ := hF i v hv
          obtain ⟨A, cv, rfl, hcv, hncv, hA⟩ := own_at hown
          have hcell := HR.out.cellAt (HM.out.1.trans hk (fun _ _ e => e) (fun _ _ e => e)) i _ hv
          obtain ⟨w0, rfl⟩ : ∃ w0 : World, w0 = wr := ⟨_, rfl⟩
          have H0 := Lib.hid (And.intro hk (And.intro hF (And.intro hG (And.intro hlo (And.intro hus (And.intro hown (And.intro hA hv)))))))
          clear hk hF hG hlo hus hown hA hv
          have h1 : (i : Int) < vs.length := by omega
          have h2 : (0 : Int) ≤ i := by omega
          go_wp2_with fail
          go_loopw [7, 8] (fun g k wr => ∃ q : Nat, k = .int .i64 q ∧ q ≤ 20 ∧ Fam B 60 4 (mk i) (.slice A n cv) n w0 g (n + q) wr) (fun _ k _ => 20 - (intOf k).toNat)
          case atStart => exact ⟨0, rfl, by omega, .init H0.out.2.2.2.2.2.1⟩
          case round =>
            obtain ⟨q, rfl, hq, hfam⟩ := hrel
            by_cases h3 : q < 20
            · have h4 : (q : Int) < 20 := by omega
              have ho := hfam.own
              have HF := Lib.hid hfam
              have hBw := Nat.le_trans (Nat.le_trans HR.out.base (Nat.le_trans HM.out.1.size H0.out.1.size)) hfam.kept.size
              clear hfam
              have p3 : n + q + 1 ≤ maxLen := by unfold maxLen; omega
              have p4 : (n + q + 1) * 32 ≤ 140737488355328 := by omega
              go_wp2_with (at_builtin; refine wpList_append_paint rfl _ _ 47 rfl B 60 i0 (.agg #[.int .i64 0, .int .u64 0, .int .i64 0, .int .i64 0]) 4 32 Try.underlying47 hi0 hz0 hz1 hz2 rfl (by decide) _ (n + q) _ (mk i) _ 1 1 (by rfl) (by rfl) (by rfl) (by rfl) (by decide) (mk_ones i) ho p3 p4 hBw ?_)
              clear p3 p4
              rintro g2 w2 hown2 hat
              have H2 := Lib.hid (HF.out.step rfl (by decide) hown2 hat)
              clear hown2 hat ho HF hBw
              go_wp2_with fail
              exact ⟨⟨q + 1, by congr 1, by omega, by have := H2.out; rwa [Nat.add_assoc] at this⟩, by simp [intOf]; omega⟩
            · have hq20 : q = 20 := by omega
              have hq20' : ¬ (q : Int) < 20 := by omega
              have HQ20 := Lib.hid hq20
              clear hq20
              obtain ⟨wg, rfl⟩ : ∃ wg : World, wg = wr := ⟨_, rfl⟩
              obtain ⟨q20, rfl⟩ : ∃ q20 : Nat, q20 = q := ⟨_, rfl⟩
              have HF := Lib.hid hfam
              have hcell2 : wg.cell? ⟨gL, i, none⟩ = some (.slice A n cv) :=
                (World.cell?_of_block (hfam.kept.block gL (World.block_lt_of_cell? w0 _ hcell) fun e => HR.out.out ⟨i, _, H0.out.2.2.2.2.2.2.2, e⟩)).trans hcell
              clear hfam hcell
              go_wp2_with fail
              go_loopw [9, 10] (fun g k wr => ∃ q : Nat, k = .int .i64 q ∧ q ≤ 80 ∧ Fam B 60 4 (mk i) (.slice A n cv) n wg g (n + q) wr ∧ wr.ownsRow B 60 4 u7 (n + q20) (reps (n + q20) (mk i))) (fun _ k _ => 80 - (intOf k).toNat)
              case atStart => exact ⟨0, rfl, by omega, .init HF.out.base, HF.out.own⟩
              case round =>
                obtain ⟨q, rfl, hq, hfam, hg⟩ := hrel
                by_cases h3 : q < 80
                · have h4 : (q : Int) < 80 := by omega
                  have ho := hfam.own
                  have HF2 := Lib.hid (And.intro hfam hg)
                  have hBw := Nat.le_trans (Nat.le_trans (Nat.le_trans HR.out.base (Nat.le_trans HM.out.1.size H0.out.1.size)) HF.out.kept.size) hfam.kept.size
                  clear hfam hg
                  have p3 : n + q + 1 ≤ maxLen := by unfold maxLen; omega
                  have p4 : (n + q + 1) * 32 ≤ 140737488355328 := by omega
                  go_wp2_with (at_builtin; refine wpList_append_paint rfl _ _ 47 rfl B 60 i0 (.agg #[.int .i64 0, .int .u64 0, .int .i64 0, .int .i64 0]) 4 32 Try.underlying47 hi0 hz0 hz1 hz2 rfl (by decide) _ (n + q) _ (mk i) _ 1 1 (by rfl) (by rfl) (by rfl) (by rfl) (by decide) (mk_ones i) ho p3 p4 hBw ?_)
                  clear p3 p4
                  rintro g2 w2 hown2 hat
                  have H2 := Lib.hid (And.intro (HF2.out.1.step rfl (by decide) hown2 hat) (hat.paint rfl (by decide) HF2.out.1.own HF2.out.2))
                  clear hown2 hat ho HF2 hBw
                  go_wp2_with fail
                  exact ⟨⟨q + 1, by congr 1, by omega, by have := H2.out.1; rwa [Nat.add_assoc] at this, H2.out.2⟩, by simp [intOf]; omega⟩
                · obtain rfl : q = 80 := by omega
                  have hcell3 : wr.cell? ⟨gL, i, none⟩ = some (.slice A n cv) :=
                    (World.cell?_of_block (hfam.kept.block gL (World.block_lt_of_cell? wg _ hcell2) fun e => HR.out.out ⟨i, _, H0.out.2.2.2.2.2.2.2, e⟩)).trans hcell2
                  have k0r : Kept (fun b => (Value.slice A n cv).ownBlock = some b) w0 wr := HF.out.kept.trans hfam.kept (fun _ _ e => e) (fun _ _ e => e)
                  have hlo3 : wr.ownsRow w1.heap.size 47 1 u5 us.length us := own_kept H0.out.2.2.2.1 k0r (fun k hk e => own_apart H0.out.2.2.2.2.2.1 H0.out.2.2.2.1 (by decide) e hk)
                  obtain ⟨A7, c7, rfl, _, _, _⟩ := own_at hg
                  obtain ⟨A9, c9, rfl, _, _, _⟩ := own_at hfam.own
                  have hones : ∀ u ∈ [Value.slice A n cv, .slice A7 (n + q20) c7, .slice A9 (n + 80) c9], u.oneCell' = true := by
                    intro u hu
                    simp only [List.mem_cons, List.not_mem_nil, or_false] at hu
                    rcases hu with rfl | rfl | rfl <;> rfl
                  have H3 := Lib.hid (And.intro hfam (And.intro hg (And.intro k0r (And.intro hlo3 hones))))
                  have hus := H0.out.2.2.2.2.1
                  have hBw : w1.heap.size ≤ wr.heap.size := Nat.le_trans H0.out.1.size k0r.size
                  clear hfam hg k0r hcell2 hones
                  have q3 : us.length + 3 ≤ maxLen := by unfold maxLen; omega
                  have q4 : (us.length + 3) * 24 ≤ 140737488355328 := by omega
                  have q5 : w1.heap.size ≤ (wr.alloc (.cells #[.slice A n cv, .slice A7 (n + q20) c7, .slice A9 (n + 80) c9] 47)).heap.size := by simp; omega
                  go_wp2_with (at_builtin; refine wpList_append_own_at _ rfl _ _ 52 rfl w1.heap.size 47 i1 (.slice none 0 0) 1 24 Try.underlying52 hi1 hy0 hy1 hy2 rfl (by decide) _ us.length us (by rfl) (hlo3.alloc _) ⟨wr.heap.size, 0, none⟩ 3 3 [.slice A n cv, .slice A7 (n + q20) c7, .slice A9 (n + 80) c9] (by rfl) (by rfl) (World.news_of_block (heap_alloc_new _ _)) H3.out.2.2.2.2 q3 q4 q5 ?_)
                  rintro lo2 w4 hown4 hgr - hat
                  have hs3 : (wr.alloc (.cells #[.slice A n cv, .slice A7 (n + q20) c7, .slice A9 (n + 80) c9] 47)).heap.size = wr.heap.size + 1 := by simp
                  have k34 : Kept (fun b => u5.ownBlock = some b) wr w4 := (Kept.alloc _ wr _).trans (Kept.of_grown (S := fun b => u5.ownBlock = some b) hgr fun k e => e) (fun _ _ e => e) (fun _ _ e => e)
                  have hkeep : ∀ {u : Value} {m : Nat} {xs : List Value}, wr.ownsRow B 60 4 u m xs → w4.ownsRow B 60 4 u m xs := fun h => own_kept h k34 (fun k hk e => own_apart h H3.out.2.2.2.1 (by decide) hk e)
                  have hW : w1.heap.size ≤ w0.heap.size := H0.out.1.size
                  have HE : Hid (w4.ownsRow w1.heap.size 47 1 lo2 (us ++ [Value.slice A n cv, .slice A7 (n + q20) c7, .slice A9 (n + 80) c9]).length (us ++ [Value.slice A n cv, .slice A7 (n + q20) c7, .slice A9 (n + 80) c9]) ∧ Kept (Blocks vs) w1 w4 ∧ Fulls B vs w4 ∧ Good B vs w1 (us ++ [Value.slice A n cv, .slice A7 (n + q20) c7, .slice A9 (n + 80) c9]) w4 ∧ (us ++ [Value.slice A n cv, .slice A7 (n + q20) c7, .slice A9 (n + 80) c9]).length = 3 * (i + 1)) := by
                    refine Lib.hid ⟨own_of hown4 rfl (by simp; omega), ?_, ?_, ?_, by simp; omega⟩
                    · refine (H0.out.1.trans H3.out.2.2.1 (fun _ _ e => e) (fun b _ e => ⟨i, _, H0.out.2.2.2.2.2.2.2, e⟩)).trans k34 (fun _ _ e => e) fun b hb e => ?_
                      have := (H3.out.2.2.2.1.lt b e).1
                      omega
                    · intro j u hu
                      rcases Decidable.em (j = i) with e | e
                      · subst e
                        obtain rfl : Value.slice A n cv = u := by have := H0.out.2.2.2.2.2.2.2; rw [hu] at this; injection this with this; exact this.symm
                        exact ⟨n, hn, hkeep H3.out.1.base⟩
                      · obtain ⟨m, hm, ho⟩ := H0.out.2.1 j u hu
                        exact ⟨m, hm, hkeep (own_kept ho H3.out.2.2.1 (fun b hb e2 => e (HR.out.sep j i u _ b hu H0.out.2.2.2.2.2.2.2 hb e2)))⟩
                    · intro t u hu
                      rcases Nat.lt_or_ge t us.length with ht | ht
                      · rw [List.getElem?_append_left ht] at hu
                        obtain ⟨v, m, hv, hm, ho, hw⟩ := H0.out.2.2.1 t u hu
                        refine ⟨v, m, hv, hm, hkeep (own_kept ho H3.out.2.2.1 (fun b hb e2 => ?_)), hw⟩
                        rcases hw with hw | hw
                        · have := HR.out.sep (t / 3) i v _ b hv H0.out.2.2.2.2.2.2.2 (hw ▸ hb) e2
                          omega
                        · have h1 := hw b hb
                          obtain ⟨n', _, ho'⟩ := HM.out.2 i _ H0.out.2.2.2.2.2.2.2
                          have := (ho'.lt b e2).2
                          omega
                      · rw [List.getElem?_append_right ht] at hu
                        have hti : ∀ r, r < 3 → t - us.length = r → t / 3 = i := fun r hr e => by omega
                        rcases hr : t - us.length with _ | _ | _ | r
                        · rw [hr] at hu
                          simp at hu
                          subst hu
                          rw [hti 0 (by decide) hr]
                          exact ⟨_, n, H0.out.2.2.2.2.2.2.2, by omega, hkeep H3.out.1.base, .inl rfl⟩
                        · rw [hr] at hu
                          simp at hu
                          subst hu
                          rw [hti 1 (by decide) hr]
                          refine ⟨_, n + q20, H0.out.2.2.2.2.2.2.2, by have := HQ20.out; omega, hkeep H3.out.2.1, ?_⟩
                          rcases HF.out.moved with q | q
                          · exact .inl q
                          · exact .inr fun k hk => Nat.le_trans hW (q k hk)
                        · rw [hr] at hu
                          simp at hu
                          subst hu
                          rw [hti 2 (by decide) hr]
                          refine ⟨_, n + 80, H0.out.2.2.2.2.2.2.2, by omega, hkeep H3.out.1.own, ?_⟩
                          rcases H3.out.1.moved with q | q
                          · exact .inl q
                          · exact .inr fun k hk => Nat.le_trans hW (Nat.le_trans HF.out.kept.size (q k hk))
                        · rw [hr] at hu
                          simp at hu
                  clear hown4 hgr hat k34 hkeep hcell3 hlo3
                  go_wp2_with fail
                  exact ⟨⟨i + 1, _, by congr 1, by omega, HE.out.2.2.2.2, HE.out.1, HE.out.2.1, HE.out.2.2.1, HE.out.2.2.2.1⟩, by simp [intOf]; omega⟩
        · obtain rfl : i = vs.length := by omega
          obtain ⟨w2, rfl⟩ : ∃ w2 : World, w2 = wr := ⟨_, rfl⟩
          obtain ⟨A5, c5, rfl, hc5, hnc5, hA5⟩ := own_at hlo
          have H2 := Lib.hid (And.intro hk (And.intro hG (And.intro hlo (And.intro hA5 hus))))
          have hus' : us.length ≤ 24 := by omega
          have HK1 := Lib.hid HM.out.1
          clear hk hF hG hlo hA5 hus HM
          go_wp2_with fail
          go_loop [11, 12] (fun i _ => ∃ n : Nat, i = .int .i64 n ∧ n ≤ us.length) (fun i _ => us.length - (intOf i).toNat)
          case atStart => exact ⟨0, rfl, by omega⟩
          case round =>
            obtain ⟨t, rfl, ht⟩ := hrel
            by_cases h3 : t < us.length
            · obtain ⟨u, hu⟩ : ∃ u, us[t]? = some u := ⟨_, List.getElem?_eq_getElem h3⟩
              obtain ⟨v, m, hv, hm, ho, -⟩ := H2.out.2.1 t u hu
              obtain ⟨A, cu, rfl, hcu, hmu, hA⟩ := own_at ho
              obtain ⟨gl, rfl⟩ := H2.out.2.2.2.1 (by omega)
              have hcell : w2.cell? ⟨gl, t, none⟩ = some (.slice A m cu) := by
                obtain ⟨u', hu', hc'⟩ := own_cellAt H2.out.2.2.1 t (by omega)
                rw [hu] at hu'
                injection hu' with hu'
                rw [hu']; exact hc'
              have H3 := Lib.hid (And.intro ho hA)
              have t1 : (t : Int) < us.length := by omega
              have t2 : (0 : Int) ≤ t := by omega
              clear hu hv ho hA
              go_wp2_with fail
              go_loop [12] (fun k => ∃ q : Nat, k = .int .i64 q ∧ q ≤ m) (fun k => m - (intOf k).toNat)
              case atStart => exact ⟨0, rfl, by omega⟩
              case round =>
                obtain ⟨q, rfl, hq⟩ := hrel
                by_cases h4 : q < m
                · obtain ⟨g, rfl⟩ := H3.out.2 (by omega)
                  have q1 : (q : Int) < m := by omega
                  have hcells : ∀ r x, r < 4 → (mk (t / 3))[r]? = some x → w2.cell? ⟨g, q * 4 + r, none⟩ = some x := fun r x hr hx => by
                    obtain ⟨u', hu', hc'⟩ := own_cellAt H3.out.1 (q * 4 + r) (by omega)
                    have := reps_get m (mk (t / 3)) q r h4 hr
                    rw [mk_len, hu', hx] at this
                    injection this with this
                    rw [← this]; exact hc'
                  have e3 : ((t / 3 : Nat) : Int) = (t : Int) / 3 := by omega
                  have d0 := hcells 0 _ (by decide) rfl
                  have d1 := hcells 1 _ (by decide) rfl
                  have d2 := hcells 2 _ (by decide) rfl
                  have d3 := hcells 3 _ (by decide) rfl
                  rw [e3, Nat.add_zero] at d0
                  clear hcells e3
                  go_wp2_with fail
                  exact ⟨⟨q + 1, by congr 1, by omega⟩, by simp [intOf]; omega⟩
                · obtain rfl : q = m := by omega
                  go_wp2_with fail
                  exact ⟨⟨t + 1, by congr 1, by omega⟩, by simp [intOf]; omega⟩
            · obtain rfl : t = us.length := by omega
              go_wp2_with fail
              go_ret
              exact ⟨rfl, HK1.out.trans H2.out.1 (fun _ _ e => e) (fun _ _ e => e)⟩
end Go.Proofs.Ytoolimfdncfgnaa
