/- A book of lists: ends. -/
import Derived.Test.YtoolimfdncfgnaaE2
import Derived.StillTailTactics
namespace Go.Proofs.Ytoolimfdncfgnaa
open Go.RowKit
set_option linter.unusedVariables false
set_option linter.unusedSimpArgs false

def MarkedB (B : Nat) (vs : List Value) (i : Nat) (wr : World) : Prop :=
  ∀ (j : Nat) v, vs[j]? = some v → ∃ n xs, n ≤ 4294967296 ∧ wr.ownsRow B 5 1 v n xs ∧ (j < i → xs = reps n (bmk j))
def FullsB (B : Nat) (vs : List Value) (wr : World) : Prop := ∀ (j : Nat) v, vs[j]? = some v → ∃ n, n ≤ 4294967296 ∧ wr.ownsRow B 5 1 v n (reps n (bmk j))
def GoodB (B : Nat) (vs : List Value) (w1 : World) (us : List Value) (wr : World) : Prop :=
  ∀ (t : Nat) u, us[t]? = some u → ∃ v m, vs[t / 2]? = some v ∧ m ≤ 4294967396 ∧ wr.ownsRow B 5 1 u m (reps m (bmk (t / 2))) ∧ (u.ownBlock = v.ownBlock ∨ ∀ k, u.ownBlock = some k → w1.heap.size ≤ k)
/-- Where a book is read from, and its lists lie apart. -/
structure BookW (B gB : Nat) (vs : List Value) (vl : Value) (w : World) : Prop where
  base : B ≤ w.heap.size
  blk : ∃ vw, w.heap[gB]? = some (.cells #[vl, vw] 35 (0, 0))
  own : ∃ B', w.ownsRow B' 25 1 vl vs.length vs
  row : ∀ (j : Nat) v, vs[j]? = some v → ∃ n xs, n ≤ 4294967296 ∧ w.ownsRow B 5 1 v n xs
  sep : ∀ (i j : Nat) v u k, vs[i]? = some v → vs[j]? = some u → v.ownBlock = some k → u.ownBlock = some k → i = j
theorem BookW.out {B gB : Nat} {vs : List Value} {vl : Value} {w : World} (h : BookW B gB vs vl w) : ¬ Blocks vs gB ∧ ∀ k, vl.ownBlock = some k → ¬ Blocks vs k := by
  refine ⟨?_, fun k hk => ?_⟩
  · rintro ⟨j, v, hv, hb⟩
    obtain ⟨n, xs, _, ho⟩ := h.row j v hv
    obtain ⟨vw, ha⟩ := h.blk
    exact own_ne ho ha (by decide) hb
  · rintro ⟨j, v, hv, hb⟩
    obtain ⟨n, xs, _, ho⟩ := h.row j v hv
    obtain ⟨B', ha⟩ := h.own
    exact own_apart ho ha (by decide) hb hk
theorem BookW.cells {B gB : Nat} {vs : List Value} {vl : Value} {w wr : World} (h : BookW B gB vs vl w) (hk : Kept (Blocks vs) w wr) :
    wr.cell? ⟨gB, 0, none⟩ = some vl ∧ ∃ vw B', wr.heap[gB]? = some (.cells #[vl, vw] 35 (0, 0)) ∧ wr.ownsRow B' 25 1 vl vs.length vs := by
  obtain ⟨vw, ha⟩ := h.blk
  obtain ⟨B', ho⟩ := h.own
  have hb := blk_kept hk ha h.out.1
  exact ⟨blk_cell hb 0, vw, B', hb, own_kept ho hk h.out.2⟩
theorem own_elem {w : World} {B E g n c : Nat} {xs : List Value} (h : w.ownsRow B E 1 (.slice (some ⟨g, 0, none⟩) n c) n xs) {j : Nat} {v : Value} (hv : xs[j]? = some v) : w.cell? ⟨g, j, none⟩ = some v := by
  have hj := (List.getElem?_eq_some_iff.1 hv).1
  rw [h.1] at hj
  obtain ⟨u, hu, hc⟩ := own_cellAt h j (by omega)
  rw [hv] at hu
  injection hu with hu
  rw [hu]; exact hc
theorem nums_string {w : World} {B n : Nat} {v : Value} {l : List Int} (h : w.ownsRow B 5 1 v l.length (nums .u8 l)) : (convert 25 9 v).run Try.prog w = .ok (.string (strOfNums l)) w :=
  (Lies.of_own h).string (P := Try.prog) Try.underlying25 Try.underlying5 Try.underlying9
/-- One cell of a row is written. -/
theorem own_store1 {w : World} {B g n c k : Nat} {xs : List Value} {x : Value} (h : w.ownsRow B 5 1 (.slice (some ⟨g, 0, none⟩) n c) n xs) (hk : k < n) (ht : xs.take k = reps k [x]) :
    ∃ ys, (w.setCell ⟨g, k, none⟩ x).ownsRow B 5 1 (.slice (some ⟨g, 0, none⟩) n c) n ys ∧ ys.take (k + 1) = reps (k + 1) [x] ∧ Kept (fun i => i = g) w (w.setCell ⟨g, k, none⟩ x) := by
  have h0 := (h.stored k x).1
  refine ⟨_, h0, ?_, Kept.setCell (S := fun i => i = g) w ⟨g, k, none⟩ x rfl⟩
  have hl : xs.length = n * 1 := h.1
  rw [reps_succ, ← ht]
  refine List.ext_getElem? fun p => ?_
  have hlt : (xs.take k).length = k := by simp; omega
  rcases Nat.lt_or_ge p k with hp | hp
  · rw [List.getElem?_append_left (by rw [hlt]; exact hp), List.getElem?_take, List.getElem?_take, if_pos hp, if_pos (by omega), List.getElem?_set_ne (by omega)]
  · rw [List.getElem?_append_right (by rw [hlt]; exact hp), hlt, List.getElem?_take]
    by_cases e : p < k + 1
    · obtain rfl : p = k := by omega
      rw [if_pos e, List.getElem?_set_self (by omega), Nat.sub_self]; rfl
    · rw [if_neg e, List.getElem?_eq_none (by simp; omega)]

def EndsPost (gB : Nat) (vs : List Value) (w : World) (e : Ending) (w' : World) : Prop := e = .returned (.bool true) ∧ Kept (fun k => k = gB ∨ Blocks vs k) w w'
set_option maxHeartbeats 16000000 in
set_option maxRecDepth 100000 in
theorem ends_any (B gB : Nat) (w0 : World) (vs us : List Value) (ls : List (List Int)) (vl vw : Value) (w : World) (hbk : BookR gB w0 vs us ls vl vw w) (hB : B ≤ w.heap.size)
    (hv : ∀ (i : Nat) v, vs[i]? = some v → ∃ l, ls[i]? = some l ∧ l.length ≤ 4294967296 ∧ w.ownsRow B 5 1 v l.length (nums .u8 l))
    (hsep : ∀ (i j : Nat) v u k, vs[i]? = some v → vs[j]? = some u → v.ownBlock = some k → u.ownBlock = some k → i = j) :
    Calls Try.prog 21 #[.pointer (some ⟨gB, 0, none⟩)] w (EndsPost gB vs w) := by
  have H := Lib.hid (And.intro hbk (And.intro hv hsep))
  have hlen : vs.length ≤ 8 := by have := hbk.vlen; have := hbk.small; omega
  have c0 : w.cell? ⟨gB, 0, none⟩ = some vl := blk_cell hbk.blk 0
  have c1 : w.cell? ⟨gB, 1, none⟩ = some vw := blk_cell hbk.blk 1
  obtain ⟨Al, cl, rfl, hcl, hncl, hAl⟩ := own_at hbk.hl
  obtain ⟨Aw, cw, rfl, hcw, hncw, hAw⟩ := own_at hbk.hw
  have huv : us.length = vs.length := by rw [hbk.ulen, hbk.vlen]
  have HA := Lib.hid (And.intro hAl (And.intro hAw huv))
  clear hbk hv hsep hAl hAw huv
  go_enter Try.func21, Try.ntmps21
  go_wp2_with fail
  go_loopw [3] (fun i wr => (∃ n : Nat, i = .int .i64 n ∧ n ≤ vs.length) ∧ ∃ m, wr = w.drewN m) (fun i _ => vs.length - (intOf i).toNat)
  case atStart => exact ⟨⟨0, rfl, by omega⟩, 0, rfl⟩
  case round =>
    obtain ⟨⟨i, rfl, hi⟩, m, rfl⟩ := hrel
    by_cases h : i < vs.length
    · obtain ⟨v, hv⟩ : ∃ v, vs[i]? = some v := ⟨_, List.getElem?_eq_getElem h⟩
      obtain ⟨l, hl, hl32, hov⟩ := H.out.2.1 i v hv
      obtain ⟨u, hu, hou⟩ := H.out.1.rows i l hl
      obtain ⟨gl, rfl⟩ := HA.out.1 (by omega)
      obtain ⟨gw, rfl⟩ := HA.out.2.1 (by have := HA.out.2.2; omega)
      have e1 := own_elem H.out.1.hl hv
      have e2 := own_elem H.out.1.hw hu
      have k1 : ∀ q, (convert 25 9 v).run Try.prog (w.drewN q) = .ok (.string (strOfNums l)) (w.drewN q) := fun q => nums_string (n := 0) (own_kept hov (Kept.drewN (fun _ => False) w q) (fun _ _ => id))
      have k2 : ∀ q, (convert 25 9 u).run Try.prog (w.drewN q) = .ok (.string (strOfNums l)) (w.drewN q) := fun q => nums_string (n := 0) (own_kept hou (Kept.drewN (fun _ => False) w q) (fun _ _ => id))
      obtain ⟨Av, cv, rfl, _, _, _⟩ := own_at hov
      obtain ⟨Au, cu, rfl, _, _, _⟩ := own_at hou
      have h1 : (i : Int) < vs.length := by omega
      have h2 : (0 : Int) ≤ i := by omega
      have h3 : (i : Int) < us.length := by have := HA.out.2.2; omega
      clear hv hl hov hu hou
      go_wp2_with fail
      go_quiet (fail)
      go_wp2_with fail
      exact ⟨⟨⟨i + 1, by congr 1, by omega⟩, _, rfl⟩, by simp [intOf]; omega⟩
    · obtain rfl : i = vs.length := by omega
      go_wp2_with fail
      obtain ⟨wA, hwA⟩ : ∃ wA, wA = w.drewN m := ⟨_, rfl⟩
      have kA : Kept (fun _ => False) w wA := by rw [hwA]; exact .drewN _ _ _
      have BW : Hid (BookW B gB vs (.slice Al vs.length cl) wA) := Lib.hid ⟨Nat.le_trans hB kA.size, ⟨_, blk_kept kA H.out.1.blk id⟩, ⟨_, own_kept H.out.1.hl kA (fun _ _ => id)⟩, fun j v hv => by
        obtain ⟨l, _, h32, ho⟩ := H.out.2.1 j v hv
        exact ⟨_, _, h32, own_kept ho kA (fun _ _ => id)⟩, H.out.2.2⟩
      have KA := Lib.hid kA
      rw [← hwA]
      clear hwA kA c0 c1
      go_loopw [4, 5] (fun i k wr => ∃ n : Nat, i = .int .i64 n ∧ n ≤ vs.length ∧ Kept (Blocks vs) wA wr ∧ MarkedB B vs n wr) (fun i _ _ => vs.length - (intOf i).toNat)
      case atStart => exact ⟨0, rfl, by omega, .refl _ _, fun j v hv => by obtain ⟨n, xs, h1, h2⟩ := BW.out.row j v hv; exact ⟨n, xs, h1, h2, fun h => by omega⟩⟩
      case round =>
        obtain ⟨i, rfl, hi, hk, hM⟩ := hrel
        obtain ⟨c0, vw', B', hbk, hol⟩ := BW.out.cells hk
        by_cases h : i < vs.length
        · obtain ⟨v, hv⟩ : ∃ v, vs[i]? = some v := ⟨_, List.getElem?_eq_getElem h⟩
          obtain ⟨n, xs, hn, hown, -⟩ := hM i v hv
          obtain ⟨gl, rfl⟩ := HA.out.1 (by omega)
          have hcell := own_elem hol hv
          obtain ⟨A, cv, rfl, hcv, hncv, hA⟩ := own_at hown
          obtain ⟨wB, rfl⟩ : ∃ wB : World, wB = wr := ⟨_, rfl⟩
          have H0 := Lib.hid (And.intro hk (And.intro hM (And.intro hown (And.intro hA (And.intro hv (And.intro hbk hol))))))
          clear hk hM hown hA hv hbk hol
          have h1 : (i : Int) < vs.length := by omega
          have h2 : (0 : Int) ≤ i := by omega
          go_wp2_with fail
          go_loopw [5] (fun k wr => ∃ m : Nat, k = .int .i64 m ∧ m ≤ n ∧ Kept (fun b => (Value.slice A n cv).ownBlock = some b) wB wr ∧ ∃ ys, wr.ownsRow B 5 1 (.slice A n cv) n ys ∧ ys.take m = reps m (bmk i)) (fun k _ => n - (intOf k).toNat)
          case atStart => exact ⟨0, rfl, by omega, .refl _ _, _, H0.out.2.2.1, by simp [reps_nil]⟩
          case round =>
            obtain ⟨m, rfl, hm, hk2, ys, hown2, htake⟩ := hrel
            obtain ⟨c02, vw2, B2, hbk2, hol2⟩ := BW.out.cells (H0.out.1.trans hk2 (fun _ _ e => e) (fun b _ e => ⟨i, _, H0.out.2.2.2.2.1, e⟩))
            have hcell2 := own_elem hol2 H0.out.2.2.2.2.1
            clear hcell c0 hbk2 hol2
            by_cases h3 : m < n
            · obtain ⟨g, rfl⟩ := H0.out.2.2.2.1 (by omega)
              have h4 : (m : Int) < n := by omega
              have h5 : (0 : Int) ≤ m := by omega
              have h6 : (m : Int) ≤ cv := by omega
              obtain ⟨x0, -, d0⟩ := own_cellAt hown2 m (by omega)
              have hf := hown2.frozenAt m
              have HST := Lib.hid (own_store1 (x := .int .u8 (mkB i)) hown2 h3 htake)
              have HK2 := Lib.hid hk2
              have d0' : wr.drew.cell? ⟨g, m, none⟩ = some x0 := d0
              have hf' : wr.drew.frozen? ⟨g, m, none⟩ = false := hf
              clear hown2 htake hk2
              go_wp2_with fail
              refine wp_region_still_tail 11 (by kernel_rfl) (by kernel_rfl) ?_
              simp only [List.take_succ_cons, List.take_zero, List.drop_succ_cons, List.drop_zero]
              repeat still_step
              still_call (mark_any i _ (by omega))
              repeat still_step
              refine wpStill_nil ?_
              change wpList _ _ _ _ _ wr.drew
              go_wp2_with fail
              obtain ⟨ys2, o2, t2, k2⟩ := HST.out
              exact ⟨⟨m + 1, by congr 1, by omega, (HK2.out.trans k2 (fun _ _ e => e) (fun _ _ e => by subst e; rfl)).trans (Kept.drew (fun _ => False) _) (fun _ _ e => e) (fun _ _ e => e.elim), ys2, o2, t2⟩, by simp [intOf]; omega⟩
            · obtain rfl : m = n := by omega
              have HE : Hid (Kept (Blocks vs) wA wr ∧ MarkedB B vs (i + 1) wr) := Lib.hid ⟨H0.out.1.trans hk2 (fun _ _ e => e) (fun b _ e => ⟨i, _, H0.out.2.2.2.2.1, e⟩), fun j u hu => by
                rcases Decidable.em (j = i) with e | e
                · subst e
                  obtain rfl : Value.slice A m cv = u := by have := H0.out.2.2.2.2.1; rw [hu] at this; injection this with this; exact this.symm
                  exact ⟨m, ys, hn, hown2, fun _ => by rw [← htake, List.take_of_length_le (by rw [hown2.1]; omega)]⟩
                · obtain ⟨n', xs', b1, b2, b3⟩ := H0.out.2.1 j u hu
                  exact ⟨n', xs', b1, own_kept b2 hk2 (fun b hb e2 => e (BW.out.sep j i u _ b hu H0.out.2.2.2.2.1 hb e2)), fun hj => b3 (by omega)⟩⟩
              clear hown2 htake hk2
              go_wp2_with fail
              exact ⟨⟨i + 1, by congr 1, by omega, HE.out.1, HE.out.2⟩, by simp [intOf]; omega⟩
        · obtain rfl : i = vs.length := by omega
          obtain ⟨w1, rfl⟩ : ∃ w1 : World, w1 = wr := ⟨_, rfl⟩
          have HM : Hid (Kept (Blocks vs) wA w1 ∧ FullsB B vs w1) := Lib.hid ⟨hk, fun j v hv => by
            obtain ⟨n, xs, b1, b2, b3⟩ := hM j v hv
            have := (List.getElem?_eq_some_iff.1 hv).1
            exact ⟨n, b1, by rw [← b3 (by omega)]; exact b2⟩⟩
          clear hk hM hbk hol
          obtain ⟨i0, hi0, hz0, hz1, hz2⟩ := info_u8
          obtain ⟨i1, hi1, hy0, hy1, hy2⟩ := info_parts Try.info25
          go_wp2_with fail
          clear c0
          go_loopw [6, 7, 8, 9, 10, 11] (fun lo i _ _ _ _ wr => ∃ (n : Nat) (gs : List Value), i = .int .i64 n ∧ n ≤ vs.length ∧ gs.length = 2 * n ∧ wr.ownsRow w1.heap.size 25 1 lo gs.length gs ∧ Kept (Blocks vs) w1 wr ∧ FullsB B vs wr ∧ GoodB B vs w1 gs wr) (fun _ i _ _ _ _ _ => vs.length - (intOf i).toNat)
          case atStart => exact ⟨0, [], rfl, by omega, rfl, World.ownsRow_nil _ _ _ _, .refl _ _, HM.out.2, fun t u hu => by simp at hu⟩
          case round =>
            obtain ⟨i, gs, rfl, hi, hus, hlo, hk, hF, hG⟩ := hrel
            obtain ⟨c0, vw3, B3, hbk3, hol3⟩ := BW.out.cells (HM.out.1.trans hk (fun _ _ e => e) (fun _ _ e => e))
            by_cases h : i < vs.length
            · obtain ⟨v, hv⟩ : ∃ v, vs[i]? = some v := ⟨_, List.getElem?_eq_getElem h⟩
              obtain ⟨n, hn, hown⟩ := hF i v hv
              obtain ⟨gl, rfl⟩ := HA.out.1 (by omega)
              have hcell := own_elem hol3 hv
              obtain ⟨A, cv, rfl, hcv, hncv, hA⟩ := own_at hown
              obtain ⟨wB, rfl⟩ : ∃ wB : World, wB = wr := ⟨_, rfl⟩
              have H0 := Lib.hid (And.intro hk (And.intro hF (And.intro hG (And.intro hlo (And.intro hus (And.intro hown (And.intro hA hv)))))))
              clear hk hF hG hlo hus hown hA hv hbk3 hol3
              have h1 : (i : Int) < vs.length := by omega
              have h2 : (0 : Int) ≤ i := by omega
              go_wp2_with fail
              go_loopw [8, 9] (fun g k wr => ∃ q : Nat, k = .int .i64 q ∧ q ≤ 20 ∧ Fam B 5 1 (bmk i) (.slice A n cv) n wB g (n + q) wr) (fun _ k _ => 20 - (intOf k).toNat)
              case atStart => exact ⟨0, rfl, by omega, .init H0.out.2.2.2.2.2.1⟩
              case round =>
                obtain ⟨q, rfl, hq, hfam⟩ := hrel
                by_cases h3 : q < 20
                · have h4 : (q : Int) < 20 := by omega
                  have ho := hfam.own
                  have HF := Lib.hid hfam
                  have hBw := Nat.le_trans (Nat.le_trans BW.out.base (Nat.le_trans HM.out.1.size H0.out.1.size)) hfam.kept.size
                  have p3 : n + q + 1 ≤ maxLen := by unfold maxLen; omega
                  have p4 : (n + q + 1) * 1 ≤ 140737488355328 := by omega
                  have hi32 : i < 4294967296 := by omega
                  clear hfam
                  go_wp2_with fail
                  refine (mark_any i _ hi32).mono ?_
                  rintro e w' ⟨rfl, rfl⟩
                  go_wp2_with (at_builtin; refine wpList_append_paint rfl _ _ 25 rfl B 5 i0 (.int .u8 0) 1 1 Try.underlying25 hi0 hz0 hz1 hz2 rfl (by decide) _ (n + q) _ (bmk i) _ 1 1 (by rfl) (by rfl) (by rfl) (by rfl) (by decide) (by intro u hu; simp [bmk] at hu; subst hu; rfl) ho p3 p4 hBw ?_)
                  rintro g2 w2 hown2 hat
                  have H2 := Lib.hid (HF.out.step rfl (by decide) hown2 hat)
                  clear hown2 hat ho HF hBw p3 p4
                  go_wp2_with fail
                  exact ⟨⟨q + 1, by congr 1, by omega, by have := H2.out; rwa [Nat.add_assoc] at this⟩, by simp [intOf]; omega⟩
                · have hq20 : q = 20 := by omega
                  have hq20' : ¬ (q : Int) < 20 := by omega
                  have HQ20 := Lib.hid hq20
                  clear hq20
                  obtain ⟨wg, rfl⟩ : ∃ wg : World, wg = wr := ⟨_, rfl⟩
                  obtain ⟨q20, rfl⟩ : ∃ q20 : Nat, q20 = q := ⟨_, rfl⟩
                  have HF := Lib.hid hfam
                  obtain ⟨c02, vw2, B2, hbk2, hol2⟩ := BW.out.cells ((HM.out.1.trans H0.out.1 (fun _ _ e => e) (fun _ _ e => e)).trans hfam.kept (fun _ _ e => e) (fun b _ e => ⟨i, _, H0.out.2.2.2.2.2.2.2, e⟩))
                  have hcell2 := own_elem hol2 H0.out.2.2.2.2.2.2.2
                  clear hfam hcell c0 hbk2 hol2
                  go_wp2_with fail
                  clear c02 hcell2
                  go_loopw [10, 11] (fun g k wr => ∃ q : Nat, k = .int .i64 q ∧ q ≤ 90 ∧ Fam B 5 1 (bmk i) (.slice A n cv) n wg g (n + q) wr ∧ wr.ownsRow B 5 1 u8 (n + q20) (reps (n + q20) (bmk i))) (fun _ k _ => 90 - (intOf k).toNat)
                  case atStart => exact ⟨0, rfl, by omega, .init HF.out.base, HF.out.own⟩
                  case round =>
                    obtain ⟨q, rfl, hq, hfam, hg⟩ := hrel
                    by_cases h3 : q < 90
                    · have h4 : (q : Int) < 90 := by omega
                      have ho := hfam.own
                      have HF2 := Lib.hid (And.intro hfam hg)
                      have hBw := Nat.le_trans (Nat.le_trans (Nat.le_trans BW.out.base (Nat.le_trans HM.out.1.size H0.out.1.size)) HF.out.kept.size) hfam.kept.size
                      have p3 : n + q + 1 ≤ maxLen := by unfold maxLen; omega
                      have p4 : (n + q + 1) * 1 ≤ 140737488355328 := by omega
                      have hi32 : i < 4294967296 := by omega
                      clear hfam hg
                      go_wp2_with fail
                      refine (mark_any i _ hi32).mono ?_
                      rintro e w' ⟨rfl, rfl⟩
                      go_wp2_with (at_builtin; refine wpList_append_paint rfl _ _ 25 rfl B 5 i0 (.int .u8 0) 1 1 Try.underlying25 hi0 hz0 hz1 hz2 rfl (by decide) _ (n + q) _ (bmk i) _ 1 1 (by rfl) (by rfl) (by rfl) (by rfl) (by decide) (by intro u hu; simp [bmk] at hu; subst hu; rfl) ho p3 p4 hBw ?_)
                      rintro g2 w2 hown2 hat
                      have H2 := Lib.hid (And.intro (HF2.out.1.step rfl (by decide) hown2 hat) (hat.paint rfl (by decide) HF2.out.1.own HF2.out.2))
                      clear hown2 hat ho HF2 hBw p3 p4
                      go_wp2_with fail
                      exact ⟨⟨q + 1, by congr 1, by omega, by have := H2.out.1; rwa [Nat.add_assoc] at this, H2.out.2⟩, by simp [intOf]; omega⟩
                    · obtain rfl : q = 90 := by omega
                      have k0r : Kept (fun b => (Value.slice A n cv).ownBlock = some b) wB wr := HF.out.kept.trans hfam.kept (fun _ _ e => e) (fun _ _ e => e)
                      have hlo3 : wr.ownsRow w1.heap.size 25 1 u6 gs.length gs := own_kept H0.out.2.2.2.1 k0r (fun k hk e => own_apart H0.out.2.2.2.2.2.1 H0.out.2.2.2.1 (by decide) e hk)
                      obtain ⟨A7, c7, rfl, _, _, _⟩ := own_at hg
                      obtain ⟨A9, c9, rfl, _, _, _⟩ := own_at hfam.own
                      have hones : ∀ u ∈ [Value.slice A7 (n + q20) c7, .slice A9 (n + 90) c9], u.oneCell' = true := by
                        intro u hu
                        simp only [List.mem_cons, List.not_mem_nil, or_false] at hu
                        rcases hu with rfl | rfl <;> rfl
                      have H3 := Lib.hid (And.intro hfam (And.intro hg (And.intro k0r (And.intro hlo3 hones))))
                      have hus := H0.out.2.2.2.2.1
                      have hBw : w1.heap.size ≤ wr.heap.size := Nat.le_trans H0.out.1.size k0r.size
                      clear hfam hg k0r hones
                      have q3 : gs.length + 2 ≤ maxLen := by unfold maxLen; omega
                      have q4 : (gs.length + 2) * 24 ≤ 140737488355328 := by omega
                      have q5 : w1.heap.size ≤ (wr.alloc (.cells #[.slice A7 (n + q20) c7, .slice A9 (n + 90) c9] 25)).heap.size := by simp; omega
                      go_wp2_with (at_builtin; refine wpList_append_own_at _ rfl _ _ 33 rfl w1.heap.size 25 i1 (.slice none 0 0) 1 24 Try.underlying33 hi1 hy0 hy1 hy2 rfl (by decide) _ gs.length gs (by rfl) (hlo3.alloc _) ⟨wr.heap.size, 0, none⟩ 2 2 [.slice A7 (n + q20) c7, .slice A9 (n + 90) c9] (by rfl) (by rfl) (World.news_of_block (heap_alloc_new _ _)) H3.out.2.2.2.2 q3 q4 q5 ?_)
                      rintro lo2 w4 hown4 hgr - hat
                      have hs3 : (wr.alloc (.cells #[.slice A7 (n + q20) c7, .slice A9 (n + 90) c9] 25)).heap.size = wr.heap.size + 1 := by simp
                      have k34 : Kept (fun b => u6.ownBlock = some b) wr w4 := (Kept.alloc _ wr _).trans (Kept.of_grown (S := fun b => u6.ownBlock = some b) hgr fun k e => e) (fun _ _ e => e) (fun _ _ e => e)
                      have hkeep : ∀ {u : Value} {m : Nat} {xs : List Value}, wr.ownsRow B 5 1 u m xs → w4.ownsRow B 5 1 u m xs := fun h => own_kept h k34 (fun k hk e => own_apart h H3.out.2.2.2.1 (by decide) hk e)
                      have hW : w1.heap.size ≤ wB.heap.size := H0.out.1.size
                      have HE : Hid (w4.ownsRow w1.heap.size 25 1 lo2 (gs ++ [Value.slice A7 (n + q20) c7, .slice A9 (n + 90) c9]).length (gs ++ [Value.slice A7 (n + q20) c7, .slice A9 (n + 90) c9]) ∧ Kept (Blocks vs) w1 w4 ∧ FullsB B vs w4 ∧ GoodB B vs w1 (gs ++ [Value.slice A7 (n + q20) c7, .slice A9 (n + 90) c9]) w4 ∧ (gs ++ [Value.slice A7 (n + q20) c7, .slice A9 (n + 90) c9]).length = 2 * (i + 1)) := by
                        refine Lib.hid ⟨own_of hown4 rfl (by simp; omega), ?_, ?_, ?_, by simp; omega⟩
                        · refine (H0.out.1.trans H3.out.2.2.1 (fun _ _ e => e) (fun b _ e => ⟨i, _, H0.out.2.2.2.2.2.2.2, e⟩)).trans k34 (fun _ _ e => e) fun b hb e => ?_
                          have := (H3.out.2.2.2.1.lt b e).1
                          omega
                        · intro j u hu
                          rcases Decidable.em (j = i) with e | e
                          · subst e
                            obtain rfl : Value.slice A n cv = u := by have := H0.out.2.2.2.2.2.2.2; rw [hu] at this; injection this with this; exact this.symm
                            exact ⟨n, hn, hkeep H3.out.1.base⟩
                          · obtain ⟨m, hm, ho⟩ := H0.out.2.1 j u hu
                            exact ⟨m, hm, hkeep (own_kept ho H3.out.2.2.1 (fun b hb e2 => e (BW.out.sep j i u _ b hu H0.out.2.2.2.2.2.2.2 hb e2)))⟩
                        · intro t u hu
                          rcases Nat.lt_or_ge t gs.length with ht | ht
                          · rw [List.getElem?_append_left ht] at hu
                            obtain ⟨v, m, hv, hm, ho, hw⟩ := H0.out.2.2.1 t u hu
                            refine ⟨v, m, hv, hm, hkeep (own_kept ho H3.out.2.2.1 (fun b hb e2 => ?_)), hw⟩
                            rcases hw with hw | hw
                            · have := BW.out.sep (t / 2) i v _ b hv H0.out.2.2.2.2.2.2.2 (hw ▸ hb) e2
                              omega
                            · have h1 := hw b hb
                              obtain ⟨n', _, ho'⟩ := HM.out.2 i _ H0.out.2.2.2.2.2.2.2
                              have := (ho'.lt b e2).2
                              omega
                          · rw [List.getElem?_append_right ht] at hu
                            have hti : ∀ r, r < 2 → t - gs.length = r → t / 2 = i := fun r hr e => by omega
                            rcases hr : t - gs.length with _ | _ | r
                            · rw [hr] at hu
                              simp at hu
                              subst hu
                              rw [hti 0 (by decide) hr]
                              refine ⟨_, n + q20, H0.out.2.2.2.2.2.2.2, by have := HQ20.out; omega, hkeep H3.out.2.1, ?_⟩
                              rcases HF.out.moved with q | q
                              · exact .inl q
                              · exact .inr fun k hk => Nat.le_trans hW (q k hk)
                            · rw [hr] at hu
                              simp at hu
                              subst hu
                              rw [hti 1 (by decide) hr]
                              refine ⟨_, n + 90, H0.out.2.2.2.2.2.2.2, by omega, hkeep H3.out.1.own, ?_⟩
                              rcases H3.out.1.moved with q | q
                              · exact .inl q
                              · exact .inr fun k hk => Nat.le_trans hW (Nat.le_trans HF.out.kept.size (q k hk))
                            · rw [hr] at hu
                              simp at hu
                      clear hown4 hgr hat k34 hkeep hlo3 q3 q4 q5
                      go_wp2_with fail
                      exact ⟨⟨i + 1, _, by congr 1, by omega, HE.out.2.2.2.2, HE.out.1, HE.out.2.1, HE.out.2.2.1, HE.out.2.2.2.1⟩, by simp [intOf]; omega⟩
            · obtain rfl : i = vs.length := by omega
              obtain ⟨w2, rfl⟩ : ∃ w2 : World, w2 = wr := ⟨_, rfl⟩
              obtain ⟨A6, c6, rfl, hc6, hnc6, hA6⟩ := own_at hlo
              have H2 := Lib.hid (And.intro hk (And.intro hG (And.intro hlo (And.intro hA6 (And.intro hus (And.intro hF (And.intro hbk3 hol3)))))))
              have hgs : gs.length ≤ 16 := by omega
              clear hk hF hG hlo hA6 hus hbk3 hol3
              go_wp2_with fail
              clear c0
              go_loopw [12, 13, 14, 15] (fun i _ _ _ wr => (∃ n : Nat, i = .int .i64 n ∧ n ≤ vs.length) ∧ ∃ m, wr = w2.drewN m) (fun i _ _ _ _ => vs.length - (intOf i).toNat)
              case atStart => exact ⟨⟨0, rfl, by omega⟩, 0, rfl⟩
              case round =>
                obtain ⟨⟨t, rfl, ht⟩, m, rfl⟩ := hrel
                have c0 : w2.cell? ⟨gB, 0, none⟩ = some (.slice Al vs.length cl) := blk_cell H2.out.2.2.2.2.2.2.1 0
                have b0 := H2.out.2.2.2.2.2.2.1
                have f0 := blk_frozen H2.out.2.2.2.2.2.2.1 0
                have f1 := blk_frozen H2.out.2.2.2.2.2.2.1 1
                by_cases h3 : t < vs.length
                · clear b0 f0 f1
                  obtain ⟨v, hv⟩ : ∃ v, vs[t]? = some v := ⟨_, List.getElem?_eq_getElem h3⟩
                  obtain ⟨u, hu⟩ : ∃ u, gs[2 * t]? = some u := ⟨_, List.getElem?_eq_getElem (by have := H2.out.2.2.2.2.1; omega)⟩
                  obtain ⟨x, hx⟩ : ∃ x, gs[2 * t + 1]? = some x := ⟨_, List.getElem?_eq_getElem (by have := H2.out.2.2.2.2.1; omega)⟩
                  obtain ⟨n, hn, ho1⟩ := H2.out.2.2.2.2.2.1 t v hv
                  obtain ⟨_, n2, _, _, ho2, _⟩ := H2.out.2.1 _ u hu
                  obtain ⟨_, n3, _, _, ho3, _⟩ := H2.out.2.1 _ x hx
                  rw [show 2 * t / 2 = t by omega] at ho2
                  rw [show (2 * t + 1) / 2 = t by omega] at ho3
                  obtain ⟨gl, rfl⟩ := HA.out.1 (by omega)
                  obtain ⟨g6, rfl⟩ := H2.out.2.2.2.1 (by have := H2.out.2.2.2.2.1; omega)
                  have d1 := own_elem H2.out.2.2.2.2.2.2.2 hv
                  have d2 := own_elem H2.out.2.2.1 hu
                  have d3 := own_elem H2.out.2.2.1 hx
                  have hfl : ∀ {n : Nat} {v : Value}, w2.ownsRow B 5 1 v n (reps n (bmk t)) → ∀ W, Kept (fun _ => False) w2 W → Calls Try.prog 38 #[v, .int .u8 (mkB t)] W fun e w' => e = .returned (.bool true) ∧ w' = W := fun h W hW => full_own (own_kept h hW (fun _ _ => id))
                  have HF1 := Lib.hid (hfl ho1)
                  have HF2 := Lib.hid (hfl ho2)
                  have HF3 := Lib.hid (hfl ho3)
                  clear hfl
                  obtain ⟨Av, cv, rfl, _, _, _⟩ := own_at ho1
                  obtain ⟨Au, cu, rfl, _, _, _⟩ := own_at ho2
                  obtain ⟨Ax, cx, rfl, _, _, _⟩ := own_at ho3
                  have t1 : (t : Int) < vs.length := by omega
                  have t2 : (0 : Int) ≤ t := by omega
                  have t3 : 2 * (t : Int) < gs.length := by have := H2.out.2.2.2.2.1; omega
                  have t4 : 2 * (t : Int) + 1 < gs.length := by have := H2.out.2.2.2.2.1; omega
                  have t5 : IntKind.i64.wrap (2 * (t : Int)) = 2 * t := IntWalk.i64_in _ (by omega)
                  have t6 : IntKind.i64.wrap (2 * (t : Int) + 1) = 2 * t + 1 := IntWalk.i64_in _ (by omega)
                  have t7 : (0 : Int) ≤ 2 * t := by omega
                  have t8 : (0 : Int) ≤ 2 * t + 1 := by omega
                  have t9 : (2 * (t : Int)).toNat = 2 * t := by omega
                  have t10 : (2 * (t : Int) + 1).toNat = 2 * t + 1 := by omega
                  have ht32 : t < 4294967296 := by omega
                  clear hv hu hx ho1 ho2 ho3 hn
                  have D := Lib.hid (And.intro c0 (And.intro d1 (And.intro d2 d3)))
                  clear c0 d1 d2 d3
                  obtain ⟨W1, hW1⟩ : ∃ W1, W1 = w2.drewN m := ⟨_, rfl⟩
                  have HW1 := Lib.hid hW1
                  have HKW1 : Hid (Kept (fun _ => False) w2 W1) := Lib.hid (by rw [hW1]; exact .drewN _ _ _)
                  rw [← hW1]
                  clear hW1
                  have c0 := cell_kept HKW1.out D.out.1
                  have d1 := cell_kept HKW1.out D.out.2.1
                  go_wp2_with fail
                  go_quiet (first | (go_at_call 37; exact Calls.quiet_of_same (mark_any t _ ht32)) | (go_at_call 38; exact Calls.quiet_of_same (HF1.out _ (kdn HKW1.out _))))
                  obtain ⟨W2, hW2⟩ : ∃ W2, W2 = W1.drewN nq := ⟨_, rfl⟩
                  have HW2 := Lib.hid hW2
                  have HKW2 : Hid (Kept (fun _ => False) w2 W2) := Lib.hid (by rw [hW2]; exact kdn HKW1.out _)
                  go_wp2_with fail
                  rw [← hW2]
                  clear hW2 c0 d1
                  have d2 := cell_kept HKW2.out D.out.2.2.1
                  go_quiet (first | (go_at_call 37; exact Calls.quiet_of_same (mark_any t _ ht32)) | (go_at_call 38; exact Calls.quiet_of_same (HF2.out _ (kdn HKW2.out _))))
                  obtain ⟨W3, hW3⟩ : ∃ W3, W3 = W2.drewN nq := ⟨_, rfl⟩
                  have HW3 := Lib.hid hW3
                  have HKW3 : Hid (Kept (fun _ => False) w2 W3) := Lib.hid (by rw [hW3]; exact kdn HKW2.out _)
                  go_wp2_with fail
                  rw [← hW3]
                  clear hW3 d2
                  have d3 := cell_kept HKW3.out D.out.2.2.2
                  go_quiet (first | (go_at_call 37; exact Calls.quiet_of_same (mark_any t _ ht32)) | (go_at_call 38; exact Calls.quiet_of_same (HF3.out _ (kdn HKW3.out _))))
                  have HE : Hid (∃ m', W3.drewN nq = w2.drewN m') := Lib.hid (by rw [HW3.out, HW2.out, HW1.out]; simp only [World.drewN_drewN]; exact ⟨_, rfl⟩)
                  go_wp2_with fail
                  exact ⟨⟨⟨t + 1, by congr 1, by omega⟩, HE.out⟩, by simp [intOf]; omega⟩
                · obtain rfl : t = vs.length := by omega
                  clear c0 f0 f1
                  obtain ⟨W1, hW1⟩ : ∃ W1, W1 = w2.drewN m := ⟨_, rfl⟩
                  have HKW1 : Hid (Kept (fun _ => False) w2 W1) := Lib.hid (by rw [hW1]; exact .drewN _ _ _)
                  rw [← hW1]
                  clear hW1
                  have b1 := blk_kept HKW1.out b0 id
                  have c0 := blk_cell b1 0
                  have c1 := blk_cell b1 1
                  have f0 := blk_frozen b1 0
                  have f1 := blk_frozen b1 1
                  have HK : Hid (∀ u x : Value, Kept (fun k => k = gB ∨ Blocks vs k) w ((W1.setCell ⟨gB, 0, none⟩ u).setCell ⟨gB, 1, none⟩ x)) := Lib.hid fun u x =>
                    ((((KA.out.trans HM.out.1 (U := Blocks vs) (fun _ _ e => e.elim) (fun _ _ e => e)).trans H2.out.1 (U := Blocks vs) (fun _ _ e => e) (fun _ _ e => e)).trans HKW1.out (U := Blocks vs) (fun _ _ e => e) (fun _ _ e => e.elim)).trans
                      ((Kept.setCell (S := fun k => k = gB) W1 ⟨gB, 0, none⟩ u rfl).trans (Kept.setCell (S := fun k => k = gB) _ ⟨gB, 1, none⟩ x rfl) (U := fun k => k = gB) (fun _ _ e => e) (fun _ _ e => e)) (fun _ _ e => .inr e) (fun _ _ e => .inl e))
                  clear b0 b1
                  go_wp2_with fail
                  go_ret
                  exact ⟨rfl, HK.out _ _⟩
end Go.Proofs.Ytoolimfdncfgnaa
