/- A reader's Raw (the walk). -/
import Derived.Test.YtkefehceakcgoaaDoorV9
import Derived.StillTailTactics
namespace Go.Proofs.YtkefehceakcgoaaDoor
open Go.RowKit
set_option linter.unusedVariables false
set_option linter.unusedSimpArgs false

def rawR (l : List Int) (p : Nat) (n : Int) : TRes := if n < 0 then .err p 1 else if ((l.length - p : Nat) : Int) < n then .err l.length 11 else .ok ((l.drop p).take n.toNat) (p + n.toNat)
def RawPost (B r p : Nat) (v : Value) (l : List Int) (n : Int) (w : World) (e : Ending) (w' : World) : Prop :=
  match rawR l p n with
  | .ok q m => ∃ v', e = .returned (.tuple #[v', .nilIface]) ∧ w'.ownsRow w.heap.size 5 1 v' q.length (nums .u8 q) ∧ RdAt B w' r v l m ∧ Kept (fun i => i = r) w w'
  | .err a no => ∃ err, e = .returned (.tuple #[.slice none 0 0, err]) ∧ ErrPost a no w err w'
theorem RawPost.bad {B r p : Nat} {v : Value} {l : List Int} {n : Int} {w w1 : World} {a no a' : Int} (h : rawR l p n = .err a no) (ha : a' = a) (hk : Kept (fun _ => False) w w1) :
    RawPost B r p v l n w (.returned (.tuple #[.slice none 0 0, .iface 94 (.pointer (some ⟨w1.heap.size, 0, none⟩))])) (w1.alloc (.cells #[.int .i64 a', .int .i64 no] 96)) := by
  subst ha
  unfold RawPost
  rw [h]
  exact ⟨_, rfl, .new hk⟩

set_option maxHeartbeats 4000000 in
set_option maxRecDepth 100000 in
theorem getRaw_any (B r p : Nat) (v : Value) (l : List Int) (n : Int) (w : World) (h : RdAt B w r v l p) (hp : p ≤ l.length) (hl : l.length ≤ 140737488355328) (hn0 : -9223372036854775808 ≤ n) (hn1 : n ≤ 9223372036854775807) :
    Calls Tryd.prog 24 #[.pointer (some ⟨r, 0, none⟩), .int .i64 n] w (RawPost B r p v l n w) := by
  have h0 : w.cell? ⟨r, 0, none⟩ = some v := (blk_cell h.blk 0).trans rfl
  have h1 : w.cell? ⟨r, 1, none⟩ = some (.int .i64 p) := (blk_cell h.blk 1).trans rfl
  have H := Lib.hid h
  obtain ⟨A, c, rfl⟩ := h.lies.slice
  by_cases hneg : n < 0
  · have HT : Hid (rawR l p n = .err p 1) := Lib.hid (by unfold rawR; rw [if_pos hneg])
    go_enter Tryd.func24, Tryd.ntmps24
    go_wp2_with (go_at_call 40; refine (wrong_any _ _ _).mono ?_; rintro e w' ⟨rfl, rfl⟩)
    go_ret2
    exact RawPost.bad HT.out rfl (.refl _ _)
  · by_cases hend : ((l.length - p : Nat) : Int) < n
    · have HT : Hid (rawR l p n = .err l.length 11) := Lib.hid (by unfold rawR; rw [if_neg hneg, if_pos hend])
      go_enter Tryd.func24, Tryd.ntmps24
      go_wp2_with fail
      refine (left_any B r p _ l w H.out hp (by omega)).mono ?_
      rintro e w1 ⟨rfl, hk1⟩
      have hr1 := H.out.kept hk1 (by simp) (by simp)
      have h0w : w1.cell? ⟨r, 0, none⟩ = some (.slice A l.length c) := (blk_cell hr1.blk 0).trans rfl
      have HK := Lib.hid hk1
      clear hk1 hr1
      go_wp2_with (go_at_call 40; refine (wrong_any _ _ _).mono ?_; rintro e w' ⟨rfl, rfl⟩)
      go_ret2
      exact RawPost.bad HT.out rfl HK.out
    · obtain ⟨k, rfl⟩ : ∃ k : Nat, n = k := ⟨n.toNat, by omega⟩
      have HT : Hid (rawR l p k = .ok ((l.drop p).take k) (p + k)) := Lib.hid (by unfold rawR; rw [if_neg hneg, if_neg hend]; rfl)
      obtain ⟨Q, hQ⟩ : ∃ Q, Q = (l.drop p).take k := ⟨_, rfl⟩
      rw [← hQ] at HT
      have hQl : Q.length = k := by rw [hQ, List.length_take, List.length_drop]; omega
      have hpk : p + k ≤ l.length := by omega
      obtain ⟨i0, hi, hz0, hz1, hz2⟩ := info_parts Tryd.info5
      have f1 : ¬ (k : Int) < 0 := hneg
      go_enter Tryd.func24, Tryd.ntmps24
      go_wp2_with fail
      refine (left_any B r p _ l w H.out hp (by omega)).mono ?_
      rintro e w1 ⟨rfl, hk1⟩
      have HK := Lib.hid hk1
      have hs1 := hk1.size
      clear hk1 hneg
      go_wp2_with (refine wpList_make_full w1 rfl _ _ 35 rfl w.heap.size 5 i0 (.int .u8 0) 1 Tryd.underlying35 hi hz0 hz1 .i64 .i64 _ _ k rfl rfl rfl rfl ?c1 ?c2 ?c3 ?_)
      case c1 => rw [hz2]; omega
      case c2 => simp [maxLen]; omega
      case c3 => exact hs1
      rintro w2 hown hgr
      obtain ⟨cur, hh, hsz⟩ : ∃ cur, w2.heap[w1.heap.size]? = some (.cells cur 5 (0, 0)) ∧ cur.size = k := by
        rcases hown.2 with ⟨h, _⟩ | ⟨g', cap, cur, h, hb, hh, h1, h2, h3, h4⟩
        · cases h
        · injection h with ha hb' hc'
          injection ha with ha
          injection ha with ha
          subst ha; subst hc'
          exact ⟨cur, hh, by omega⟩
      have hk2 : Kept (fun _ => False) w w2 := HK.out.trans (Kept.of_grown hgr (fun _ e => by cases e)) (fun _ _ e => e) (fun _ _ e => e)
      have hr2 := H.out.kept hk2 (by simp) (by simp)
      have h02 : w2.cell? ⟨r, 0, none⟩ = some (.slice A l.length c) := (blk_cell hr2.blk 0).trans rfl
      have h12 : w2.cell? ⟨r, 1, none⟩ = some (.int .i64 p) := (blk_cell hr2.blk 1).trans rfl
      have hcA : (A = none ∧ l.length = 0 ∧ c = 0 ∧ p = 0 ∧ k = 0) ∨ (∃ g, A = some ⟨g, 0, none⟩ ∧ l.length ≤ c ∧ c ≤ 9223372036854775807 ∧ ∀ j, j < l.length → w2.cell? ⟨g, j, none⟩ = some (.int .u8 (l.getD j 0))) := by
        rcases hr2.lies with ⟨he, he2⟩ | ⟨g', c', cur, he, hb, hh, h3, _, h5, _⟩
        · injection he2 with e1 e2 e3
          exact .inl ⟨e1, e2, e3, by omega, by omega⟩
        · injection he with e1 _ e3
          subst e1 e3
          refine .inr ⟨g', rfl, h3, by unfold maxLen at h5; omega, fun j hj => ?_⟩
          have hadd : (⟨g', 0, none⟩ : Addr).add j = ⟨g', j, none⟩ := by unfold Addr.add; split <;> simp_all
          rw [← hadd]
          exact hr2.lies.at_ j hj
      have hrp : r < w.heap.size := blk_lt h.blk
      have hE : ∀ w3 : World, Hid (w3.heap[w1.heap.size]? = some (.cells (splice cur.toList 0 (nums .u8 Q)).toArray 5 (0, 0))) → Below w.heap.size w w3 →
          RawPost B r p (.slice A l.length c) l k w (.returned (.tuple #[.slice (some ⟨w1.heap.size, 0, none⟩) k k, .nilIface])) (w3.setCell ⟨r, 1, none⟩ (.int .i64 ((p : Int) + k))) := by
        intro w3 h3 hb3
        have hk3 : Kept (fun _ => False) w w3 := Kept.of_below hb3 _
        have hr3 := H.out.kept hk3 (by simp) (by simp)
        have hmv := hr3.move (p + k)
        unfold RawPost
        rw [HT.out]
        refine ⟨_, rfl, ?_, hmv.1, hk3.trans hmv.2 (fun _ _ e => e.elim) (fun _ _ e => e)⟩
        rw [hQl]
        refine ⟨by rw [nums_length, hQl, Nat.mul_one], .inr ⟨w1.heap.size, k, _, rfl, hs1, (Below.heap_setCell w3 _ _ _ (by dsimp only; omega)).trans h3.out, Nat.le_refl _, by unfold maxLen; omega, ?_, ?_⟩⟩
        · simp [splice, nums, hsz, hQl]
        · simp [splice, nums, hQl]
      have hF : ∀ w3 : World, Below w.heap.size w w3 → w3.cell? ⟨r, 1, none⟩ = some (.int .i64 p) ∧ w3.frozen? ⟨r, 1, none⟩ = false ∧ True := by
        intro w3 hb3
        have hr3 := H.out.kept (Kept.of_below hb3 (fun _ => False)) (by simp) (by simp)
        exact ⟨(blk_cell hr3.blk 1).trans rfl, blk_frozen hr3.blk 1, trivial⟩
      have HE := Lib.hid hE
      have HF := Lib.hid hF
      have HS := Lib.hid (And.intro hsz (And.intro hk2 hr2))
      have HH := Lib.hid hh
      have HQ := Lib.hid hQ
      have hp0 : (0 : Int) ≤ p := by omega
      have hpl : (p : Int) ≤ l.length := by omega
      have hpk3 : (p : Int) + k ≤ 140737488355328 := by omega
      clear hsz hown hgr hh hk2 hr2 hQ hE hF
      go_wp2_with fail
      rcases hcA with ⟨rfl, hl0, rfl, hp00, hk0⟩ | ⟨g, rfl, hc1, hc2, hcl⟩
      · have hcl : ∀ j, j < l.length → w2.cell? ⟨0, j, none⟩ = some (.int .u8 (l.getD j 0)) := fun j hj => by omega
        obtain ⟨g, hg⟩ : ∃ g : Nat, g = 0 := ⟨_, rfl⟩
        rw [← hg] at hcl
        have HK0 := Lib.hid hk0
        clear hk0 hl0 hp00
        go_still_tail 10, (by kernel_rfl)
        change wpList _ _ _ _ _ w2.drew
        obtain ⟨W, hW⟩ : ∃ W, W = w2.drew := ⟨_, rfl⟩
        have hbW : Below w.heap.size w W := by rw [hW]; exact (HS.out.2.1.trans (Kept.drew (fun _ => False) w2) (fun _ _ e => e) (fun _ _ e => e)).below (Nat.le_refl _) (fun _ _ => id)
        have hHW : W.heap[w1.heap.size]? = some (.cells cur 5 (0, 0)) := by rw [hW]; exact HH.out
        have hcW : ∀ j, j < l.length → W.cell? ⟨g, j, none⟩ = some (.int .u8 (l.getD j 0)) := by rw [hW]; exact hcl
        rw [← hW]
        have HC := Lib.hid (And.intro hHW hcW)
        clear hW hHW hcW hcl
        go_wp2_with (with_reducible refine wpList_copy_splice rfl (.tmp 28) (.tmp 37) 35 35 rfl 5 Tryd.underlying35 Tryd.size5 _ _ _ _ _ _ rfl rfl w1.heap.size 0 cur.toList 5 (by simpa using HC.out.1) (nums .u8 Q) ?d1 ?d2 ?d3 ?d4 w.heap.size w hbW hs1 ?_)
        case d1 => rw [nums_length, hQl, HK0.out]; exact (Nat.min_zero _).symm
        case d2 => first | (intro h0; rw [nums_length] at h0; have := HK0.out; omega) | (rw [List.eq_nil_of_length_eq_zero (hQl.trans HK0.out)]; rfl)
        case d3 => first | (rw [nums_length, Array.length_toList, HS.out.1]; omega) | (have h5 := HS.out.1; have h6 := hQl; simp [nums_length]; omega)
        case d4 => exact byte_ones _ _
        intro w3 H3 hb3
        have hfz := HF.out w3 hb3
        have h13 := hfz.1
        have hf3 := hfz.2.1
        have HE := Lib.hid (HE.out w3 H3 hb3)
        clear hfz hb3 H3 hbW
        go_wp2_with fail
        go_ret2
        exact HE.out
      · by_cases hcp : c = p
        · have hcp2 : (c = p) = True := eq_true hcp
          have HK0 : Hid (k = 0) := Lib.hid (by omega)
          clear hcp
          go_still_tail 10, (by kernel_rfl)
          change wpList _ _ _ _ _ w2.drew
          obtain ⟨W, hW⟩ : ∃ W, W = w2.drew := ⟨_, rfl⟩
          have hbW : Below w.heap.size w W := by rw [hW]; exact (HS.out.2.1.trans (Kept.drew (fun _ => False) w2) (fun _ _ e => e) (fun _ _ e => e)).below (Nat.le_refl _) (fun _ _ => id)
          have hHW : W.heap[w1.heap.size]? = some (.cells cur 5 (0, 0)) := by rw [hW]; exact HH.out
          have hcW : ∀ j, j < l.length → W.cell? ⟨g, j, none⟩ = some (.int .u8 (l.getD j 0)) := by rw [hW]; exact hcl
          rw [← hW]
          have HC := Lib.hid (And.intro hHW hcW)
          clear hW hHW hcW hcl
          go_wp2_with (with_reducible refine wpList_copy_splice rfl (.tmp 28) (.tmp 37) 35 35 rfl 5 Tryd.underlying35 Tryd.size5 _ _ _ _ _ _ rfl rfl w1.heap.size 0 cur.toList 5 (by simpa using HC.out.1) (nums .u8 Q) ?d1 ?d2 ?d3 ?d4 w.heap.size w hbW hs1 ?_)
          case d1 => rw [nums_length, hQl, HK0.out]; exact (Nat.min_zero _).symm
          case d2 => first | (intro h0; rw [nums_length] at h0; have := HK0.out; omega) | (rw [List.eq_nil_of_length_eq_zero (hQl.trans HK0.out)]; rfl)
          case d3 => first | (rw [nums_length, Array.length_toList, HS.out.1]; omega) | (have h5 := HS.out.1; have h6 := hQl; simp [nums_length]; omega)
          case d4 => exact byte_ones _ _
          intro w3 H3 hb3
          have hfz := HF.out w3 hb3
          have h13 := hfz.1
          have hf3 := hfz.2.1
          have HE := Lib.hid (HE.out w3 H3 hb3)
          clear hfz hb3 H3 hbW
          go_wp2_with fail
          go_ret2
          exact HE.out
        · skip
          go_still_tail 10, (by kernel_rfl)
          change wpList _ _ _ _ _ w2.drew
          obtain ⟨W, hW⟩ : ∃ W, W = w2.drew := ⟨_, rfl⟩
          have hbW : Below w.heap.size w W := by rw [hW]; exact (HS.out.2.1.trans (Kept.drew (fun _ => False) w2) (fun _ _ e => e) (fun _ _ e => e)).below (Nat.le_refl _) (fun _ _ => id)
          have hHW : W.heap[w1.heap.size]? = some (.cells cur 5 (0, 0)) := by rw [hW]; exact HH.out
          have hcW : ∀ j, j < l.length → W.cell? ⟨g, j, none⟩ = some (.int .u8 (l.getD j 0)) := by rw [hW]; exact hcl
          rw [← hW]
          have HC := Lib.hid (And.intro hHW hcW)
          clear hW hHW hcW hcl
          go_wp2_with (with_reducible refine wpList_copy_splice rfl (.tmp 28) (.tmp 37) 35 35 rfl 5 Tryd.underlying35 Tryd.size5 _ _ _ _ _ _ rfl rfl w1.heap.size 0 cur.toList 5 (by simpa using HC.out.1) (nums .u8 Q) ?d1 ?d2 ?d3 ?d4 w.heap.size w hbW hs1 ?_)
          case d1 => rw [nums_length]; have e : Nat.min (l.length - p) k = k := Nat.min_eq_right (by omega)
                     rw [e]; exact hQl
          case d2 => 
            intro _ j u hu
            have hj : j < Q.length := by
              rcases Nat.lt_or_ge j Q.length with h' | h'
              · exact h'
              · rw [List.getElem?_eq_none (by rw [nums_length]; exact h')] at hu; cases hu
            rw [nums_get .u8 Q j hj] at hu
            injection hu with hu
            rw [← hu]
            rw [HC.out.2 (p + j) (by omega), HQ.out]
            congr 2
            have hjk : j < k := by omega
            simp [List.getD_eq_getElem?_getD, List.getElem?_take, hjk]
          case d3 => first | (rw [nums_length, Array.length_toList, HS.out.1]; omega) | (have h5 := HS.out.1; have h6 := hQl; simp [nums_length]; omega)
          case d4 => exact byte_ones _ _
          intro w3 H3 hb3
          have hfz := HF.out w3 hb3
          have h13 := hfz.1
          have hf3 := hfz.2.1
          have HE := Lib.hid (HE.out w3 H3 hb3)
          clear hfz hb3 H3 hbW
          go_wp2_with fail
          go_ret2
          exact HE.out
end Go.Proofs.YtkefehceakcgoaaDoor
