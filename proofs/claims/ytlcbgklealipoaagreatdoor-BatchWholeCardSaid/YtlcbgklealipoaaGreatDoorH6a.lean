/- fault of an error that is told (the walk). -/
import Derived.Test.YtlcbgklealipoaaGreatDoorH4
import Derived.Test.YtlcbgklealipoaaGreatDoorH5a
namespace Go.Proofs.YtlcbgklealipoaaGreatDoor
open Go Go.RowKit
set_option linter.unusedVariables false
set_option linter.unusedSimpArgs false

set_option maxHeartbeats 4000000 in
set_option maxRecDepth 100000 in
theorem fault_yes (g : Nat) (a no : Int) (w : World) (hg : w.heap[g]? = some (.cells #[.int .i64 a, .int .i64 no] 39 (0, 0))) (hn : no ≠ 0) (hnd : Handle w) :
    Calls Tryz.prog 20 #[.iface 35 (.pointer (some ⟨g, 0, none⟩)), .int .i64 a, .int .i64 no] w (TruePost w) := by
  have b4 : (no == 0) = false := by rw [beq_eq_false_iff_ne]; exact hn
  have b3 : (no = 0) = False := eq_false hn
  have HG := Lib.hid (And.intro hg hnd)
  clear hg hn hnd
  go_enter Tryz.func20, Tryz.ntmps20
  go_upto_region 4 with fail
  obtain ⟨W, hW⟩ : ∃ W, W = w.alloc (.cells #[.pointer none] 35) := ⟨_, rfl⟩
  obtain ⟨q, hq⟩ : ∃ q, q = w.heap.size := ⟨_, rfl⟩
  have ka : Kept (fun _ => False) w W := by rw [hW]; exact .alloc _ _ _
  have bq : W.heap[q]? = some (.cells #[.pointer none] 35 (0, 0)) := by rw [hW, hq]; exact heap_alloc_new w _
  have bg := blk_kept ka HG.out.1 (fun e => e)
  have hgq : ¬ g = q := by have := blk_lt HG.out.1; omega
  have hwq : w.heap.size ≤ q := by omega
  have HB := Lib.hid (And.intro bq (And.intro bg (And.intro hgq (And.intro ka hwq))))
  have has : Calls Tryz.prog 15 #[.iface 35 (.pointer (some ⟨g, 0, none⟩)), .iface 37 (.pointer (some ⟨q, 0, none⟩))] W fun ev w' => ev = .returned (.bool true) ∧ w'.cell? ⟨q, 0, none⟩ = some (.pointer (some ⟨g, 0, none⟩)) ∧ Kept (fun k => k = q) W w' := as_hit2 ⟨g, 0, none⟩ q (.pointer none) W (HG.out.2.kept ka (fun h => h)) bq
  have HAS := Lib.hid has
  rw [← hW, ← hq]
  clear hW hq ka bq bg hgq hwq has
  go_wp2_with (first
    | (go_at_call 15; (with_reducible refine HAS.out.mono ?_); rintro ev w3 ⟨rfl, y0, hk3⟩; have b5 := blk_kept hk3 HB.out.2.1 HB.out.2.2.1; have y1 : w3.cell? ⟨g, 0, none⟩ = some (.int .i64 a) := (blk_cell b5 0).trans rfl; have y2 : w3.cell? ⟨g, 1, none⟩ = some (.int .i64 no) := (blk_cell b5 1).trans rfl; have H3 := Lib.hid (And.intro hk3 y2); clear b5 hk3)
    | (go_at_call 62; (with_reducible refine (is_fault g no w3 H3.out.2).mono ?_); rintro ev w' ⟨rfl, hw⟩; subst w'))
  go_ret
  exact ⟨rfl, HB.out.2.2.2.1.trans H3.out.1 (fun _ _ e => e) (fun i hi e => by have := HB.out.2.2.2.2; omega)⟩
theorem RdsB.take {w : World} {A : Option Addr} {n c : Nat} {l : List Int} (h : RdsB w (.slice A n c) l) (k : Nat) (hk : k ≤ l.length) : RdsB w (.slice A k c) (l.take k) := by
  obtain ⟨A', c', e, h0, hc⟩ := h
  injection e with e1 e2 e3
  subst e1 e3
  have hl : (l.take k).length = k := by rw [List.length_take]; omega
  refine ⟨A, c, by rw [hl], ⟨h0.1, by omega⟩, fun hp => ?_⟩
  obtain ⟨g, off, rfl, hcc⟩ := hc (by omega)
  refine ⟨g, off, rfl, fun j x hj => ?_⟩
  rw [List.getElem?_take] at hj
  split at hj
  · exact hcc j x hj
  · cases hj
theorem enc_three {l : List Spn} {L : List Int} (h : encR l = .ok L) : 3 ≤ L.length := by
  obtain ⟨_, _, _, rfl⟩ := enc_ok.1 h
  unfold encB
  simp only [List.length_append, List.length_cons, List.length_nil]
  omega
end Go.Proofs.YtlcbgklealipoaaGreatDoor
