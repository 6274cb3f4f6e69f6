/- units, all, kept. -/
import Derived.Test.YtgohjgeplageeaaF3
import Derived.Test.YtgohjgeplageeaaD3
namespace Go.Proofs.Ytgohjgeplageeaa
open Go Go.RowKit
set_option linter.unusedVariables false
set_option linter.unusedSimpArgs false

theorem units_app (A : Option Addr) (n c : Nat) (w : World) : Calls Try.prog 101 #[.agg #[.slice A n c]] w fun e w' => e = .returned (.int .i64 n) ∧ Kept (fun _ => False) w w' := by
  have hb := heap_alloc_new w (.cells #[.slice A n c] 80)
  have q0 := (blk_cell hb 0).trans (show _ = some (.slice A n c) from rfl)
  clear hb
  go_enter Try.func101, Try.ntmps101
  go_wp2_with fail
  go_ret
  exact ⟨rfl, .alloc _ _ _⟩
theorem units_cut (n : Int) (w : World) : Calls Try.prog 102 #[.agg #[.int .i64 n]] w fun e w' => e = .returned (.int .i64 1) ∧ Kept (fun _ => False) w w' := by
  go_enter Try.func102, Try.ntmps102
  go_wp2_with fail
  go_ret
  exact ⟨rfl, .alloc _ _ _⟩
theorem Try.meth80 (v : Value) (w : World) : (method 255 80 v "spoor/disk.units").run Try.prog w = .ok (101, v) w := by kernel_rfl
theorem Try.meth107 (v : Value) (w : World) : (method 255 107 v "spoor/disk.units").run Try.prog w = .ok (102, v) w := by kernel_rfl
attribute [local go_sem] Try.meth80 Try.meth107
theorem Addr.add_zero (g j : Nat) : (⟨g, 0, none⟩ : Addr).add j = ⟨g, j, none⟩ := by unfold Addr.add; split <;> simp_all
/-- A row of one's own, cell by cell. -/
theorem own_at1 {w : World} {B e n : Nat} {v : Value} {xs : List Value} (h : w.ownsRow B e 1 v n xs) :
    ∃ A c, v = .slice A n c ∧ n ≤ c ∧ ∀ j u, xs[j]? = some u → ∃ ad, A = some ad ∧ w.cell? (ad.add j) = some u := by
  have h0 := h
  obtain ⟨h1, ⟨rfl, rfl⟩ | ⟨g, cap, cur, rfl, r1, r2, r3, r4, r5, r6⟩⟩ := h
  · refine ⟨none, 0, rfl, Nat.le_refl _, fun j u hu => ?_⟩
    obtain rfl : xs = [] := List.eq_nil_of_length_eq_zero (by simpa using h1)
    cases hu
  · exact ⟨some ⟨g, 0, none⟩, cap, rfl, r3, fun j u hu => ⟨_, rfl, h0.cells (g := g) rfl j u hu⟩⟩
theorem kept_cell {S : Nat → Prop} {w w' : World} (hk : Kept S w w') {a : Addr} {u : Value} (h : w.cell? a = some u) (hS : ¬ S a.block) : w'.cell? a = some u := by
  have hlt : a.block < w.heap.size := by
    by_cases h1 : a.block < w.heap.size
    · exact h1
    · simp [World.cell?, Array.getElem?_eq_none (Nat.le_of_not_lt h1)] at h
  rw [World.cell?_of_block (hk.block _ hlt hS)]
  exact h
def NatPost (n : Nat) (w : World) (e : Ending) (w' : World) : Prop := e = .returned (.int .i64 n) ∧ Kept (fun _ => False) w w'
theorem kept0 {w w' w'' : World} (h : Kept (fun _ => False) w w') (h' : Kept (fun _ => False) w' w'') : Kept (fun _ => False) w w'' := h.trans h' (fun _ _ e => e) fun _ _ e => e
theorem all_any {w : World} {C : Col} {δ k a : Nat} {vl vp vs : Value} {us : List Value} {F : Fil} (h : FAt w C δ k a vl vp vs us F) (hn : allL F.pen ≤ 140737488355328) (hn2 : F.pen.length ≤ 140737488355328) :
    Calls Try.prog 42 #[.pointer (some ⟨a, 0, none⟩)] w (NatPost F.all w) := by
  obtain ⟨A, c, rfl, hc, hcell⟩ := own_at1 h.pen
  have q1 := (show FBlk w a vl (.slice A F.pen.length c) vs from h.blk).c1
  have H := Lib.hid (And.intro h hcell)
  have HN := Lib.hid hn
  clear h hcell hn
  go_enter Try.func42, Try.ntmps42
  go_wp2_with fail
  go_loopw [11, 3] (fun i n wr => ∃ k : Nat, i = .int .i64 k ∧ k ≤ F.pen.length ∧ n = .int .i64 (allL (F.pen.take k) : Nat) ∧ Kept (fun _ => False) w wr) (fun i _ _ => F.pen.length - (intOf i).toNat)
  case atStart => exact ⟨0, rfl, Nat.zero_le _, rfl, .refl _ _⟩
  case round =>
    obtain ⟨j, rfl, hj, rfl, hk⟩ := hrel
    by_cases hlt : j < F.pen.length
    · have j1 : (j : Int) < F.pen.length := by omega
      have j0 : (0 : Int) ≤ j := by omega
      obtain ⟨s, hs⟩ : ∃ s, F.pen[j]? = some s := ⟨_, List.getElem?_eq_getElem hlt⟩
      obtain ⟨u, hu, hst⟩ := H.out.1.st j s hs
      obtain ⟨ad, rfl, hcl⟩ := H.out.2 j u hu
      have e1 := allL_take_succ hs
      have e2 := allL_take_le F.pen (j + 1)
      obtain ⟨m, hm⟩ : ∃ m, m = allL (F.pen.take j) := ⟨_, rfl⟩
      rw [← hm] at e1 ⊢
      have e3 : m + s.units ≤ 140737488355328 := by have := HN.out; omega
      have E := Lib.hid (And.intro e1 (And.intro hk hm))
      cases s with
      | app l =>
        obtain ⟨b, rfl, hb⟩ := hst
        obtain ⟨A', c', rfl⟩ := own_slice hb.own
        have q2 : wr.cell? (ad.add j) = some (.iface 80 (.agg #[.slice A' l.length c'])) := kept_cell hk hcl (fun e => e)
        have e4 : m + l.length ≤ 140737488355328 := e3
        clear e1 e2 e3 hk hm hb hu hs hcl
        go_wp2_with (go_at_call 101; refine (units_app _ _ _ _).mono ?_; rintro e w1 ⟨rfl, hk1⟩)
        obtain ⟨e1, hk, hm⟩ := E.out
        exact ⟨⟨j + 1, by congr 1, by omega, by rw [e1]; simp [Stp.units], kept0 hk hk1⟩, by simp [intOf]; omega⟩
      | cut n =>
        obtain rfl := hst
        have q2 : wr.cell? (ad.add j) = some (.iface 107 (.agg #[.int .i64 n])) := kept_cell hk hcl (fun e => e)
        have e4 : m + 1 ≤ 140737488355328 := e3
        clear e1 e2 e3 hk hm hu hs hcl
        go_wp2_with (go_at_call 102; refine (units_cut _ _).mono ?_; rintro e w1 ⟨rfl, hk1⟩)
        obtain ⟨e1, hk, hm⟩ := E.out
        exact ⟨⟨j + 1, by congr 1, by omega, by rw [e1]; simp [Stp.units], kept0 hk hk1⟩, by simp [intOf]; omega⟩
    · have j1 : ¬ (j : Int) < F.pen.length := by omega
      obtain rfl : j = F.pen.length := by omega
      have e1 : allL (F.pen.take F.pen.length) = F.all := by rw [List.take_length]; rfl
      rw [e1]
      go_wp2_with fail
      go_ret
      exact ⟨rfl, hk⟩
end Go.Proofs.Ytgohjgeplageeaa
