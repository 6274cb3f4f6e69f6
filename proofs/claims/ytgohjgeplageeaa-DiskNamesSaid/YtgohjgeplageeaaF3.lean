/- part: the first units of a step, done on bytes. -/
import Derived.Test.YtgohjgeplageeaaF2
namespace Go.Proofs.Ytgohjgeplageeaa
open Go Go.RowKit
set_option linter.unusedVariables false
set_option linter.unusedSimpArgs false

theorem Reads.alloc {w : World} {v : Value} {l : List Int} (h : Reads w v l) (o : Obj) : Reads (w.alloc o) v l := h.kept (.alloc _ _ _)
theorem Reads.cut {w : World} {A : Option Addr} {c : Nat} {l : List Int} (h : Reads w (.slice A l.length c) l) (k : Nat) : Reads w (.slice A (min k l.length) c) (l.take k) := by
  obtain ⟨A', c', e, h0, hc⟩ := h
  injection e with e1 e2 e3
  subst e1 e3
  refine ⟨A, c, by rw [List.length_take], ⟨h0.1, by rw [List.length_take]; omega⟩, fun j u hu => ?_⟩
  apply hc j u
  unfold nums at hu ⊢
  rw [List.map_take, List.getElem?_take] at hu
  split at hu
  · exact hu
  · cases hu
theorem Try.is80 (v : Value) (xT : TypeId) (w : World) : (Instr.typeAssert (.iface 80 v) xT 80 true).run Try.prog w = .ok (.tuple #[v, .bool true]) w := by kernel_rfl
theorem Try.no80 (v : Value) (xT : TypeId) (w : World) : (Instr.typeAssert (.iface 107 v) xT 80 true).run Try.prog w = .ok (.tuple #[.agg #[.slice none 0 0], .bool false]) w := by kernel_rfl
theorem Try.is107 (v : Value) (xT : TypeId) (w : World) : (Instr.typeAssert (.iface 107 v) xT 107 true).run Try.prog w = .ok (.tuple #[v, .bool true]) w := by kernel_rfl
attribute [local go_sem] Try.is80 Try.no80 Try.is107
theorem own_cut {w : World} {B c : Nat} {A : Option Addr} {l : List Int} (h : w.ownsRow B 5 1 (.slice A l.length c) l.length (nums .u8 l)) {n : Nat} (hn : n ≤ l.length) : w.ownsRow B 5 1 (.slice A n c) n (nums .u8 (l.take n)) := by
  obtain ⟨h1, h2⟩ := h
  refine ⟨by simp [nums]; omega, ?_⟩
  rcases h2 with ⟨e, e2⟩ | ⟨g, cap, cur, e, r1, r2, r3, r4, r5, r6⟩
  · injection e with a1 a2 a3
    subst a1 a3
    exact .inl ⟨by rw [show n = 0 by omega], by omega⟩
  · injection e with a1 a2 a3
    subst a1 a3
    refine .inr ⟨g, c, cur, rfl, r1, r2, by omega, r4, r5, ?_⟩
    unfold nums at r6 ⊢
    rw [List.map_take, ← r6, List.take_take]
    congr 1
    omega
def PartPost (B : Nat) (v : Value) (l' : List Int) (w : World) (e : Ending) (w' : World) : Prop := ∃ v', e = .returned v' ∧ OwnStep .u8 5 B v w v' l' w'
set_option maxRecDepth 100000 in
theorem part_app (B : Nat) (v b : Value) (l p : List Int) (k : Nat) (w : World) (hv : w.ownsRow B 5 1 v l.length (nums .u8 l)) (hr : Reads w b p) (hB : B ≤ w.heap.size) (hl : l.length + p.length ≤ 140737488355328) (hk : k < 9223372036854775808) :
    Calls Try.prog 50 #[v, .iface 80 (.agg #[b]), .int .i64 k] w (PartPost B v (l ++ p.take k) w) := by
  obtain ⟨i0, hi, hz0, hz1, hz2⟩ := info_parts Try.info5
  obtain ⟨A, c, rfl, h0, hc⟩ := hr
  obtain ⟨A2, c2, rfl⟩ := own_slice hv
  have hr : Reads w (.slice A p.length c) p := ⟨A, c, rfl, h0, hc⟩
  have h1 := (hr.alloc (.cells #[.slice A p.length c] 80)).cut k
  have h2 := hv.alloc (.cells #[.slice A p.length c] 80)
  have hm : (min (k : Int) (p.length : Int)) = ((min k p.length : Nat) : Int) := by omega
  obtain ⟨m, hmm⟩ : ∃ m, m = min k p.length := ⟨_, rfl⟩
  have hmc : m ≤ c := by rw [hmm]; have := h0.2; omega
  have hmp : m ≤ p.length := by omega
  rw [← hmm] at hm h1
  have hb := heap_alloc_new w (.cells #[.slice A p.length c] 80)
  have q0 := (blk_cell hb 0).trans (show _ = some (.slice A p.length c) from rfl)
  have H := Lib.hid (And.intro h1 (And.intro h2 (And.intro hmm (And.intro hr hv))))
  clear hr h1 h2 hc hv hb hmm
  go_enter Try.func50, Try.ntmps50
  cases A with
  | none =>
    obtain rfl := h0.1 rfl
    obtain rfl : p = [] := List.eq_nil_of_length_eq_zero (by omega)
    obtain rfl : m = 0 := by simpa using hmp
    simp only [List.length_nil, List.take_nil, Int.natCast_zero] at q0 H hm ⊢
    have hl2 : l.length ≤ 140737488355328 := hl
    go_wp2_with (at_builtin; refine wpList_append_reads rfl _ _ 38 rfl B 5 i0 (.int .u8 0) 1 Try.underlying38 hi hz0 hz1 hz2 rfl _ _ l [] rfl rfl H.out.1 H.out.2.1 (by simp only [List.length_nil, maxLen]; omega) (by simp only [List.length_nil]; omega) (by simp; omega) ?_)
    intro v' w' r1
    go_wp2_with fail
    go_ret
    have r2 := r1.behind (.alloc _ w _)
    rw [List.append_nil]
    exact ⟨v', rfl, r2⟩
  | some A =>
    go_wp2_with (at_builtin; refine wpList_append_reads rfl _ _ 38 rfl B 5 i0 (.int .u8 0) 1 Try.underlying38 hi hz0 hz1 hz2 rfl _ _ l (p.take k) rfl rfl H.out.1 H.out.2.1 ?c1 ?c2 ?c3 ?_)
    case c1 => simp [maxLen]; omega
    case c2 => rw [List.length_take]; omega
    case c3 => simp; omega
    intro v' w' r1
    go_wp2_with fail
    go_ret
    exact ⟨_, rfl, r1.behind (.alloc _ _ _)⟩
set_option maxRecDepth 100000 in
theorem part_cut (B : Nat) (v : Value) (l : List Int) (n k : Nat) (w : World) (hv : w.ownsRow B 5 1 v l.length (nums .u8 l)) (hn : 0 < k → n ≤ l.length) (hl : l.length ≤ 140737488355328) (hk : k < 9223372036854775808) :
    Calls Try.prog 50 #[v, .iface 107 (.agg #[.int .i64 n]), .int .i64 k] w (PartPost B v (Stp.part l k (.cut n)) w) := by
  obtain ⟨A, c, rfl⟩ := own_slice hv
  have hb := heap_alloc_new w (.cells #[.int .i64 n] 107)
  have q0 := (blk_cell hb 0).trans (show _ = some (.int .i64 n) from rfl)
  by_cases hk0 : 0 < k
  · have hn := hn hk0
    have hc : l.length ≤ c := by
      rcases hv.2 with ⟨e, e2⟩ | ⟨g, cap, cur, e, r1, r2, r3, r4, r5, r6⟩
      · injection e with _ _ e3; omega
      · injection e with _ _ e3; omega
    have H := Lib.hid (own_cut hv hn)
    have hs : Stp.part l k (.cut n) = l.take n := by simp [Stp.part, hk0]
    have HS := Lib.hid hs
    have hnc : n ≤ c := by omega
    have k0 : (0 : Int) < k := by omega
    have h0 : A = none → n = 0 ∧ c = 0 := by
      intro e
      subst e
      rcases hv.2 with ⟨e, e2⟩ | ⟨g, cap, cur, e, r1, r2, r3, r4, r5, r6⟩
      · injection e with _ _ e3; omega
      · cases e
    clear hv hs hb
    go_enter Try.func50, Try.ntmps50
    cases A with
    | none =>
      obtain ⟨rfl, rfl⟩ := h0 rfl
      obtain rfl : l = [] := List.eq_nil_of_length_eq_zero (by omega)
      simp only [List.length_nil, List.take_nil, Int.natCast_zero] at q0 H HS ⊢
      go_wp2_with fail
      go_ret
      refine ⟨_, rfl, ?_⟩
      rw [HS.out]
      exact ⟨H.out.alloc _, .inl rfl, .alloc _ _ _⟩
    | some A =>
      go_wp2_with fail
      go_ret
      refine ⟨_, rfl, ?_⟩
      rw [HS.out]
      refine ⟨?_, .inl rfl, .alloc _ _ _⟩
      exact own_congr (H.out.alloc _) rfl (by rw [List.length_take]; omega)
  · have hs : Stp.part l k (.cut n) = l := by simp [Stp.part, hk0]
    obtain rfl : k = 0 := by omega
    have H := Lib.hid (And.intro hs hv)
    clear hv hs hb
    go_enter Try.func50, Try.ntmps50
    go_wp2_with fail
    go_ret
    refine ⟨_, rfl, ?_⟩
    rw [H.out.1]
    exact ⟨H.out.2.alloc _, .inl rfl, .alloc _ _ _⟩
theorem part_any {C : Col} {c : Nat × Nat × Nat} {u : Value} {s : Stp} {w : World} (hs : SAt w C c u s) (B : Nat) (v : Value) (l : List Int) (k : Nat) (hv : w.ownsRow B 5 1 v l.length (nums .u8 l)) (hB : B ≤ w.heap.size) (hn : 0 < k → ∀ n, s = .cut n → n ≤ l.length)
    (hl : l.length + s.units ≤ 140737488355328) (hk : k < 9223372036854775808) : Calls Try.prog 50 #[v, u, .int .i64 k] w (PartPost B v (s.part l k) w) := by
  cases s with
  | app p =>
    obtain ⟨b, rfl, hb⟩ := hs
    exact part_app B v b l p k w hv hb.reads hB hl hk
  | cut n =>
    obtain rfl := hs
    exact part_cut B v l n k w hv (fun h => hn h n rfl) (by simp only [Stp.units] at hl; omega) hk
end Go.Proofs.Ytgohjgeplageeaa
