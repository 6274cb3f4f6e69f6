/- errors.Is at a fault and its number, and what fault tells (the walks). -/
import Derived.Test.YtkefehceakcgoaaDoorW1
namespace Go.Proofs.YtkefehceakcgoaaDoor
open Go.RowKit Go.Extern.Stop Go.Stop Go.Extern
set_option linter.unusedVariables false
set_option linter.unusedSimpArgs false

theorem Tryd.isTypeOf (v : Value) (w : World) : (Extern.ReflectliteType.typeOf #[.iface 50 v]).run Tryd.prog w = .ok (.iface 145 (.agg #[.pointer (some ⟨3, 50, none⟩)])) w := by kernel_rfl
/-- The model's entry for (rtype).Comparable. -/
def isCmp : Array Value → Sem Value := Extern.ReflectliteType.method fun t => do Extern.Rtype.noPackHeld "Comparable" t; pure (.bool (← typeInfo t).comparable)
theorem Tryd.isComparable (w : World) : (isCmp #[.agg #[.pointer (some ⟨3, 50, none⟩)]]).run Tryd.prog w = .ok (.bool true) w := by kernel_rfl
theorem Tryd.isMethodComparable (v : Value) (w : World) : (Go.method 294 145 v "Comparable").run Tryd.prog w = .ok (108, v) w := by kernel_rfl
theorem Tryd.isComp : (Tryd.prog.info? 50).map (·.comparable) = some true := by kernel_rfl
theorem Tryd.noIsF (v : Value) (xT : TypeId) (w : World) : (Instr.typeAssert (.iface 94 v) xT 155 true).run Tryd.prog w = .ok (.tuple #[.nilIface, .bool false]) w := run_typeAssert_lacksB Tryd.underlying155 (by kernel_rfl) (by kernel_rfl) v xT w
theorem Tryd.hasUnwrapF (v : Value) (xT : TypeId) (w : World) : (Instr.typeAssert (.iface 94 v) xT 152 true).run Tryd.prog w = .ok (.tuple #[.iface 94 v, .bool true]) w := run_typeAssert_hasB Tryd.underlying152 (by kernel_rfl) v xT w
theorem Tryd.methodUnwrap (v : Value) (w : World) : (Go.method 294 94 v "Unwrap").run Tryd.prog w = .ok (102, v) w := by kernel_rfl

theorem run_eql_iface_int {P : Program} {ti tp : TypeId} {ms : Array (String × TypeId)} {i : TypeInfo} {k : IntKind} (x : Int) (w : World)
    (hi : P.underlying ti = some (.interface ms)) (hp : P.underlying tp = some (.int k)) (hinfo : P.info? tp = some i) (hcomp : i.comparable = true) :
    (binOp .eql ti (.iface tp (.int k x)) (.iface tp (.int k x))).run P w = .ok (.bool true) w := by
  have h : ∀ d : Nat, (Op.equalIn (d + 2) ti (.iface tp (.int k x)) (.iface tp (.int k x))).run P w = .ok true w := fun d => by simp [Op.equalIn, run_underlying hi, run_underlying hp, typeInfo, hinfo, hcomp]
  simp only [binOp]
  simp [Op.equal, Op.maxDepth, h 9998]

/-- errors.Is(f, f.Err). -/
theorem is_fault (e : Nat) (no : Int) (w : World) (h1 : w.cell? ⟨e, 1, none⟩ = some (.int .i64 no)) :
    Calls Tryd.prog 42 #[.iface 94 (.pointer (some ⟨e, 0, none⟩)), .iface 50 (.int .i64 no)] w fun ev w' => ev = .returned (.bool true) ∧ w' = w := by
  obtain ⟨i, hi, hcmp⟩ := Option.map_eq_some_iff.1 Tryd.isComp
  have h8 := @run_callFunc_extern Tryd.prog 64 _ Extern.ReflectliteType.typeOf Tryd.func64 (by kernel_rfl) (by kernel_rfl) (by kernel_rfl) (by kernel_rfl)
  have h32 := @run_callFunc_extern Tryd.prog 108 _ isCmp Tryd.func108 (by kernel_rfl) (by kernel_rfl) (by kernel_rfl) (by kernel_rfl)
  have tT := Tryd.isTypeOf
  have cT := Tryd.isComparable
  have mR := Tryd.isMethodComparable
  have nW := Tryd.noIsF
  have uW := Tryd.hasUnwrapF
  have mU := Tryd.methodUnwrap
  have heq := run_eql_iface_int (P := Tryd.prog) no w Tryd.underlying42 Tryd.underlying50 hi hcmp
  have hty := run_eql_iface_types (P := Tryd.prog) 94 50 (.pointer (some ⟨e, 0, none⟩)) (.int .i64 no) Tryd.underlying42 (by decide) w
  go_enter Tryd.func42, Tryd.ntmps42
  go_wp2
  refine wp_loop_rounds 2 ?_
  rw [rounds_succ]
  go_wp2
  rw [rounds_succ]
  go_wp2
  go_ret
  exact ⟨rfl, rfl⟩

/-- fault: nil. -/
theorem fault_nil (w : World) : Calls Tryd.prog 22 #[.nilIface] w fun ev w' => ev = .returned (.tuple #[.int .i64 0, .int .i64 0, .bool true]) ∧ w' = w := by
  go_enter Tryd.func22, Tryd.ntmps22
  go_wp2
  go_ret3
  exact ⟨rfl, rfl⟩
/-- The handle of the type 'error' lies in its variable. -/
def Handle (w : World) : Prop := w.cell? ⟨0, 0, none⟩ = some (.iface 145 (.agg #[.pointer (some ⟨3, 42, none⟩)]))
theorem Kept.alloc4 (w : World) (a b c d : Obj) : Kept (fun _ => False) w ((((w.alloc a).alloc b).alloc c).alloc d) :=
  (((Kept.alloc _ w a).trans (.alloc _ _ b) (U := fun _ => False) (fun _ _ e => e) (fun _ _ e => e)).trans (.alloc _ _ c) (U := fun _ => False) (fun _ _ e => e) (fun _ _ e => e)).trans (.alloc _ _ d) (fun _ _ e => e) (fun _ _ e => e)
/-- errors.As, what it leaves. -/
theorem as_hit2 (e : Addr) (g : Nat) (old : Value) (w : World) (hg : Handle w) (hb : w.heap[g]? = some (.cells #[old] 94 (0, 0))) :
    Calls Tryd.prog 41 #[.iface 94 (.pointer (some e)), .iface 98 (.pointer (some ⟨g, 0, none⟩))] w fun ev w' => ev = .returned (.bool true) ∧ w'.cell? ⟨g, 0, none⟩ = some (.pointer (some e)) ∧ Kept (fun k => k = g) w w' := by
  refine (as_hit e ⟨g, 0, none⟩ old w hg ((blk_cell hb 0).trans rfl) (blk_frozen hb 0)).mono ?_
  rintro ev w' ⟨rfl, rfl⟩
  refine ⟨rfl, ?_, ?_⟩
  · have h4 := fun a b c d => blk_kept (Kept.alloc4 w a b c d) hb (fun e => e)
    exact (blk_cell (blk_set (h4 _ _ _ _) 0 _) 0).trans rfl
  · exact (Kept.alloc4 w _ _ _ _).trans (Kept.setCell (S := fun k => k = g) _ _ _ rfl) (fun _ _ e => e.elim) (fun _ _ e => e)
theorem Handle.kept {S : Nat → Prop} {w w' : World} (h : Handle w) (hk : Kept S w w') (h0 : ¬ S 0) : Handle w' :=
  (World.cell?_of_block (hk.block 0 (World.block_lt_of_cell? w ⟨0, 0, none⟩ h) h0)).trans h
set_option maxHeartbeats 4000000 in
theorem fault_any (f : Nat) (a no : Int) (w : World) (hb : w.heap[f]? = some (.cells #[.int .i64 a, .int .i64 no] 96 (0, 0))) (hg : Handle w) (hno : no ≠ 0) :
    Calls Tryd.prog 22 #[.iface 94 (.pointer (some ⟨f, 0, none⟩))] w fun e w' => e = .returned (.tuple #[.int .i64 a, .int .i64 no, .bool true]) ∧ Kept (fun _ => False) w w' := by
  obtain ⟨W1, hW1⟩ : ∃ W1, W1 = w.alloc (.cells #[.int .i64 0, .int .i64 0] 96) := ⟨_, rfl⟩
  obtain ⟨W2, hW2⟩ : ∃ W2, W2 = W1.alloc (.cells #[.pointer (some ⟨w.heap.size, 0, none⟩)] 94) := ⟨_, rfl⟩
  have hk1 : Kept (fun _ => False) w W1 := by rw [hW1]; exact .alloc _ _ _
  have hk2 : Kept (fun _ => False) w W2 := hk1.trans (by rw [hW2]; exact .alloc _ _ _) (fun _ _ e => e) (fun _ _ e => e)
  have hs1 : W1.heap.size = w.heap.size + 1 := by rw [hW1]; simp
  have hb2 : W2.heap[w.heap.size + 1]? = some (.cells #[.pointer (some ⟨w.heap.size, 0, none⟩)] 94 (0, 0)) := by rw [hW2, ← hs1]; exact heap_alloc_new W1 _
  have hfl : f < w.heap.size := blk_lt hb
  have hbf := blk_kept hk2 hb (fun e => e)
  have HG := Lib.hid (And.intro (hg.kept hk2 (fun e => e)) (And.intro hb2 (And.intro hbf hk2)))
  rw [hW1] at hW2
  have hW3 := hW2.symm
  have hnb : (no != 0) = true := by rw [bne_iff_ne]; exact hno
  clear hW1 hW2 hk1 hk2 hbf hg hb hb2 hs1
  go_enter Tryd.func22, Tryd.ntmps22
  go_wp2_with fail
  refine (as_hit2 ⟨f, 0, none⟩ (w.heap.size + 1) _ W2 HG.out.1 HG.out.2.1).mono ?_
  rintro ev w3 ⟨rfl, hc, hk3⟩
  have hbf := blk_kept hk3 HG.out.2.2.1 (by omega)
  have c0 : w3.cell? ⟨f, 0, none⟩ = some (.int .i64 a) := (blk_cell hbf 0).trans rfl
  have c1 : w3.cell? ⟨f, 1, none⟩ = some (.int .i64 no) := (blk_cell hbf 1).trans rfl
  have HK : Hid (Kept (fun _ => False) w w3) := Lib.hid (HG.out.2.2.2.trans hk3 (fun _ _ e => e) (fun i hi e => by omega))
  clear hk3 hbf
  go_wp2_with fail
  refine (is_fault f no w3 c1).mono ?_
  rintro ev w4 ⟨rfl, hw4⟩
  obtain rfl : w3 = w4 := hw4.symm
  clear hw4
  go_wp2_with fail
  go_quiet (fail)
  go_wp2_with fail
  go_ret3
  exact ⟨rfl, HK.out.trans (.drewN (fun _ => False) _ _) (fun _ _ e => e) (fun _ _ e => e)⟩
end Go.Proofs.YtkefehceakcgoaaDoor
