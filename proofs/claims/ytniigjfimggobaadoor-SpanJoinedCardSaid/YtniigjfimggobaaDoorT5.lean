/- A span against a span (the walks). -/
import Derived.Test.YtniigjfimggobaaDoorT4
namespace Go.Proofs.YtniigjfimggobaaDoor
open Go.RowKit
set_option linter.unusedVariables false
set_option linter.unusedSimpArgs false

/-- A span's cells; its lists lie where they lie. -/
def Spn.cells (s : Spn) (lv av ev : Value) : Array Value := #[.int .u64 s.hi, .int .u64 s.lo, .int .u64 s.id, .int .u64 s.par, lv, .string s.svc, .string s.op, .int .i64 s.kind, .int .i64 s.st, .int .i64 s.start, .int .i64 s.fin, av, ev]
/-- A span that lies in memory: its lists. -/
structure SReads (w : World) (s : Spn) (lv av ev : Value) : Prop where
  links : LReads w lv s.links
  ats : TReads w av s.ats
  evs : EReads w ev s.evs
  l0 : s.links.length ≤ 9223372036854775807
  a0 : s.ats.length ≤ 9223372036854775807
  e0 : s.evs.length ≤ 9223372036854775807
theorem SReads.kept {w w' : World} {s : Spn} {lv av ev : Value} (h : SReads w s lv av ev) (hk : Kept (fun _ => False) w w') : SReads w' s lv av ev := ⟨h.links.kept hk, h.ats.kept hk, h.evs.kept hk, h.l0, h.a0, h.e0⟩
set_option maxHeartbeats 4000000 in
set_option maxRecDepth 100000 in
theorem of_any (s : Spn) (lA aA eA : Option Addr) (ln lc an ac en ec : Nat) (w : World) : Calls Tryd.prog 22 #[.agg (s.cells (.slice lA ln lc) (.slice aA an ac) (.slice eA en ec))] w fun e w' => e = .returned (.agg (#[.int .u64 s.hi, .int .u64 s.lo, .int .u64 s.id] ++ s.cells (.slice lA ln lc) (.slice aA an ac) (.slice eA en ec))) ∧ Kept (fun _ => False) w w' := by
  obtain ⟨W, hW⟩ : ∃ W, W = w.alloc (.cells (s.cells (.slice lA ln lc) (.slice aA an ac) (.slice eA en ec)) 33) := ⟨_, rfl⟩
  have hk : Kept (fun _ => False) w W := by rw [hW]; exact .alloc _ _ _
  have hb : W.heap[w.heap.size]? = some (.cells (s.cells (.slice lA ln lc) (.slice aA an ac) (.slice eA en ec)) 33 (0, 0)) := by rw [hW]; exact heap_alloc_new w _
  have hW' := hW.symm
  clear hW
  have hb2 := fun o : Obj => blk_kept (Kept.alloc (fun _ => False) W o) hb (fun e => e)
  have c0 : ∀ o : Obj, (W.alloc o).cell? ⟨w.heap.size, 0, none⟩ = some (.int .u64 s.hi) := fun o => (blk_cell (hb2 o) 0).trans rfl
  have c1 : ∀ o : Obj, (W.alloc o).cell? ⟨w.heap.size, 1, none⟩ = some (.int .u64 s.lo) := fun o => (blk_cell (hb2 o) 1).trans rfl
  have c2 : ∀ o : Obj, (W.alloc o).cell? ⟨w.heap.size, 2, none⟩ = some (.int .u64 s.id) := fun o => (blk_cell (hb2 o) 2).trans rfl
  have c3 : ∀ o : Obj, (W.alloc o).cell? ⟨w.heap.size, 3, none⟩ = some (.int .u64 s.par) := fun o => (blk_cell (hb2 o) 3).trans rfl
  have c4 : ∀ o : Obj, (W.alloc o).cell? ⟨w.heap.size, 4, none⟩ = some (.slice lA ln lc) := fun o => (blk_cell (hb2 o) 4).trans rfl
  have c5 : ∀ o : Obj, (W.alloc o).cell? ⟨w.heap.size, 5, none⟩ = some (.string s.svc) := fun o => (blk_cell (hb2 o) 5).trans rfl
  have c6 : ∀ o : Obj, (W.alloc o).cell? ⟨w.heap.size, 6, none⟩ = some (.string s.op) := fun o => (blk_cell (hb2 o) 6).trans rfl
  have c7 : ∀ o : Obj, (W.alloc o).cell? ⟨w.heap.size, 7, none⟩ = some (.int .i64 s.kind) := fun o => (blk_cell (hb2 o) 7).trans rfl
  have c8 : ∀ o : Obj, (W.alloc o).cell? ⟨w.heap.size, 8, none⟩ = some (.int .i64 s.st) := fun o => (blk_cell (hb2 o) 8).trans rfl
  have c9 : ∀ o : Obj, (W.alloc o).cell? ⟨w.heap.size, 9, none⟩ = some (.int .i64 s.start) := fun o => (blk_cell (hb2 o) 9).trans rfl
  have c10 : ∀ o : Obj, (W.alloc o).cell? ⟨w.heap.size, 10, none⟩ = some (.int .i64 s.fin) := fun o => (blk_cell (hb2 o) 10).trans rfl
  have c11 : ∀ o : Obj, (W.alloc o).cell? ⟨w.heap.size, 11, none⟩ = some (.slice aA an ac) := fun o => (blk_cell (hb2 o) 11).trans rfl
  have c12 : ∀ o : Obj, (W.alloc o).cell? ⟨w.heap.size, 12, none⟩ = some (.slice eA en ec) := fun o => (blk_cell (hb2 o) 12).trans rfl
  have HZ := Lib.hid hk
  clear hb hb2 hk
  go_enter Tryd.func22, Tryd.ntmps22
  go_wp2_with fail
  try simp only [Exit.inBlock, Exit.then]
  refine bodyPost_ret_by ?hr rfl ⟨rfl, HZ.out.trans (.alloc _ _ _) (fun _ _ e => e) (fun _ _ e => e)⟩
  case hr =>
    have e : Tryd.f22.results = #[.cell 2 58] := rfl
    simp only [results, e]
    go_simp
    rfl
end Go.Proofs.YtniigjfimggobaaDoor
