/- Clone (the walk). -/
import Derived.Test.YtniigjfimggobaaDoorU4
namespace Go.Proofs.YtniigjfimggobaaDoor
open Go.RowKit
set_option linter.unusedVariables false
set_option linter.unusedSimpArgs false

/-- A list that lies in new memory. -/
def NewAt (w : World) (v : Value) : Prop := ∀ A n c, v = .slice (some A) n c → w.heap.size ≤ A.block
theorem NewAt.of {w : World} {B : Option Addr} {n c k : Nat} (h : ∀ A', B = some A' → w.heap.size + k ≤ A'.block) : NewAt w (.slice B n c) := fun A n' c' e => by
  injection e with e1 _ _
  have := h A e1
  omega
/-- A span in new memory. -/
def ClonePost2 (s : Spn) (w : World) (e : Ending) (w' : World) : Prop :=
  (∃ lv av ev, e = .returned (.agg (s.cells lv av ev)) ∧ SReads w' s lv av ev ∧ NewAt w lv ∧ NewAt w av ∧ NewAt w ev) ∧ Kept (fun _ => False) w w'
def zcells : Array Value := #[.int .u64 0, .int .u64 0, .int .u64 0, .int .u64 0, .slice none 0 0, .string ⟨#[]⟩, .string ⟨#[]⟩, .int .i64 0, .int .i64 0, .int .i64 0, .int .i64 0, .slice none 0 0, .slice none 0 0]
set_option maxHeartbeats 16000000 in
set_option maxRecDepth 100000 in
theorem clone_span (s : Spn) (lv av ev : Value) (w : World) (hs : SReads w s lv av ev) (h1 : s.links.length ≤ 1000) (h2 : s.ats.length ≤ 1000) (h3 : s.evs.length ≤ 1000) : Calls Tryd.prog 23 #[.agg (s.cells lv av ev)] w (ClonePost2 s w) := by
  have hs0 := hs
  obtain ⟨⟨slA, slc, rfl, -⟩, ⟨saA, sac, rfl, -⟩, ⟨seA, sec, rfl, -⟩, -, -, -⟩ := hs
  obtain ⟨X, hX⟩ : ∃ X, X = s.cells (.slice slA s.links.length slc) (.slice saA s.ats.length sac) (.slice seA s.evs.length sec) := ⟨_, rfl⟩
  obtain ⟨W, hW⟩ : ∃ W, W = (w.alloc (.cells X 33)).alloc (.cells zcells 33) := ⟨_, rfl⟩
  obtain ⟨hk, ha, hb⟩ := box2 w (.cells X 33) (.cells zcells 33)
  rw [← hW] at hk ha hb
  rw [hX] at ha
  have hWs : W.heap.size = w.heap.size + 2 := by rw [hW]; simp
  have a4 : W.cell? ⟨w.heap.size, 4, none⟩ = some (.slice slA s.links.length slc) := (blk_cell ha 4).trans rfl
  have HW : Hid ((w.alloc (.cells X 33)).alloc (.cells #[.int .u64 0, .int .u64 0, .int .u64 0, .int .u64 0, .slice none 0 0, .string ⟨#[]⟩, .string ⟨#[]⟩, .int .i64 0, .int .i64 0, .int .i64 0, .int .i64 0, .slice none 0 0, .slice none 0 0] 33) = W) := Lib.hid hW.symm
  rw [← hX]
  have HS := Lib.hid hs0
  have HK := Lib.hid hk
  have HB := Lib.hid (And.intro ha (And.intro hb (Nat.le_of_eq hWs.symm)))
  have c1 := Lib.hid (clone55 s.links slA slc W (hs0.links.kept hk) h1)
  clear hX hs0 hk hW ha hb hWs
  go_enter Tryd.func23, Tryd.ntmps23
  go_upto_region 1 with fail
  rw [HW.out]
  clear HW
  go_upto_region 2 with (first | (go_at_call 55; (with_reducible refine c1.out.mono ?_); rintro e w1 ⟨⟨B1, d1, rfl, hd1, hab1, hR1⟩, hk1⟩; have f1 := blk_frozen (blk_kept hk1 HB.out.1 (fun h => h)) 4; have g1 := (blk_cell (blk_kept hk1 HB.out.1 (fun h => h)) 4).trans rfl; have hR1 := Lib.hid hR1) | (go_at_call 54; refine (clip54 _ _ _ _ (by assumption)).mono ?_; rintro e w1 ⟨rfl, rfl⟩))
  obtain ⟨V1, hV⟩ : ∃ V, V = w1.setCell ⟨w.heap.size, 4, none⟩ (.slice B1 s.links.length s.links.length) := ⟨_, rfl⟩
  rw [← hV]
  have hset : Kept (fun k => k = w.heap.size) w1 V1 := by rw [hV]; exact Kept.setCell _ _ _ rfl
  have hx : V1.heap[w.heap.size]? = some (.cells (s.cells (.slice B1 s.links.length s.links.length) (.slice saA s.ats.length sac) (.slice seA s.evs.length sec)) 33 (0, 0)) := by rw [hV]; exact (blk_set (blk_kept hk1 HB.out.1 (fun h => h)) 4 _).trans rfl
  have hy : V1.heap[w.heap.size + 1]? = some (.cells zcells 33 (0, 0)) := blk_kept hset (blk_kept hk1 HB.out.2.1 (fun h => h)) (by omega)
  have hz : w.heap.size + 2 ≤ V1.heap.size := Nat.le_trans HB.out.2.2 (Nat.le_trans hk1.size hset.size)
  have hkk : Kept (fun _ => False) w V1 := (HK.out.trans hk1 (fun _ _ e => e) (fun _ _ e => e)).trans hset (fun _ _ e => e) (fun i hi e => by omega)
  have hl1 : LReads V1 (.slice B1 s.links.length s.links.length) s.links ∧ (∀ A', B1 = some A' → w.heap.size + 2 ≤ A'.block) := ⟨(hR1.out.clipped).keptS hset (fun A' hA => by have := hab1 A' hA; have := HB.out.2.2; omega), fun A' hA => by have := hab1 A' hA; have := HB.out.2.2; omega⟩
  have HL1 := Lib.hid hl1
  clear hl1
  have c2 := Lib.hid (clone57 s.ats saA sac V1 (HS.out.ats.kept hkk) h2)
  have a11 : V1.cell? ⟨w.heap.size, 11, none⟩ = some (.slice saA s.ats.length sac) := (blk_cell hx 11).trans rfl
  clear HB HK
  have HB := Lib.hid (And.intro hx (And.intro hy hz))
  have HK := Lib.hid hkk
  clear hx hy hz hkk hset hV c1 a4 hk1 f1 g1 hR1 hab1
  go_upto_region 3 with (first | (go_at_call 57; (with_reducible refine c2.out.mono ?_); rintro e w2 ⟨⟨B2, d2, rfl, hd2, hab2, hR2⟩, hk2⟩; have f2 := blk_frozen (blk_kept hk2 HB.out.1 (fun h => h)) 11; have g2 := (blk_cell (blk_kept hk2 HB.out.1 (fun h => h)) 11).trans rfl; have hR2 := Lib.hid hR2) | (go_at_call 56; refine (clip56 _ _ _ _ (by assumption)).mono ?_; rintro e w2 ⟨rfl, rfl⟩))
  obtain ⟨V2, hV⟩ : ∃ V, V = w2.setCell ⟨w.heap.size, 11, none⟩ (.slice B2 s.ats.length s.ats.length) := ⟨_, rfl⟩
  rw [← hV]
  have hset : Kept (fun k => k = w.heap.size) w2 V2 := by rw [hV]; exact Kept.setCell _ _ _ rfl
  have hx : V2.heap[w.heap.size]? = some (.cells (s.cells (.slice B1 s.links.length s.links.length) (.slice B2 s.ats.length s.ats.length) (.slice seA s.evs.length sec)) 33 (0, 0)) := by rw [hV]; exact (blk_set (blk_kept hk2 HB.out.1 (fun h => h)) 11 _).trans rfl
  have hy : V2.heap[w.heap.size + 1]? = some (.cells zcells 33 (0, 0)) := blk_kept hset (blk_kept hk2 HB.out.2.1 (fun h => h)) (by omega)
  have hz : w.heap.size + 2 ≤ V2.heap.size := Nat.le_trans HB.out.2.2 (Nat.le_trans hk2.size hset.size)
  have hkk : Kept (fun _ => False) w V2 := (HK.out.trans hk2 (fun _ _ e => e) (fun _ _ e => e)).trans hset (fun _ _ e => e) (fun i hi e => by omega)
  have hl2 : TReads V2 (.slice B2 s.ats.length s.ats.length) s.ats ∧ (∀ A', B2 = some A' → w.heap.size + 2 ≤ A'.block) := ⟨(hR2.out.clipped).keptS hset (fun A' hA => by have := hab2 A' hA; have := HB.out.2.2; omega), fun A' hA => by have := hab2 A' hA; have := HB.out.2.2; omega⟩
  have hl1 := Lib.hid (show LReads V2 (.slice B1 s.links.length s.links.length) s.links ∧ (∀ A', B1 = some A' → w.heap.size + 2 ≤ A'.block) from ⟨(HL1.out.1.kept hk2).keptS hset (fun A' hA => by have := HL1.out.2 A' hA; omega), HL1.out.2⟩)
  clear HL1
  have HL1 := hl1
  clear hl1
  have HL2 := Lib.hid hl2
  clear hl2
  have c3 := Lib.hid (clone59 s.evs seA sec V2 (HS.out.evs.kept hkk) h3)
  have a12 : V2.cell? ⟨w.heap.size, 12, none⟩ = some (.slice seA s.evs.length sec) := (blk_cell hx 12).trans rfl
  clear HB HK
  have HB := Lib.hid (And.intro hx (And.intro hy hz))
  have HK := Lib.hid hkk
  clear hx hy hz hkk hset hV c2 a11 hk2 f2 g2 hR2 hab2
  go_upto_region 4 with (first | (go_at_call 59; (with_reducible refine c3.out.mono ?_); rintro e w3 ⟨⟨B3, d3, rfl, hd3, hab3, hR3⟩, hk3⟩; have f3 := blk_frozen (blk_kept hk3 HB.out.1 (fun h => h)) 12; have g3 := (blk_cell (blk_kept hk3 HB.out.1 (fun h => h)) 12).trans rfl; have hR3 := Lib.hid hR3) | (go_at_call 58; refine (clip58 _ _ _ _ (by assumption)).mono ?_; rintro e w3 ⟨rfl, rfl⟩))
  obtain ⟨V3, hV⟩ : ∃ V, V = w3.setCell ⟨w.heap.size, 12, none⟩ (.slice B3 s.evs.length s.evs.length) := ⟨_, rfl⟩
  rw [← hV]
  have hset : Kept (fun k => k = w.heap.size) w3 V3 := by rw [hV]; exact Kept.setCell _ _ _ rfl
  have hx : V3.heap[w.heap.size]? = some (.cells (s.cells (.slice B1 s.links.length s.links.length) (.slice B2 s.ats.length s.ats.length) (.slice B3 s.evs.length s.evs.length)) 33 (0, 0)) := by rw [hV]; exact (blk_set (blk_kept hk3 HB.out.1 (fun h => h)) 12 _).trans rfl
  have hy : V3.heap[w.heap.size + 1]? = some (.cells zcells 33 (0, 0)) := blk_kept hset (blk_kept hk3 HB.out.2.1 (fun h => h)) (by omega)
  have hz : w.heap.size + 2 ≤ V3.heap.size := Nat.le_trans HB.out.2.2 (Nat.le_trans hk3.size hset.size)
  have hkk : Kept (fun _ => False) w V3 := (HK.out.trans hk3 (fun _ _ e => e) (fun _ _ e => e)).trans hset (fun _ _ e => e) (fun i hi e => by omega)
  have hl3 : EReads V3 (.slice B3 s.evs.length s.evs.length) s.evs ∧ (∀ A', B3 = some A' → w.heap.size + 2 ≤ A'.block) := ⟨(hR3.out.clipped).keptS hset (fun A' hA => by have := hab3 A' hA; have := HB.out.2.2; omega), fun A' hA => by have := hab3 A' hA; have := HB.out.2.2; omega⟩
  have hl1 := Lib.hid (show LReads V3 (.slice B1 s.links.length s.links.length) s.links ∧ (∀ A', B1 = some A' → w.heap.size + 2 ≤ A'.block) from ⟨(HL1.out.1.kept hk3).keptS hset (fun A' hA => by have := HL1.out.2 A' hA; omega), HL1.out.2⟩)
  clear HL1
  have HL1 := hl1
  clear hl1
  have hl2 := Lib.hid (show TReads V3 (.slice B2 s.ats.length s.ats.length) s.ats ∧ (∀ A', B2 = some A' → w.heap.size + 2 ≤ A'.block) from ⟨(HL2.out.1.kept hk3).keptS hset (fun A' hA => by have := HL2.out.2 A' hA; omega), HL2.out.2⟩)
  clear HL2
  have HL2 := hl2
  clear hl2
  have HL3 := Lib.hid hl3
  clear hl3
  clear HB HK
  have HB := Lib.hid (And.intro hx (And.intro hy hz))
  have HK := Lib.hid hkk
  clear hx hy hz hkk hset hV c3 a12 hk3 f3 g3 hR3 hab3
  have x0 : V3.cell? ⟨w.heap.size, 0, none⟩ = some (.int .u64 s.hi) := (blk_cell HB.out.1 0).trans rfl
  have y0 : V3.cell? ⟨w.heap.size + 1, 0, none⟩ = some (.int .u64 0) := (blk_cell HB.out.2.1 0).trans rfl
  have z0 : V3.frozen? ⟨w.heap.size + 1, 0, none⟩ = false := blk_frozen HB.out.2.1 0
  have x1 : V3.cell? ⟨w.heap.size, 1, none⟩ = some (.int .u64 s.lo) := (blk_cell HB.out.1 1).trans rfl
  have y1 : V3.cell? ⟨w.heap.size + 1, 1, none⟩ = some (.int .u64 0) := (blk_cell HB.out.2.1 1).trans rfl
  have z1 : V3.frozen? ⟨w.heap.size + 1, 1, none⟩ = false := blk_frozen HB.out.2.1 1
  have x2 : V3.cell? ⟨w.heap.size, 2, none⟩ = some (.int .u64 s.id) := (blk_cell HB.out.1 2).trans rfl
  have y2 : V3.cell? ⟨w.heap.size + 1, 2, none⟩ = some (.int .u64 0) := (blk_cell HB.out.2.1 2).trans rfl
  have z2 : V3.frozen? ⟨w.heap.size + 1, 2, none⟩ = false := blk_frozen HB.out.2.1 2
  have x3 : V3.cell? ⟨w.heap.size, 3, none⟩ = some (.int .u64 s.par) := (blk_cell HB.out.1 3).trans rfl
  have y3 : V3.cell? ⟨w.heap.size + 1, 3, none⟩ = some (.int .u64 0) := (blk_cell HB.out.2.1 3).trans rfl
  have z3 : V3.frozen? ⟨w.heap.size + 1, 3, none⟩ = false := blk_frozen HB.out.2.1 3
  have x4 : V3.cell? ⟨w.heap.size, 4, none⟩ = some (.slice B1 s.links.length s.links.length) := (blk_cell HB.out.1 4).trans rfl
  have y4 : V3.cell? ⟨w.heap.size + 1, 4, none⟩ = some (.slice none 0 0) := (blk_cell HB.out.2.1 4).trans rfl
  have z4 : V3.frozen? ⟨w.heap.size + 1, 4, none⟩ = false := blk_frozen HB.out.2.1 4
  have x5 : V3.cell? ⟨w.heap.size, 5, none⟩ = some (.string s.svc) := (blk_cell HB.out.1 5).trans rfl
  have y5 : V3.cell? ⟨w.heap.size + 1, 5, none⟩ = some (.string ⟨#[]⟩) := (blk_cell HB.out.2.1 5).trans rfl
  have z5 : V3.frozen? ⟨w.heap.size + 1, 5, none⟩ = false := blk_frozen HB.out.2.1 5
  have x6 : V3.cell? ⟨w.heap.size, 6, none⟩ = some (.string s.op) := (blk_cell HB.out.1 6).trans rfl
  have y6 : V3.cell? ⟨w.heap.size + 1, 6, none⟩ = some (.string ⟨#[]⟩) := (blk_cell HB.out.2.1 6).trans rfl
  have z6 : V3.frozen? ⟨w.heap.size + 1, 6, none⟩ = false := blk_frozen HB.out.2.1 6
  have x7 : V3.cell? ⟨w.heap.size, 7, none⟩ = some (.int .i64 s.kind) := (blk_cell HB.out.1 7).trans rfl
  have y7 : V3.cell? ⟨w.heap.size + 1, 7, none⟩ = some (.int .i64 0) := (blk_cell HB.out.2.1 7).trans rfl
  have z7 : V3.frozen? ⟨w.heap.size + 1, 7, none⟩ = false := blk_frozen HB.out.2.1 7
  have x8 : V3.cell? ⟨w.heap.size, 8, none⟩ = some (.int .i64 s.st) := (blk_cell HB.out.1 8).trans rfl
  have y8 : V3.cell? ⟨w.heap.size + 1, 8, none⟩ = some (.int .i64 0) := (blk_cell HB.out.2.1 8).trans rfl
  have z8 : V3.frozen? ⟨w.heap.size + 1, 8, none⟩ = false := blk_frozen HB.out.2.1 8
  have x9 : V3.cell? ⟨w.heap.size, 9, none⟩ = some (.int .i64 s.start) := (blk_cell HB.out.1 9).trans rfl
  have y9 : V3.cell? ⟨w.heap.size + 1, 9, none⟩ = some (.int .i64 0) := (blk_cell HB.out.2.1 9).trans rfl
  have z9 : V3.frozen? ⟨w.heap.size + 1, 9, none⟩ = false := blk_frozen HB.out.2.1 9
  have x10 : V3.cell? ⟨w.heap.size, 10, none⟩ = some (.int .i64 s.fin) := (blk_cell HB.out.1 10).trans rfl
  have y10 : V3.cell? ⟨w.heap.size + 1, 10, none⟩ = some (.int .i64 0) := (blk_cell HB.out.2.1 10).trans rfl
  have z10 : V3.frozen? ⟨w.heap.size + 1, 10, none⟩ = false := blk_frozen HB.out.2.1 10
  have x11 : V3.cell? ⟨w.heap.size, 11, none⟩ = some (.slice B2 s.ats.length s.ats.length) := (blk_cell HB.out.1 11).trans rfl
  have y11 : V3.cell? ⟨w.heap.size + 1, 11, none⟩ = some (.slice none 0 0) := (blk_cell HB.out.2.1 11).trans rfl
  have z11 : V3.frozen? ⟨w.heap.size + 1, 11, none⟩ = false := blk_frozen HB.out.2.1 11
  have x12 : V3.cell? ⟨w.heap.size, 12, none⟩ = some (.slice B3 s.evs.length s.evs.length) := (blk_cell HB.out.1 12).trans rfl
  have y12 : V3.cell? ⟨w.heap.size + 1, 12, none⟩ = some (.slice none 0 0) := (blk_cell HB.out.2.1 12).trans rfl
  have z12 : V3.frozen? ⟨w.heap.size + 1, 12, none⟩ = false := blk_frozen HB.out.2.1 12
  have hfin : ∀ Vf, Kept (fun k => k = w.heap.size + 1) V3 Vf → SReads Vf s (.slice B1 s.links.length s.links.length) (.slice B2 s.ats.length s.ats.length) (.slice B3 s.evs.length s.evs.length) ∧ Kept (fun _ => False) w Vf := fun Vf hk =>
    ⟨⟨HL1.out.1.keptS hk (fun A' hA => by have := HL1.out.2 A' hA; omega), HL2.out.1.keptS hk (fun A' hA => by have := HL2.out.2 A' hA; omega), HL3.out.1.keptS hk (fun A' hA => by have := HL3.out.2 A' hA; omega), by omega, by omega, by omega⟩, HK.out.trans hk (fun _ _ e => e) (fun i hi e => by omega)⟩
  have HF := Lib.hid hfin
  clear hfin
  go_wp2_with fail
  have q0 := HB.out.2.1
  have q1 : (V3.setCell ⟨w.heap.size + 1, 0, none⟩ (.int .u64 s.hi)).heap[w.heap.size + 1]? = some (.cells #[.int .u64 s.hi, .int .u64 0, .int .u64 0, .int .u64 0, .slice none 0 0, .string ⟨#[]⟩, .string ⟨#[]⟩, .int .i64 0, .int .i64 0, .int .i64 0, .int .i64 0, .slice none 0 0, .slice none 0 0] 33 (0, 0)) := (blk_set q0 0 _).trans rfl
  have q2 : ((V3.setCell ⟨w.heap.size + 1, 0, none⟩ (.int .u64 s.hi)).setCell ⟨w.heap.size + 1, 1, none⟩ (.int .u64 s.lo)).heap[w.heap.size + 1]? = some (.cells #[.int .u64 s.hi, .int .u64 s.lo, .int .u64 0, .int .u64 0, .slice none 0 0, .string ⟨#[]⟩, .string ⟨#[]⟩, .int .i64 0, .int .i64 0, .int .i64 0, .int .i64 0, .slice none 0 0, .slice none 0 0] 33 (0, 0)) := (blk_set q1 1 _).trans rfl
  have q3 : (((V3.setCell ⟨w.heap.size + 1, 0, none⟩ (.int .u64 s.hi)).setCell ⟨w.heap.size + 1, 1, none⟩ (.int .u64 s.lo)).setCell ⟨w.heap.size + 1, 2, none⟩ (.int .u64 s.id)).heap[w.heap.size + 1]? = some (.cells #[.int .u64 s.hi, .int .u64 s.lo, .int .u64 s.id, .int .u64 0, .slice none 0 0, .string ⟨#[]⟩, .string ⟨#[]⟩, .int .i64 0, .int .i64 0, .int .i64 0, .int .i64 0, .slice none 0 0, .slice none 0 0] 33 (0, 0)) := (blk_set q2 2 _).trans rfl
  have q4 : ((((V3.setCell ⟨w.heap.size + 1, 0, none⟩ (.int .u64 s.hi)).setCell ⟨w.heap.size + 1, 1, none⟩ (.int .u64 s.lo)).setCell ⟨w.heap.size + 1, 2, none⟩ (.int .u64 s.id)).setCell ⟨w.heap.size + 1, 3, none⟩ (.int .u64 s.par)).heap[w.heap.size + 1]? = some (.cells #[.int .u64 s.hi, .int .u64 s.lo, .int .u64 s.id, .int .u64 s.par, .slice none 0 0, .string ⟨#[]⟩, .string ⟨#[]⟩, .int .i64 0, .int .i64 0, .int .i64 0, .int .i64 0, .slice none 0 0, .slice none 0 0] 33 (0, 0)) := (blk_set q3 3 _).trans rfl
  have q5 : (((((V3.setCell ⟨w.heap.size + 1, 0, none⟩ (.int .u64 s.hi)).setCell ⟨w.heap.size + 1, 1, none⟩ (.int .u64 s.lo)).setCell ⟨w.heap.size + 1, 2, none⟩ (.int .u64 s.id)).setCell ⟨w.heap.size + 1, 3, none⟩ (.int .u64 s.par)).setCell ⟨w.heap.size + 1, 4, none⟩ (.slice B1 s.links.length s.links.length)).heap[w.heap.size + 1]? = some (.cells #[.int .u64 s.hi, .int .u64 s.lo, .int .u64 s.id, .int .u64 s.par, .slice B1 s.links.length s.links.length, .string ⟨#[]⟩, .string ⟨#[]⟩, .int .i64 0, .int .i64 0, .int .i64 0, .int .i64 0, .slice none 0 0, .slice none 0 0] 33 (0, 0)) := (blk_set q4 4 _).trans rfl
  have q6 : ((((((V3.setCell ⟨w.heap.size + 1, 0, none⟩ (.int .u64 s.hi)).setCell ⟨w.heap.size + 1, 1, none⟩ (.int .u64 s.lo)).setCell ⟨w.heap.size + 1, 2, none⟩ (.int .u64 s.id)).setCell ⟨w.heap.size + 1, 3, none⟩ (.int .u64 s.par)).setCell ⟨w.heap.size + 1, 4, none⟩ (.slice B1 s.links.length s.links.length)).setCell ⟨w.heap.size + 1, 5, none⟩ (.string s.svc)).heap[w.heap.size + 1]? = some (.cells #[.int .u64 s.hi, .int .u64 s.lo, .int .u64 s.id, .int .u64 s.par, .slice B1 s.links.length s.links.length, .string s.svc, .string ⟨#[]⟩, .int .i64 0, .int .i64 0, .int .i64 0, .int .i64 0, .slice none 0 0, .slice none 0 0] 33 (0, 0)) := (blk_set q5 5 _).trans rfl
  have q7 : (((((((V3.setCell ⟨w.heap.size + 1, 0, none⟩ (.int .u64 s.hi)).setCell ⟨w.heap.size + 1, 1, none⟩ (.int .u64 s.lo)).setCell ⟨w.heap.size + 1, 2, none⟩ (.int .u64 s.id)).setCell ⟨w.heap.size + 1, 3, none⟩ (.int .u64 s.par)).setCell ⟨w.heap.size + 1, 4, none⟩ (.slice B1 s.links.length s.links.length)).setCell ⟨w.heap.size + 1, 5, none⟩ (.string s.svc)).setCell ⟨w.heap.size + 1, 6, none⟩ (.string s.op)).heap[w.heap.size + 1]? = some (.cells #[.int .u64 s.hi, .int .u64 s.lo, .int .u64 s.id, .int .u64 s.par, .slice B1 s.links.length s.links.length, .string s.svc, .string s.op, .int .i64 0, .int .i64 0, .int .i64 0, .int .i64 0, .slice none 0 0, .slice none 0 0] 33 (0, 0)) := (blk_set q6 6 _).trans rfl
  have q8 : ((((((((V3.setCell ⟨w.heap.size + 1, 0, none⟩ (.int .u64 s.hi)).setCell ⟨w.heap.size + 1, 1, none⟩ (.int .u64 s.lo)).setCell ⟨w.heap.size + 1, 2, none⟩ (.int .u64 s.id)).setCell ⟨w.heap.size + 1, 3, none⟩ (.int .u64 s.par)).setCell ⟨w.heap.size + 1, 4, none⟩ (.slice B1 s.links.length s.links.length)).setCell ⟨w.heap.size + 1, 5, none⟩ (.string s.svc)).setCell ⟨w.heap.size + 1, 6, none⟩ (.string s.op)).setCell ⟨w.heap.size + 1, 7, none⟩ (.int .i64 s.kind)).heap[w.heap.size + 1]? = some (.cells #[.int .u64 s.hi, .int .u64 s.lo, .int .u64 s.id, .int .u64 s.par, .slice B1 s.links.length s.links.length, .string s.svc, .string s.op, .int .i64 s.kind, .int .i64 0, .int .i64 0, .int .i64 0, .slice none 0 0, .slice none 0 0] 33 (0, 0)) := (blk_set q7 7 _).trans rfl
  have q9 : (((((((((V3.setCell ⟨w.heap.size + 1, 0, none⟩ (.int .u64 s.hi)).setCell ⟨w.heap.size + 1, 1, none⟩ (.int .u64 s.lo)).setCell ⟨w.heap.size + 1, 2, none⟩ (.int .u64 s.id)).setCell ⟨w.heap.size + 1, 3, none⟩ (.int .u64 s.par)).setCell ⟨w.heap.size + 1, 4, none⟩ (.slice B1 s.links.length s.links.length)).setCell ⟨w.heap.size + 1, 5, none⟩ (.string s.svc)).setCell ⟨w.heap.size + 1, 6, none⟩ (.string s.op)).setCell ⟨w.heap.size + 1, 7, none⟩ (.int .i64 s.kind)).setCell ⟨w.heap.size + 1, 8, none⟩ (.int .i64 s.st)).heap[w.heap.size + 1]? = some (.cells #[.int .u64 s.hi, .int .u64 s.lo, .int .u64 s.id, .int .u64 s.par, .slice B1 s.links.length s.links.length, .string s.svc, .string s.op, .int .i64 s.kind, .int .i64 s.st, .int .i64 0, .int .i64 0, .slice none 0 0, .slice none 0 0] 33 (0, 0)) := (blk_set q8 8 _).trans rfl
  have q10 : ((((((((((V3.setCell ⟨w.heap.size + 1, 0, none⟩ (.int .u64 s.hi)).setCell ⟨w.heap.size + 1, 1, none⟩ (.int .u64 s.lo)).setCell ⟨w.heap.size + 1, 2, none⟩ (.int .u64 s.id)).setCell ⟨w.heap.size + 1, 3, none⟩ (.int .u64 s.par)).setCell ⟨w.heap.size + 1, 4, none⟩ (.slice B1 s.links.length s.links.length)).setCell ⟨w.heap.size + 1, 5, none⟩ (.string s.svc)).setCell ⟨w.heap.size + 1, 6, none⟩ (.string s.op)).setCell ⟨w.heap.size + 1, 7, none⟩ (.int .i64 s.kind)).setCell ⟨w.heap.size + 1, 8, none⟩ (.int .i64 s.st)).setCell ⟨w.heap.size + 1, 9, none⟩ (.int .i64 s.start)).heap[w.heap.size + 1]? = some (.cells #[.int .u64 s.hi, .int .u64 s.lo, .int .u64 s.id, .int .u64 s.par, .slice B1 s.links.length s.links.length, .string s.svc, .string s.op, .int .i64 s.kind, .int .i64 s.st, .int .i64 s.start, .int .i64 0, .slice none 0 0, .slice none 0 0] 33 (0, 0)) := (blk_set q9 9 _).trans rfl
  have q11 : (((((((((((V3.setCell ⟨w.heap.size + 1, 0, none⟩ (.int .u64 s.hi)).setCell ⟨w.heap.size + 1, 1, none⟩ (.int .u64 s.lo)).setCell ⟨w.heap.size + 1, 2, none⟩ (.int .u64 s.id)).setCell ⟨w.heap.size + 1, 3, none⟩ (.int .u64 s.par)).setCell ⟨w.heap.size + 1, 4, none⟩ (.slice B1 s.links.length s.links.length)).setCell ⟨w.heap.size + 1, 5, none⟩ (.string s.svc)).setCell ⟨w.heap.size + 1, 6, none⟩ (.string s.op)).setCell ⟨w.heap.size + 1, 7, none⟩ (.int .i64 s.kind)).setCell ⟨w.heap.size + 1, 8, none⟩ (.int .i64 s.st)).setCell ⟨w.heap.size + 1, 9, none⟩ (.int .i64 s.start)).setCell ⟨w.heap.size + 1, 10, none⟩ (.int .i64 s.fin)).heap[w.heap.size + 1]? = some (.cells #[.int .u64 s.hi, .int .u64 s.lo, .int .u64 s.id, .int .u64 s.par, .slice B1 s.links.length s.links.length, .string s.svc, .string s.op, .int .i64 s.kind, .int .i64 s.st, .int .i64 s.start, .int .i64 s.fin, .slice none 0 0, .slice none 0 0] 33 (0, 0)) := (blk_set q10 10 _).trans rfl
  have q12 : ((((((((((((V3.setCell ⟨w.heap.size + 1, 0, none⟩ (.int .u64 s.hi)).setCell ⟨w.heap.size + 1, 1, none⟩ (.int .u64 s.lo)).setCell ⟨w.heap.size + 1, 2, none⟩ (.int .u64 s.id)).setCell ⟨w.heap.size + 1, 3, none⟩ (.int .u64 s.par)).setCell ⟨w.heap.size + 1, 4, none⟩ (.slice B1 s.links.length s.links.length)).setCell ⟨w.heap.size + 1, 5, none⟩ (.string s.svc)).setCell ⟨w.heap.size + 1, 6, none⟩ (.string s.op)).setCell ⟨w.heap.size + 1, 7, none⟩ (.int .i64 s.kind)).setCell ⟨w.heap.size + 1, 8, none⟩ (.int .i64 s.st)).setCell ⟨w.heap.size + 1, 9, none⟩ (.int .i64 s.start)).setCell ⟨w.heap.size + 1, 10, none⟩ (.int .i64 s.fin)).setCell ⟨w.heap.size + 1, 11, none⟩ (.slice B2 s.ats.length s.ats.length)).heap[w.heap.size + 1]? = some (.cells #[.int .u64 s.hi, .int .u64 s.lo, .int .u64 s.id, .int .u64 s.par, .slice B1 s.links.length s.links.length, .string s.svc, .string s.op, .int .i64 s.kind, .int .i64 s.st, .int .i64 s.start, .int .i64 s.fin, .slice B2 s.ats.length s.ats.length, .slice none 0 0] 33 (0, 0)) := (blk_set q11 11 _).trans rfl
  have q13 : (((((((((((((V3.setCell ⟨w.heap.size + 1, 0, none⟩ (.int .u64 s.hi)).setCell ⟨w.heap.size + 1, 1, none⟩ (.int .u64 s.lo)).setCell ⟨w.heap.size + 1, 2, none⟩ (.int .u64 s.id)).setCell ⟨w.heap.size + 1, 3, none⟩ (.int .u64 s.par)).setCell ⟨w.heap.size + 1, 4, none⟩ (.slice B1 s.links.length s.links.length)).setCell ⟨w.heap.size + 1, 5, none⟩ (.string s.svc)).setCell ⟨w.heap.size + 1, 6, none⟩ (.string s.op)).setCell ⟨w.heap.size + 1, 7, none⟩ (.int .i64 s.kind)).setCell ⟨w.heap.size + 1, 8, none⟩ (.int .i64 s.st)).setCell ⟨w.heap.size + 1, 9, none⟩ (.int .i64 s.start)).setCell ⟨w.heap.size + 1, 10, none⟩ (.int .i64 s.fin)).setCell ⟨w.heap.size + 1, 11, none⟩ (.slice B2 s.ats.length s.ats.length)).setCell ⟨w.heap.size + 1, 12, none⟩ (.slice B3 s.evs.length s.evs.length)).heap[w.heap.size + 1]? = some (.cells #[.int .u64 s.hi, .int .u64 s.lo, .int .u64 s.id, .int .u64 s.par, .slice B1 s.links.length s.links.length, .string s.svc, .string s.op, .int .i64 s.kind, .int .i64 s.st, .int .i64 s.start, .int .i64 s.fin, .slice B2 s.ats.length s.ats.length, .slice B3 s.evs.length s.evs.length] 33 (0, 0)) := (blk_set q12 12 _).trans rfl
  obtain ⟨Vf, hVf⟩ : ∃ Vf, Vf = (((((((((((((V3.setCell ⟨w.heap.size + 1, 0, none⟩ (.int .u64 s.hi)).setCell ⟨w.heap.size + 1, 1, none⟩ (.int .u64 s.lo)).setCell ⟨w.heap.size + 1, 2, none⟩ (.int .u64 s.id)).setCell ⟨w.heap.size + 1, 3, none⟩ (.int .u64 s.par)).setCell ⟨w.heap.size + 1, 4, none⟩ (.slice B1 s.links.length s.links.length)).setCell ⟨w.heap.size + 1, 5, none⟩ (.string s.svc)).setCell ⟨w.heap.size + 1, 6, none⟩ (.string s.op)).setCell ⟨w.heap.size + 1, 7, none⟩ (.int .i64 s.kind)).setCell ⟨w.heap.size + 1, 8, none⟩ (.int .i64 s.st)).setCell ⟨w.heap.size + 1, 9, none⟩ (.int .i64 s.start)).setCell ⟨w.heap.size + 1, 10, none⟩ (.int .i64 s.fin)).setCell ⟨w.heap.size + 1, 11, none⟩ (.slice B2 s.ats.length s.ats.length)).setCell ⟨w.heap.size + 1, 12, none⟩ (.slice B3 s.evs.length s.evs.length)) := ⟨_, rfl⟩
  rw [← hVf]
  have hfb : Vf.heap[w.heap.size + 1]? = some (.cells (s.cells (.slice B1 s.links.length s.links.length) (.slice B2 s.ats.length s.ats.length) (.slice B3 s.evs.length s.evs.length)) 33 (0, 0)) := by rw [hVf]; exact q13
  have hfk : Kept (fun k => k = w.heap.size + 1) V3 Vf := by rw [hVf]; exact ((((((((((((((((((((((((((Kept.refl (fun k => k = w.heap.size + 1) V3).trans (Kept.setCell (S := fun k => k = w.heap.size + 1) _ _ _ rfl) (fun _ _ e => e) (fun _ _ e => e))).trans (Kept.setCell (S := fun k => k = w.heap.size + 1) _ _ _ rfl) (fun _ _ e => e) (fun _ _ e => e))).trans (Kept.setCell (S := fun k => k = w.heap.size + 1) _ _ _ rfl) (fun _ _ e => e) (fun _ _ e => e))).trans (Kept.setCell (S := fun k => k = w.heap.size + 1) _ _ _ rfl) (fun _ _ e => e) (fun _ _ e => e))).trans (Kept.setCell (S := fun k => k = w.heap.size + 1) _ _ _ rfl) (fun _ _ e => e) (fun _ _ e => e))).trans (Kept.setCell (S := fun k => k = w.heap.size + 1) _ _ _ rfl) (fun _ _ e => e) (fun _ _ e => e))).trans (Kept.setCell (S := fun k => k = w.heap.size + 1) _ _ _ rfl) (fun _ _ e => e) (fun _ _ e => e))).trans (Kept.setCell (S := fun k => k = w.heap.size + 1) _ _ _ rfl) (fun _ _ e => e) (fun _ _ e => e))).trans (Kept.setCell (S := fun k => k = w.heap.size + 1) _ _ _ rfl) (fun _ _ e => e) (fun _ _ e => e))).trans (Kept.setCell (S := fun k => k = w.heap.size + 1) _ _ _ rfl) (fun _ _ e => e) (fun _ _ e => e))).trans (Kept.setCell (S := fun k => k = w.heap.size + 1) _ _ _ rfl) (fun _ _ e => e) (fun _ _ e => e))).trans (Kept.setCell (S := fun k => k = w.heap.size + 1) _ _ _ rfl) (fun _ _ e => e) (fun _ _ e => e))).trans (Kept.setCell (S := fun k => k = w.heap.size + 1) _ _ _ rfl) (fun _ _ e => e) (fun _ _ e => e))
  clear hVf q0 q1 q2 q3 q4 q5 q6 q7 q8 q9 q10 q11 q12 q13 x0 x1 x2 x3 x4 x5 x6 x7 x8 x9 x10 x11 x12 y0 y1 y2 y3 y4 y5 y6 y7 y8 y9 y10 y11 y12 z0 z1 z2 z3 z4 z5 z6 z7 z8 z9 z10 z11 z12
  have r0 : Vf.cell? ⟨w.heap.size + 1, 0, none⟩ = some (.int .u64 s.hi) := (blk_cell hfb 0).trans rfl
  have r1 : Vf.cell? ⟨w.heap.size + 1, 1, none⟩ = some (.int .u64 s.lo) := (blk_cell hfb 1).trans rfl
  have r2 : Vf.cell? ⟨w.heap.size + 1, 2, none⟩ = some (.int .u64 s.id) := (blk_cell hfb 2).trans rfl
  have r3 : Vf.cell? ⟨w.heap.size + 1, 3, none⟩ = some (.int .u64 s.par) := (blk_cell hfb 3).trans rfl
  have r4 : Vf.cell? ⟨w.heap.size + 1, 4, none⟩ = some (.slice B1 s.links.length s.links.length) := (blk_cell hfb 4).trans rfl
  have r5 : Vf.cell? ⟨w.heap.size + 1, 5, none⟩ = some (.string s.svc) := (blk_cell hfb 5).trans rfl
  have r6 : Vf.cell? ⟨w.heap.size + 1, 6, none⟩ = some (.string s.op) := (blk_cell hfb 6).trans rfl
  have r7 : Vf.cell? ⟨w.heap.size + 1, 7, none⟩ = some (.int .i64 s.kind) := (blk_cell hfb 7).trans rfl
  have r8 : Vf.cell? ⟨w.heap.size + 1, 8, none⟩ = some (.int .i64 s.st) := (blk_cell hfb 8).trans rfl
  have r9 : Vf.cell? ⟨w.heap.size + 1, 9, none⟩ = some (.int .i64 s.start) := (blk_cell hfb 9).trans rfl
  have r10 : Vf.cell? ⟨w.heap.size + 1, 10, none⟩ = some (.int .i64 s.fin) := (blk_cell hfb 10).trans rfl
  have r11 : Vf.cell? ⟨w.heap.size + 1, 11, none⟩ = some (.slice B2 s.ats.length s.ats.length) := (blk_cell hfb 11).trans rfl
  have r12 : Vf.cell? ⟨w.heap.size + 1, 12, none⟩ = some (.slice B3 s.evs.length s.evs.length) := (blk_cell hfb 12).trans rfl
  refine bodyPost_ret_by ?hr rfl ⟨⟨.slice B1 s.links.length s.links.length, .slice B2 s.ats.length s.ats.length, .slice B3 s.evs.length s.evs.length, rfl, (HF.out _ hfk).1, NewAt.of HL1.out.2, NewAt.of HL2.out.2, NewAt.of HL3.out.2⟩, (HF.out _ hfk).2⟩
  case hr =>
    have e : Tryd.f23.results = #[.cell 2 33] := rfl
    simp only [results, e]
    go_simp
    rfl
end Go.Proofs.YtniigjfimggobaaDoor
