/- awake: the chapter's first example. -/
import Derived.Test.YtgohjgeplageeaaW1
import Derived.Test.YtgohjgeplageeaaC4
import Derived.Test.YtgohjgeplageeaaN3
import Derived.Lib.SlBytesConst
namespace Go.Proofs.Ytgohjgeplageeaa
open Go Go.RowKit
set_option linter.unusedVariables false
set_option linter.unusedSimpArgs false

/-- One's own bytes, just laid. -/
theorem bytes_laid (w : World) (cs : Array Value) (l : List Int) (h : cs.toList = nums .u8 l) (n : Nat) (hn : n = l.length) (fr : Nat × Nat) : Reads (w.alloc (.cells cs 5 fr)) (.slice (some ⟨w.heap.size, 0, none⟩) n n) l := by
  subst hn
  refine ⟨_, _, rfl, ⟨(fun e => by cases e), Nat.le_refl _⟩, fun j u hu => ⟨_, rfl, ?_⟩⟩
  rw [Addr.add_lit, Nat.zero_add, blk_cell (heap_alloc_new w _), ← hu, ← h, Array.getElem?_toList]
theorem ints_laid (w : World) (cs : Array Value) (l : List Int) (h : cs.toList = nums .i64 l) (n : Nat) (hn : n = l.length) : RowR (w.alloc (.cells cs 3)) (.slice (some ⟨w.heap.size, 0, none⟩) n n) (nums .i64 l) := by
  have hl : (nums .i64 l).length = l.length := by simp [nums]
  subst hn
  refine ⟨some ⟨w.heap.size, 0, none⟩, l.length, by rw [hl], (fun e => by cases e), by omega, fun j u hu => ⟨_, rfl, ?_⟩⟩
  rw [Addr.add_lit, Nat.zero_add, blk_cell (heap_alloc_new w _), ← hu, ← h, Array.getElem?_toList]
theorem nmSize : nmA.size ≤ 9223372036854775807 := by decide
/-- Nothing that was there has turned, nor belongs to a disk. -/
structure Inv (w wi : World) (C : Col) : Prop where
  kept : Kept (fun _ => False) w wi
  col : ∀ b, b < w.heap.size → (C b).1 = 0
theorem Inv.op {w wi w' : World} {C : Col} (h : Inv w wi C) {δ d N : Nat} {S : Dsk} {r : Value} {e : Ending} (hδ : δ ≠ 0) (hp : OpPost C δ d N S r wi e w') : e = .returned r ∧ Kept (fun b => (C b).1 = δ) wi w' ∧ ∃ C', DskAt w' C' δ d N S ∧ Inv w w' C' ∧ Agr wi C C' := by
  obtain ⟨h1, h2, C', h3, h4⟩ := hp
  exact ⟨h1, h2, C', h4, ⟨h.kept.trans h2 (fun _ _ e => e) (fun b hb e => hδ (by rw [← e, h.col b hb])), fun b hb => by rw [h3 b (Nat.lt_of_lt_of_le hb h.kept.size)]; exact h.col b hb⟩, h3⟩
theorem Inv.quiet {w wi w' : World} {C C' : Col} (h : Inv w wi C) (hk : Kept (fun _ => False) wi w') (hA : Agr wi C C') : Inv w w' C' :=
  ⟨kept0 h.kept hk, fun b hb => by rw [hA b (Nat.lt_of_lt_of_le hb h.kept.size)]; exact h.col b hb⟩
theorem DskAt.quiet {w w' : World} {C C' : Col} {δ d N : Nat} {S : Dsk} (h : DskAt w C δ d N S) (hk : Kept (fun _ => False) w w') (hA : Agr w C C') : DskAt w' C' δ d N S := h.kept hk (fun _ _ e => e) hA
theorem app_any' {wi : World} {C : Col} {δ d N : Nat} {S : Dsk} (h : DskAt wi C δ d N S) (hδ : δ ≠ 0) (s : ByteArray) (hs : s.size ≤ 9223372036854775807) (cs : Array Value) (l : List Int) (n : Nat) (hl : cs.toList = nums .u8 l) (hn : n = l.length) (hN : N + l.length ≤ 1000000000000) (fr : Nat × Nat) :
    Calls Try.prog 14 #[.pointer (some ⟨d, 0, none⟩), .string s, .slice (some ⟨wi.heap.size, 0, none⟩) n n] (wi.alloc (.cells cs 5 fr)) (OpPost (C.new wi.heap.size (0, 0, 0)) δ d (N + l.length + 1) (S.appD s l) (.int .i64 (S.syncE s)) (wi.alloc (.cells cs 5 fr))) :=
  app_any (h.quiet (Kept.alloc _ _ _) (Agr.new _ _ _)) s hs _ l (bytes_laid wi cs l hl n hn fr) (fun A n' c e => by injection e with e1; injection e1 with e1; subst e1; rw [Col.new_ge (Nat.le_refl _)]; exact fun e => hδ e.symm) hN
theorem restart_any2 {wi : World} {C : Col} {δ d N : Nat} {S : Dsk} (h : DskAt wi C δ d N S) (hδ : δ ≠ 0) (kn : Int) (cs : Array Value) (l : List Int) (n : Nat) (hl : cs.toList = nums .i64 l) (hn : n = l.length) (hN : N ≤ 1000000000000) (hkd : ∀ x ∈ l, x < 9223372036854775808) (hkl : l.length ≤ 9223372036854775807) :
    Calls Try.prog 15 #[.pointer (some ⟨d, 0, none⟩), .agg #[.int .i64 kn, .slice (some ⟨wi.heap.size, 0, none⟩) n n]] (wi.alloc (.cells cs 3)) (OpPost (C.new wi.heap.size (0, 0, 0)) δ d N (S.rest kn l) (.tuple #[]) (wi.alloc (.cells cs 3))) :=
  restart_any (h.quiet (Kept.alloc _ _ _) (Agr.new _ _ _)) kn l _ hN (ints_laid wi cs l hl n hn) (fun A n' c e => by injection e with e1; injection e1 with e1; subst e1; rw [Col.new_ge (Nat.le_refl _)]; exact fun e => hδ e.symm) hkd hkl
theorem rowR_nil (w : World) : RowR w (.slice none 0 0) (nums .i64 []) := ⟨none, 0, rfl, (fun _ => rfl), Nat.le_refl _, fun j u hu => by simp [nums] at hu⟩
set_option maxHeartbeats 4000000 in
set_option maxRecDepth 100000 in
theorem awake_any (w : World) : Calls Try.prog 7 #[] w fun e w' => e = .returned (.bool true) ∧ Kept (fun _ => False) w w' := by
  obtain ⟨C0, hC0⟩ : ∃ C0 : Col, ∀ b, C0 b = (0, 0, 0) := ⟨fun _ => (0, 0, 0), fun _ => rfl⟩
  have hcv := fun W C n c => Lib.run_convert_bytes_const (P := Try.prog) W 38 5 C n c Try.underlying38 Try.underlying5
  have HC := Lib.hid hC0
  clear hC0
  go_enter Try.func7, Try.ntmps7
  go_upto_region 4 with (go_at_call 8; refine (new_any _ C0 1).mono ?_; rintro e w1 ⟨d, C1, rfl, k1, g1, h1⟩; have H1 : Hid (DskAt w1 C1 1 d 0 Dsk.new ∧ Inv w w1 C1) := Lib.hid ⟨h1, k1, fun b hb => by rw [g1 b hb, HC.out b]⟩; clear h1 k1 g1)
  go_upto_region 5 with (go_at_call 10; refine (create_any H1.out.1 nmA nmSize (by decide)).mono ?_; rintro e w2 hp; obtain ⟨rfl, -, C2, g1, g2, -⟩ := H1.out.2.op (by decide) hp; rw [ex_e1]; have H2 := Lib.hid (And.intro g1 g2); clear hp g1 g2)
  go_upto_region 6 with (go_at_call 14; refine (app_any' H2.out.1 (by decide) nmA nmSize #[.int .u8 97, .int .u8 98, .int .u8 99] [97, 98, 99] 3 rfl rfl (by decide) _).mono ?_; rintro e w3 hp; obtain ⟨rfl, -, C3, g1, g2, -⟩ := (H2.out.2.quiet (Kept.alloc _ _ _) (Agr.new _ _ _)).op (by decide) hp; have H3 : Hid (DskAt w3 C3 1 d 5 exS2 ∧ Inv w w3 C3) := Lib.hid ⟨g1, g2⟩; clear hp g1 g2)
  rw [show (Dsk.new.creD nmA).syncE nmA = 0 from ex_e2]
  go_upto_region 7 with (go_at_call 12; refine (sync_any H3.out.1 nmA nmSize (by decide)).mono ?_; rintro e w4 hp; obtain ⟨rfl, -, C4, g1, g2, -⟩ := H3.out.2.op (by decide) hp; rw [ex_e3]; have H4 : Hid (DskAt w4 C4 1 d 5 exS3 ∧ Inv w w4 C4) := Lib.hid ⟨g1, g2⟩; clear hp g1 g2)
  go_upto_region 8 with (go_at_call 14; refine (app_any' H4.out.1 (by decide) nmA nmSize #[.int .u8 100, .int .u8 101] [100, 101] 2 rfl rfl (by decide) _).mono ?_; rintro e w5 hp; obtain ⟨rfl, -, C5, g1, g2, -⟩ := (H4.out.2.quiet (Kept.alloc _ _ _) (Agr.new _ _ _)).op (by decide) hp; rw [ex_e4]; have H5 : Hid (DskAt w5 C5 1 d 8 exS4 ∧ Inv w w5 C5) := Lib.hid ⟨g1, g2⟩; clear hp g1 g2)
  obtain ⟨ek1, ek2, ek3⟩ := ex_k
  go_upto_region 9 with (go_at_call 23; refine (pend_any H5.out.1 (by decide)).mono ?_; rintro e w6 ⟨g, c, rfl, r1, r2, r3⟩; rw [ek1, ek2]; have H6 : Hid (RowR w6 (.slice (some ⟨g, 0, none⟩) 1 c) (nums .i64 [2]) ∧ DskAt w6 C5 1 d 8 exS4 ∧ Inv w w6 C5) := Lib.hid ⟨by rw [ek3, ek2] at r1; exact r1, H5.out.1.quiet r3 (Agr.refl _ _), H5.out.2.quiet r3 (Agr.refl _ _)⟩; clear r1 r2 r3)
  have HKB : Hid (DskAt (w6.alloc (.cells #[.int .i64 1, .slice (some ⟨g, 0, none⟩) 1 c] 26)) (C5.new w6.heap.size (0, 0, 0)) 1 d 8 exS4 ∧ Inv w (w6.alloc (.cells #[.int .i64 1, .slice (some ⟨g, 0, none⟩) 1 c] 26)) (C5.new w6.heap.size (0, 0, 0)) ∧ (w6.alloc (.cells #[.int .i64 1, .slice (some ⟨g, 0, none⟩) 1 c] 26)).heap[w6.heap.size]? = some (.cells #[.int .i64 1, .slice (some ⟨g, 0, none⟩) 1 c] 26 (0, 0)) ∧ RowR (w6.alloc (.cells #[.int .i64 1, .slice (some ⟨g, 0, none⟩) 1 c] 26)) (.slice (some ⟨g, 0, none⟩) 1 c) (nums .i64 [2])) :=
    Lib.hid ⟨H6.out.2.1.quiet (Kept.alloc _ _ _) (Agr.new _ _ _), H6.out.2.2.quiet (Kept.alloc _ _ _) (Agr.new _ _ _), heap_alloc_new w6 _, H6.out.1.kept (Kept.alloc (fun _ => False) _ _) (fun _ _ _ _ e => e)⟩
  clear hcv
  go_upto_region 10 with (go_at_call 21; refine (copy_any HKB.out.1 2 (by decide)).mono ?_; rintro e w7 ⟨xd, C7, rfl, r1, r2, r3⟩; have y0 := (blk_cell (blk_kept r1 HKB.out.2.2.1 (fun e => e)) 0).trans (show _ = some (.int .i64 1) from rfl); have y1 := (blk_cell (blk_kept r1 HKB.out.2.2.1 (fun e => e)) 1).trans (show _ = some (.slice (some ⟨g, 0, none⟩) 1 c) from rfl); have y2 : w7.cell? ⟨g, 0, none⟩ = some (.int .i64 2) := (by obtain ⟨A, c', e, -, -, hcc⟩ := HKB.out.2.2.2.kept r1 (fun _ _ _ _ e => e); injection e with e1; subst e1; obtain ⟨adr, e, hcell⟩ := hcc 0 (.int .i64 2) rfl; injection e with e; subst e; rw [Addr.add_lit] at hcell; exact hcell); have H7 : Hid (DskAt w7 C7 2 xd 8 exS4 ∧ DskAt w7 C7 1 d 8 exS4 ∧ Inv w w7 C7) := Lib.hid ⟨r3, HKB.out.1.quiet r1 r2, HKB.out.2.1.quiet r1 r2⟩; clear r1 r2 r3)
  go_upto_region 12 with fail
  clear y0 y1 y2 ek1 ek2 ek3
  go_upto_region 13 with (go_at_call 15; refine (restart_any2 H7.out.1 (by decide) 1 #[.int .i64 1] [1] 1 rfl rfl (by decide) (by decide) (by decide)).mono ?_; rintro e w8 hp; obtain ⟨rfl, k8, C8, g1, g2, g3⟩ := (H7.out.2.2.quiet (Kept.alloc _ _ _) (Agr.new _ _ _)).op (by decide) hp; have H8 : Hid (DskAt w8 C8 2 xd 8 (exS4.rest 1 [1]) ∧ DskAt w8 C8 1 d 8 exS4 ∧ Inv w w8 C8) := Lib.hid ⟨g1, (H7.out.2.1.quiet (Kept.alloc _ _ _) (Agr.new _ _ _)).kept k8 (fun b e e2 => by rw [e] at e2; cases e2) g3, g2⟩; clear hp k8 g1 g2 g3)
  go_upto_region 14 with (go_at_call 18; refine (read_any H8.out.1 nmA nmSize 0 4 (by decide)).mono ?_; rintro e w9 ⟨v, rfl, ⟨r1, r2⟩, r3⟩; rw [ex_r.1]; have r1' : Reads w9 v [97, 98, 99, 100] := (by rw [ex_r.2] at r1; exact r1); have H9 : Hid (DskAt w9 (C8.new w8.heap.size (0, 0, 0)) 1 d 8 exS4 ∧ Inv w w9 (C8.new w8.heap.size (0, 0, 0)) ∧ Reads w9 v [97, 98, 99, 100] ∧ ∀ A n c, v = .slice (some A) n c → ((C8.new w8.heap.size (0, 0, 0)) A.block).1 = 0) := Lib.hid ⟨H8.out.2.1.quiet r3 (Agr.new _ _ _), H8.out.2.2.quiet r3 (Agr.new _ _ _), r1', fun A n c e => by rw [Col.new_ge (r2 A n c e)]⟩; obtain ⟨Av, cv, rfl, -⟩ := r1'; clear r1 r2 r3)
  go_upto_region 15 with (go_at_call 15; refine (restart_any H9.out.1 0 [] _ (by decide) (rowR_nil _) (fun A n c e => by cases e) (by simp) (by decide)).mono ?_; rintro e w10 hp; obtain ⟨rfl, k10, C10, g1, g2, g3⟩ := H9.out.2.1.op (by decide) hp; have H10 : Hid (DskAt w10 C10 1 d 8 (exS4.rest 0 []) ∧ Inv w w10 C10 ∧ Reads w10 (.slice Av [97, 98, 99, 100].length cv) [97, 98, 99, 100]) := Lib.hid ⟨g1, g2, H9.out.2.2.1.keptS k10 (fun A n c e e2 => by rw [H9.out.2.2.2 A n c e] at e2; cases e2)⟩; clear hp k10 g1 g2 g3)
  go_upto_region 16 with (go_at_call 17; refine (size_any H10.out.1 nmA nmSize).mono ?_; rintro e w11 ⟨rfl, r1⟩; rw [ex_z]; have H11 := Lib.hid (And.intro (H10.out.2.1.quiet r1 (Agr.refl _ _)) (H10.out.2.2.kept r1)); clear r1)
  have hstr := H11.out.2.string (P := Try.prog) Try.underlying38 Try.underlying5 Try.underlying9
  rw [ex_s] at hstr
  replace hstr : (convert 38 9 (.slice Av 4 cv)).run Try.prog w11 = .ok (.string ⟨#[97, 98, 99, 100]⟩) w11 := hstr
  go_wp2_with fail
  go_ret
  exact ⟨rfl, H11.out.1.kept⟩
end Go.Proofs.Ytgohjgeplageeaa
