/- Bytes as a text; the chapter's first example, plain. -/
import Derived.Test.YtgohjgeplageeaaN2
import Derived.Test.YtgohjgeplageeaaG6
import Derived.Test.YtgohjgeplageeaaG7
import Derived.KernelRfl
namespace Go.Proofs.Ytgohjgeplageeaa
open Go Go.RowKit
set_option linter.unusedVariables false
set_option linter.unusedSimpArgs false

/-- A list that lies at block b from off on. -/
def Here (b off : Nat) (l : List Int) (w : World) : Prop := ∀ j, j < l.length → w.cell? ⟨b, off + j, none⟩ = some (.int .u8 (l.getD j 0))
theorem add_lit' (b off j : Nat) : (⟨b, off, none⟩ : Addr).add j = ⟨b, off + j, none⟩ := by unfold Addr.add; split <;> simp_all
theorem reads_here {w : World} {v : Value} {l : List Int} (h : Reads w v l) (hl : 0 < l.length) : ∃ b off c, v = .slice (some ⟨b, off, none⟩) l.length c ∧ l.length ≤ c ∧ Here b off l w := by
  obtain ⟨A, c, rfl, h0, hc⟩ := h
  obtain ⟨⟨b, off, spot⟩, rfl, hc0⟩ := hc 0 _ (nums_get .u8 l 0 hl)
  have hspot : spot = none := by simpa [Addr.add] using World.cell?_spot hc0
  subst hspot
  refine ⟨b, off, c, rfl, h0.2, fun j hj => ?_⟩
  obtain ⟨ad, he, hcell⟩ := hc j _ (nums_get .u8 l j hj)
  injection he with he
  subst he
  rwa [add_lit'] at hcell
theorem Here.string {P : Program} {w : World} {b off : Nat} {src dst e : TypeId} {l : List Int} {n c : Nat} (hs : P.underlying src = some (.slice e)) (he : P.underlying e = some (.int .u8)) (hd : P.underlying dst = some .string)
    (h : Here b off l w) (hn : l.length = n) : (convert src dst (.slice (some ⟨b, off, none⟩) n c)).run P w = .ok (.string (strOfNums l)) w := by
  subst hn
  exact run_convert_bytes_arg w src e hs he b off _ c l rfl (fun i hi => h i hi) dst hd

theorem convert_none {P : Program} {src dst e : TypeId} (hs : P.underlying src = some (.slice e)) (he : P.underlying e = some (.int .u8)) (hd : P.underlying dst = some .string) (w : World) (A : Option Addr) (c : Nat) :
    (convert src dst (.slice A 0 c)).run P w = .ok (.string (strOfNums [])) w := by
  cases A with
  | none => exact run_convert_bytes_nil w src e hs he 0 c dst hd
  | some a =>
    rw [run_convert_bytes_string w src dst e _ 0 c hs he hd]
    simp [Conv.bytesToString, loadCells, loadCellsFrom]
    rfl
theorem Reads.string {P : Program} {src dst e : TypeId} (hs : P.underlying src = some (.slice e)) (he : P.underlying e = some (.int .u8)) (hd : P.underlying dst = some .string) {w : World} {v : Value} {l : List Int} (h : Reads w v l) :
    (convert src dst v).run P w = .ok (.string (strOfNums l)) w := by
  rcases Nat.eq_zero_or_pos l.length with h0 | h0
  · obtain rfl : l = [] := List.eq_nil_of_length_eq_zero h0
    obtain ⟨A, c, rfl, -⟩ := h
    exact convert_none hs he hd w A c
  · obtain ⟨b, off, c, rfl, hc, hh⟩ := reads_here h h0
    exact hh.string hs he hd rfl

def nmA : ByteArray := ⟨#[97]⟩
def exS1 : Dsk := Dsk.new.creD nmA
def exS2 : Dsk := exS1.appD nmA [97, 98, 99]
def exS3 : Dsk := exS2.syncD nmA
def exS4 : Dsk := exS3.appD nmA [100, 101]
theorem ex_e1 : Dsk.new.creE nmA = 0 := by kernel_rfl
theorem ex_e2 : exS1.syncE nmA = 0 := by kernel_rfl
theorem ex_e3 : exS2.syncE nmA = 0 := by kernel_rfl
theorem ex_e4 : exS3.syncE nmA = 0 := by kernel_rfl
theorem ex_k : exS4.mvs.length = 1 ∧ exS4.made.length = 1 ∧ exS4.pendL = [2] := ⟨by kernel_rfl, by kernel_rfl, by kernel_rfl⟩
theorem ex_r : (exS4.rest 1 [1]).readE nmA 0 4 = 0 ∧ (exS4.rest 1 [1]).readL nmA 0 4 = [97, 98, 99, 100] := ⟨by kernel_rfl, by kernel_rfl⟩
theorem ex_z : (exS4.rest 0 []).err nmA = 72 := by kernel_rfl
theorem ex_s : strOfNums [97, 98, 99, 100] = ⟨#[97, 98, 99, 100]⟩ := by kernel_rfl
end Go.Proofs.Ytgohjgeplageeaa
