/- frame.table lays the sixteen entries of its table; words on numbers of 32 bits. -/
import Derived.Test.YtoolimfdncfgnaaProg
import Derived.Test.YtoolimfdncfgnaaLib
import Derived.WalkLawsBesides
import Derived.Outline
import Derived.Deep.LoopGhost
import Derived.Lib.Hide
import Derived.Laws.Rows
namespace Go.Proofs.Ytoolimfdncfgnaa
open Go.RowKit
set_option linter.unusedVariables false
set_option linter.unusedSimpArgs false

/-! ### whole numbers of 32 bits -/
theorem xor_nat (k : IntKind) (j : Nat) (hj : j ≤ k.bits) (hk : ∀ n : Int, 0 ≤ n → n < 2 ^ j → k.wrap n = n) (a b : Nat) (ha : a < 2 ^ j) (hb : b < 2 ^ j) :
    bits .xor k a b = ((a ^^^ b : Nat) : Int) := by
  have hp : 2 ^ j ≤ 2 ^ k.bits := Nat.pow_le_pow_right (by decide) hj
  have ha' : a % 2 ^ k.bits = a := Nat.mod_eq_of_lt (Nat.lt_of_lt_of_le ha hp)
  have hb' : b % 2 ^ k.bits = b := Nat.mod_eq_of_lt (Nat.lt_of_lt_of_le hb hp)
  have cast : ∀ n : Nat, n < 2 ^ j → ((n : Nat) : Int) < 2 ^ j := fun n h => by exact_mod_cast h
  simp only [bits, BitVec.ofInt_natCast, BitVec.toNat_xor, BitVec.toNat_ofNat, ha', hb']
  exact hk _ (Int.natCast_nonneg _) (cast _ (Nat.xor_lt_two_pow ha hb))
theorem wraps_u32 (n : Int) (h₀ : 0 ≤ n) (h₁ : n < 2 ^ 32) : IntKind.u32.wrap n = n := by rw [IntKind.wrap_u32]; omega
theorem xor32 (a b : Nat) (ha : a < 4294967296) (hb : b < 4294967296) : bits .xor .u32 (a : Int) (b : Int) = ((a ^^^ b : Nat) : Int) :=
  xor_nat .u32 32 (by decide) wraps_u32 a b ha hb
theorem xor32_lt {a b : Nat} (ha : a < 4294967296) (hb : b < 4294967296) : a ^^^ b < 4294967296 := Nat.xor_lt_two_pow (n := 32) ha hb
theorem and32 (a i : Nat) (hi : i ≤ 32) (ha : a < 4294967296) : bits .and .u32 (a : Int) (2 ^ i - 1) = ((a % 2 ^ i : Nat) : Int) := by
  have := bits_mask .u32 32 (by decide) wraps_u32 i hi (a : Int) (by omega) (by omega)
  rw [this]; simp

/-- One bit falls out. -/
def bstep (c : Nat) : Nat := if c % 2 = 1 then (c / 2) ^^^ 2197175160 else c / 2
def bsteps : Nat → Nat → Nat
  | 0, c => c
  | k + 1, c => bstep (bsteps k c)
theorem bstep_lt {c : Nat} (h : c < 4294967296) : bstep c < 4294967296 := by
  unfold bstep; split
  · exact xor32_lt (by omega) (by decide)
  · omega
theorem bsteps_lt (k : Nat) {c : Nat} (h : c < 4294967296) : bsteps k c < 4294967296 := by
  induction k with
  | zero => exact h
  | succ k ih => exact bstep_lt ih
/-- The table, of which the first n are laid. -/
def tab (n : Nat) : List Int := (List.range 16).map fun j => if j < n then ((bsteps 4 j : Nat) : Int) else 0
theorem tab_len (n : Nat) : (tab n).length = 16 := by simp [tab]

def tabLits : Array Value := #[.int .u32 0, .int .u32 274646895, .int .u32 549293790, .int .u32 820201905, .int .u32 1098587580, .int .u32 1361435347, .int .u32 1640403810, .int .u32 1905808397, .int .u32 2197175160, .int .u32 2460548119, .int .u32 2722870694, .int .u32 2987750089, .int .u32 3280807620, .int .u32 3553878443, .int .u32 3811616794, .int .u32 4084100981]
theorem tab16 : (nums .u32 (tab 16)).toArray = tabLits := by
  have h : tab 16 = [0, 274646895, 549293790, 820201905, 1098587580, 1361435347, 1640403810, 1905808397, 2197175160, 2460548119, 2722870694, 2987750089, 3280807620, 3553878443, 3811616794, 4084100981] := by decide +kernel
  rw [h]; rfl
def TabOut (w : World) (e : Ending) (w' : World) : Prop := e = .returned (.agg #[.int .u32 0, .int .u32 274646895, .int .u32 549293790, .int .u32 820201905, .int .u32 1098587580, .int .u32 1361435347, .int .u32 1640403810, .int .u32 1905808397, .int .u32 2197175160, .int .u32 2460548119, .int .u32 2722870694, .int .u32 2987750089, .int .u32 3280807620, .int .u32 3553878443, .int .u32 3811616794, .int .u32 4084100981]) ∧ Kept (fun _ => False) w w'
theorem tab_set (i : Nat) (h : i < 16) : ((nums .u32 (tab i)).toArray).setIfInBounds i (.int .u32 (bsteps 4 i : Nat)) = (nums .u32 (tab (i + 1))).toArray := by
  have h2 : ∀ i : Fin 16, (tab i.val).set i.val ((bsteps 4 i.val : Nat) : Int) = tab (i.val + 1) := by decide +kernel
  have := h2 ⟨i, h⟩
  simp only at this
  rw [← this]
  simp [nums]

theorem Try.cells74 : Try.prog.cellsOf 74 = 16 := by kernel_rfl
theorem Try.size74 : (Try.prog.info? 74).map (·.size) = some 16 := by kernel_rfl

def TabRel (w : World) (v : Value) (wr : World) : Prop :=
  ∃ i : Nat, v = .int .i64 i ∧ i ≤ 16 ∧ wr.heap[w.heap.size + 1]? = some (.cells (nums .u32 (tab i)).toArray 74 (0, 0)) ∧ wr.heap[w.heap.size]? = some (.cells #[.int .u32 0, .int .u32 0, .int .u32 0, .int .u32 0, .int .u32 0, .int .u32 0, .int .u32 0, .int .u32 0, .int .u32 0, .int .u32 0, .int .u32 0, .int .u32 0, .int .u32 0, .int .u32 0, .int .u32 0, .int .u32 0] 74 (0, 0)) ∧ Kept (fun _ => False) w wr

set_option maxHeartbeats 2000000 in
theorem table_any (w : World) : Calls Try.prog 42 #[] w (TabOut w) := by
  go_enter Try.func42, Try.ntmps42
  go_wp2_with fail
  go_loopw [4] (fun v wr => TabRel w v wr) (fun v _ => 16 - (intOf v).toNat)
  case atStart =>
    refine ⟨0, rfl, by decide, ?_, heap_alloc2_old _ _ _, (Kept.alloc _ _ _).trans (Kept.alloc _ _ _) (fun _ _ e => e) (fun _ _ e => e)⟩
    rw [heap_alloc2_new]; rfl
  case round =>
    obtain ⟨i, rfl, hi, hb, hb0, hk⟩ := hrel
    have HB := Lib.hid hb; clear hb
    by_cases h : i < 16
    · have h' : (i : Int) < 16 := by omega
      go_wp2_with fail
      go_loop [3, 9] (fun c n => ∃ k : Nat, n = .int .i64 k ∧ k ≤ 4 ∧ c = .int .u32 (bsteps k i : Nat)) (fun _ n => 4 - (intOf n).toNat)
      case atStart => exact ⟨0, rfl, by decide, by simp [bsteps]⟩
      case round =>
        obtain ⟨k, rfl, hk4, rfl⟩ := hrel
        have hl := bsteps_lt k (show i < 4294967296 by omega)
        obtain ⟨c, hc⟩ : ∃ c, c = bsteps k i := ⟨_, rfl⟩
        have hs : bsteps (k + 1) i = bstep c := by rw [hc]; rfl
        rw [← hc] at hl
        have HC := Lib.hid hc; have HS := Lib.hid hs
        clear hs
        by_cases h4 : k < 4
        · have h4' : (k : Int) < 4 := by omega
          rw [← hc]
          clear hc
          have ha := and32 c 1 (by decide) hl
          have hx := xor32 (c / 2) 2197175160 (by omega) (by decide)
          by_cases hodd : c % 2 = 1
          · have e1 : (bits .and .u32 (c : Int) 1 == 1) = true := by
              rw [beq_iff_eq]; rw [show ((2 : Int) ^ 1 - 1) = 1 by decide] at ha; rw [ha]; omega
            have hx' : bits .xor .u32 ((c : Int) / 2) 2197175160 = ((c / 2 ^^^ 2197175160 : Nat) : Int) := by rw [← hx]; rfl
            have HX := Lib.hid hx'
            clear ha hx hx'
            go_wp2_with fail
            refine ⟨⟨k + 1, by go_num, by omega, ?_⟩, by simp [intOf]; omega⟩
            rw [HX.out, HS.out, bstep, if_pos hodd]
          · have e1 : (bits .and .u32 (c : Int) 1 == 1) = false := by
              rw [beq_eq_false_iff_ne]; rw [show ((2 : Int) ^ 1 - 1) = 1 by decide] at ha; rw [ha]; omega
            clear ha hx
            go_wp2_with fail
            refine ⟨⟨k + 1, by go_num, by omega, ?_⟩, by simp [intOf]; omega⟩
            rw [HS.out, bstep, if_neg hodd]; simp
        · obtain rfl : k = 4 := by omega
          have hf := blk_frozen HB.out i
          have hcell : ∃ u, wr.cell? ⟨w.heap.size + 1, i, none⟩ = some u := by
            rw [blk_cell HB.out]; exact ⟨_, Array.getElem?_eq_getElem (by simp [nums, tab_len]; omega)⟩
          obtain ⟨u, hu⟩ := hcell
          clear hc h4
          go_wp2_with fail
          have hk2 : Kept (fun k => k = w.heap.size + 1) wr (wr.setCell ⟨w.heap.size + 1, i, none⟩ (.int .u32 (bsteps 4 i : Nat))) := Kept.setCell _ _ _ rfl
          refine ⟨⟨i + 1, by go_num, by omega, ?_, blk_kept hk2 hb0 (by omega), hk.trans hk2 (fun _ _ e => e) (fun k hk e => by omega)⟩, by simp [intOf]; omega⟩
          rw [blk_set HB.out, tab_set i h]
    · obtain rfl : i = 16 := by omega
      have hb := HB.out
      rw [tab16] at hb
      unfold tabLits at hb
      clear HB h
      have hc0 : wr.cell? ⟨w.heap.size, 0, none⟩ = some (.int .u32 0) := (blk_cell hb0 0).trans rfl
      have hc1 : wr.cell? ⟨w.heap.size, 1, none⟩ = some (.int .u32 0) := (blk_cell hb0 1).trans rfl
      have hc2 : wr.cell? ⟨w.heap.size, 2, none⟩ = some (.int .u32 0) := (blk_cell hb0 2).trans rfl
      have hc3 : wr.cell? ⟨w.heap.size, 3, none⟩ = some (.int .u32 0) := (blk_cell hb0 3).trans rfl
      have hc4 : wr.cell? ⟨w.heap.size, 4, none⟩ = some (.int .u32 0) := (blk_cell hb0 4).trans rfl
      have hc5 : wr.cell? ⟨w.heap.size, 5, none⟩ = some (.int .u32 0) := (blk_cell hb0 5).trans rfl
      have hc6 : wr.cell? ⟨w.heap.size, 6, none⟩ = some (.int .u32 0) := (blk_cell hb0 6).trans rfl
      have hc7 : wr.cell? ⟨w.heap.size, 7, none⟩ = some (.int .u32 0) := (blk_cell hb0 7).trans rfl
      have hc8 : wr.cell? ⟨w.heap.size, 8, none⟩ = some (.int .u32 0) := (blk_cell hb0 8).trans rfl
      have hc9 : wr.cell? ⟨w.heap.size, 9, none⟩ = some (.int .u32 0) := (blk_cell hb0 9).trans rfl
      have hc10 : wr.cell? ⟨w.heap.size, 10, none⟩ = some (.int .u32 0) := (blk_cell hb0 10).trans rfl
      have hc11 : wr.cell? ⟨w.heap.size, 11, none⟩ = some (.int .u32 0) := (blk_cell hb0 11).trans rfl
      have hc12 : wr.cell? ⟨w.heap.size, 12, none⟩ = some (.int .u32 0) := (blk_cell hb0 12).trans rfl
      have hc13 : wr.cell? ⟨w.heap.size, 13, none⟩ = some (.int .u32 0) := (blk_cell hb0 13).trans rfl
      have hc14 : wr.cell? ⟨w.heap.size, 14, none⟩ = some (.int .u32 0) := (blk_cell hb0 14).trans rfl
      have hc15 : wr.cell? ⟨w.heap.size, 15, none⟩ = some (.int .u32 0) := (blk_cell hb0 15).trans rfl
      have hf := fun j => blk_frozen hb0 j
      have hend : ∀ W, W.heap[w.heap.size]? = some (.cells #[.int .u32 0, .int .u32 274646895, .int .u32 549293790, .int .u32 820201905, .int .u32 1098587580, .int .u32 1361435347, .int .u32 1640403810, .int .u32 1905808397, .int .u32 2197175160, .int .u32 2460548119, .int .u32 2722870694, .int .u32 2987750089, .int .u32 3280807620, .int .u32 3553878443, .int .u32 3811616794, .int .u32 4084100981] 74 (0, 0)) → Kept (fun k => k = w.heap.size) wr W → TabOut w (.returned (.agg #[.int .u32 0, .int .u32 274646895, .int .u32 549293790, .int .u32 820201905, .int .u32 1098587580, .int .u32 1361435347, .int .u32 1640403810, .int .u32 1905808397, .int .u32 2197175160, .int .u32 2460548119, .int .u32 2722870694, .int .u32 2987750089, .int .u32 3280807620, .int .u32 3553878443, .int .u32 3811616794, .int .u32 4084100981])) W :=
        fun W _ k => ⟨rfl, hk.trans k (fun _ _ e => e) (fun k hk e => by omega)⟩
      have HE := Lib.hid hend; clear hend
      have HB0 := Lib.hid hb0
      clear hb0
      go_wp2_with (refine wpList_load_row rfl 74 (.tmp 1) rfl (w.heap.size + 1) rfl 74 _ (0, 0) _ hb Try.underlying74 rfl Try.size74 ?_)
      have hb0 := HB0.out
      have hW := (blk_set (blk_set (blk_set (blk_set (blk_set (blk_set (blk_set (blk_set (blk_set (blk_set (blk_set (blk_set (blk_set (blk_set (blk_set (blk_set hb0 0 (.int .u32 0)) 1 (.int .u32 274646895)) 2 (.int .u32 549293790)) 3 (.int .u32 820201905)) 4 (.int .u32 1098587580)) 5 (.int .u32 1361435347)) 6 (.int .u32 1640403810)) 7 (.int .u32 1905808397)) 8 (.int .u32 2197175160)) 9 (.int .u32 2460548119)) 10 (.int .u32 2722870694)) 11 (.int .u32 2987750089)) 12 (.int .u32 3280807620)) 13 (.int .u32 3553878443)) 14 (.int .u32 3811616794)) 15 (.int .u32 4084100981))
      have hK : Kept (fun k => k = w.heap.size) wr _ := (Kept.trans (Kept.trans (Kept.trans (Kept.trans (Kept.trans (Kept.trans (Kept.trans (Kept.trans (Kept.trans (Kept.trans (Kept.trans (Kept.trans (Kept.trans (Kept.trans (Kept.trans (Kept.trans (Kept.refl (fun k => k = w.heap.size) _) (Kept.setCell (S := fun k => k = w.heap.size) _ ⟨w.heap.size, 0, none⟩ (.int .u32 0) rfl) (fun _ _ e => e) (fun _ _ e => e)) (Kept.setCell (S := fun k => k = w.heap.size) _ ⟨w.heap.size, 1, none⟩ (.int .u32 274646895) rfl) (fun _ _ e => e) (fun _ _ e => e)) (Kept.setCell (S := fun k => k = w.heap.size) _ ⟨w.heap.size, 2, none⟩ (.int .u32 549293790) rfl) (fun _ _ e => e) (fun _ _ e => e)) (Kept.setCell (S := fun k => k = w.heap.size) _ ⟨w.heap.size, 3, none⟩ (.int .u32 820201905) rfl) (fun _ _ e => e) (fun _ _ e => e)) (Kept.setCell (S := fun k => k = w.heap.size) _ ⟨w.heap.size, 4, none⟩ (.int .u32 1098587580) rfl) (fun _ _ e => e) (fun _ _ e => e)) (Kept.setCell (S := fun k => k = w.heap.size) _ ⟨w.heap.size, 5, none⟩ (.int .u32 1361435347) rfl) (fun _ _ e => e) (fun _ _ e => e)) (Kept.setCell (S := fun k => k = w.heap.size) _ ⟨w.heap.size, 6, none⟩ (.int .u32 1640403810) rfl) (fun _ _ e => e) (fun _ _ e => e)) (Kept.setCell (S := fun k => k = w.heap.size) _ ⟨w.heap.size, 7, none⟩ (.int .u32 1905808397) rfl) (fun _ _ e => e) (fun _ _ e => e)) (Kept.setCell (S := fun k => k = w.heap.size) _ ⟨w.heap.size, 8, none⟩ (.int .u32 2197175160) rfl) (fun _ _ e => e) (fun _ _ e => e)) (Kept.setCell (S := fun k => k = w.heap.size) _ ⟨w.heap.size, 9, none⟩ (.int .u32 2460548119) rfl) (fun _ _ e => e) (fun _ _ e => e)) (Kept.setCell (S := fun k => k = w.heap.size) _ ⟨w.heap.size, 10, none⟩ (.int .u32 2722870694) rfl) (fun _ _ e => e) (fun _ _ e => e)) (Kept.setCell (S := fun k => k = w.heap.size) _ ⟨w.heap.size, 11, none⟩ (.int .u32 2987750089) rfl) (fun _ _ e => e) (fun _ _ e => e)) (Kept.setCell (S := fun k => k = w.heap.size) _ ⟨w.heap.size, 12, none⟩ (.int .u32 3280807620) rfl) (fun _ _ e => e) (fun _ _ e => e)) (Kept.setCell (S := fun k => k = w.heap.size) _ ⟨w.heap.size, 13, none⟩ (.int .u32 3553878443) rfl) (fun _ _ e => e) (fun _ _ e => e)) (Kept.setCell (S := fun k => k = w.heap.size) _ ⟨w.heap.size, 14, none⟩ (.int .u32 3811616794) rfl) (fun _ _ e => e) (fun _ _ e => e)) (Kept.setCell (S := fun k => k = w.heap.size) _ ⟨w.heap.size, 15, none⟩ (.int .u32 4084100981) rfl) (fun _ _ e => e) (fun _ _ e => e))
      exact bodyPost_ret (v := .agg #[.int .u32 0, .int .u32 274646895, .int .u32 549293790, .int .u32 820201905, .int .u32 1098587580, .int .u32 1361435347, .int .u32 1640403810, .int .u32 1905808397, .int .u32 2197175160, .int .u32 2460548119, .int .u32 2722870694, .int .u32 2987750089, .int .u32 3280807620, .int .u32 3553878443, .int .u32 3811616794, .int .u32 4084100981]) (results_cell_row rfl _ _ w.heap.size 74 _ (0, 0) _ rfl hW Try.underlying74 rfl Try.size74) rfl (HE.out _ hW hK)
end Go.Proofs.Ytoolimfdncfgnaa
