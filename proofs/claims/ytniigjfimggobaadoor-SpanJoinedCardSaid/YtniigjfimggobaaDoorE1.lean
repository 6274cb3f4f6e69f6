/- raw: a number in 8 bytes, laid down (the walk). -/
import Derived.Test.YtniigjfimggobaaDoorS4
namespace Go.Proofs.YtniigjfimggobaaDoor
open Go.RowKit
set_option linter.unusedVariables false
set_option linter.unusedSimpArgs false

theorem WrStep.later {T E B g : Nat} {v v' : Value} {l : List Int} {w w0 w' : World} (h : Kept (fun _ => False) w w0) (j : WrStep T E B g v w0 v' l w') : WrStep T E B g v w v' l w' :=
  ⟨j.at_, (Moved.refl v w).trans j.moved h.size, h.trans j.kept (fun _ _ e => e.elim) fun _ _ e => e⟩
/-- The first k of 8 bytes are laid. -/
def rawK (x k : Nat) : Array Value := ((nums .u8 ((raw8 x).take k)) ++ List.replicate (8 - k) (Value.int .u8 0)).toArray
theorem raw8_get (x k : Nat) (hk : k < 8) : (raw8 x)[k]? = some (((x / 2 ^ (56 - 8 * k)) % 256 : Nat) : Int) := by
  rw [raw8_eq]
  match k, hk with
  | 0, _ => rfl
  | 1, _ => rfl
  | 2, _ => rfl
  | 3, _ => rfl
  | 4, _ => rfl
  | 5, _ => rfl
  | 6, _ => rfl
  | 7, _ => simp
theorem rawK_size (x k : Nat) (hk : k ≤ 8) : (rawK x k).size = 8 := by
  simp only [rawK, List.size_toArray, List.length_append, nums_length, List.length_take, raw8_len, List.length_replicate]; omega
theorem rawK_succ (x k : Nat) (hk : k < 8) : (rawK x k).setIfInBounds k (.int .u8 (((x / 2 ^ (56 - 8 * k)) % 256 : Nat) : Int)) = rawK x (k + 1) := by
  apply Array.toList_inj.1
  rw [Array.toList_setIfInBounds]
  simp only [rawK]
  rw [List.take_add_one, raw8_get x k hk, Option.toList_some]
  have hl : (nums .u8 ((raw8 x).take k)).length = k := by rw [nums_length, List.length_take, raw8_len]; omega
  rw [nums_append, List.set_append_right _ _ (by omega), hl, Nat.sub_self, show 8 - k = (8 - (k + 1)) + 1 by omega, List.replicate_succ, List.set_cons_zero, List.append_assoc]
  rfl
theorem rawK_get (x k : Nat) (hk : k < 8) : (rawK x k)[k]? = some (.int .u8 0) := by
  have hl : (nums .u8 ((raw8 x).take k)).length = k := by rw [nums_length, List.length_take, raw8_len]; omega
  simp only [rawK, List.getElem?_toArray]
  rw [List.getElem?_append_right (by omega), hl, Nat.sub_self, show 8 - k = (8 - (k + 1)) + 1 by omega, List.replicate_succ]
  rfl
set_option maxHeartbeats 1000000 in
set_option maxRecDepth 100000 in
theorem rawSpan_any (B g : Nat) (v : Value) (l : List Int) (x : Nat) (w : World) (hx : x < 18446744073709551616) (hw : WrAt 117 5 B w g v l) (hl : l.length + 8 ≤ 140737488355328) :
    Calls Tryd.prog 37 #[.pointer (some ⟨g, 0, none⟩), .int .u64 x] w (UintPost B g v (l ++ raw8 x) w) := by
  have HW := Lib.hid hw
  clear hw
  go_enter Tryd.func37, Tryd.ntmps37
  go_wp2_with fail
  obtain ⟨q, hq⟩ : ∃ q, q = w.heap.size := ⟨_, rfl⟩
  obtain ⟨W0, hW0⟩ : ∃ W0, W0 = w.alloc (.cells (rawK x 0) 118) := ⟨_, rfl⟩
  rw [show w.alloc (.cells #[.int .u8 0, .int .u8 0, .int .u8 0, .int .u8 0, .int .u8 0, .int .u8 0, .int .u8 0, .int .u8 0] 118) = W0 from hW0.symm, ← hq]
  have h0 : W0.heap[q]? = some (.cells (rawK x 0) 118 (0, 0)) := by rw [hW0, hq]; exact heap_alloc_new w _
  have hk0 : Kept (fun _ => False) w W0 := by rw [hW0]; exact .alloc _ _ _
  have hne : g < q := by rw [hq]; exact blk_lt HW.out.blk
  have HQ := Lib.hid hq
  clear hW0 hq
  go_loopw [6] (fun i wr => ∃ k : Nat, k ≤ 8 ∧ i = .int .i64 k ∧ wr.heap[q]? = some (.cells (rawK x k) 118 (0, 0)) ∧ Kept (fun _ => False) w wr) (fun i _ => 8 - (intOf i).toNat)
  case atStart => exact ⟨0, by omega, rfl, h0, hk0⟩
  obtain ⟨k, hk, rfl, hb, hkw⟩ := hrel
  have k0 : (0 : Int) ≤ k := by omega
  clear h0 hk0
  by_cases hk8 : k < 8
  · have k1 : (k : Int) < 8 := by omega
    have k1' := hk8
    have g1 := blk_frozen hb k
    have g2 : wr.cell? ⟨q, k, none⟩ = some (.int .u8 0) := (blk_cell hb k).trans (rawK_get x k hk8)
    have HB := Lib.hid (And.intro hb hkw)
    clear hb hkw hk8
    go_wp2_with fail
    refine ⟨⟨k + 1, by omega, by congr 1, ?_, ?_⟩, by simp [intOf]; omega⟩
    · rw [blk_set HB.out.1, ← rawK_succ x k k1']
      congr 4
    · exact HB.out.2.trans (Kept.setCell (S := fun i => i = q) _ _ _ rfl) (fun _ _ e => e) (fun i hi e => by have := HQ.out; omega)
  · obtain rfl : k = 8 := by omega
    have hlies : Lies 118 0 wr (.slice (some ⟨q, 0, none⟩) 8 8) (raw8 x) := by
      refine .inr ⟨q, 8, rawK x 8, by rw [raw8_len], Nat.zero_le _, hb, by rw [raw8_len]; omega, by rw [rawK_size x 8 hk]; omega, by unfold maxLen; omega, ?_⟩
      simp only [rawK, Nat.sub_self, List.replicate_zero, List.append_nil]
      rw [List.take_of_length_le (l := raw8 x) (by rw [raw8_len]; omega), List.take_of_length_le (by rw [nums_length]; omega)]
    have hwr := HW.out.kept hkw (fun h => h) (fun _ _ h => h)
    have HL := Lib.hid (And.intro hlies.reads (And.intro hkw hwr))
    have k1 : ¬ ((8 : Nat) : Int) < 8 := by omega
    clear hlies hb hkw hwr
    go_wp2_with fail
    refine (raw_any B g v _ l (raw8 x) wr HL.out.1 HL.out.2.2 (by rw [raw8_len]; exact hl)).mono ?_
    rintro e w1 ⟨rfl, v', hst⟩
    have HS := Lib.hid hst
    clear hst
    go_wp2_with fail
    go_end0
    exact ⟨rfl, v', WrStep.later HL.out.2.1 HS.out⟩
end Go.Proofs.YtniigjfimggobaaDoor
