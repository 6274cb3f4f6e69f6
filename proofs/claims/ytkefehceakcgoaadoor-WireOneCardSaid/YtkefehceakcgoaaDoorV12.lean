/- Parts in a list; a text as new bytes (plain). -/
import Derived.Test.YtkefehceakcgoaaDoorV11
import Derived.Lib.ConvBytes
namespace Go.Proofs.YtkefehceakcgoaaDoor
open Go.RowKit
set_option linter.unusedVariables false
set_option linter.unusedSimpArgs false

/-- Parts that came in. -/
def QsReads (w : World) (v : Value) (qs : List Prt) : Prop :=
  ∃ A c, v = .slice A qs.length c ∧ (0 < qs.length → ∃ b off, A = some ⟨b, off, none⟩ ∧ ∀ (i : Nat) q, qs[i]? = some q →
    w.cell? ⟨b, off + i * 5, none⟩ = some (.int .i64 q.k) ∧ w.cell? ⟨b, off + i * 5 + 1, none⟩ = some (.int .i64 q.m) ∧ w.cell? ⟨b, off + i * 5 + 2, none⟩ = some (.int .u64 q.u) ∧ w.cell? ⟨b, off + i * 5 + 3, none⟩ = some (.int .i64 q.i) ∧ w.cell? ⟨b, off + i * 5 + 4, none⟩ = some (.string (strOfNums q.s)))
theorem cell_kept {w w' : World} (hk : Kept (fun _ => False) w w') {a : Addr} {u : Value} (h : w.cell? a = some u) : w'.cell? a = some u :=
  (World.cell?_of_block (hk.block a.block (World.block_lt_of_cell? w a h) (fun e => e))).trans h

/-- What the parts' bounds come to. -/
def sumTo (qs : List Prt) (n : Nat) : Nat := ((qs.take n).map fun q => 10 + q.s.length).sum
theorem sumTo_zero (qs : List Prt) : sumTo qs 0 = 0 := by simp [sumTo]
theorem sumTo_succ {qs : List Prt} {n : Nat} {q : Prt} (h : qs[n]? = some q) : sumTo qs (n + 1) = sumTo qs n + 10 + q.s.length := by
  unfold sumTo
  rw [List.take_add_one, h, List.map_append, List.sum_append]
  simp
  omega
theorem sumTo_mono (qs : List Prt) (n m : Nat) (h : n ≤ m) : sumTo qs n ≤ sumTo qs m := by
  induction m with
  | zero => obtain rfl : n = 0 := by omega
            exact Nat.le_refl _
  | succ m ih =>
    rcases Nat.lt_or_ge n (m + 1) with h' | h'
    · have := ih (by omega)
      rcases hq : qs[m]? with _ | q
      · have : sumTo qs (m + 1) = sumTo qs m := by unfold sumTo; rw [List.take_add_one, hq]; simp
        omega
      · have := sumTo_succ hq
        omega
    · obtain rfl : n = m + 1 := by omega
      exact Nat.le_refl _
theorem sumTo_part {qs : List Prt} {n : Nat} {q : Prt} (h : qs[n]? = some q) : q.s.length ≤ sumTo qs qs.length := by
  have h1 := sumTo_succ h
  have hn := (List.getElem?_eq_some_iff.1 h).1
  have h2 := sumTo_mono qs (n + 1) qs.length (by omega)
  omega
theorem sumTo_ge (qs : List Prt) (n : Nat) (h : n ≤ qs.length) : 10 * n ≤ sumTo qs n := by
  induction n with
  | zero => omega
  | succ n ih =>
    have hq : qs[n]? = some qs[n] := List.getElem?_eq_getElem (by omega)
    rw [sumTo_succ hq]
    have := ih (by omega)
    omega
/-- All parts' bytes. -/
def encs (qs : List Prt) : List Int := qs.flatMap Prt.enc
theorem encs_take {qs : List Prt} {n : Nat} {q : Prt} (h : qs[n]? = some q) : encs (qs.take (n + 1)) = encs (qs.take n) ++ q.enc := by
  unfold encs
  rw [List.take_add_one, h, List.flatMap_append]
  simp
theorem encs_drop {qs : List Prt} {n : Nat} {q : Prt} (h : qs[n]? = some q) : (encs qs).drop (encs (qs.take n)).length = q.enc ++ encs (qs.drop (n + 1)) := by
  have hn := (List.getElem?_eq_some_iff.1 h).1
  have e : qs = qs.take n ++ (q :: qs.drop (n + 1)) := by
    have := (List.getElem?_eq_some_iff.1 h).2
    rw [← this, ← List.drop_eq_getElem_cons hn, List.take_append_drop]
  have e2 : encs qs = encs (qs.take n) ++ (q.enc ++ encs (qs.drop (n + 1))) := by
    conv => lhs; rw [e]
    simp [encs]
  rw [e2, List.drop_left]
theorem encs_len (qs : List Prt) (n : Nat) (hok : ∀ q ∈ qs, q.ok ∧ q.s.length ≤ 2147483647) : (encs (qs.take n)).length ≤ sumTo qs n := by
  induction n with
  | zero => simp [encs]
  | succ n ih =>
    rcases hq : qs[n]? with _ | q
    · rw [List.take_add_one, hq]
      unfold sumTo
      rw [List.take_add_one, hq]
      simp only [Option.toList_none, List.append_nil]
      exact ih
    · rw [encs_take hq, List.length_append, sumTo_succ hq]
      have hm := hok q (List.mem_of_getElem? hq)
      have := q.enc_len hm.1 hm.2
      omega
theorem zigN_bytes (n : Nat) : Bytes (venc n) := venc_bytes n
theorem bytes_app {a b : List Int} (ha : Bytes a) (hb : Bytes b) : Bytes (a ++ b) := fun x hx => by
  rcases List.mem_append.1 hx with h | h
  · exact ha x h
  · exact hb x h
theorem Prt.enc_bytes (q : Prt) (h : q.ok) : Bytes q.enc := by
  unfold Prt.enc
  split
  · exact venc_bytes _
  · split
    · exact venc_bytes _
    · split
      · exact bytes_app (venc_bytes _) (cleanL_bytes h.s0)
      · exact h.s0
theorem encs_bytes (qs : List Prt) (hok : ∀ q ∈ qs, q.ok) : Bytes (encs qs) := by
  intro x hx
  obtain ⟨q, hq, hxq⟩ := List.mem_flatMap.1 hx
  exact q.enc_bytes (hok q hq) x hxq

/-- '[]byte(s)': new bytes. -/
theorem bytes_conv {P : Program} {src dst e : TypeId} (w : World) (q : List Int) (hb : Bytes q) (hs : P.underlying src = some .string) (hd : P.underlying dst = some (.slice e)) (he : P.underlying e = some (.int .u8)) :
    ∃ C W2, (convert src dst (.string (strOfNums q))).run P w = .ok (.slice (some ⟨w.heap.size, 0, none⟩) q.length C) W2 ∧ Reads W2 (.slice (some ⟨w.heap.size, 0, none⟩) q.length C) q ∧ Kept (fun _ => False) w W2 := by
  have hcv := Lib.run_convert_string_bytes (P := P) w src dst e (strOfNums q) hs hd he
  rw [strOfNums_size] at hcv
  refine ⟨_, _, hcv, ⟨_, _, rfl, ⟨(fun h => by cases h), grownCap_ge _ _ _ _⟩, fun j u hu => ⟨_, rfl, ?_⟩⟩, ⟨?_, ?_, ?_, ?_, fun k hk _ => Lib.bytesWorld_at_old w e _ k hk⟩⟩
  · have hj : j < q.length := by
      rcases Nat.lt_or_ge j q.length with h' | h'
      · exact h'
      · rw [List.getElem?_eq_none (by rw [nums_length]; exact h')] at hu; cases hu
    have hadd : (⟨w.heap.size, 0, none⟩ : Addr).add j = ⟨w.heap.size, j, none⟩ := by unfold Addr.add; split <;> simp_all
    rw [hadd, Lib.bytesWorld_cell w e _ j (by rw [strOfNums_size]; exact hj), ← hu, nums_get .u8 q j hj, strOfNums_data]
    have h2 := hb.getD j hj
    congr 2
    simp [List.getD_eq_getElem?_getD, List.getElem?_eq_getElem hj] at h2 ⊢
    omega
  · unfold Lib.bytesWorld World.freeze; split <;> rfl
  · unfold Lib.bytesWorld World.freeze; split <;> rfl
  · unfold Lib.bytesWorld World.freeze; split <;> rfl
  · rw [Lib.bytesWorld_size]; omega
end Go.Proofs.YtkefehceakcgoaaDoor
