/- clean: a text without the bytes that belong to no rune (the walk). -/
import Derived.Test.YtkefehceakcgoaaDoorV2
import Derived.Lib.AppendStr
namespace Go.Proofs.YtkefehceakcgoaaDoor
open Go.RowKit
set_option linter.unusedVariables false
set_option linter.unusedSimpArgs false

theorem cleanL_step (l : List Int) (p : Nat) (hp : p < l.length) : cleanL (l.drop p) = (l.drop p).take (rn (l.drop p)) ++ cleanL (l.drop (p + max 1 (rn (l.drop p)))) := by
  rw [cleanL, dif_neg (by intro e; have := congrArg List.length e; rw [List.length_drop, List.length_nil] at this; omega), List.drop_drop]
theorem cleanL_end (l : List Int) (p : Nat) (hp : l.length ≤ p) : cleanL (l.drop p) = [] := by
  rw [List.drop_eq_nil_of_le hp, cleanL, dif_pos rfl]
theorem str_mid (l : List Int) (a n : Nat) : (strOfNums l).extract a (a + n) = strOfNums ((l.drop a).take n) := by
  apply ByteArray.ext
  apply Array.toList_inj.1
  rw [ByteArray.data_extract, Array.toList_extract, strOfNums_data, strOfNums_data]
  simp [List.extract_eq_take_drop, List.map_drop, List.map_take]

theorem strCells_nums {m : List Int} (h : Bytes m) : Lib.strCells (strOfNums m) = nums .u8 m := by
  rw [Lib.strCells, strOfNums_data, nums, List.map_map]
  refine List.map_congr_left fun x hx => ?_
  have := h x hx
  simp only [Function.comp]
  rw [UInt8.toNat_ofNat']
  congr 1
  omega
def CleanPost (l : List Int) (w : World) (e : Ending) (w' : World) : Prop := e = .returned (.string (strOfNums (cleanL l))) ∧ Kept (fun _ => False) w w'
set_option maxHeartbeats 8000000 in
set_option maxRecDepth 100000 in
theorem clean_any (l : List Int) (w : World) (hb : Bytes l) (hl : l.length ≤ 1000000000000) :
    Calls Tryd.prog 12 #[.string (strOfNums l)] w (CleanPost l w) := by
  have hs : (strOfNums l).size = l.length := strOfNums_size l
  obtain ⟨i0, hi, hz0, hz1, hz2⟩ := info_parts Tryd.info5
  have hlI : (l.length : Int) ≤ 1000000000000 := by omega
  go_enter Tryd.func12, Tryd.ntmps12
  go_wp2_with fail
  go_loopw [3, 4, 5] (fun vo p _ wr => ∃ (k : Nat) (done : List Int), p = .int .i64 k ∧ k ≤ l.length ∧ cleanL l = done ++ cleanL (l.drop k) ∧ done.length ≤ k ∧ Bytes done ∧ wr.ownsRow w.heap.size 5 1 vo done.length (nums .u8 done) ∧ Kept (fun _ => False) w wr)
    (fun _ p _ _ => l.length - (intOf p).toNat)
  case atStart => exact ⟨0, [], rfl, by omega, by simp, by simp, fun x hx => (by cases hx), World.ownsRow_nil _ _ _ _, .refl _ _⟩
  case round =>
    obtain ⟨k, done, rfl, hk, hd, hdl, hdb, ho, hkw⟩ := hrel
    by_cases h : k < l.length
    · have h1 : (k : Int) < l.length := by omega
      have h2 : (0 : Int) ≤ k := by omega
      have hcl := cleanL_step l k h
      have hrl : rn (l.drop k) ≤ l.length - k := by have := rn_le (l.drop k); rw [List.length_drop] at this; exact this
      obtain ⟨A, c, rfl⟩ := own_slice ho
      have HD := Lib.hid (And.intro hd (And.intro hdb (And.intro hkw hcl)))
      clear hd hdb hkw hcl
      go_wp2_with fail
      refine (rune_any l k wr hb hl h).mono ?_
      rintro e w' ⟨rfl, rfl⟩
      have hl9 : ((k : Int) + rn (l.drop k)) ≤ l.length := by omega
      have hsub := str_mid l k (rn (l.drop k))
      obtain ⟨n, hn⟩ : ∃ n, n = rn (l.drop k) := ⟨_, rfl⟩
      have HN := Lib.hid hn
      rw [← hn] at hl9 hsub ⊢
      clear hn hrl
      obtain ⟨T, hT⟩ : ∃ T, T = (l.drop k).take n := ⟨_, rfl⟩
      have hTl : (strOfNums T).size = n := by rw [strOfNums_size, hT, List.length_take, List.length_drop]; omega
      have hTb : Bytes T := by rw [hT]; exact fun x hx => hb x (List.mem_of_mem_drop (List.mem_of_mem_take hx))
      have HT := Lib.hid (And.intro hT hTb)
      rw [← hT] at hsub
      clear hT hTb
      have hdI : (done.length : Int) ≤ k := by omega
      have hsz := HD.out.2.2.1.size
      go_wp2_with (at_builtin; refine Lib.wpList_append_own_string _ rfl _ _ 35 9 rfl w.heap.size 5 i0 Tryd.underlying35 Tryd.underlying9 hi hz0 hz1 hz2 _ _ _ rfl ho (strOfNums T) (by first | rfl | exact congrArg Value.string hsub) ?c1 ?c2 hsz ?_)
      case c1 => rw [hTl]; unfold maxLen; omega
      case c2 => rw [hTl]; omega
      rintro v2 w2 hown2 hgr -
      rw [strCells_nums HT.out.2, ← nums_append] at hown2
      have hTl2 : T.length = n := by rw [← strOfNums_size]; exact hTl
      have hown3 : w2.ownsRow w.heap.size 5 1 v2 (done ++ T).length (nums .u8 (done ++ T)) := own_congr hown2 rfl (by rw [List.length_append, hTl2])
      have hK2 : Kept (fun _ => False) w w2 := HD.out.2.2.1.trans (Kept.of_grown (S := fun i => (Value.slice A done.length c).ownBlock = some i) hgr (fun _ e => e)) (fun _ _ e => e) (fun i hi e => by have := (ho.lt i e).1; omega)
      have HW := Lib.hid (And.intro hown3 hK2)
      have HL := Lib.hid (And.intro hTl2 (And.intro hl9 hdl))
      obtain ⟨A2, c2, rfl⟩ := own_slice hown3
      clear hown2 hown3 hK2 hgr ho hsub hTl hTl2
      by_cases hn0 : n = 0
      · have m1 : (n : Int) ≤ 1 := by omega
        have m2 : max (1 : Int) n = 1 := by omega
        go_wp2_with fail
        refine ⟨⟨k + 1, done ++ T, by congr 1, by omega, ?_, ?_, ?_, HW.out.1, HW.out.2⟩, by simp [intOf]; omega⟩
        · have e := HD.out.2.2.2
          rw [← HN.out, ← HT.out.1, hn0] at e
          rw [HD.out.1, e, List.append_assoc]
          rfl
        · have := HL.out; rw [List.length_append]; omega
        · intro x hx
          rcases List.mem_append.1 hx with hx | hx
          · exact HD.out.2.1 x hx
          · exact HT.out.2 x hx
      · have m1 : (1 : Int) ≤ n := by omega
        have m2 : max (1 : Int) n = n := by omega
        go_wp2_with fail
        refine ⟨⟨k + n, done ++ T, by congr 1, by omega, ?_, ?_, ?_, HW.out.1, HW.out.2⟩, by simp [intOf]; omega⟩
        · have e := HD.out.2.2.2
          rw [← HN.out, ← HT.out.1, Nat.max_eq_right (by omega)] at e
          rw [HD.out.1, e, List.append_assoc]
        · have := HL.out; rw [List.length_append]; omega
        · intro x hx
          rcases List.mem_append.1 hx with hx | hx
          · exact HD.out.2.1 x hx
          · exact HT.out.2 x hx
    · have h1 : ¬ (k : Int) < l.length := by omega
      obtain ⟨A, c, rfl⟩ := own_slice ho
      have hstr : (convert 35 9 (.slice A done.length c)).run Tryd.prog wr = .ok (.string (strOfNums done)) wr := (Lies.of_own ho).string Tryd.underlying35 Tryd.underlying5 Tryd.underlying9
      have he : cleanL l = done := by rw [hd, cleanL_end l k (by omega), List.append_nil]
      have HE := Lib.hid (And.intro he hkw)
      clear he hd
      go_wp2_with fail
      go_ret
      exact ⟨by rw [HE.out.1]; rfl, HE.out.2⟩
end Go.Proofs.YtkefehceakcgoaaDoor
