/- A writer's and a reader's other calls (the walks). -/
import Derived.Test.YtlcbgklealipoaaGreatDoorWr
import Derived.Test.YtlcbgklealipoaaGreatDoorRu
import Derived.Lib.AppendStr
namespace Go.Proofs.YtlcbgklealipoaaGreatDoor
open Go.RowKit

set_option linter.unusedVariables false
set_option linter.unusedSimpArgs false
theorem str_byte {l : List Int} (hb : Bytes l) (j : Nat) (hj : j < l.length) (h : j < (strOfNums l).size) : (((strOfNums l)[j]'h).toNat : Int) = (oct l j : Int) := by
  have := hb.getD j hj
  have e : (strOfNums l)[j]'h = UInt8.ofNat (l.getD j 0).toNat := by
    have h2 : (strOfNums l).data.toList[j]? = some (UInt8.ofNat (l.getD j 0).toNat) := by
      rw [strOfNums_data, List.getElem?_map, List.getElem?_eq_getElem hj]
      simp [List.getD_eq_getElem?_getD, List.getElem?_eq_getElem hj]
    rw [Array.getElem?_toList] at h2
    have h3 := Array.getElem?_eq_some_iff.1 h2
    exact h3.2
  rw [e]
  unfold oct
  obtain ⟨x, hx⟩ : ∃ x, x = l.getD j 0 := ⟨_, rfl⟩
  rw [← hx] at this ⊢
  rw [UInt8.toNat_ofNat']
  omega

theorem str_mid (l : List Int) (a n : Nat) : (strOfNums l).extract a (a + n) = strOfNums ((l.drop a).take n) := by
  apply ByteArray.ext
  apply Array.toList_inj.1
  rw [ByteArray.data_extract, Array.toList_extract, strOfNums_data, strOfNums_data]
  simp [List.extract_eq_take_drop, List.map_drop, List.map_take]

theorem strCells_nums {m : List Int} (h : Bytes m) : Lib.strCells (strOfNums m) = nums .u8 m := by
  rw [Lib.strCells, strOfNums_data, nums, List.map_map]
  refine List.map_congr_left fun x hx => ?_
  have := h x hx
  simp only [Function.comp]
  rw [UInt8.toNat_ofNat']
  congr 1
  omega

theorem numR_more (m : Nat) : ∀ k acc r, acc < 128 ^ k → acc + m * 128 ^ k < 18446744073709551616 → (0 < m ∨ k = 0) → k ≤ 9 → numR (venc m ++ r) k acc = .ok (acc + m * 128 ^ k) (k + (venc m).length) := by
  induction m using Nat.strongRecOn with
  | _ m ih =>
    intro k acc r ha hv hm hk
    obtain ⟨P, hP⟩ : ∃ P, P = 128 ^ k := ⟨_, rfl⟩
    have hP1 : 1 ≤ P := by rw [hP]; exact Nat.pow_pos (by decide)
    by_cases h : m < 128
    · rw [venc_lt h]
      simp only [List.singleton_append, numR]
      have hmod : ((m : Int).toNat % 128) = m := by omega
      rw [if_neg (by omega), if_pos (by omega), hmod]
      have hform : ¬ ((k + 1 = 10 ∧ 1 < (m : Int)) ∨ (1 < k + 1 ∧ (m : Int) = 0)) := by
        rintro (⟨h1, h2⟩ | ⟨h1, h2⟩)
        · obtain rfl : k = 9 := by omega
          have : (128 : Nat) ^ 9 = 9223372036854775808 := by decide
          rw [this] at hv
          omega
        · omega
      rw [if_neg hform, Nat.mod_eq_of_lt hv]
      rfl
    · rw [venc_ge h]
      simp only [List.cons_append, numR, List.length_cons]
      have hs : (128 : Nat) ^ (k + 1) = P * 128 := by rw [hP, Nat.pow_succ]
      have hk9 : k + 1 ≤ 9 := by
        rcases Nat.lt_or_ge k 9 with h' | h'
        · omega
        · obtain rfl : k = 9 := by omega
          have : (128 : Nat) ^ 9 = 9223372036854775808 := by decide
          rw [this] at hv
          omega
      have hmod : (((m % 128 + 128 : Nat) : Int).toNat % 128) = m % 128 := by omega
      rw [if_neg (by omega), if_neg (by omega), hmod]
      have hq : m * P = m / 128 * (P * 128) + m % 128 * P := by
        have e : m = m / 128 * 128 + m % 128 := by omega
        conv => lhs; rw [e]
        rw [Nat.add_mul, Nat.mul_assoc, Nat.mul_comm 128 P]
      rw [← hP] at ha hv ⊢
      have ht : m % 128 * P ≤ 127 * P := Nat.mul_le_mul_right P (by omega)
      have hlt : acc + m % 128 * P < P * 128 := by omega
      have hle : acc + m % 128 * P < 18446744073709551616 := by omega
      rw [Nat.mod_eq_of_lt hle, ih (m / 128) (by omega) (k + 1) _ r (by rw [hs]; exact hlt) (by rw [hs]; omega) (.inl (by omega)) hk9, hs]
      congr 1 <;> omega
theorem numR_venc (n : Nat) (r : List Int) (hn : n < 18446744073709551616) : numR (venc n ++ r) 0 0 = .ok n (venc n).length := by
  have := numR_more n 0 0 r (by decide) (by simpa using hn) (.inr rfl) (by decide)
  simpa using this


theorem int_any (B g : Nat) (v : Value) (l : List Int) (i : Int) (w : World) (h0 : -9223372036854775808 ≤ i) (h1 : i < 9223372036854775808) (hw : WrAt 160 5 B w g v l) (hl : l.length + 10 ≤ 140737488355328) :
    Calls Tryz.prog 80 #[.pointer (some ⟨g, 0, none⟩), .int .i64 i] w (UintPost B g v (l ++ venc (zig i).toNat) w) := by
  have hz := zig_range i h0 h1
  obtain ⟨z, hz2⟩ : ∃ z : Nat, zig i = z := ⟨_, (Int.toNat_of_nonneg hz.1).symm⟩
  have hzz : (zig i).toNat = z := by omega
  rw [hzz]
  go_enter Tryz.func80, Tryz.ntmps80
  go_wp2_with fail
  refine (zig_any i w h0 h1).mono ?_
  rintro e w' ⟨rfl, rfl⟩
  rw [hz2]
  have hz64 : z < 18446744073709551616 := by omega
  clear hz2 hzz hz
  go_wp2_with fail
  refine (uint_any B g v l z w' hz64 hw hl).mono ?_
  rintro e w1 ⟨rfl, v', hst⟩
  have HS := Lib.hid hst
  clear hst
  go_wp2_with fail
  go_end0
  exact ⟨rfl, v', HS.out⟩
theorem WrAt.store {T E B g : Nat} {v v' : Value} {w w1 : World} {l l' : List Int} (h : WrAt T E B w g v l) (hTE : T ≠ E) (s : OwnStep .u8 E B v w v' l' w1) :
    w1.cell? ⟨g, 0, none⟩ = some v ∧ w1.frozen? ⟨g, 0, none⟩ = false ∧ WrStep T E B g v w v' l' (w1.setCell ⟨g, 0, none⟩ v') := by
  have hne : v.ownBlock ≠ some g := own_ne h.own h.blk hTE
  have hb1 : w1.heap[g]? = some (.cells #[v] T (0, 0)) := blk_kept s.kept h.blk hne
  have k2 : Kept (fun k => k = g) w1 (w1.setCell ⟨g, 0, none⟩ v') := Kept.setCell _ _ _ rfl
  have hne' : v'.ownBlock ≠ some g := own_ne s.own hb1 hTE
  refine ⟨blk_cell hb1 0, blk_frozen hb1 0, ⟨?_, h.base, own_kept s.own k2 fun k e e2 => hne' (e2 ▸ e)⟩, s.moved, s.kept.trans k2 (fun _ _ e => .inr e) fun _ _ e => .inl e⟩
  rw [blk_set hb1]; rfl


set_option maxHeartbeats 1000000 in
set_option maxRecDepth 100000 in
theorem raw_any (B g : Nat) (v y : Value) (l p : List Int) (w : World) (hr : Reads w y p) (hw : WrAt 160 5 B w g v l) (hl : l.length + p.length ≤ 140737488355328) :
    Calls Tryz.prog 34 #[.pointer (some ⟨g, 0, none⟩), y] w (UintPost B g v (l ++ p) w) := by
  have hBw : B ≤ w.heap.size := Nat.le_trans hw.base (Nat.le_of_lt (blk_lt hw.blk))
  obtain ⟨i0, hi, hz0, hz1, hz2⟩ := info_parts Tryz.info5
  have hc : w.cell? ⟨g, 0, none⟩ = some v := blk_cell hw.blk 0
  have hown := hw.own
  obtain ⟨A, c, rfl⟩ := own_slice hown
  have HW := Lib.hid hw
  clear hw
  go_enter Tryz.func34, Tryz.ntmps34
  go_wp2_with (at_builtin; refine wpList_append_reads rfl _ _ 26 rfl B 5 i0 (.int .u8 0) 1 Tryz.underlying26 hi hz0 hz1 hz2 rfl (.slice A l.length c) y l p rfl rfl hr hown ?c2 ?c3 hBw ?_)
  case c2 => unfold maxLen; omega
  case c3 => omega
  rintro v2 w1 hst
  obtain ⟨hc1, hf1, hst2⟩ := HW.out.store (by decide) hst
  obtain ⟨A2, c2, rfl⟩ := own_slice hst.own
  rw [List.length_append] at hst2
  have HS := Lib.hid hst2
  clear hst hst2 hc hown hr
  go_wp2_with fail
  go_end0
  exact ⟨rfl, _, HS.out⟩


section
variable {P : Program} {w : World} {ops : Array Oper} {rest : List Oper} {o : Oper} {a : Act} {Q : Exit → Act → World → Prop}
/-- A list that grew into a block of its own. -/
theorem grown_string (B e : TypeId) (xs : List Value) (s : ByteArray) (n old : Nat) (hxl : xs.length = n) (ho : old < n + s.size) (h63 : n + s.size ≤ maxLen) (hB : B ≤ w.heap.size) :
    (w.drew.alloc (.cells (xs.toArray ++ (Lib.strCells s).toArray ++ Builtin.zeroCells (Value.int .u8 0).cells (grownCap w (n + s.size) old e - (n + s.size))) e)).ownsRow B e 1
      (.slice (some ⟨w.heap.size, 0, none⟩) (n + s.size) (grownCap w (n + s.size) old e)) (n + s.size) (xs ++ Lib.strCells s) := by
  have hge := grownCap_ge w (n + s.size) old e
  have hcm : grownCap w (n + s.size) old e ≤ maxLen := grownCap_le_maxLen w (n + s.size) old e h63
  have hlen : (xs ++ Lib.strCells s).length = (n + s.size) * 1 := by rw [List.length_append, hxl, Lib.strCells_length, Nat.mul_one]
  refine ⟨hlen, .inr ⟨w.heap.size, _, _, rfl, hB, heap_alloc_new w.drew _, hge, hcm, ?_, ?_⟩⟩
  · have hz1 : (Value.int IntKind.u8 0).cells.size = 1 := rfl
    simp only [Array.size_append, List.size_toArray, size_zeroCells, hz1, hxl, Lib.strCells_length]
    omega
  · simp only [Array.toList_append, List.append_assoc]
    rw [← List.append_assoc, ← hlen]
    exact List.take_left
/-- 'append(s, t...)' of a text's bytes. -/
theorem wpList_append_string (hgd : o.guard = none) (sl x : Operand) (t u : TypeId) (ho : o.op = .call { callee := .builtin .append, args := #[sl, x], argTypes := #[t, u] })
    (B : Nat) (e : TypeId) (i : TypeInfo) (ht : P.underlying t = some (.slice e)) (hu : P.underlying u = some .string) (hi : P.info? e = some i) (hz : i.zero = some (.int .u8 0)) (hsize : i.size = 1) (hby : i.bytes = 1)
    (v : Value) (l q : List Int) (hs : a.eval sl = v) (hx : a.eval x = .string (strOfNums q)) (hq : Bytes q)
    (hown : w.ownsRow B e 1 v l.length (nums .u8 l)) (h63 : l.length + q.length ≤ maxLen) (hbytes : l.length + q.length ≤ 140737488355328) (hB : B ≤ w.heap.size)
    (h : ∀ v' w', OwnStep .u8 e B v w v' (l ++ q) w' → wpList P ops Q rest (a.put o.dst v') w') : wpList P ops Q (o :: rest) a w := by
  refine wpList_plain hgd fun K hK => ?_
  have hsq : (strOfNums q).size = q.length := strOfNums_size q
  have hcq : Lib.strCells (strOfNums q) = nums .u8 q := strCells_nums hq
  have hxl : (nums .u8 l).length = l.length := nums_length _ _
  have key : ∃ v' w', (Builtin.append_ #[t, u] o.type #[v, .string (strOfNums q)]).run P w = .ok v' w' ∧ OwnStep .u8 e B v w v' (l ++ q) w' := by
    have fit : ∀ {v' : Value} {w' : World}, w'.ownsRow B e 1 v' (l.length + (strOfNums q).size) (nums .u8 l ++ Lib.strCells (strOfNums q)) → w'.ownsRow B e 1 v' (l ++ q).length (nums .u8 (l ++ q)) := fun h => own_congr h (by rw [hcq, nums_append]) (by rw [List.length_append, hsq])
    rcases hown.2 with ⟨rfl, h0⟩ | ⟨g, cap, cur, rfl, hbg, hg, hnc, hcm, hcs, htake⟩
    · obtain rfl : l = [] := List.eq_nil_of_length_eq_zero h0
      by_cases hm : q.length = 0
      · obtain rfl : q = [] := List.eq_nil_of_length_eq_zero hm
        refine ⟨.slice none 0 0, w, ?_, .refl hown⟩
        have hf := Lib.run_firstCells_string (P := P) w 1 (strOfNums [])
        rw [hsq] at hf
        have hf' : (Builtin.firstCells 1 0 (.string (strOfNums []))).run P w = .ok (Lib.strCells (strOfNums [])).toArray w := hf
        simp [Builtin.append_, run_underlying ht, run_underlying hu, sizeOf, typeInfo, hi, hsize, Builtin.lenOf, hsq, hf']
      · have hr := run_append_nil_string (P := P) w t u o.type e i (.int .u8 0) ht hu hi hz (strOfNums q) (by omega) (by unfold maxLen at h63; simp at h63; omega) (by rw [hby]; simp at hbytes; omega)
        have e1 : ((strOfNums q).data.map fun b => Value.int .u8 b.toNat) = (Lib.strCells (strOfNums q)).toArray := by
          apply Array.ext'
          simp [Lib.strCells]
        rw [e1] at hr
        have hgr := grown_string (w := w) B e [] (strOfNums q) 0 0 rfl (by omega) (by rw [hsq]; simpa using h63) hB
        simp only [Nat.zero_add, List.nil_append, Array.empty_append] at hgr
        refine ⟨_, _, hr, ⟨fit (by simpa [nums] using hgr), .inr fun k hk => ?_, ⟨rfl, rfl, rfl, by simp, fun k hk _ => heap_alloc_old w.drew _ hk⟩⟩⟩
        have : w.heap.size = k := by simpa [Value.ownBlock] using hk
        omega
    · by_cases hroom : l.length + (strOfNums q).size ≤ cap
      · have hcs' : cur.size = cap := by simpa using hcs
        have hr := Lib.run_append_room_string (P := P) w t u o.type e i ht hu hi hsize g l.length cap cur hg (strOfNums q) hroom (by omega)
        refine ⟨_, _, hr, ⟨fit ⟨by rw [List.length_append, hxl, Lib.strCells_length, Nat.mul_one], .inr ⟨g, cap, _, rfl, hbg, setRow_heap w g cur _ e _ hg, hroom, hcm, ?_, ?_⟩⟩, .inl rfl, ⟨rfl, rfl, rfl, by simp, fun k _ hk => setRow_other w g k _ (fun e => hk (by simp [Value.ownBlock, e]))⟩⟩⟩
        · simp only [List.size_toArray, List.length_append, List.length_take, List.length_drop, Array.length_toList, Lib.strCells_length]
          omega
        · have ht' : cur.toList.take l.length = nums .u8 l := by simpa using htake
          rw [ht', show (l.length + (strOfNums q).size) * 1 = (nums .u8 l ++ Lib.strCells (strOfNums q)).length by rw [List.length_append, hxl, Lib.strCells_length, Nat.mul_one]]
          exact List.take_left
      · have holds : ∀ j u, (nums .u8 l)[j]? = some u → w.cell? ((⟨g, 0, none⟩ : Addr).add j) = some u := hown.cells (g := g) rfl
        have hr := Lib.run_append_grow_string (P := P) w t u o.type e i (.int .u8 0) ht hu hi hz ⟨g, 0, none⟩ l.length cap (nums .u8 l) (by rw [hsize]; simpa using hxl) holds (strOfNums q) (by omega) (by unfold maxLen at h63; omega) (by rw [hby]; exact growslice_fits (by omega) (by omega))
        have hgr := grown_string (w := w) B e (nums .u8 l) (strOfNums q) l.length cap hxl (by omega) (by omega) hB
        refine ⟨_, _, hr, ⟨fit hgr, .inr fun k hk => ?_, ⟨rfl, rfl, rfl, by simp, fun k hk _ => heap_alloc_old w.drew _ hk⟩⟩⟩
        have : w.heap.size = k := by simpa [Value.ownBlock] using hk
        omega
  obtain ⟨v', w', hr, h2⟩ := key
  unfold Oper.wp execOp
  simp only [ho, resolve, invoke, builtin, Sem.run_bind, Sem.run_pure, Result.andThen_ok, List.map_toArray, List.map_cons, List.map_nil, hs, hx, hr]
  exact hK _ _ (h v' w' h2)
end

set_option maxHeartbeats 1000000 in
set_option maxRecDepth 100000 in
theorem text_any (B g : Nat) (v : Value) (l q L : List Int) (w : World) (hq : Bytes q) (hw : WrAt 160 5 B w g v l) (hL : L = l ++ venc q.length) (hl : l.length + 10 + q.length ≤ 140737488355328) :
    Calls Tryz.prog 36 #[.pointer (some ⟨g, 0, none⟩), .string (strOfNums q)] w (UintPost B g v (L ++ q) w) := by
  have hs : (strOfNums q).size = q.length := strOfNums_size q
  obtain ⟨i0, hi, hz0, hz1, hz2⟩ := info_parts Tryz.info5
  have hlen := venc_len10 (show q.length < 18446744073709551616 by omega)
  have hLl : L.length ≤ l.length + 10 := by rw [hL, List.length_append]; omega
  have HL := Lib.hid hL
  clear hL
  go_enter Tryz.func36, Tryz.ntmps36
  go_wp2_with fail
  refine (uint_any B g v l q.length w (by omega) hw (by omega)).mono ?_
  rintro e w1 ⟨rfl, v1, hst⟩
  rw [← HL.out] at hst
  have hat := hst.at_
  have hBw : B ≤ w1.heap.size := Nat.le_trans hat.base (Nat.le_of_lt (blk_lt hat.blk))
  have hc : w1.cell? ⟨g, 0, none⟩ = some v1 := blk_cell hat.blk 0
  have hown := hat.own
  obtain ⟨A, c, rfl⟩ := own_slice hown
  have HW := Lib.hid hst
  have HA := Lib.hid hat
  clear hst hat hw
  go_wp2_with (at_builtin; refine wpList_append_string rfl _ _ 26 9 rfl B 5 i0 Tryz.underlying26 Tryz.underlying9 hi hz0 hz1 hz2 (.slice A L.length c) L q rfl rfl hq hown ?c2 ?c3 hBw ?_)
  case c2 => unfold maxLen; omega
  case c3 => omega
  rintro v2 w2 hst
  obtain ⟨hc1, hf1, hst2⟩ := HA.out.store (by decide) hst
  obtain ⟨A2, c2, rfl⟩ := own_slice hst.own
  have HS := Lib.hid (HW.out.trans hst2)
  rw [List.length_append] at hst2 HS
  clear hst hst2 hc hown
  go_wp2_with fail
  go_end0
  exact ⟨rfl, _, HS.out⟩

theorem left_any (B r n : Nat) (v : Value) (l : List Int) (w : World) (h : RdAt B w r v l n) (hn : n ≤ l.length) (hl : l.length ≤ 140737488355328) :
    Calls Tryz.prog 94 #[.pointer (some ⟨r, 0, none⟩)] w fun e w' => e = .returned (.int .i64 ((l.length - n : Nat) : Int)) ∧ Kept (fun _ => False) w w' := by
  have hc : w.cell? ⟨r, 0, none⟩ = some v := blk_cell h.blk 0
  have hc1 : w.cell? ⟨r, 1, none⟩ = some (.int .i64 n) := blk_cell h.blk 1
  obtain ⟨A, c, rfl⟩ := h.lies.slice
  have hnI : (n : Int) ≤ l.length := by omega
  go_enter Tryz.func94, Tryz.ntmps94
  go_wp2_with fail
  go_quiet (fail)
  go_wp2_with fail
  go_ret
  exact ⟨ret_eq (by omega), .drewN _ _ _⟩

theorem at_any (B r n : Nat) (v : Value) (l : List Int) (w : World) (h : RdAt B w r v l n) (hn : n ≤ l.length) (hl : l.length ≤ 140737488355328) :
    Calls Tryz.prog 44 #[.pointer (some ⟨r, 0, none⟩)] w fun e w' => e = .returned (.int .i64 n) ∧ w' = w := by
  have hc1 : w.cell? ⟨r, 1, none⟩ = some (.int .i64 n) := blk_cell h.blk 1
  go_enter Tryz.func44, Tryz.ntmps44
  go_wp2_with fail
  go_ret
  exact ⟨rfl, rfl⟩

/-- End: what is left is told at its place. -/
theorem end_none (B r : Nat) (v : Value) (l : List Int) (w : World) (h : RdAt B w r v l l.length) (hl : l.length ≤ 140737488355328) :
    Calls Tryz.prog 49 #[.pointer (some ⟨r, 0, none⟩)] w fun e w' => e = .returned .nilIface ∧ Kept (fun _ => False) w w' := by
  go_enter Tryz.func49, Tryz.ntmps49
  go_wp2_with fail
  refine (left_any B r l.length v l w h (Nat.le_refl _) hl).mono ?_
  rintro e w' ⟨rfl, hk⟩
  rw [Nat.sub_self]
  go_wp2_with fail
  go_ret
  exact ⟨rfl, hk⟩

/-- Int. -/
def GetIntPost (B r n : Nat) (v : Value) (l : List Int) (w : World) (e : Ending) (w' : World) : Prop :=
  match numR (l.drop n) 0 0 with
  | .ok x k => e = .returned (.tuple #[.int .i64 (zag x), .nilIface]) ∧ RdAt B w' r v l (n + k) ∧ Kept (fun i => i = r) w w'
  | .form => e = .returned (.tuple #[.int .i64 0, .iface 35 (.pointer (some ⟨w.heap.size, 0, none⟩))]) ∧ w' = w.alloc (.cells #[.int .i64 n, .int .i64 12] 39)
  | .fin => e = .returned (.tuple #[.int .i64 0, .iface 35 (.pointer (some ⟨w.heap.size, 0, none⟩))]) ∧ w' = w.alloc (.cells #[.int .i64 l.length, .int .i64 11] 39)
theorem numR_lt (l : List Int) : ∀ k a, ∀ x n, numR l k a = .ok x n → x < 18446744073709551616 := by
  induction l with
  | nil => intro k a x n h; unfold numR at h; split at h <;> cases h
  | cons b t ih =>
    intro k a x n h
    unfold numR at h
    split at h
    · cases h
    · split at h
      · split at h
        · cases h
        · injection h with h1 h2
          omega
      · exact ih _ _ _ _ h
set_option maxHeartbeats 1000000 in
theorem getInt_any (B r n : Nat) (v : Value) (l : List Int) (w : World) (h : RdAt B w r v l n) (hn : n ≤ l.length) (hl : l.length ≤ 140737488355328) (hb : Bytes l) :
    Calls Tryz.prog 143 #[.pointer (some ⟨r, 0, none⟩)] w (GetIntPost B r n v l w) := by
  have H := Lib.hid h; clear h
  obtain ⟨q, hq⟩ : ∃ q, q = numR (l.drop n) 0 0 := ⟨_, rfl⟩
  have HQ := Lib.hid hq
  go_enter Tryz.func143, Tryz.ntmps143
  go_wp2_with fail
  refine (get_any B r n v l w H.out hn hl hb).mono ?_
  intro e w' hp
  unfold GetPost at hp
  rw [← hq] at hp
  cases q with
  | ok x k =>
    have hx := numR_lt _ _ _ _ _ hq.symm
    clear hq
    obtain ⟨rfl, h2⟩ := hp
    have HG : Hid (GetIntPost B r n v l w (.returned (.tuple #[.int .i64 (zag x), .nilIface])) w') := Lib.hid (by unfold GetIntPost; rw [← HQ.out]; exact ⟨rfl, h2⟩)
    clear h2
    go_wp2_with fail
    refine (zag_any x w' (by omega) (by omega)).mono ?_
    rintro e w2 ⟨rfl, rfl⟩
    go_wp2_with fail
    go_ret2
    exact HG.out
  | form =>
    clear hq
    obtain ⟨rfl, rfl⟩ := hp
    have HG : Hid (∀ w2, w2 = w.alloc (.cells #[.int .i64 n, .int .i64 12] 39) → GetIntPost B r n v l w (.returned (.tuple #[.int .i64 0, .iface 35 (.pointer (some ⟨w.heap.size, 0, none⟩))])) w2) := Lib.hid fun w2 h2 => by unfold GetIntPost; rw [← HQ.out]; exact ⟨rfl, h2⟩
    go_wp2_with fail
    go_ret2
    exact HG.out _ rfl
  | fin =>
    clear hq
    obtain ⟨rfl, rfl⟩ := hp
    have HG : Hid (∀ w2, w2 = w.alloc (.cells #[.int .i64 l.length, .int .i64 11] 39) → GetIntPost B r n v l w (.returned (.tuple #[.int .i64 0, .iface 35 (.pointer (some ⟨w.heap.size, 0, none⟩))])) w2) := Lib.hid fun w2 h2 => by unfold GetIntPost; rw [← HQ.out]; exact ⟨rfl, h2⟩
    go_wp2_with fail
    go_ret2
    exact HG.out _ rfl

end Go.Proofs.YtlcbgklealipoaaGreatDoor
