/- A reader's Text and Raw (the walks). -/
import Derived.Test.YtlcbgklealipoaaGreatDoorRd
import Derived.Test.YtlcbgklealipoaaGreatDoorShelf
import Derived.StillTailTactics
namespace Go.Proofs.YtlcbgklealipoaaGreatDoor
open Go.RowKit

set_option linter.unusedVariables false
set_option linter.unusedSimpArgs false

/-- The first byte that belongs to no rune. -/
def badR (l : List Int) : Option Nat :=
  if h : l = [] then none else if h2 : rn l = 0 then some 0 else (badR (l.drop (rn l))).map (· + rn l)
termination_by l.length
decreasing_by
  have := List.length_pos_iff.2 h
  rw [List.length_drop]
  omega
theorem badR_nil : badR [] = none := by rw [badR, dif_pos rfl]
theorem badR_bad {l : List Int} (h : l ≠ []) (h2 : rn l = 0) : badR l = some 0 := by rw [badR, dif_neg h, dif_pos h2]
theorem badR_go {l : List Int} (h : l ≠ []) (h2 : rn l ≠ 0) : badR l = (badR (l.drop (rn l))).map (· + rn l) := by rw [badR, dif_neg h, dif_neg h2]
theorem badR_runes {l : List Int} (h : Runes l) : badR l = none := by
  induction h with
  | nil => exact badR_nil
  | @cons l h t ih =>
    have hne : l ≠ [] := by rintro rfl; simp [rn] at h
    rw [badR_go hne (by omega), ih]
    rfl
theorem numR_size (l : List Int) : ∀ k a, ∀ x n, numR l k a = .ok x n → n ≤ k + l.length ∧ k < n := by
  induction l with
  | nil => intro k a x n h; unfold numR at h; split at h <;> cases h
  | cons b t ih =>
    intro k a x n h
    unfold numR at h
    rw [List.length_cons]
    split at h
    · cases h
    · split at h
      · split at h
        · cases h
        · injection h with h1 h2
          omega
      · have := ih _ _ _ _ h
        omega
theorem drop_ne {l : List Int} {k : Nat} (h : k < l.length) : l.drop k ≠ [] := by
  intro e
  have := congrArg List.length e
  rw [List.length_drop, List.length_nil] at this
  omega
inductive TRes where
  | ok (q : List Int) (m : Nat)
  | err (a no : Int)
/-- What is answered behind the text's length. -/
def textQ (l : List Int) (n : Nat) (most : Int) : NRes → TRes
  | .form => .err n 12
  | .fin => .err l.length 11
  | .ok x k =>
    if most < x then .err n 13 else if l.length - (n + k) < x then .err l.length 11 else
    match badR ((l.drop (n + k)).take x) with
    | some i => .err ((n + k : Nat) + (i : Int)) 14
    | none => .ok ((l.drop (n + k)).take x) (n + k + x)
def textR (l : List Int) (n : Nat) (most : Int) : TRes := if most < 0 then .err n 1 else textQ l n most (numR (l.drop n) 0 0)

/-- An error at a place. -/
def ErrPost (a no : Int) (w : World) (err : Value) (w' : World) : Prop :=
  ∃ g, err = .iface 35 (.pointer (some ⟨g, 0, none⟩)) ∧ w.heap.size ≤ g ∧ w'.heap[g]? = some (.cells #[.int .i64 a, .int .i64 no] 39 (0, 0)) ∧ Kept (fun _ => False) w w'
theorem ErrPost.new {a no : Int} {w w1 : World} (hk : Kept (fun _ => False) w w1) : ErrPost a no w (.iface 35 (.pointer (some ⟨w1.heap.size, 0, none⟩))) (w1.alloc (.cells #[.int .i64 a, .int .i64 no] 39)) :=
  ⟨_, rfl, hk.size, heap_alloc_new w1 _, hk.trans (.alloc _ _ _) (fun _ _ e => e) (fun _ _ e => e)⟩
/-- What comes of a number that was read. -/
def NumQ (l : List Int) (n : Nat) (w : World) (e : Ending) (w' : World) : NRes → Prop
  | .ok v m => e = .returned (.tuple #[.int .u64 v, .int .i64 (n + m : Nat), .nilIface]) ∧ w' = w
  | .form => e = .returned (.tuple #[.int .u64 0, .int .i64 0, .iface 35 (.pointer (some ⟨w.heap.size, 0, none⟩))]) ∧ w' = w.alloc (.cells #[.int .i64 n, .int .i64 12] 39)
  | .fin => e = .returned (.tuple #[.int .u64 0, .int .i64 0, .iface 35 (.pointer (some ⟨w.heap.size, 0, none⟩))]) ∧ w' = w.alloc (.cells #[.int .i64 l.length, .int .i64 11] 39)
theorem NumPost.q {l : List Int} {n : Nat} {w w' : World} {e : Ending} {q : NRes} (hq : q = numR (l.drop n) 0 0) (h : NumPost l n w e w') : NumQ l n w e w' q := by
  unfold NumPost at h
  rw [← hq] at h
  cases q <;> exact h
def TextPost (B r n : Nat) (v : Value) (l : List Int) (most : Int) (w : World) (e : Ending) (w' : World) : Prop :=
  match textR l n most with
  | .ok q m => e = .returned (.tuple #[.string (strOfNums q), .nilIface]) ∧ RdAt B w' r v l m ∧ Kept (fun i => i = r) w w'
  | .err a no => ∃ err, e = .returned (.tuple #[.string ⟨#[]⟩, err]) ∧ ErrPost a no w err w'
theorem TextPost.bad {B r n : Nat} {v : Value} {l : List Int} {most : Int} {w w1 : World} {a no a' : Int} (h : textR l n most = .err a no) (ha : a' = a) (hk : Kept (fun _ => False) w w1) :
    TextPost B r n v l most w (.returned (.tuple #[.string ⟨#[]⟩, .iface 35 (.pointer (some ⟨w1.heap.size, 0, none⟩))])) (w1.alloc (.cells #[.int .i64 a', .int .i64 no] 39)) := by
  subst ha
  unfold TextPost
  rw [h]
  exact ⟨_, rfl, .new hk⟩
/-! ### the decoder at a list of bytes -/
theorem get_oct (q : List Int) (hb : Bytes q) (j : Nat) : ((strOfNums q).get! j).toNat = oct q j := by
  by_cases h : j < q.length
  · have hs : j < (strOfNums q).size := by rw [strOfNums_size]; exact h
    have := str_byte hb j h hs
    rw [Utf8W.get!_of_lt _ _ hs]
    omega
  · have e1 : oct q j = 0 := by unfold oct; rw [List.getD_eq_getElem?_getD, List.getElem?_eq_none (by omega)]; rfl
    rw [e1, ByteArray.get!, show (strOfNums q).data[j]! = default from by
      rw [getElem!_def, Array.getElem?_eq_none (by have : (strOfNums q).data.size = q.length := strOfNums_size q
                                                   omega)]]
    rfl
theorem decode_nums (q : List Int) (hb : Bytes q) (hq : q ≠ []) :
    (rn q = 0 → Lib.decodeGo (strOfNums q) = (65533, 1)) ∧ (rn q ≠ 0 → (Lib.decodeGo (strOfNums q)).2 = rn q ∧ ((Lib.decodeGo (strOfNums q)).1 ≠ 65533 ∨ (Lib.decodeGo (strOfNums q)).2 ≠ 1)) := by
  have hp := List.length_pos_iff.2 hq
  have hs : (strOfNums q).size = q.length := strOfNums_size q
  have e : Lib.decodeGo (strOfNums q) = Lib.decodeN q.length (oct q 0) (oct q 1) (oct q 2) (oct q 3) := by
    unfold Lib.decodeGo
    rw [if_neg (by omega), Lib.decode_at, get_oct q hb, get_oct q hb, get_oct q hb, get_oct q hb, hs]
    rfl
  rw [e, rn_ne hq]
  exact decode_rune q.length _ _ _ _ hp (oct_lt hb 0) (oct_lt hb 1) (oct_lt hb 2) (oct_lt hb 3)
theorem str_end (q : List Int) (k : Nat) : (strOfNums q).extract k (strOfNums q).size = strOfNums (q.drop k) := by
  apply ByteArray.ext
  apply Array.toList_inj.1
  rw [ByteArray.data_extract, Array.toList_extract, strOfNums_data, strOfNums_data, strOfNums_size]
  simp [List.extract_eq_take_drop, List.map_drop, List.map_take]
  rw [List.take_of_length_le]
  simp
theorem Utf8Tabs.kept {a b : Nat} {S : Nat → Prop} {w w' : World} (h : Lib.Utf8Tabs a b w) (hk : Kept S w w') (ha : ¬ S a) (hb : ¬ S b) : Lib.Utf8Tabs a b w' := by
  have key : ∀ g o v, ¬ S g → w.cell? ⟨g, o, none⟩ = some v → w'.cell? ⟨g, o, none⟩ = some v := fun g o v hg hc =>
    (World.cell?_of_block (hk.block g (World.block_lt_of_cell? w ⟨g, o, none⟩ hc) hg)).trans hc
  exact ⟨fun c hc => key _ _ _ ha (h.1 c hc), fun i hi => ⟨key _ _ _ hb (h.2 i hi).1, key _ _ _ hb (h.2 i hi).2⟩⟩
theorem convert_none {P : Program} {src dst e : TypeId} (hs : P.underlying src = some (.slice e)) (he : P.underlying e = some (.int .u8)) (hd : P.underlying dst = some .string) (w : World) (A : Option Addr) (c : Nat) :
    (convert src dst (.slice A 0 c)).run P w = .ok (.string (strOfNums [])) w := by
  cases A with
  | none => exact run_convert_bytes_nil w src e hs he 0 c dst hd
  | some a =>
    rw [run_convert_bytes_string w src dst e _ 0 c hs he hd]
    simp [Conv.bytesToString, loadCells, loadCellsFrom]
    rfl
/-- A part of the bytes as a text. -/
theorem Lies.mid {P : Program} {w : World} {E B : Nat} {src dst e : TypeId} {g c : Nat} {l : List Int} (hs : P.underlying src = some (.slice e)) (he : P.underlying e = some (.int .u8)) (hd : P.underlying dst = some .string)
    (h : Lies E B w (.slice (some ⟨g, 0, none⟩) l.length c) l) (p x : Nat) (hp : p + x ≤ l.length) (c' : Nat) :
    (convert src dst (.slice (some ⟨g, p, none⟩) x c')).run P w = .ok (.string (strOfNums ((l.drop p).take x))) w := by
  refine run_convert_bytes_arg w src e hs he g p x c' _ (by rw [List.length_take, List.length_drop]; omega) (fun i hi => ?_) dst hd
  have hu := h.at_ (p + i) (by omega)
  have hadd : (⟨g, 0, none⟩ : Addr).add (p + i) = ⟨g, p + i, none⟩ := by unfold Addr.add; split <;> simp_all
  rw [hadd] at hu
  rw [hu]
  congr 2
  simp [List.getD_eq_getElem?_getD, List.getElem?_take, hi]


set_option maxHeartbeats 4000000 in
set_option maxRecDepth 100000 in
theorem getText_any (B r n : Nat) (v : Value) (l : List Int) (most : Int) (w : World) (h : RdAt B w r v l n) (hn : n ≤ l.length) (hl : l.length ≤ 140737488355328) (hb : Bytes l) (hm0 : -9223372036854775808 ≤ most) (hm1 : most ≤ 9223372036854775807)
    (hU : Lib.Utf8Tabs 1 2 w) :
    Calls Tryz.prog 85 #[.pointer (some ⟨r, 0, none⟩), .int .i64 most] w (TextPost B r n v l most w) := by
  have h0 : w.cell? ⟨r, 0, none⟩ = some v := (blk_cell h.blk 0).trans rfl
  have h1 : w.cell? ⟨r, 1, none⟩ = some (.int .i64 n) := (blk_cell h.blk 1).trans rfl
  have H := Lib.hid h
  have HU := Lib.hid hU
  clear hU
  by_cases hneg : most < 0
  · have HT : Hid (textR l n most = .err n 1) := Lib.hid (by unfold textR; rw [if_pos hneg])
    go_enter Tryz.func85, Tryz.ntmps85
    go_wp2_with (go_at_call 95; refine (wrong_any _ _ _).mono ?_; rintro e w' ⟨rfl, rfl⟩)
    go_ret2
    exact TextPost.bad HT.out rfl (.refl _ _)
  · obtain ⟨q, hq⟩ : ∃ q, q = numR (l.drop n) 0 0 := ⟨_, rfl⟩
    obtain ⟨M, rfl⟩ : ∃ M : Nat, most = M := ⟨most.toNat, by omega⟩
    have hM : M ≤ 9223372036854775807 := by omega
    have hMn : ¬ (M : Int) < 0 := hneg
    have hT0 : textR l n M = textQ l n M q := by unfold textR; rw [if_neg hneg, hq]
    have HQ := Lib.hid hq
    clear hq hneg hm0 hm1
    obtain ⟨A, c, rfl⟩ := h.lies.slice
    have HP : Hid (∀ e w', NumPost l n w e w' → NumQ l n w e w' q) := Lib.hid fun e w' hp => hp.q HQ.out
    cases q with
    | form =>
      have HT : Hid (textR l n M = .err n 12) := Lib.hid hT0
      clear hT0
      go_enter Tryz.func85, Tryz.ntmps85
      go_wp2_with fail
      refine (number_any B r n _ l w H.out hn (by omega) hb).mono ?_
      intro e w' hp
      obtain ⟨rfl, rfl⟩ := HP.out _ _ hp
      clear hp
      go_wp2_with fail
      go_ret2
      exact TextPost.bad HT.out rfl (.refl _ _)
    | fin =>
      have HT : Hid (textR l n M = .err l.length 11) := Lib.hid hT0
      clear hT0
      go_enter Tryz.func85, Tryz.ntmps85
      go_wp2_with fail
      refine (number_any B r n _ l w H.out hn (by omega) hb).mono ?_
      intro e w' hp
      obtain ⟨rfl, rfl⟩ := HP.out _ _ hp
      clear hp
      go_wp2_with fail
      go_ret2
      exact TextPost.bad HT.out rfl (.refl _ _)
    | ok x k =>
      have hx64 := numR_lt _ _ _ _ _ HQ.out.symm
      have hsz := numR_size _ _ _ _ _ HQ.out.symm
      rw [List.length_drop] at hsz
      by_cases hlong : (M : Int) < x
      · have HT : Hid (textR l n M = .err n 13) := Lib.hid (by rw [hT0]; unfold textQ; exact if_pos hlong)
        clear hT0
        go_enter Tryz.func85, Tryz.ntmps85
        go_wp2_with fail
        refine (number_any B r n _ l w H.out hn (by omega) hb).mono ?_
        intro e w' hp
        obtain ⟨rfl, rfl⟩ := HP.out _ _ hp
        clear hp
        go_wp2_with (go_at_call 95; refine (wrong_any _ _ _).mono ?_; rintro e w' ⟨rfl, rfl⟩)
        go_ret2
        exact TextPost.bad HT.out rfl (.refl _ _)
      · simp only [textQ] at hT0
        rw [if_neg hlong] at hT0
        by_cases hend : l.length - (n + k) < x
        · have HT : Hid (textR l n M = .err l.length 11) := Lib.hid (by rw [hT0]; exact if_pos hend)
          clear hT0
          have he1 : ((l.length : Int) - ((n + k : Nat) : Int)) < x := by omega
          go_enter Tryz.func85, Tryz.ntmps85
          go_wp2_with fail
          refine (number_any B r n _ l w H.out hn (by omega) hb).mono ?_
          intro e w' hp
          obtain ⟨rfl, rfl⟩ := HP.out _ _ hp
          clear hp
          go_wp2_with (go_at_call 95; refine (wrong_any _ _ _).mono ?_; rintro e w' ⟨rfl, rfl⟩)
          go_ret2
          exact TextPost.bad HT.out rfl (.refl _ _)
        · rw [if_neg hend] at hT0
          obtain ⟨F, hF⟩ : ∃ F, F = n + k := ⟨_, rfl⟩
          obtain ⟨g, rfl, hgl⟩ : ∃ g, A = some ⟨g, 0, none⟩ ∧ True := by
            rcases h.lies with ⟨rfl, _⟩ | ⟨g, c', cur, he, _⟩
            · rw [List.length_nil] at hsz; omega
            · injection he with he _ _
              exact ⟨g, he, trivial⟩
          have hcv := fun c' => h.lies.mid (dst := 9) Tryz.underlying26 Tryz.underlying5 Tryz.underlying9 F x (by omega) c'
          have hcl : l.length ≤ c ∧ c ≤ 9223372036854775807 := by
            rcases h.lies with ⟨rfl, he⟩ | ⟨g', c', cur, he, _, _, h3, _, h5, _⟩
            · cases he
            · injection he with _ _ he
              subst he
              unfold maxLen at h5
              omega
          rw [← hF] at hT0
          obtain ⟨Q, hQ⟩ : ∃ Q, Q = (l.drop F).take x := ⟨_, rfl⟩
          rw [← hQ] at hT0
          have hcv2 : ∀ c', (convert 26 9 (.slice (some ⟨g, F, none⟩) x c')).run Tryz.prog w = .ok (.string (strOfNums Q)) w := fun c' => by rw [hQ]; exact hcv c'
          have hQl : Q.length = x := by rw [hQ, List.length_take, List.length_drop]; omega
          have hQb : Bytes Q := by rw [hQ]; exact fun y hy => hb y (List.mem_of_mem_drop (List.mem_of_mem_take hy))
          have hQs : (strOfNums Q).size = x := by rw [strOfNums_size]; exact hQl
          have HT := Lib.hid (And.intro hT0 (And.intro hQb hQl))
          have f1 : (F : Int) + x ≤ l.length := by omega
          have f2 : ((F + x : Nat) : Int) ≤ c := by omega
          have f3 : ¬ ((l.length : Int) - (F : Int)) < x := by omega
          have f4 : ¬ (M : Int) < (x : Int) := hlong
          have f7 : (M < x) = False := eq_false (by omega)
          have f8 : (((l.length : Int) - (F : Int)) < x) = False := eq_false f3
          have f5 : (F : Int) ≤ F + x := by omega
          have f6 : ((l.length : Int) - (F : Int)) % 18446744073709551616 = (l.length : Int) - F := by omega
          have hnum : ∀ e w', NumPost l n w e w' → e = .returned (.tuple #[.int .u64 x, .int .i64 F, .nilIface]) ∧ w' = w := fun e w' hp => by rw [hF]; exact HP.out e w' hp
          have hcv0 : ∀ A' c', (convert 26 9 (.slice A' 0 c')).run Tryz.prog w = .ok (.string (strOfNums [])) w := fun A' c' => convert_none Tryz.underlying26 Tryz.underlying5 Tryz.underlying9 w A' c'
          have HF := Lib.hid hF
          clear HP hT0 hQb hcv hQ hF hsz hend hlong
          by_cases hcF : c = F
          · obtain rfl : x = 0 := by omega
            obtain rfl : Q = [] := List.eq_nil_of_length_eq_zero hQl
            have HR : Hid (textR l n M = .ok [] F) := Lib.hid (by rw [HT.out.1, badR_nil]; rfl)
            have hcF' : (c = F) = True := eq_true hcF
            clear HT hQl hQs hcv2 hcF
            go_enter Tryz.func85, Tryz.ntmps85
            go_wp2_with fail
            refine (number_any B r n _ l w H.out hn (by omega) hb).mono ?_
            intro e w' hp
            obtain ⟨rfl, rfl⟩ := hnum _ _ hp
            clear hp hnum
            go_wp2_with fail
            refine wp_loop_rounds 1 ?_
            rw [rounds_succ]
            have hz : (strOfNums []).size = 0 := rfl
            have hf1 := blk_frozen h.blk 1
            go_wp2_with fail
            go_ret2
            unfold TextPost
            rw [HR.out]
            exact ⟨rfl, H.out.move F⟩
          · clear hcv0
            go_enter Tryz.func85, Tryz.ntmps85
            go_wp2_with fail
            refine (number_any B r n _ l w H.out hn (by omega) hb).mono ?_
            intro e w' hp
            obtain ⟨rfl, rfl⟩ := hnum _ _ hp
            clear hp hnum
            go_wp2_with fail
            simp only [Nat.add_sub_cancel_left]
            go_loopw [10, 11, 12] (fun i _ _ wr => ∃ j : Nat, i = .int .i64 j ∧ j ≤ x ∧ badR Q = (badR (Q.drop j)).map (· + j) ∧ Kept (fun _ => False) w' wr) (fun i _ _ _ => x - (intOf i).toNat)
            case atStart => exact ⟨0, rfl, by omega, by simp, .refl _ _⟩
            case round =>
              obtain ⟨j, rfl, hj, hbad, hkw⟩ := hrel
              by_cases hjx : j < x
              · have j1 : (j : Int) < x := by omega
                have j2 : (0 : Int) ≤ j := by omega
                have hse := str_end Q j
                rw [hQs] at hse
                have hne : Q.drop j ≠ [] := drop_ne (by omega)
                have hdb : Bytes (Q.drop j) := fun y hy => HT.out.2.1 y (List.mem_of_mem_drop hy)
                have hdec := decode_nums (Q.drop j) hdb hne
                have hUw : Lib.Utf8Tabs 1 2 wr := Utf8Tabs.kept HU.out hkw (by simp) (by simp)
                have hcall := Tryz.utf8_DecodeRuneInString (strOfNums (Q.drop j)) wr hUw
                have hwr : ∀ w2, Below wr.heap.size wr w2 → Kept (fun _ => False) w' w2 := fun w2 hb => hkw.trans (Kept.of_below hb _) (fun _ _ e => e) (fun _ _ e => e)
                obtain ⟨R, hR⟩ : ∃ R, R = (Lib.decodeGo (strOfNums (Q.drop j))).1 := ⟨_, rfl⟩
                obtain ⟨K, hK⟩ : ∃ K, K = (Lib.decodeGo (strOfNums (Q.drop j))).2 := ⟨_, rfl⟩
                rw [← hR, ← hK] at hcall
                by_cases hr0 : rn (Q.drop j) = 0
                · have he := hdec.1 hr0
                  rw [he] at hR hK
                  subst hR hK
                  have HR : Hid (textR l n M = .err ((F : Int) + j) 14) := Lib.hid (by rw [HT.out.1, hbad, badR_bad hne hr0]; simp)
                  have HW := Lib.hid hwr
                  clear hne hbad hkw he hdec hr0 hwr
                  go_wp2_with fail
                  refine hcall.mono ?_
                  rintro e w2 ⟨rfl, hbw⟩
                  have HK := Lib.hid (HW.out _ hbw)
                  clear hbw hcall
                  go_wp2_with (go_at_call 95; refine (wrong_any _ _ _).mono ?_; rintro e w' ⟨rfl, rfl⟩)
                  go_ret2
                  exact TextPost.bad HR.out rfl HK.out
                · have he := hdec.2 hr0
                  rw [← hR, ← hK] at he
                  have hbad2 : badR Q = (badR (Q.drop (j + K))).map (· + (j + K)) := by
                    rw [hbad, badR_go hne hr0, List.drop_drop, he.1, Option.map_map]
                    congr 1
                    funext i
                    simp only [Function.comp]
                    omega
                  have hKx : j + K ≤ x := by
                    have := rn_le (Q.drop j)
                    rw [List.length_drop] at this
                    omega
                  have hK0 : 0 < K := by omega
                  have HB := Lib.hid (And.intro hbad2 hKx)
                  have HW := Lib.hid hwr
                  have hK3 : (j : Int) + K ≤ x := by omega
                  have hor := he.2
                  clear hne hbad hkw he hdec hr0 hwr hR hK hbad2 hKx
                  by_cases hR1 : R = 65533
                  · have b1 : ((R : Int) == 65533) = true := by rw [beq_iff_eq]; omega
                    have b2 : ((K : Int) == 1) = false := by rw [beq_eq_false_iff_ne]; omega
                    clear hR1 hor
                    go_wp2_with fail
                    refine hcall.mono ?_
                    rintro e w2 ⟨rfl, hbw⟩
                    have HK := Lib.hid (HW.out _ hbw)
                    clear hbw hcall
                    go_wp2_with fail
                    go_roundw
                    case rel => exact ⟨j + K, by go_num, HB.out.2, HB.out.1, HK.out⟩
                    case measure => simp [intOf]; omega
                  · have b1 : ((R : Int) == 65533) = false := by rw [beq_eq_false_iff_ne]; omega
                    clear hR1 hor
                    go_wp2_with fail
                    refine hcall.mono ?_
                    rintro e w2 ⟨rfl, hbw⟩
                    have HK := Lib.hid (HW.out _ hbw)
                    clear hbw hcall
                    go_wp2_with fail
                    go_roundw
                    case rel => exact ⟨j + K, by go_num, HB.out.2, HB.out.1, HK.out⟩
                    case measure => simp [intOf]; omega
              · have j1 : ¬ (j : Int) < x := by omega
                obtain rfl : j = x := by omega
                have HR : Hid (textR l n M = .ok Q (F + j)) := Lib.hid (by rw [HT.out.1, hbad, List.drop_eq_nil_of_le (by omega), badR_nil]; rfl)
                have hrd := H.out.kept hkw (by simp) (by simp)
                have h1w : wr.cell? ⟨r, 1, none⟩ = some (.int .i64 n) := (blk_cell hrd.blk 1).trans rfl
                have hf1 := blk_frozen hrd.blk 1
                have HD := Lib.hid (And.intro hkw hrd)
                clear hbad hkw hrd
                go_wp2_with fail
                go_ret2
                unfold TextPost
                rw [HR.out]
                have hmv := HD.out.2.move (F + j)
                exact ⟨rfl, hmv.1, HD.out.1.trans hmv.2 (fun _ _ e => e.elim) (fun _ _ e => e)⟩


def rawR (l : List Int) (p : Nat) (n : Int) : TRes := if n < 0 then .err p 1 else if ((l.length - p : Nat) : Int) < n then .err l.length 11 else .ok ((l.drop p).take n.toNat) (p + n.toNat)
def RawPost (B r p : Nat) (v : Value) (l : List Int) (n : Int) (w : World) (e : Ending) (w' : World) : Prop :=
  match rawR l p n with
  | .ok q m => ∃ v', e = .returned (.tuple #[v', .nilIface]) ∧ w'.ownsRow w.heap.size 5 1 v' q.length (nums .u8 q) ∧ RdAt B w' r v l m ∧ Kept (fun i => i = r) w w'
  | .err a no => ∃ err, e = .returned (.tuple #[.slice none 0 0, err]) ∧ ErrPost a no w err w'
theorem RawPost.bad {B r p : Nat} {v : Value} {l : List Int} {n : Int} {w w1 : World} {a no a' : Int} (h : rawR l p n = .err a no) (ha : a' = a) (hk : Kept (fun _ => False) w w1) :
    RawPost B r p v l n w (.returned (.tuple #[.slice none 0 0, .iface 35 (.pointer (some ⟨w1.heap.size, 0, none⟩))])) (w1.alloc (.cells #[.int .i64 a', .int .i64 no] 39)) := by
  subst ha
  unfold RawPost
  rw [h]
  exact ⟨_, rfl, .new hk⟩

set_option maxHeartbeats 4000000 in
set_option maxRecDepth 100000 in
theorem getRaw_any (B r p : Nat) (v : Value) (l : List Int) (n : Int) (w : World) (h : RdAt B w r v l p) (hp : p ≤ l.length) (hl : l.length ≤ 140737488355328) (hn0 : -9223372036854775808 ≤ n) (hn1 : n ≤ 9223372036854775807) :
    Calls Tryz.prog 84 #[.pointer (some ⟨r, 0, none⟩), .int .i64 n] w (RawPost B r p v l n w) := by
  have h0 : w.cell? ⟨r, 0, none⟩ = some v := (blk_cell h.blk 0).trans rfl
  have h1 : w.cell? ⟨r, 1, none⟩ = some (.int .i64 p) := (blk_cell h.blk 1).trans rfl
  have H := Lib.hid h
  obtain ⟨A, c, rfl⟩ := h.lies.slice
  by_cases hneg : n < 0
  · have HT : Hid (rawR l p n = .err p 1) := Lib.hid (by unfold rawR; rw [if_pos hneg])
    go_enter Tryz.func84, Tryz.ntmps84
    go_wp2_with (go_at_call 95; refine (wrong_any _ _ _).mono ?_; rintro e w' ⟨rfl, rfl⟩)
    go_ret2
    exact RawPost.bad HT.out rfl (.refl _ _)
  · by_cases hend : ((l.length - p : Nat) : Int) < n
    · have HT : Hid (rawR l p n = .err l.length 11) := Lib.hid (by unfold rawR; rw [if_neg hneg, if_pos hend])
      go_enter Tryz.func84, Tryz.ntmps84
      go_wp2_with fail
      refine (left_any B r p _ l w H.out hp (by omega)).mono ?_
      rintro e w1 ⟨rfl, hk1⟩
      have hr1 := H.out.kept hk1 (by simp) (by simp)
      have h0w : w1.cell? ⟨r, 0, none⟩ = some (.slice A l.length c) := (blk_cell hr1.blk 0).trans rfl
      have HK := Lib.hid hk1
      clear hk1 hr1
      go_wp2_with (go_at_call 95; refine (wrong_any _ _ _).mono ?_; rintro e w' ⟨rfl, rfl⟩)
      go_ret2
      exact RawPost.bad HT.out rfl HK.out
    · obtain ⟨k, rfl⟩ : ∃ k : Nat, n = k := ⟨n.toNat, by omega⟩
      have HT : Hid (rawR l p k = .ok ((l.drop p).take k) (p + k)) := Lib.hid (by unfold rawR; rw [if_neg hneg, if_neg hend]; rfl)
      obtain ⟨Q, hQ⟩ : ∃ Q, Q = (l.drop p).take k := ⟨_, rfl⟩
      rw [← hQ] at HT
      have hQl : Q.length = k := by rw [hQ, List.length_take, List.length_drop]; omega
      have hpk : p + k ≤ l.length := by omega
      obtain ⟨i0, hi, hz0, hz1, hz2⟩ := info_parts Tryz.info5
      have f1 : ¬ (k : Int) < 0 := hneg
      go_enter Tryz.func84, Tryz.ntmps84
      go_wp2_with fail
      refine (left_any B r p _ l w H.out hp (by omega)).mono ?_
      rintro e w1 ⟨rfl, hk1⟩
      have HK := Lib.hid hk1
      have hs1 := hk1.size
      clear hk1 hneg
      go_wp2_with (refine wpList_make_full w1 rfl _ _ 26 rfl w.heap.size 5 i0 (.int .u8 0) 1 Tryz.underlying26 hi hz0 hz1 .i64 .i64 _ _ k rfl rfl rfl rfl ?c1 ?c2 ?c3 ?_)
      case c1 => rw [hz2]; omega
      case c2 => simp [maxLen]; omega
      case c3 => exact hs1
      rintro w2 hown hgr
      obtain ⟨cur, hh, hsz⟩ : ∃ cur, w2.heap[w1.heap.size]? = some (.cells cur 5 (0, 0)) ∧ cur.size = k := by
        rcases hown.2 with ⟨h, _⟩ | ⟨g', cap, cur, h, hb, hh, h1, h2, h3, h4⟩
        · cases h
        · injection h with ha hb' hc'
          injection ha with ha
          injection ha with ha
          subst ha; subst hc'
          exact ⟨cur, hh, by omega⟩
      have hk2 : Kept (fun _ => False) w w2 := HK.out.trans (Kept.of_grown hgr (fun _ e => by cases e)) (fun _ _ e => e) (fun _ _ e => e)
      have hr2 := H.out.kept hk2 (by simp) (by simp)
      have h02 : w2.cell? ⟨r, 0, none⟩ = some (.slice A l.length c) := (blk_cell hr2.blk 0).trans rfl
      have h12 : w2.cell? ⟨r, 1, none⟩ = some (.int .i64 p) := (blk_cell hr2.blk 1).trans rfl
      have hcA : (A = none ∧ l.length = 0 ∧ c = 0 ∧ p = 0 ∧ k = 0) ∨ (∃ g, A = some ⟨g, 0, none⟩ ∧ l.length ≤ c ∧ c ≤ 9223372036854775807 ∧ ∀ j, j < l.length → w2.cell? ⟨g, j, none⟩ = some (.int .u8 (l.getD j 0))) := by
        rcases hr2.lies with ⟨he, he2⟩ | ⟨g', c', cur, he, hb, hh, h3, _, h5, _⟩
        · injection he2 with e1 e2 e3
          exact .inl ⟨e1, e2, e3, by omega, by omega⟩
        · injection he with e1 _ e3
          subst e1 e3
          refine .inr ⟨g', rfl, h3, by unfold maxLen at h5; omega, fun j hj => ?_⟩
          have hadd : (⟨g', 0, none⟩ : Addr).add j = ⟨g', j, none⟩ := by unfold Addr.add; split <;> simp_all
          rw [← hadd]
          exact hr2.lies.at_ j hj
      have hrp : r < w.heap.size := blk_lt h.blk
      have hE : ∀ w3 : World, Hid (w3.heap[w1.heap.size]? = some (.cells (splice cur.toList 0 (nums .u8 Q)).toArray 5 (0, 0))) → Below w.heap.size w w3 →
          RawPost B r p (.slice A l.length c) l k w (.returned (.tuple #[.slice (some ⟨w1.heap.size, 0, none⟩) k k, .nilIface])) (w3.setCell ⟨r, 1, none⟩ (.int .i64 ((p : Int) + k))) := by
        intro w3 h3 hb3
        have hk3 : Kept (fun _ => False) w w3 := Kept.of_below hb3 _
        have hr3 := H.out.kept hk3 (by simp) (by simp)
        have hmv := hr3.move (p + k)
        unfold RawPost
        rw [HT.out]
        refine ⟨_, rfl, ?_, hmv.1, hk3.trans hmv.2 (fun _ _ e => e.elim) (fun _ _ e => e)⟩
        rw [hQl]
        refine ⟨by rw [nums_length, hQl, Nat.mul_one], .inr ⟨w1.heap.size, k, _, rfl, hs1, (Below.heap_setCell w3 _ _ _ (by dsimp only; omega)).trans h3.out, Nat.le_refl _, by unfold maxLen; omega, ?_, ?_⟩⟩
        · simp [splice, nums, hsz, hQl]
        · simp [splice, nums, hQl]
      have hF : ∀ w3 : World, Below w.heap.size w w3 → w3.cell? ⟨r, 1, none⟩ = some (.int .i64 p) ∧ w3.frozen? ⟨r, 1, none⟩ = false ∧ True := by
        intro w3 hb3
        have hr3 := H.out.kept (Kept.of_below hb3 (fun _ => False)) (by simp) (by simp)
        exact ⟨(blk_cell hr3.blk 1).trans rfl, blk_frozen hr3.blk 1, trivial⟩
      have HE := Lib.hid hE
      have HF := Lib.hid hF
      have HS := Lib.hid (And.intro hsz (And.intro hk2 hr2))
      have HH := Lib.hid hh
      have HQ := Lib.hid hQ
      have hp0 : (0 : Int) ≤ p := by omega
      have hpl : (p : Int) ≤ l.length := by omega
      have hpk3 : (p : Int) + k ≤ 140737488355328 := by omega
      clear hsz hown hgr hh hk2 hr2 hQ hE hF
      go_wp2_with fail
      rcases hcA with ⟨rfl, hl0, rfl, hp00, hk0⟩ | ⟨g, rfl, hc1, hc2, hcl⟩
      · have hcl : ∀ j, j < l.length → w2.cell? ⟨0, j, none⟩ = some (.int .u8 (l.getD j 0)) := fun j hj => by omega
        obtain ⟨g, hg⟩ : ∃ g : Nat, g = 0 := ⟨_, rfl⟩
        rw [← hg] at hcl
        have HK0 := Lib.hid hk0
        clear hk0 hl0 hp00
        go_still_tail 10, (by kernel_rfl)
        change wpList _ _ _ _ _ w2.drew
        obtain ⟨W, hW⟩ : ∃ W, W = w2.drew := ⟨_, rfl⟩
        have hbW : Below w.heap.size w W := by rw [hW]; exact (HS.out.2.1.trans (Kept.drew (fun _ => False) w2) (fun _ _ e => e) (fun _ _ e => e)).below (Nat.le_refl _) (fun _ _ => id)
        have hHW : W.heap[w1.heap.size]? = some (.cells cur 5 (0, 0)) := by rw [hW]; exact HH.out
        have hcW : ∀ j, j < l.length → W.cell? ⟨g, j, none⟩ = some (.int .u8 (l.getD j 0)) := by rw [hW]; exact hcl
        rw [← hW]
        have HC := Lib.hid (And.intro hHW hcW)
        clear hW hHW hcW hcl
        go_wp2_with (with_reducible refine wpList_copy_splice rfl (.tmp 28) (.tmp 37) 26 26 rfl 5 Tryz.underlying26 Tryz.size5 _ _ _ _ _ _ rfl rfl w1.heap.size 0 cur.toList 5 (by simpa using HC.out.1) (nums .u8 Q) ?d1 ?d2 ?d3 ?d4 w.heap.size w hbW hs1 ?_)
        case d1 => rw [nums_length, hQl, HK0.out]; exact (Nat.min_zero _).symm
        case d2 => first | (intro h0; rw [nums_length] at h0; have := HK0.out; omega) | (rw [List.eq_nil_of_length_eq_zero (hQl.trans HK0.out)]; rfl)
        case d3 => first | (rw [nums_length, Array.length_toList, HS.out.1]; omega) | (have h5 := HS.out.1; have h6 := hQl; simp [nums_length]; omega)
        case d4 => exact byte_ones _ _
        intro w3 H3 hb3
        have hfz := HF.out w3 hb3
        have h13 := hfz.1
        have hf3 := hfz.2.1
        have HE := Lib.hid (HE.out w3 H3 hb3)
        clear hfz hb3 H3 hbW
        go_wp2_with fail
        go_ret2
        exact HE.out
      · by_cases hcp : c = p
        · have hcp2 : (c = p) = True := eq_true hcp
          have HK0 : Hid (k = 0) := Lib.hid (by omega)
          clear hcp
          go_still_tail 10, (by kernel_rfl)
          change wpList _ _ _ _ _ w2.drew
          obtain ⟨W, hW⟩ : ∃ W, W = w2.drew := ⟨_, rfl⟩
          have hbW : Below w.heap.size w W := by rw [hW]; exact (HS.out.2.1.trans (Kept.drew (fun _ => False) w2) (fun _ _ e => e) (fun _ _ e => e)).below (Nat.le_refl _) (fun _ _ => id)
          have hHW : W.heap[w1.heap.size]? = some (.cells cur 5 (0, 0)) := by rw [hW]; exact HH.out
          have hcW : ∀ j, j < l.length → W.cell? ⟨g, j, none⟩ = some (.int .u8 (l.getD j 0)) := by rw [hW]; exact hcl
          rw [← hW]
          have HC := Lib.hid (And.intro hHW hcW)
          clear hW hHW hcW hcl
          go_wp2_with (with_reducible refine wpList_copy_splice rfl (.tmp 28) (.tmp 37) 26 26 rfl 5 Tryz.underlying26 Tryz.size5 _ _ _ _ _ _ rfl rfl w1.heap.size 0 cur.toList 5 (by simpa using HC.out.1) (nums .u8 Q) ?d1 ?d2 ?d3 ?d4 w.heap.size w hbW hs1 ?_)
          case d1 => rw [nums_length, hQl, HK0.out]; exact (Nat.min_zero _).symm
          case d2 => first | (intro h0; rw [nums_length] at h0; have := HK0.out; omega) | (rw [List.eq_nil_of_length_eq_zero (hQl.trans HK0.out)]; rfl)
          case d3 => first | (rw [nums_length, Array.length_toList, HS.out.1]; omega) | (have h5 := HS.out.1; have h6 := hQl; simp [nums_length]; omega)
          case d4 => exact byte_ones _ _
          intro w3 H3 hb3
          have hfz := HF.out w3 hb3
          have h13 := hfz.1
          have hf3 := hfz.2.1
          have HE := Lib.hid (HE.out w3 H3 hb3)
          clear hfz hb3 H3 hbW
          go_wp2_with fail
          go_ret2
          exact HE.out
        · skip
          go_still_tail 10, (by kernel_rfl)
          change wpList _ _ _ _ _ w2.drew
          obtain ⟨W, hW⟩ : ∃ W, W = w2.drew := ⟨_, rfl⟩
          have hbW : Below w.heap.size w W := by rw [hW]; exact (HS.out.2.1.trans (Kept.drew (fun _ => False) w2) (fun _ _ e => e) (fun _ _ e => e)).below (Nat.le_refl _) (fun _ _ => id)
          have hHW : W.heap[w1.heap.size]? = some (.cells cur 5 (0, 0)) := by rw [hW]; exact HH.out
          have hcW : ∀ j, j < l.length → W.cell? ⟨g, j, none⟩ = some (.int .u8 (l.getD j 0)) := by rw [hW]; exact hcl
          rw [← hW]
          have HC := Lib.hid (And.intro hHW hcW)
          clear hW hHW hcW hcl
          go_wp2_with (with_reducible refine wpList_copy_splice rfl (.tmp 28) (.tmp 37) 26 26 rfl 5 Tryz.underlying26 Tryz.size5 _ _ _ _ _ _ rfl rfl w1.heap.size 0 cur.toList 5 (by simpa using HC.out.1) (nums .u8 Q) ?d1 ?d2 ?d3 ?d4 w.heap.size w hbW hs1 ?_)
          case d1 => rw [nums_length]; have e : Nat.min (l.length - p) k = k := Nat.min_eq_right (by omega)
                     rw [e]; exact hQl
          case d2 => 
            intro _ j u hu
            have hj : j < Q.length := by
              rcases Nat.lt_or_ge j Q.length with h' | h'
              · exact h'
              · rw [List.getElem?_eq_none (by rw [nums_length]; exact h')] at hu; cases hu
            rw [nums_get .u8 Q j hj] at hu
            injection hu with hu
            rw [← hu]
            rw [HC.out.2 (p + j) (by omega), HQ.out]
            congr 2
            have hjk : j < k := by omega
            simp [List.getD_eq_getElem?_getD, List.getElem?_take, hjk]
          case d3 => first | (rw [nums_length, Array.length_toList, HS.out.1]; omega) | (have h5 := HS.out.1; have h6 := hQl; simp [nums_length]; omega)
          case d4 => exact byte_ones _ _
          intro w3 H3 hb3
          have hfz := HF.out w3 hb3
          have h13 := hfz.1
          have hf3 := hfz.2.1
          have HE := Lib.hid (HE.out w3 H3 hb3)
          clear hfz hb3 H3 hbW
          go_wp2_with fail
          go_ret2
          exact HE.out

end Go.Proofs.YtlcbgklealipoaaGreatDoor
