/- A reader's Text: what it answers (plain), and its walk. -/
import Derived.Test.YtkefehceakcgoaaDoorV7
import Derived.Test.YtkefehceakcgoaaDoorShelf
namespace Go.Proofs.YtkefehceakcgoaaDoor
open Go.RowKit
set_option linter.unusedVariables false
set_option linter.unusedSimpArgs false

/-- The first byte that belongs to no rune. -/
def badR (l : List Int) : Option Nat :=
  if h : l = [] then none else if h2 : rn l = 0 then some 0 else (badR (l.drop (rn l))).map (· + rn l)
termination_by l.length
decreasing_by
  have := List.length_pos_iff.2 h
  rw [List.length_drop]
  omega
theorem badR_nil : badR [] = none := by rw [badR, dif_pos rfl]
theorem badR_bad {l : List Int} (h : l ≠ []) (h2 : rn l = 0) : badR l = some 0 := by rw [badR, dif_neg h, dif_pos h2]
theorem badR_go {l : List Int} (h : l ≠ []) (h2 : rn l ≠ 0) : badR l = (badR (l.drop (rn l))).map (· + rn l) := by rw [badR, dif_neg h, dif_neg h2]
theorem badR_runes {l : List Int} (h : Runes l) : badR l = none := by
  induction h with
  | nil => exact badR_nil
  | @cons l h t ih =>
    have hne : l ≠ [] := by rintro rfl; simp [rn] at h
    rw [badR_go hne (by omega), ih]
    rfl
theorem numR_size (l : List Int) : ∀ k a, ∀ x n, numR l k a = .ok x n → n ≤ k + l.length ∧ k < n := by
  induction l with
  | nil => intro k a x n h; unfold numR at h; split at h <;> cases h
  | cons b t ih =>
    intro k a x n h
    unfold numR at h
    rw [List.length_cons]
    split at h
    · cases h
    · split at h
      · split at h
        · cases h
        · injection h with h1 h2
          omega
      · have := ih _ _ _ _ h
        omega
theorem drop_ne {l : List Int} {k : Nat} (h : k < l.length) : l.drop k ≠ [] := by
  intro e
  have := congrArg List.length e
  rw [List.length_drop, List.length_nil] at this
  omega
inductive TRes where
  | ok (q : List Int) (m : Nat)
  | err (a no : Int)
/-- What is answered behind the text's length. -/
def textQ (l : List Int) (n : Nat) (most : Int) : NRes → TRes
  | .form => .err n 12
  | .fin => .err l.length 11
  | .ok x k =>
    if most < x then .err n 13 else if l.length - (n + k) < x then .err l.length 11 else
    match badR ((l.drop (n + k)).take x) with
    | some i => .err ((n + k : Nat) + (i : Int)) 14
    | none => .ok ((l.drop (n + k)).take x) (n + k + x)
def textR (l : List Int) (n : Nat) (most : Int) : TRes := if most < 0 then .err n 1 else textQ l n most (numR (l.drop n) 0 0)

/-- An error at a place. -/
def ErrPost (a no : Int) (w : World) (err : Value) (w' : World) : Prop :=
  ∃ g, err = .iface 94 (.pointer (some ⟨g, 0, none⟩)) ∧ w.heap.size ≤ g ∧ w'.heap[g]? = some (.cells #[.int .i64 a, .int .i64 no] 96 (0, 0)) ∧ Kept (fun _ => False) w w'
theorem ErrPost.new {a no : Int} {w w1 : World} (hk : Kept (fun _ => False) w w1) : ErrPost a no w (.iface 94 (.pointer (some ⟨w1.heap.size, 0, none⟩))) (w1.alloc (.cells #[.int .i64 a, .int .i64 no] 96)) :=
  ⟨_, rfl, hk.size, heap_alloc_new w1 _, hk.trans (.alloc _ _ _) (fun _ _ e => e) (fun _ _ e => e)⟩
/-- What comes of a number that was read. -/
def NumQ (l : List Int) (n : Nat) (w : World) (e : Ending) (w' : World) : NRes → Prop
  | .ok v m => e = .returned (.tuple #[.int .u64 v, .int .i64 (n + m : Nat), .nilIface]) ∧ w' = w
  | .form => e = .returned (.tuple #[.int .u64 0, .int .i64 0, .iface 94 (.pointer (some ⟨w.heap.size, 0, none⟩))]) ∧ w' = w.alloc (.cells #[.int .i64 n, .int .i64 12] 96)
  | .fin => e = .returned (.tuple #[.int .u64 0, .int .i64 0, .iface 94 (.pointer (some ⟨w.heap.size, 0, none⟩))]) ∧ w' = w.alloc (.cells #[.int .i64 l.length, .int .i64 11] 96)
theorem NumPost.q {l : List Int} {n : Nat} {w w' : World} {e : Ending} {q : NRes} (hq : q = numR (l.drop n) 0 0) (h : NumPost l n w e w') : NumQ l n w e w' q := by
  unfold NumPost at h
  rw [← hq] at h
  cases q <;> exact h
def TextPost (B r n : Nat) (v : Value) (l : List Int) (most : Int) (w : World) (e : Ending) (w' : World) : Prop :=
  match textR l n most with
  | .ok q m => e = .returned (.tuple #[.string (strOfNums q), .nilIface]) ∧ RdAt B w' r v l m ∧ Kept (fun i => i = r) w w'
  | .err a no => ∃ err, e = .returned (.tuple #[.string ⟨#[]⟩, err]) ∧ ErrPost a no w err w'
theorem TextPost.bad {B r n : Nat} {v : Value} {l : List Int} {most : Int} {w w1 : World} {a no a' : Int} (h : textR l n most = .err a no) (ha : a' = a) (hk : Kept (fun _ => False) w w1) :
    TextPost B r n v l most w (.returned (.tuple #[.string ⟨#[]⟩, .iface 94 (.pointer (some ⟨w1.heap.size, 0, none⟩))])) (w1.alloc (.cells #[.int .i64 a', .int .i64 no] 96)) := by
  subst ha
  unfold TextPost
  rw [h]
  exact ⟨_, rfl, .new hk⟩
/-! ### the decoder at a list of bytes -/
theorem get_oct (q : List Int) (hb : Bytes q) (j : Nat) : ((strOfNums q).get! j).toNat = oct q j := by
  by_cases h : j < q.length
  · have hs : j < (strOfNums q).size := by rw [strOfNums_size]; exact h
    have := str_byte hb j h hs
    rw [Utf8W.get!_of_lt _ _ hs]
    omega
  · have e1 : oct q j = 0 := by unfold oct; rw [List.getD_eq_getElem?_getD, List.getElem?_eq_none (by omega)]; rfl
    rw [e1, ByteArray.get!, show (strOfNums q).data[j]! = default from by
      rw [getElem!_def, Array.getElem?_eq_none (by have : (strOfNums q).data.size = q.length := strOfNums_size q
                                                   omega)]]
    rfl
theorem decode_nums (q : List Int) (hb : Bytes q) (hq : q ≠ []) :
    (rn q = 0 → Lib.decodeGo (strOfNums q) = (65533, 1)) ∧ (rn q ≠ 0 → (Lib.decodeGo (strOfNums q)).2 = rn q ∧ ((Lib.decodeGo (strOfNums q)).1 ≠ 65533 ∨ (Lib.decodeGo (strOfNums q)).2 ≠ 1)) := by
  have hp := List.length_pos_iff.2 hq
  have hs : (strOfNums q).size = q.length := strOfNums_size q
  have e : Lib.decodeGo (strOfNums q) = Lib.decodeN q.length (oct q 0) (oct q 1) (oct q 2) (oct q 3) := by
    unfold Lib.decodeGo
    rw [if_neg (by omega), Lib.decode_at, get_oct q hb, get_oct q hb, get_oct q hb, get_oct q hb, hs]
    rfl
  rw [e, rn_ne hq]
  exact decode_rune q.length _ _ _ _ hp (oct_lt hb 0) (oct_lt hb 1) (oct_lt hb 2) (oct_lt hb 3)
theorem str_end (q : List Int) (k : Nat) : (strOfNums q).extract k (strOfNums q).size = strOfNums (q.drop k) := by
  apply ByteArray.ext
  apply Array.toList_inj.1
  rw [ByteArray.data_extract, Array.toList_extract, strOfNums_data, strOfNums_data, strOfNums_size]
  simp [List.extract_eq_take_drop, List.map_drop, List.map_take]
  rw [List.take_of_length_le]
  simp
theorem Utf8Tabs.kept {a b : Nat} {S : Nat → Prop} {w w' : World} (h : Lib.Utf8Tabs a b w) (hk : Kept S w w') (ha : ¬ S a) (hb : ¬ S b) : Lib.Utf8Tabs a b w' := by
  have key : ∀ g o v, ¬ S g → w.cell? ⟨g, o, none⟩ = some v → w'.cell? ⟨g, o, none⟩ = some v := fun g o v hg hc =>
    (World.cell?_of_block (hk.block g (World.block_lt_of_cell? w ⟨g, o, none⟩ hc) hg)).trans hc
  exact ⟨fun c hc => key _ _ _ ha (h.1 c hc), fun i hi => ⟨key _ _ _ hb (h.2 i hi).1, key _ _ _ hb (h.2 i hi).2⟩⟩
theorem convert_none {P : Program} {src dst e : TypeId} (hs : P.underlying src = some (.slice e)) (he : P.underlying e = some (.int .u8)) (hd : P.underlying dst = some .string) (w : World) (A : Option Addr) (c : Nat) :
    (convert src dst (.slice A 0 c)).run P w = .ok (.string (strOfNums [])) w := by
  cases A with
  | none => exact run_convert_bytes_nil w src e hs he 0 c dst hd
  | some a =>
    rw [run_convert_bytes_string w src dst e _ 0 c hs he hd]
    simp [Conv.bytesToString, loadCells, loadCellsFrom]
    rfl
/-- A part of the bytes as a text. -/
theorem Lies.mid {P : Program} {w : World} {E B : Nat} {src dst e : TypeId} {g c : Nat} {l : List Int} (hs : P.underlying src = some (.slice e)) (he : P.underlying e = some (.int .u8)) (hd : P.underlying dst = some .string)
    (h : Lies E B w (.slice (some ⟨g, 0, none⟩) l.length c) l) (p x : Nat) (hp : p + x ≤ l.length) (c' : Nat) :
    (convert src dst (.slice (some ⟨g, p, none⟩) x c')).run P w = .ok (.string (strOfNums ((l.drop p).take x))) w := by
  refine run_convert_bytes_arg w src e hs he g p x c' _ (by rw [List.length_take, List.length_drop]; omega) (fun i hi => ?_) dst hd
  have hu := h.at_ (p + i) (by omega)
  have hadd : (⟨g, 0, none⟩ : Addr).add (p + i) = ⟨g, p + i, none⟩ := by unfold Addr.add; split <;> simp_all
  rw [hadd] at hu
  rw [hu]
  congr 2
  simp [List.getD_eq_getElem?_getD, List.getElem?_take, hi]
end Go.Proofs.YtkefehceakcgoaaDoor
