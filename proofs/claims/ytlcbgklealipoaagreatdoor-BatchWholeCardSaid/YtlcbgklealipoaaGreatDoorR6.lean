/- What Encode begins with, and the writer that it lays all down with. -/
import Derived.Test.YtlcbgklealipoaaGreatDoorR4
import Derived.Test.YtlcbgklealipoaaGreatDoorZK
import Derived.Test.YtlcbgklealipoaaGreatDoorZR
namespace Go.Proofs.YtlcbgklealipoaaGreatDoor
open Go Go.RowKit
set_option linter.unusedVariables false
set_option linter.unusedSimpArgs false

theorem WAt.new (w : World) : WAt (w.heap.size + 3) w.heap.size (w.heap.size + 1) (w.heap.size + 2) w ⟨[], [], 0, []⟩ 0
    ((((w.alloc (.cells #[.slice none 0 0] 160)).alloc (.map #[] 0)).alloc (.map #[] 0)).alloc (.cells (wC w.heap.size (w.heap.size + 1) (.slice none 0 0) (w.heap.size + 2) (.slice none 0 0) 0) 91)) := by
  have h0 := WrAt.new 160 5 w
  obtain ⟨W1, e1⟩ : ∃ W, W = w.alloc (.cells #[.slice none 0 0] 160) := ⟨_, rfl⟩
  have s1 : W1.heap.size = w.heap.size + 1 := by rw [e1]; simp
  obtain ⟨W2, e2⟩ : ∃ W, W = W1.alloc (.map #[] 0) := ⟨_, rfl⟩
  have s2 : W2.heap.size = w.heap.size + 2 := by rw [e2]; simp [s1]
  obtain ⟨W3, e3⟩ : ∃ W, W = W2.alloc (.map #[] 0) := ⟨_, rfl⟩
  have s3 : W3.heap.size = w.heap.size + 3 := by rw [e3]; simp [s2]
  have m1 : W2.ownsMap Tryz.prog 9 (plainElem Tryz.prog 3) (w.heap.size + 1) 0 (.map [] : DataW Unit) := by rw [e2, ← s1]; exact World.ownsMap_made W1 _ _ _
  have m2 : W3.ownsMap Tryz.prog 68 (plainElem Tryz.prog 3) (w.heap.size + 2) 0 (.map [] : DataW Unit) := by rw [e3, ← s2]; exact World.ownsMap_made W2 _ _ _
  have m1' : W3.ownsMap Tryz.prog 9 (plainElem Tryz.prog 3) (w.heap.size + 1) 0 (.map [] : DataW Unit) := by rw [e3]; exact m1.alloc _
  rw [← e1, ← e2, ← e3]
  have hb := heap_alloc_new W3 (.cells (wC w.heap.size (w.heap.size + 1) (.slice none 0 0) (w.heap.size + 2) (.slice none 0 0) 0) 91)
  rw [s3] at hb
  rw [← e1] at h0
  have h3 : WrAt 160 5 w.heap.size W3 w.heap.size (.slice none 0 0) [] := by
    rw [e3, e2]
    exact (h0.kept (.alloc (fun _ => False) _ _) (fun h => h) (fun _ _ h => h)).kept (.alloc (fun _ => False) _ _) (fun h => h) (fun _ _ h => h)
  refine ⟨⟨.slice none 0 0, h3.kept (.alloc (fun _ => False) _ _) (fun h => h) (fun _ _ h => h)⟩, ⟨.slice none 0 0, .slice none 0 0,
    ⟨hb, by decide, rfl, rfl, by omega, ⟨by simp, .inl ⟨rfl, rfl⟩⟩, _, m1'.alloc _, .new⟩, ⟨hb, by decide, rfl, rfl, by omega, ⟨by simp, .inl ⟨rfl, rfl⟩⟩, _, m2.alloc _, .new⟩⟩, by omega, ?_, by omega, by simp⟩
  rw [e3, e2, e1]
  exact (((Kept.alloc _ w _).trans (.alloc _ _ _) (U := fun _ => False) (fun _ _ e => e) (fun _ _ e => e)).trans (.alloc _ _ _) (U := fun _ => False) (fun _ _ e => e) (fun _ _ e => e)).trans (.alloc _ _ _) (fun _ _ e => e) (fun _ _ e => e)
/-- The writer out, from the world V on. -/
structure OAt (V : World) (g : Nat) (l : List Int) (N : Nat) (W : World) : Prop where
  wr : ∃ v, WrAt 160 5 V.heap.size W g v l
  kept : Kept (fun _ => False) V W
  len : l.length ≤ N
theorem OAt.new (V : World) : OAt V V.heap.size [] 0 (V.alloc (.cells #[.slice none 0 0] 160)) := ⟨⟨_, WrAt.new 160 5 V⟩, .alloc _ _ _, Nat.le_refl _⟩
section
variable {V W : World} {g N : Nat} {l : List Int}
theorem OAt.later {W' : World} (h : OAt V g l N W) (hk : Kept (fun _ => False) W W') : OAt V g l N W' := by
  obtain ⟨v, hv⟩ := h.wr
  exact ⟨⟨v, hv.kept hk (fun h => h) (fun _ _ h => h)⟩, h.kept.trans hk (fun _ _ e => e) (fun _ _ e => e), h.len⟩
theorem OAt.alloc (h : OAt V g l N W) (o : Obj) : OAt V g l N (W.alloc o) := h.later (.alloc _ _ _)
def OPost (V : World) (g : Nat) (l : List Int) (N : Nat) (W : World) (e : Ending) (w' : World) : Prop := e = .returned (.tuple #[]) ∧ OAt V g l N w' ∧ ∀ (xb : Nat) (cs : Array Value) (t : TypeId) (fr : Nat × Nat), W.heap[xb]? = some (.cells cs t fr) → t ≠ 160 → t ≠ 5 → w'.heap[xb]? = some (.cells cs t fr)
theorem OAt.step {v : Value} {l' : List Int} {N' : Nat} (h : OAt V g l N W) (hv : WrAt 160 5 V.heap.size W g v l) (hN : l'.length ≤ N') {e : Ending} {w' : World} (hp : UintPost V.heap.size g v l' W e w') : OPost V g l' N' W e w' := by
  obtain ⟨rfl, v', hst⟩ := hp
  refine ⟨rfl, ⟨⟨v', hst.at_⟩, h.kept.trans hst.kept (fun _ _ e => e) (fun i hi e => ?_), hN⟩, fun xb cs t fr hx h1 h2 => blk_kept hst.kept hx ?_⟩
  · rcases e with rfl | e
    · have := hv.base; omega
    · have := (hv.own.lt i e).1; omega
  · rintro (rfl | e)
    · have := hv.blk.symm.trans hx
      injection this with this
      injection this with _ this
      exact h1 this.symm
    · exact own_ne hv.own hx h2 e
theorem oUint (h : OAt V g l N W) (n : Nat) (hn : n < 18446744073709551616) (hN : N ≤ 1000000000) : Calls Tryz.prog 35 #[.pointer (some ⟨g, 0, none⟩), .int .u64 n] W (OPost V g (l ++ venc n) (N + 10) W) := by
  obtain ⟨v, hv⟩ := h.wr
  have hl := h.len
  exact (uint_any V.heap.size g v l n W hn hv (by omega)).mono fun e w' hp => h.step hv (by rw [List.length_append]; have := venc_len10 hn; omega) hp
theorem oText (h : OAt V g l N W) (x : ByteArray) (hx : x.size ≤ 200) (hN : N ≤ 1000000000) : Calls Tryz.prog 36 #[.pointer (some ⟨g, 0, none⟩), .string x] W (OPost V g (l ++ txt x) (N + 210) W) := by
  obtain ⟨v, hv⟩ := h.wr
  have hl := h.len
  have ho := octs_len x
  have hc := text_any V.heap.size g v l (octs x) (l ++ venc x.size) W (octs_bytes x) hv (by rw [ho]) (by rw [ho]; omega)
  rw [strOfNums_octs, List.append_assoc] at hc
  refine hc.mono fun e w' hp => h.step hv ?_ hp
  have := venc_len10 (n := x.size) (by omega)
  unfold txt
  rw [List.length_append, List.length_append, ho]; omega
theorem oRaw (h : OAt V g l N W) (y : Value) (p : List Int) (M : Nat) (hr : Reads W y p) (hp : p.length ≤ M) (hN : N ≤ 1000000000) (hM : M ≤ 1000000000) : Calls Tryz.prog 34 #[.pointer (some ⟨g, 0, none⟩), y] W (OPost V g (l ++ p) (N + M) W) := by
  obtain ⟨v, hv⟩ := h.wr
  have hl := h.len
  exact (raw_any V.heap.size g v y l p W hr hv (by omega)).mono fun e w' hq => h.step hv (by rw [List.length_append]; omega) hq
theorem oLen (h : OAt V g l N W) (hN : N ≤ 1000000000) : Calls Tryz.prog 39 #[.pointer (some ⟨g, 0, none⟩)] W fun e w' => e = .returned (.int .i64 l.length) ∧ w' = W := by
  obtain ⟨v, hv⟩ := h.wr
  have hl := h.len
  have hc : W.cell? ⟨g, 0, none⟩ = some v := (blk_cell hv.blk 0).trans rfl
  obtain ⟨A, c, rfl⟩ := own_slice hv.own
  go_enter Tryz.func39, Tryz.ntmps39
  go_wp2_with fail
  go_ret
  exact ⟨rfl, rfl⟩
theorem oBytes (h : OAt V g l N W) (hN : N ≤ 1000000000) : Calls Tryz.prog 38 #[.pointer (some ⟨g, 0, none⟩)] W (BytesPost 0 l W) := by
  obtain ⟨v, hv⟩ := h.wr
  have hl := h.len
  exact bytes_any V.heap.size g v l W hv (by omega)
end
/-- A span's first store. -/
theorem wpList_spn_new {w : World} {ops : Array Oper} {rest : List Oper} {op : Oper} {a : Act} {Q : Exit → Act → World → Prop} (hgd : op.guard = none) (x y : Operand) (ho : op.op = .store 76 x y) (cs cs0 : Array Value) (hx : a.eval x = .pointer (some ⟨w.heap.size, 0, none⟩)) (hy : a.eval y = .agg cs) (hn : cs.size = 13) (h1 : cs.all (·.oneCell') = true) (hn0 : cs0.size = 13)
    (h : ∀ w', w'.heap[w.heap.size]? = some (.cells cs 76 (0, 0)) → Kept (fun _ => False) w w' → wpList Tryz.prog ops Q rest (a.put op.dst undef) w') : wpList Tryz.prog ops Q (op :: rest) a (w.alloc (.cells cs0 76)) :=
  wpList_store_blk hgd 76 x y ho 13 Tryz.size76 w.heap.size cs0 cs hx hy (heap_alloc_new w _) hn hn0 h1 fun w' h1 h2 => h w' h1 ((Kept.alloc (fun _ => False) w _).trans h2 (fun _ _ e => e) fun i hi e => by omega)
/-- What Encode answers. -/
def EncPost (ss : List Spn) (w : World) (e : Ending) (w' : World) : Prop :=
  match encR ss with
  | .ok L => ∃ v, e = .returned (.tuple #[v, .nilIface]) ∧ Lies 5 w.heap.size w' v L ∧ Kept (fun _ => False) w w'
  | .err a no => ∃ err, e = .returned (.tuple #[.slice none 0 0, err]) ∧ ErrPost a no w err w'
theorem EncPost.bad {ss : List Spn} {w w1 : World} {a no a' : Int} (h : encR ss = .err a no) (ha : a' = a) (hk : Kept (fun _ => False) w w1) :
    EncPost ss w (.returned (.tuple #[.slice none 0 0, .iface 35 (.pointer (some ⟨w1.heap.size, 0, none⟩))])) (w1.alloc (.cells #[.int .i64 a', .int .i64 no] 39)) := by
  subst ha
  unfold EncPost
  rw [h]
  exact ⟨_, rfl, .new hk⟩
theorem encR_many {ss : List Spn} (h : 500 < ss.length) : encR ss = .err 500 53 := by unfold encR; rw [if_pos h]
theorem encR_bad {ss : List Spn} {k : Nat} {s : Spn} (h : ss.length ≤ 500) (hk : ss[k]? = some s) (hb : ∀ x ∈ ss.take k, checkS x = 0) (hc : checkS s ≠ 0) : encR ss = .err k (checkS s) := by
  have hf : (ss.findIdx? fun s => checkS s != 0) = some k := by
    rw [List.findIdx?_eq_some_iff_getElem]
    have hl := (List.getElem?_eq_some_iff.1 hk).1
    have he := (List.getElem?_eq_some_iff.1 hk).2
    refine ⟨hl, by rw [he]; simpa using hc, fun j hj => ?_⟩
    have := hb (ss[j]'(by omega)) (by
      rw [List.mem_iff_getElem?]
      exact ⟨j, by rw [List.getElem?_take, if_pos hj, List.getElem?_eq_getElem (by omega)]⟩)
    simpa using this
  unfold encR
  rw [if_neg (by omega)]
  simp only [hf, hk, Option.map_some, Option.getD_some]
theorem encR_end {ss : List Spn} (h : ss.length ≤ 500) (hb : ∀ x ∈ ss, checkS x = 0) : encR ss = if 65536 < (encB ss).length then .err 0 51 else .ok (encB ss) := by
  have hf : (ss.findIdx? fun s => checkS s != 0) = none := by
    rw [List.findIdx?_eq_none_iff]
    intro x hx
    simpa using hb x hx
  unfold encR
  rw [if_neg (by omega)]
  simp only [hf]
/-- A row's cells. -/
theorem own_elem {w : World} {B e sz n c : Nat} {A : Option Addr} {xs : List Value} (h : w.ownsRow B e sz (.slice A n c) n xs) (hn : 0 < xs.length) : ∃ g, A = some ⟨g, 0, none⟩ ∧ B ≤ g ∧ ∀ (j : Nat) u, xs[j]? = some u → w.cell? ⟨g, j, none⟩ = some u := by
  rcases h.2 with ⟨h1, h2⟩ | ⟨g, cap, cur, h1, hb, hh, _, _, _, ht⟩
  · have := h.1
    rw [h2] at this
    omega
  · injection h1 with h1 _ _
    refine ⟨g, h1, hb, fun j u hu => ?_⟩
    rw [blk_cell hh]
    rw [← ht, List.getElem?_take] at hu
    split at hu
    · simpa using hu
    · cases hu
def trA (x : Nat × Nat) : Array Value := #[.int .u64 x.1, .int .u64 x.2]
theorem Tryz.size68 : (Tryz.prog.info? 68).map (·.size) = some 2 := by kernel_rfl
section
variable {w : World} {ops : Array Oper} {rest : List Oper} {op : Oper} {a : Act} {Q : Exit → Act → World → Prop}
theorem wpList_tr (hgd : op.guard = none) (x : Operand) (ho : op.op = .load 68 x) (b o : Nat) (s : Nat × Nat) (hx : a.eval x = .pointer (some ⟨b, o, none⟩)) (hb : w.rangeAt b o (trA s).toList)
    (h : wpList Tryz.prog ops Q rest (a.put op.dst (.agg (trA s))) w) : wpList Tryz.prog ops Q (op :: rest) a w :=
  wpList_load_mid hgd 68 x ho b o hx _ _ hb Tryz.underlying68 rfl (by rw [Tryz.size68]; rfl) (by simpa using h)
theorem wpList_tr_new (hgd : op.guard = none) (x y : Operand) (ho : op.op = .store 68 x y) (s : Nat × Nat) (cs0 : Array Value) (hx : a.eval x = .pointer (some ⟨w.heap.size, 0, none⟩)) (hy : a.eval y = .agg (trA s)) (hn0 : cs0.size = 2)
    (h : ∀ w', w'.heap[w.heap.size]? = some (.cells (trA s) 68 (0, 0)) → Kept (fun _ => False) w w' → wpList Tryz.prog ops Q rest (a.put op.dst undef) w') : wpList Tryz.prog ops Q (op :: rest) a (w.alloc (.cells cs0 68)) :=
  wpList_store_blk hgd 68 x y ho 2 Tryz.size68 w.heap.size cs0 (trA s) hx hy (heap_alloc_new w _) rfl hn0 (by simp [trA, Value.oneCell']) fun w' h1 h2 => h w' h1 ((Kept.alloc (fun _ => False) w _).trans h2 (fun _ _ e => e) fun i hi e => by omega)
end
theorem tr_get (l : List (Nat × Nat)) : ∀ (k : Nat) (x : Nat × Nat), l[k]? = some x → (l.flatMap trC)[2 * k]? = some (.int .u64 x.1) ∧ (l.flatMap trC)[2 * k + 1]? = some (.int .u64 x.2) := by
  induction l with
  | nil => intro k x h; simp at h
  | cons y t ih =>
    intro k x h
    cases k with
    | zero =>
      obtain rfl : y = x := by simpa using h
      exact ⟨rfl, rfl⟩
    | succ k =>
      have := ih k x (by simpa using h)
      rw [List.flatMap_cons, show 2 * (k + 1) = 2 * k + 1 + 1 by omega, show 2 * k + 1 + 1 + 1 = (2 * k + 1) + 1 + 1 by omega]
      exact this
theorem flat_snoc {α β : Type} (f : α → List β) {l : List α} {k : Nat} {x : α} (h : l[k]? = some x) : (l.take (k + 1)).flatMap f = (l.take k).flatMap f ++ f x := by
  rw [take_snoc h, List.flatMap_append]; simp
theorem spn_ones {w : World} {s : Spn} {lv av ev : Value} (h : SReads w s lv av ev) : (s.cells lv av ev).all (·.oneCell') = true := by
  obtain ⟨⟨A, c, rfl, -⟩, ⟨A2, c2, rfl, -⟩, ⟨A3, c3, rfl, -⟩, -, -, -⟩ := h
  simp [Spn.cells, Value.oneCell']
theorem bytes3 (W : World) (a b c : Int) : Reads (W.alloc (.cells #[.int .u8 a, .int .u8 b, .int .u8 c] 5)) (.slice (some ⟨W.heap.size, 0, none⟩) 3 3) [a, b, c] := by
  refine ⟨some ⟨W.heap.size, 0, none⟩, 3, rfl, ⟨fun h => (by cases h), Nat.le_refl _⟩, fun j u hu => ?_⟩
  refine ⟨_, rfl, ?_⟩
  rw [Addr.add_mid, Nat.zero_add, blk_cell (heap_alloc_new W _)]
  rw [← hu]
  simp [nums]
end Go.Proofs.YtlcbgklealipoaaGreatDoor
