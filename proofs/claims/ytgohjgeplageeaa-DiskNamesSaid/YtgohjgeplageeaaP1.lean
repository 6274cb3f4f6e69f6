/- A map keyed by pointers to blocks: a set of files, a file's twin. A range over names. -/
import Derived.Test.YtgohjgeplageeaaE1
import Derived.LaidEqlPtr
namespace Go.Proofs.Ytgohjgeplageeaa
open Go Go.RowKit
set_option linter.unusedVariables false
set_option linter.unusedSimpArgs false

def pkey (g : Nat) : Value := .pointer (some ⟨g, 0, none⟩)
theorem pkey_inj {g g' : Nat} (h : pkey g = pkey g') : g = g' := by
  simpa [pkey] using h
/-- Blocks whose addresses may be compared. -/
def Solid (w : World) (g : Nat) : Prop := ∃ cs T, w.heap[g]? = some (.cells cs T (0, 0))
theorem Solid.kept {w w' : World} {S : Nat → Prop} {g : Nat} (h : Solid w g) (hk : Kept S w w') (hS : ¬ S g) : Solid w' g := by
  obtain ⟨cs, T, h⟩ := h; exact ⟨cs, T, blk_kept hk h hS⟩
structure PmIs (K : Nat → Option Value) (es : Array MapEntry) : Prop where
  ent : ∀ e ∈ es.toList, ∃ g, e.key = pkey g ∧ K g = some e.val
  all : ∀ g v, K g = some v → ∃ e ∈ es.toList, e.key = pkey g
def PmAt (w : World) (b : Nat) (K : Nat → Option Value) : Prop := ∃ es clock, w.heap[b]? = some (.map es clock) ∧ PmIs K es
def pset (K : Nat → Option Value) (g : Nat) (v : Value) : Nat → Option Value := fun t => if t = g then some v else K t
theorem PmAt.kept {w w' : World} {S : Nat → Prop} {b : Nat} {K : Nat → Option Value} (h : PmAt w b K) (hk : Kept S w w') (hS : ¬ S b) : PmAt w' b K := by
  obtain ⟨es, c, h, h2⟩ := h; exact ⟨es, c, blk_kept hk h hS, h2⟩
theorem PmAt.lt {w : World} {b : Nat} {K : Nat → Option Value} (h : PmAt w b K) : b < w.heap.size := by
  obtain ⟨es, c, h, h2⟩ := h; exact (Array.getElem?_eq_some_iff.1 h).1
theorem PmAt.new (w : World) : PmAt (w.alloc (.map #[] 0)) w.heap.size fun _ => none :=
  ⟨#[], 0, (MapKept.heap_alloc w _).1, ⟨by simp, fun g v h => by cases h⟩⟩
theorem Try.size72 : (Try.prog.info? 72).map (·.size) = some 3 := by kernel_rfl
section
variable {w : World}
theorem Try.info72' : ∃ j, Try.prog.info? 72 = some j ∧ j.size = 3 := by
  cases h : Try.prog.info? 72 with
  | none => have := Try.size72; rw [h] at this; cases this
  | some j => have := Try.size72; rw [h] at this; exact ⟨j, rfl, by simpa using this⟩
theorem Try.eq_same (a : Addr) : (Op.equal 66 (.pointer (some a)) (.pointer (some a))).run Try.prog w = .ok true w := by
  obtain ⟨j, hj, hs⟩ := Try.info72'
  have h : ∀ d : Nat, (Op.equalIn (d + 1) 66 (.pointer (some a)) (.pointer (some a))).run Try.prog w = .ok true w := fun d => by
    simp [Op.equalIn, run_underlying Try.underlying66, sizeOf, typeInfo, hj, hs, run_sameAddr_same]
  exact h 9999
theorem Try.eq_other {g g' : Nat} (hne : g ≠ g') (ha : Solid w g) (hb : Solid w g') : (Op.equal 66 (pkey g) (pkey g')).run Try.prog w = .ok false w := by
  obtain ⟨j, hj, hs⟩ := Try.info72'
  obtain ⟨ca, ta, ha⟩ := ha
  obtain ⟨cb, tb, hb⟩ := hb
  have h1 : (⟨g, 0, none⟩ : Addr) ≠ ⟨g', 0, none⟩ := fun e => hne (by injection e)
  have h : ∀ d : Nat, (Op.equalIn (d + 1) 66 (pkey g) (pkey g')).run Try.prog w = .ok false w := fun d => by
    simp [pkey, Op.equalIn, run_underlying Try.underlying66, sizeOf, typeInfo, hj, hs, run_sameAddr_other w h1 ha hb]
  exact h 9999
theorem Try.eq_nil (a : Addr) : (Op.equal 66 (.pointer none) (.pointer (some a))).run Try.prog w = .ok false w := by
  have h : ∀ d : Nat, (Op.equalIn (d + 1) 66 (.pointer none) (.pointer (some a))).run Try.prog w = .ok false w := fun d => by
    simp [Op.equalIn, run_underlying Try.underlying66]
  exact h 9999
theorem find_spec {g : Nat} (hg : Solid w g) : ∀ (es : List MapEntry) (i : Nat), (∀ e ∈ es, ∃ t, e.key = pkey t ∧ Solid w t) →
    ((Instr.findAsking 66 (pkey g) es i).run Try.prog w = .ok none w ∧ ∀ e ∈ es, e.key ≠ pkey g) ∨ ∃ j e, (Instr.findAsking 66 (pkey g) es i).run Try.prog w = .ok (some (i + j, e.val)) w ∧ es[j]? = some e ∧ e.key = pkey g
  | [], i, _ => .inl ⟨by simp [Instr.findAsking], by simp⟩
  | x :: r, i, h => by
    obtain ⟨t, ht, hs⟩ := h x (by simp)
    by_cases hgt : g = t
    · subst hgt
      refine .inr ⟨0, x, ?_, rfl, ht⟩
      have := Try.eq_same (w := w) ⟨g, 0, none⟩
      simp [Instr.findAsking, ht, pkey] at this ⊢
      simp [this, Result.andThen]
    · have h1 := Try.eq_other (w := w) hgt hg hs
      rcases find_spec hg r (i + 1) (fun e he => h e (by simp [he])) with ⟨h2, h3⟩ | ⟨j, e, h2, h3, h4⟩
      · refine .inl ⟨?_, ?_⟩
        · simp [Instr.findAsking, ht, h1, h2, Result.andThen]
        · intro e he
          rcases List.mem_cons.1 he with rfl | he
          · rw [ht]; exact fun e => hgt (pkey_inj e).symm
          · exact h3 e he
      · refine .inr ⟨j + 1, e, ?_, h3, h4⟩
        simp [Instr.findAsking, ht, h1, h2, Result.andThen]
        omega
theorem find_nil : ∀ (es : List MapEntry) (i : Nat), (∀ e ∈ es, ∃ t, e.key = pkey t) → (Instr.findAsking 66 (.pointer none) es i).run Try.prog w = .ok none w
  | [], i, _ => by simp [Instr.findAsking]
  | x :: r, i, h => by
    obtain ⟨t, ht⟩ := h x (by simp)
    have h1 := Try.eq_nil (w := w) ⟨t, 0, none⟩
    have h2 := find_nil r (i + 1) (fun e he => h e (by simp [he]))
    simp [Instr.findAsking, ht, pkey, h1, h2, Result.andThen]
theorem findKey_ask (k : Value) (hk : ∃ p, k = .pointer p) (es : List MapEntry) {r : Option (Nat × Value)} (h : (Instr.findAsking 66 k es 0).run Try.prog w = .ok r w) : (Instr.findKey 66 k es).run Try.prog w = .ok r w := by
  obtain ⟨p, rfl⟩ := hk
  cases es with
  | nil =>
    simp [Instr.findAsking] at h
    subst h
    simp [Instr.findKey, run_underlying Try.underlying66, Instr.findNow, Result.andThen]
  | cons x r' => simp [Instr.findKey, run_underlying Try.underlying66, Instr.findNow, Instr.sameNow, Result.andThen, h]
theorem check_ptr (em : Bool) (p : Option Addr) : (Instr.checkKey em 10000 66 (.pointer p)).run Try.prog w = .ok () w := by
  have h : ∀ d : Nat, (Instr.checkKey em (d + 1) 66 (.pointer p)).run Try.prog w = .ok () w := fun d => by simp [Instr.checkKey, run_underlying Try.underlying66, Result.andThen]
  exact h 9999
theorem stays_ptr (p : Option Addr) : (Instr.keyThatStays (.pointer p) (.pointer p)).run Try.prog w = .ok (.pointer p) w := by
  have h : ∀ d : Nat, Instr.sameBits d (.pointer p) (.pointer p) = true := fun d => by cases d <;> simp [Instr.sameBits]
  unfold Instr.keyThatStays
  rw [h 10000]
  rfl
end
theorem PmIs.find {w : World} {K : Nat → Option Value} {es : Array MapEntry} (h : PmIs K es) (hK : ∀ g v, K g = some v → Solid w g) {g : Nat} (hg : Solid w g) :
    ((Instr.findKey 66 (pkey g) es.toList).run Try.prog w = .ok none w ∧ K g = none) ∨ ∃ j e, (Instr.findKey 66 (pkey g) es.toList).run Try.prog w = .ok (some (j, e.val)) w ∧ es[j]? = some e ∧ e.key = pkey g ∧ K g = some e.val := by
  rcases find_spec hg es.toList 0 (fun e he => by obtain ⟨t, h1, h2⟩ := h.ent e he; exact ⟨t, h1, hK t _ h2⟩) with ⟨h1, h2⟩ | ⟨j, e, h1, h2, h3⟩
  · refine .inl ⟨findKey_ask _ ⟨_, rfl⟩ _ h1, ?_⟩
    cases hk : K g with
    | none => rfl
    | some v => obtain ⟨e, he, hek⟩ := h.all g v hk; exact absurd hek (h2 e he)
  · refine .inr ⟨j, e, by have h4 := findKey_ask _ ⟨_, rfl⟩ _ h1; rw [Nat.zero_add] at h4; exact h4, by simpa using h2, h3, ?_⟩
    obtain ⟨t, ht, hv⟩ := h.ent e (List.mem_of_getElem? h2)
    rw [h3] at ht
    rw [pkey_inj ht]; exact hv
/-- A look at a key: what is there. -/
theorem PmAt.look {w : World} {b : Nat} {K : Nat → Option Value} (h : PmAt w b K) (hK : ∀ g v, K g = some v → Solid w g) {T e : TypeId} (hT : Try.prog.underlying T = some (.map 66 e)) {z : Value} (hz : (zeroValue e).run Try.prog w = .ok z w) {g : Nat} (hg : Solid w g) (ok : Bool) :
    (Instr.lookup T (.map (some b)) (pkey g) ok).run Try.prog w = .ok (if ok then .tuple #[(K g).getD z, .bool (K g).isSome] else (K g).getD z) w := by
  obtain ⟨es, c, hb, h⟩ := h
  rcases h.find hK hg with ⟨h1, h2⟩ | ⟨j, e, h1, _, _, h2⟩
  · unfold pkey at h1 ⊢
    simp [Instr.lookup, run_underlying hT, MapKept.run_getObj_map hb, check_ptr, h1, h2, hz, Result.andThen]
  · unfold pkey at h1 ⊢
    simp [Instr.lookup, run_underlying hT, MapKept.run_getObj_map hb, check_ptr, h1, h2, Result.andThen]
theorem PmAt.look_nil {w : World} {b : Nat} {K : Nat → Option Value} (h : PmAt w b K) {T e : TypeId} (hT : Try.prog.underlying T = some (.map 66 e)) {z : Value} (hz : (zeroValue e).run Try.prog w = .ok z w) (ok : Bool) :
    (Instr.lookup T (.map (some b)) (.pointer none) ok).run Try.prog w = .ok (if ok then .tuple #[z, .bool false] else z) w := by
  obtain ⟨es, c, hb, h⟩ := h
  have h1 := findKey_ask (w := w) (.pointer none) ⟨_, rfl⟩ _ (find_nil es.toList 0 fun e he => by obtain ⟨t, h1, h2⟩ := h.ent e he; exact ⟨t, h1⟩)
  simp [Instr.lookup, run_underlying hT, MapKept.run_getObj_map hb, check_ptr, h1, hz, Result.andThen]
/-- A key is put: it is new, or it has that value. -/
theorem PmAt.put {w : World} {b : Nat} {K : Nat → Option Value} (h : PmAt w b K) (hK : ∀ g v, K g = some v → Solid w g) {T e : TypeId} (hT : Try.prog.underlying T = some (.map 66 e)) {g : Nat} (hg : Solid w g) (v : Value) (hv : K g = none ∨ K g = some v) :
    ∃ w', (Instr.mapUpdate T (.map (some b)) (pkey g) v).run Try.prog w = .ok () w' ∧ PmAt w' b (pset K g v) ∧ w.grownBy w' (some b) ∧ w'.heap.size = w.heap.size := by
  have hlt := h.lt
  obtain ⟨es, c, hb, h⟩ := h
  have gr : ∀ o, w.grownBy (Go.ChangeMaps.setBlock w b o) (some b) ∧ (Go.ChangeMaps.setBlock w b o).heap.size = w.heap.size := fun o =>
    ⟨⟨rfl, rfl, rfl, by simp [Go.ChangeMaps.setBlock], fun i _ hi => Go.ChangeMaps.heap_setBlock_other hb _ (fun e => hi (by rw [e]))⟩, by simp [Go.ChangeMaps.setBlock]⟩
  rcases h.find hK hg with ⟨h1, h2⟩ | ⟨j, e0, h1, h3, h4, h2⟩
  · refine ⟨Go.ChangeMaps.setBlock w b (.map (es.push ⟨pkey g, v, c⟩) (c + 1)), ?_, ⟨_, _, Go.ChangeMaps.heap_setBlock_same hb _, ?_, ?_⟩, (gr _).1, (gr _).2⟩
    · unfold pkey at h1 ⊢
      simp [Instr.mapUpdate, run_underlying hT, MapKept.run_getObj_map hb, check_ptr, h1, MapKept.run_setObj_map _ hb, Result.andThen, Go.ChangeMaps.setBlock]
    · intro x hx
      simp only [Array.toList_push, List.mem_append, List.mem_singleton] at hx
      rcases hx with hx | rfl
      · obtain ⟨t, ht, hv⟩ := h.ent x hx
        refine ⟨t, ht, ?_⟩
        unfold pset
        split
        · rename_i e; rw [e, h2] at hv; cases hv
        · exact hv
      · exact ⟨g, rfl, by simp [pset]⟩
    · intro t u ht
      simp only [Array.toList_push, List.mem_append, List.mem_singleton]
      unfold pset at ht
      split at ht
      · rename_i e; subst e; exact ⟨_, .inr rfl, rfl⟩
      · obtain ⟨x, hx, hk⟩ := h.all t u ht; exact ⟨x, .inl hx, hk⟩
  · obtain rfl : e0.val = v := by
      rcases hv with hv | hv
      · rw [hv] at h2; cases h2
      · exact Option.some.inj (h2.symm.trans hv)
    have hps : pset K g e0.val = K := by
      funext t
      unfold pset
      split
      · rename_i e; rw [e, h2]
      · rfl
    have hmod : es.modify j (fun e => { e with key := pkey g, val := e0.val }) = es := by
      apply Array.ext'
      rw [Array.toList_modify]
      apply List.ext_getElem?
      intro n
      rw [List.getElem?_modify]
      split
      · rename_i e
        subst e
        rw [Array.getElem?_toList, h3]
        show some _ = some _
        rw [← h4]
      · cases es.toList[n]? <;> rfl
    refine ⟨Go.ChangeMaps.setBlock w b (.map es c), ?_, ⟨_, _, Go.ChangeMaps.heap_setBlock_same hb _, by rw [hps]; exact h⟩, (gr _).1, (gr _).2⟩
    have h5 : (es[j]?.map (·.key)).getD (pkey g) = pkey g := by rw [h3]; exact h4
    unfold pkey at h1 h4 h5 hmod ⊢
    simp [Instr.mapUpdate, run_underlying hT, MapKept.run_getObj_map hb, check_ptr, h1, h3, h4, stays_ptr, MapKept.run_setObj_map _ hb, Result.andThen, Go.ChangeMaps.setBlock, hmod]
/-- A range over names under way: L tells which are still to come. -/
def NmRg (w : World) (b r N : Nat) (ad : Nat → Nat) (f : Nm) (L : ByteArray → Bool) (cnt : Nat) : Prop :=
  ∃ n D left, n ≤ N ∧ w.ranges Try.prog 9 ptrElem b r n D left cnt ∧ NmIs ad f D ∧ ∀ s, left (nmKey s) = L s
theorem key_inv {key : Value} {kl : Lit} (h : keyOf Try.prog 9 key = some kl) : ∃ s, key = .string s ∧ kl = nmKey s ∧ s.size ≤ maxLen := by
  cases key <;> simp [keyOf, Try.underlying9, mapKey] at h
  obtain ⟨h1, rfl⟩ := h
  exact ⟨_, rfl, rfl, h1⟩
section
variable {w w' : World} {b r N : Nat} {ad : Nat → Nat} {f : Nm} {L : ByteArray → Bool} {cnt : Nat}
theorem NmRg.at_ (h : NmRg w b r N ad f L cnt) : NmAt w b N ad f := by
  obtain ⟨n, D, left, h0, h1, h2, h3⟩ := h
  exact ⟨n, D, h0, h1.owns, h2⟩
theorem NmRg.lt (h : NmRg w b r N ad f L cnt) : r < w.heap.size := by
  obtain ⟨n, D, left, h0, h1, h2, h3⟩ := h; exact h1.lt
theorem NmRg.kept {S : Nat → Prop} (h : NmRg w b r N ad f L cnt) (hk : Kept S w w') (hb : ¬ S b) (hr : ¬ S r) : NmRg w' b r N ad f L cnt := by
  obtain ⟨n, D, left, h0, ⟨es, clock, since, seen, c0, g1, F, hs, hD, g2, rest⟩, h2, h3⟩ := h
  exact ⟨n, D, left, h0, ⟨es, clock, since, seen, c0, blk_kept hk g1 hb, F, hs, hD, blk_kept hk g2 hr, rest⟩, h2, h3⟩
theorem NmRg.cnt_le (h : NmRg w b r N ad f L cnt) : cnt ≤ N := by
  obtain ⟨n, D, left, h0, ⟨es, clock, since, seen, c0, g1, F, hs, hD, g2, h3, h4, rest⟩, h2⟩ := h
  have : (leftOf es seen).size ≤ es.size := by unfold leftOf; exact Array.size_filter_le
  omega
theorem NmRg.iter (h : NmRg w b r N ad f L cnt) : ∃ a b c d, w.heap[r]? = some (.mapIter a b c d) := by
  obtain ⟨n, D, left, h0, ⟨es, clock, since, seen, c0, g1, F, hs, hD, g2, rest⟩, h2⟩ := h
  exact ⟨_, _, _, _, g2⟩
theorem NmRg.left_eq (h : NmRg w b r N ad f L cnt) : w.rangeLeft b r = cnt := by
  obtain ⟨n, D, left, h0, h1, h2, h3⟩ := h; exact h1.left_eq
end
section
variable {w : World} {ops : Array Oper} {rest : List Oper} {o : Oper} {a : Act} {Q : Exit → Act → World → Prop} {b r N : Nat} {ad : Nat → Nat} {f : Nm} {L : ByteArray → Bool} {cnt : Nat}
theorem wpList_range_names (hg : o.guard = none) (m : Operand) (hop : o.op = Op.range 61 m) (b N : Nat) (ad : Nat → Nat) (f : Nm) (hm : a.eval m = .map (some b)) (hown : NmAt w b N ad f)
    (hK : ∀ w' cnt, NmRg w' b w.heap.size N ad f (fun s => (f s).isSome) cnt → w.grownBy w' none → w'.heap.size = w.heap.size + 1 → wpList Try.prog ops Q rest (a.put o.dst (.pointer (some ⟨w.heap.size, 0, none⟩))) w') : wpList Try.prog ops Q (o :: rest) a w := by
  obtain ⟨n, D, h0, h1, h2⟩ := hown
  exact wpList_range_own w hg m 61 hop 9 66 Try.keyed9 Try.underlying61 ptrElem b n D hm h1 fun w' r1 r2 r3 => hK w' _ ⟨n, D, _, h0, r1, h2, fun s => h2.has s⟩ r2 r3
theorem wpList_next_names (hg : o.guard = none) (it : Operand) (hop : o.op = Op.next it false) (b r N : Nat) (ad : Nat → Nat) (f : Nm) (L : ByteArray → Bool) (cnt : Nat) (hit : a.eval it = .pointer (some ⟨r, 0, none⟩)) (h : NmRg w b r N ad f L cnt)
    (hDone : cnt = 0 → (∀ s, L s = false) → wpList Try.prog ops Q rest (a.put o.dst (.tuple #[.bool false])) w)
    (hMore : ∀ (s : ByteArray) (i : Nat) (w' : World) (cnt' : Nat), f s = some i → L s = true → s.size ≤ maxLen → NmRg w' b r N ad f (fun t => L t && decide (t ≠ s)) cnt' → cnt' < cnt → w.grownBy w' (some r) → w'.heap.size = w.heap.size →
      (Instr.entry (.pointer (some ⟨r, 0, none⟩))).run Try.prog w' = .ok (.tuple #[.string s, .pointer (some ⟨ad i, 0, none⟩)]) w' → wpList Try.prog ops Q rest (a.put o.dst (.tuple #[.bool true, .string s, .pointer (some ⟨ad i, 0, none⟩)])) w') :
    wpList Try.prog ops Q (o :: rest) a w := by
  obtain ⟨n, D, left, h0, h1, h2, h3⟩ := h
  refine wpList_next_ranges w hg it hop 9 Try.keyed9 ptrElem Value.string Value.pointer (fun key kl hk => by obtain ⟨s, rfl, _, _⟩ := key_inv hk; exact ⟨s, rfl⟩) (fun v y hv => ptrElem_ptr hv) b r n D left cnt hit h1 (fun h hl => hDone h fun s => (h3 s).symm.trans (hl _)) ?_
  intro s c kl y w' cnt' hk hl hv hat hrg hlt hgr hsz hen
  obtain ⟨s', e, rfl, hs⟩ := key_inv hk
  injection e with e
  subst e
  have hh := Maps.has_true_of_atKey hat
  rw [h2.has] at hh
  obtain ⟨i, hi⟩ := Option.isSome_iff_exists.1 hh
  have hv2 := ptrElem_inv hv (ad := ad) (o := some i) (by rw [← hat .nil, h2.at_, hi])
  have hc : c = some ⟨ad i, 0, none⟩ := by simpa [ptrV] using hv2
  subst hc
  refine hMore s i w' cnt' hi (by rw [← h3]; exact hl) hs ⟨n, D, _, h0, hrg, h2, fun t => ?_⟩ hlt hgr hsz hen
  show (left (nmKey t) && !(nmKey t).sameKey (nmKey s)) = _
  rw [h3]
  by_cases e : t = s
  · subst e; rw [WideAt.sameKey_self (nmKey_is t)]; simp
  · have : (nmKey t).sameKey (nmKey s) = false := by
      cases hx : (nmKey t).sameKey (nmKey s)
      · rfl
      · exact absurd (nmKey_inj (WideAt.sameKey_eq hx)) e
    rw [this]; simp [e]
end
end Go.Proofs.Ytgohjgeplageeaa
