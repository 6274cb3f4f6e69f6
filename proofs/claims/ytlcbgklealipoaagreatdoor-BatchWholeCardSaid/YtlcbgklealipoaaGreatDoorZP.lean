import Derived.Maps.OwnSet
import Derived.Maps.Views
import Derived.Test.YtlcbgklealipoaaGreatDoorZK
import Derived.Test.YtlcbgklealipoaaGreatDoorRx
import Derived.Deep.RegionLaw
import Derived.StringKeys
import Derived.DeepKeys4
import Derived.Deep.RegionWith
section
/- A map that holds each thing's number (plain). -/
namespace Go.Proofs.YtlcbgklealipoaaGreatDoor
open Go Go.RowKit
set_option linter.unusedVariables false
set_option linter.unusedSimpArgs false

/-- The map tells each thing of the list its number, and of nothing else. -/
structure MapIs {α : Type} [DecidableEq α] (ok : α → Prop) (key : α → Lit) (D : DataW Unit) (l : List α) : Prop where
  isMap : Go.Maps.IsMap D
  has : ∀ x, ok x → Go.Maps.has D (key x) = hasIn l x
  at_ : ∀ x, ok x → x ∈ l → D.atKey (key x) (.lit (.int .i64 0)) = .lit (.int .i64 (idxIn l x))
variable {α : Type} [DecidableEq α] {ok : α → Prop} {key : α → Lit} {D : DataW Unit} {l : List α}
theorem MapIs.new : MapIs ok key (.map []) ([] : List α) :=
  ⟨⟨[], rfl⟩, fun x _ => rfl, fun x _ hx => by cases hx⟩
theorem hasIn_snoc (l : List α) (x y : α) : hasIn (l ++ [x]) y = (hasIn l y || decide (x = y)) := by
  unfold hasIn; simp
theorem MapIs.add (hinj : ∀ x y, ok x → ok y → key x = key y → x = y) (hk : ∀ x, WideAt.IsKeyLit (key x)) (h : MapIs ok key D l) {x : α} (hox : ok x) (hx : x ∉ l) : MapIs ok key (D.put (key x) (.lit (.int .i64 l.length))) (l ++ [x]) := by
  refine ⟨h.isMap.put _ _, fun y hoy => ?_, fun y hoy hy => ?_⟩
  · rw [hasIn_snoc]
    by_cases e : x = y
    · subst e
      rw [Go.Maps.has_put_same h.isMap (hk x)]
      simp
    · rw [Go.Maps.has_put_other (fun e2 => e (hinj _ _ hoy hox e2).symm), h.has y hoy]
      simp [e]
  · by_cases e : x = y
    · subst e
      rw [Go.Maps.atKey_put_same h.isMap (hk x)]
      have : idxIn (l ++ [x]) x = l.length := by
        unfold idxIn
        rw [List.findIdx_append]
        have h0 := idx_none hx
        unfold idxIn at h0
        rw [h0, if_neg (by omega)]
        simp
      rw [this]
    · have hm : y ∈ l := by
        rcases List.mem_append.1 hy with h1 | h1
        · exact h1
        · rw [List.mem_singleton] at h1; exact absurd h1.symm e
      rw [Go.Maps.atKey_put_other (fun e2 => e (hinj _ _ hoy hox e2).symm), h.at_ y hoy hm]
      have : idxIn (l ++ [x]) y = idxIn l y := by
        obtain ⟨hk2, _⟩ := idx_mem hm
        unfold idxIn at hk2 ⊢
        rw [List.findIdx_append, if_pos hk2]
      rw [this]
def strKey (s : ByteArray) : Lit := .string s.data.toList
theorem strKey_inj (a b : ByteArray) (_ : True) (_ : True) (h : strKey a = strKey b) : a = b := by
  injection h with h
  cases a; cases b
  congr 1
  exact Array.toList_inj.1 h
theorem strKey_lit (a : ByteArray) : WideAt.IsKeyLit (strKey a) := trivial
end Go.Proofs.YtlcbgklealipoaaGreatDoor
end

section
/- names.number of a text (the walk). -/
namespace Go.Proofs.YtlcbgklealipoaaGreatDoor
open Go Go.RowKit
set_option linter.unusedVariables false
set_option linter.unusedSimpArgs false

theorem Tryz.info9 : (Tryz.prog.info? 9).map (fun i => (i.zero, i.size, i.bytes)) = some (some (.string ⟨#[]⟩), 1, 16) := by kernel_rfl
section
variable {P : Program} {w : World} {ops : Array Oper} {rest : List Oper} {o : Oper} {a : Act} {Q : Exit → Act → World → Prop}
/-- 'append(s, x)' of one element that was just laid (long lists). -/
theorem wpList_append_long (hgd : o.guard = none) (s x : Operand) (t : TypeId) (ho : o.op = .call { callee := .builtin .append, args := #[s, x], argTypes := #[t, t] })
    (B : Nat) (e : TypeId) (i : TypeInfo) (z : Value) (size bytes : Nat) (ht : P.underlying t = some (.slice e)) (hi : P.info? e = some i) (hz : i.zero = some z) (hsize : i.size = size) (hby : i.bytes = bytes) (hzs : z.cells.size = size) (hsz : 0 < size)
    (v : Value) (n : Nat) (xs : List Value) (cs : Array Value) (c : Nat) (hs : a.eval s = v) (hx : a.eval x = .slice (some ⟨w.heap.size, 0, none⟩) 1 c)
    (hcs : cs.toList.length = size) (h1 : ∀ u ∈ cs.toList, u.oneCell' = true)
    (hown : w.ownsRow B e size v n xs) (h63 : n ≤ 1000000000) (hbytes : bytes ≤ 1000) (hB : B ≤ w.heap.size)
    (h : ∀ A c' w', w'.ownsRow B e size (.slice A (n + 1) c') (n + 1) (xs ++ cs.toList) → (w.alloc (.cells cs e)).grownBy w' v.ownBlock → ((Value.slice A (n + 1) c').ownBlock = v.ownBlock ∨ (Value.slice A (n + 1) c').ownBlock = some (w.alloc (.cells cs e)).heap.size) →
      wpList P ops Q rest (a.put o.dst (.slice A (n + 1) c')) w') : wpList P ops Q (o :: rest) a (w.alloc (.cells cs e)) := by
  refine wpList_append_own_at (w.alloc (.cells cs e)) hgd s x t ho B e i z size bytes ht hi hz hsize hby hzs hsz v n xs hs (hown.alloc _) ⟨w.heap.size, 0, none⟩ 1 c cs.toList hx (by rw [hcs, Nat.one_mul]) ?_ h1 (by simp [maxLen]; omega) (Nat.le_trans (Nat.mul_le_mul (show n + 1 ≤ 1000000001 by omega) hbytes) (by omega)) (by simp; omega) ?_
  · intro j u hu
    rw [Addr.add_lit, Nat.zero_add, blk_cell (heap_alloc_new w _), ← hu, Array.getElem?_toList]
  · intro v' w' hown' hg _ hat
    obtain ⟨A, c', rfl⟩ := own_slice hown'
    exact h A c' w' hown' hg hat
/-- The same at a step of a region that draws its order. -/
theorem step_append_long {K : Act → World → Prop} {E' : Prop} (hgd : o.guard = none) (s x : Operand) (t : TypeId) (ho : o.op = .call { callee := .builtin .append, args := #[s, x], argTypes := #[t, t] })
    (B : Nat) (e : TypeId) (i : TypeInfo) (z : Value) (size bytes : Nat) (ht : P.underlying t = some (.slice e)) (hi : P.info? e = some i) (hz : i.zero = some z) (hsize : i.size = size) (hby : i.bytes = bytes) (hzs : z.cells.size = size) (hsz : 0 < size)
    (v : Value) (n : Nat) (xs : List Value) (cs : Array Value) (c : Nat) (hs : a.eval s = v) (hx : a.eval x = .slice (some ⟨w.heap.size, 0, none⟩) 1 c)
    (hcs : cs.toList.length = size) (h1 : ∀ u ∈ cs.toList, u.oneCell' = true)
    (hown : w.ownsRow B e size v n xs) (h63 : n ≤ 1000000000) (hbytes : bytes ≤ 1000) (hB : B ≤ w.heap.size)
    (h : ∀ A c' w', w'.ownsRow B e size (.slice A (n + 1) c') (n + 1) (xs ++ cs.toList) → (w.alloc (.cells cs e)).grownBy w' v.ownBlock → ((Value.slice A (n + 1) c').ownBlock = v.ownBlock ∨ (Value.slice A (n + 1) c').ownBlock = some (w.alloc (.cells cs e)).heap.size) → K (a.put o.dst (.slice A (n + 1) c')) w') :
    if Region.wanted o (yielded ops a.tmps) = true then Oper.wp P o a (w.alloc (.cells cs e)) K Q else E' := by
  have hw : Region.wanted o (yielded ops a.tmps) = true := by simp [Region.wanted, hgd]
  rw [if_pos hw]
  obtain ⟨v', w', hr, h2, h3, _, hat⟩ := run_append_own_at (P := P) (w.alloc (.cells cs e)) B t o.type e i z size bytes ht hi hz hsize hby hzs hsz v n xs (hown.alloc _) ⟨w.heap.size, 0, none⟩ 1 c cs.toList (by rw [hcs, Nat.one_mul]) (fun j u hu => by
    rw [Addr.add_lit, Nat.zero_add, blk_cell (heap_alloc_new w _), ← hu, Array.getElem?_toList]) h1 (by simp [maxLen]; omega) (Nat.le_trans (Nat.mul_le_mul (show n + 1 ≤ 1000000001 by omega) hbytes) (by omega)) (by simp; omega)
  unfold Oper.wp execOp
  simp only [ho, resolve, invoke, builtin, Sem.run_bind, Sem.run_pure, Result.andThen_ok, List.map_toArray, List.map_cons, List.map_nil, hs, hx, hr]
  obtain ⟨A, c', rfl⟩ := own_slice h2
  exact h A c' w' h2 h3 hat
end
theorem map_kept {S : Nat → Prop} {w w' : World} {k : TypeId} {R : Value → Option (DataW Unit × List MemPlace)} {b n : Nat} {D : DataW Unit} (h : w.ownsMap Tryz.prog k R b n D) (hk : Kept S w w') (hS : ¬ S b) : w'.ownsMap Tryz.prog k R b n D := by
  obtain ⟨es, clock, hb, F, hs, hD⟩ := h
  exact ⟨es, clock, blk_kept hk hb hS, F, hs, hD⟩
/-- names[string] in a block: the map and the list. -/
structure TxAt (B b off mb : Nat) (T : TypeId) (cs : Array Value) (v : Value) (tx : List ByteArray) (w : World) : Prop where
  blk : w.heap[b]? = some (.cells cs T (0, 0))
  ne9 : T ≠ 9
  by_ : cs[off]? = some (.map (some mb))
  lc : cs[off + 1]? = some v
  base : B ≤ b
  row : w.ownsRow B 9 1 v tx.length (tx.map Value.string)
  map : ∃ D, w.ownsMap Tryz.prog 9 (plainElem Tryz.prog 3) mb tx.length D ∧ MapIs (fun _ => True) strKey D tx
def TxPost (B b off mb : Nat) (T : TypeId) (cs : Array Value) (v : Value) (tx : List ByteArray) (x : ByteArray) (w : World) (e : Ending) (w' : World) : Prop :=
  e = .returned (.int .u64 (idxIn tx x)) ∧ ∃ v', TxAt B b off mb T (cs.setIfInBounds (off + 1) v') v' (addIn tx x) w' ∧ Moved v w v' ∧ Kept (fun k => k = b ∨ k = mb ∨ v.ownBlock = some k) w w'
theorem set_same {cs : Array Value} {i : Nat} {v : Value} (h : cs[i]? = some v) : cs.setIfInBounds i v = cs := by
  apply Array.ext_getElem?
  intro j
  rw [Array.getElem?_setIfInBounds]
  split
  · rename_i e
    subst e
    have := (Array.getElem?_eq_some_iff.1 h).1
    rw [if_pos this, h]
  · rfl
set_option maxHeartbeats 2000000 in
set_option maxRecDepth 100000 in
theorem number_in (B b off mb : Nat) (T : TypeId) (cs : Array Value) (v : Value) (tx : List ByteArray) (x : ByteArray) (w : World) (h : TxAt B b off mb T cs v tx w) (hx : x.size ≤ maxLen) (hn : tx.length ≤ 1000000) (hm : x ∈ tx) :
    Calls Tryz.prog 79 #[.pointer (some ⟨b, off, none⟩), .string x] w (TxPost B b off mb T cs v tx x w) := by
  obtain ⟨D, hown, hD⟩ := h.map
  have hkey := Go.WideMaps.keyOf_string_mk (P := Tryz.prog) Tryz.underlying9 hx
  have hhas : Go.Maps.has D (.string x.data.toList) = true := by
    have := hD.has x trivial
    rw [hasIn_iff.2 hm] at this
    exact this
  have hat0 := hD.at_ x trivial hm
  have c0 : w.cell? ⟨b, off, none⟩ = some (.map (some mb)) := (blk_cell h.blk off).trans h.by_
  have c1 : w.cell? ⟨b, off + 1, none⟩ = some v := (blk_cell h.blk (off + 1)).trans h.lc
  obtain ⟨hk1, _⟩ := idx_mem hm
  have HH := Lib.hid h
  clear h
  go_enter Tryz.func79, Tryz.ntmps79
  go_wp2_with (at_lookup; refine wpList_lookup_own_ok_int _ rfl _ _ 82 rfl 9 3 .i64 (Go.Maps.string_keyed Tryz.underlying9) Tryz.underlying82 Tryz.underlying3 (Tryz.zeroValue3 _) mb tx.length D rfl hown _ _ rfl hkey ?_; intro c hat hwc; rw [hhas])
  have hc : c = ((idxIn tx x : Nat) : Int) := by
    have := hat.symm.trans hat0
    injection this with this
    injection this
  subst hc
  have hwr : IntKind.u64.wrap ((idxIn tx x : Nat) : Int) = ((idxIn tx x : Nat) : Int) := by
    exact wraps_u64 _ (by omega) (by omega)
  rw [hwr]
  go_ret
  refine ⟨rfl, v, ?_, .refl _ _, .refl _ _⟩
  rw [set_same HH.out.lc, add_mem hm]
  exact HH.out
theorem own_map {w : World} {base n : Nat} {e : TypeId} {size : Nat} {v : Value} {xs : List Value} (h : w.ownsRow base e size v n xs) {g : Nat} {es : Array MapEntry} {ck : Nat} (hb : w.heap[g]? = some (.map es ck)) : v.ownBlock ≠ some g := by
  intro hk
  rcases h.2 with ⟨rfl, _⟩ | ⟨g', cap, cur, rfl, _, hh, _⟩
  · simp [Value.ownBlock] at hk
  · have : g' = g := by simpa [Value.ownBlock] using hk
    subst this
    rw [hb] at hh
    injection hh with hh
    cases hh
section
variable {B b off mb : Nat} {T : TypeId} {cs : Array Value} {v v' : Value} {tx : List ByteArray} {x : ByteArray} {w w1 w2 : World} {D : DataW Unit} {n : Nat}
theorem TxAt.ne (h : TxAt B b off mb T cs v tx w) : mb ≠ b ∧ v.ownBlock ≠ some mb ∧ v.ownBlock ≠ some b := by
  obtain ⟨D, ⟨es, ck, hmb, _⟩, _⟩ := h.map
  refine ⟨?_, own_map h.row hmb, own_ne h.row h.blk h.ne9⟩
  rintro rfl
  have := hmb.symm.trans h.blk
  injection this with this
  cases this
/-- Behind the map's turn. -/
theorem TxAt.turned (h : TxAt B b off mb T cs v tx w) (hg : w.grownBy w1 (some mb)) : Kept (fun k => k = mb) w w1 ∧ w1.cell? ⟨b, off, none⟩ = some (.map (some mb)) ∧ w1.cell? ⟨b, off + 1, none⟩ = some v ∧
    w1.ownsRow B 9 1 v tx.length (tx.map Value.string) ∧ B ≤ w1.heap.size ∧ w1.heap[b]? = some (.cells cs T (0, 0)) := by
  have k1 : Kept (fun k => k = mb) w w1 := Kept.of_grown hg fun k e => by injection e with e; exact e.symm
  obtain ⟨n1, n2, n3⟩ := h.ne
  have hb := blk_kept k1 h.blk (fun e => n1 e.symm)
  exact ⟨k1, (blk_cell hb off).trans h.by_, (blk_cell hb (off + 1)).trans h.lc, own_kept h.row k1 fun k e e2 => n2 (e2 ▸ e), Nat.le_trans h.base (Nat.le_of_lt (blk_lt hb)), hb⟩
/-- Behind the append and the store. -/
theorem TxAt.pushed (h : TxAt B b off mb T cs v tx w) (hx : x ∉ tx) (hg : w.grownBy w1 (some mb)) (hown1 : w1.ownsMap Tryz.prog 9 (plainElem Tryz.prog 3) mb (tx.length + 1) D) (hD : MapIs (fun _ => True) strKey D (tx ++ [x]))
    (hrow : w2.ownsRow B 9 1 v' (tx.length + 1) (tx.map Value.string ++ #[Value.string x].toList)) (hg2 : (w1.alloc (.cells #[.string x] 9)).grownBy w2 v.ownBlock) (hat : v'.ownBlock = v.ownBlock ∨ v'.ownBlock = some (w1.alloc (.cells #[.string x] 9)).heap.size) :
    w2.cell? ⟨b, off + 1, none⟩ = some v ∧ w2.frozen? ⟨b, off + 1, none⟩ = false ∧
    (TxAt B b off mb T (cs.setIfInBounds (off + 1) v') v' (addIn tx x) (w2.setCell ⟨b, off + 1, none⟩ v') ∧ Moved v w v' ∧ Kept (fun k => k = b ∨ k = mb ∨ v.ownBlock = some k) w (w2.setCell ⟨b, off + 1, none⟩ v')) := by
  obtain ⟨k1, c1, c2, hr1, hB1, hb1⟩ := h.turned hg
  obtain ⟨n1, n2, n3⟩ := h.ne
  have k2 : Kept (fun k => v.ownBlock = some k) w1 w2 := (Kept.alloc _ w1 _).trans (Kept.of_grown hg2 fun k e => e) (fun _ _ e => e) fun _ _ e => e
  have hb2 : w2.heap[b]? = some (.cells cs T (0, 0)) := blk_kept k2 hb1 n3
  have m2 := map_kept hown1 k2 n2
  have k3 : Kept (fun k => k = b) w2 (w2.setCell ⟨b, off + 1, none⟩ v') := Kept.setCell _ _ _ rfl
  have m3 := map_kept m2 k3 n1
  have hne' : v'.ownBlock ≠ some b := own_ne hrow hb2 h.ne9
  have hoff := (Array.getElem?_eq_some_iff.1 h.lc).1
  refine ⟨(blk_cell hb2 (off + 1)).trans h.lc, blk_frozen hb2 (off + 1), ⟨blk_set hb2 (off + 1) v', h.ne9, ?_, ?_, h.base, ?_, D, ?_, ?_⟩, ?_, ?_⟩
  · rw [Array.getElem?_setIfInBounds, if_neg (by omega)]; exact h.by_
  · rw [Array.getElem?_setIfInBounds, if_pos rfl, if_pos hoff]
  · rw [add_none hx, List.length_append, List.map_append]
    exact own_kept hrow k3 fun k e e2 => hne' (e2 ▸ e)
  · rw [add_none hx, List.length_append]
    exact m3
  · rw [add_none hx]; exact hD
  · rcases hat with e | e
    · exact .inl e
    · refine .inr fun k hk => ?_
      have := k1.size
      have hs : (w1.alloc (.cells #[.string x] 9)).heap.size = w1.heap.size + 1 := by simp
      rw [e, hs] at hk; injection hk with hk; omega
  · exact (k1.trans k2 (U := fun k => k = b ∨ k = mb ∨ v.ownBlock = some k) (fun _ _ e => .inr (.inl e)) fun _ _ e => .inr (.inr e)).trans k3 (fun _ _ e => e) fun _ _ e => .inl e
end
set_option maxHeartbeats 2000000 in
set_option maxRecDepth 100000 in
theorem number_out (B b off mb : Nat) (T : TypeId) (cs : Array Value) (v : Value) (tx : List ByteArray) (x : ByteArray) (w : World) (h : TxAt B b off mb T cs v tx w) (hx : x.size ≤ maxLen) (hn : tx.length ≤ 1000000) (hm : x ∉ tx) :
    Calls Tryz.prog 79 #[.pointer (some ⟨b, off, none⟩), .string x] w (TxPost B b off mb T cs v tx x w) := by
  obtain ⟨D, hown, hD⟩ := h.map
  have hkey := Go.WideMaps.keyOf_string_mk (P := Tryz.prog) Tryz.underlying9 hx
  have hhas : Go.Maps.has D (.string x.data.toList) = false := by
    have := hD.has x trivial
    rw [hasIn_not.2 hm] at this
    exact this
  have hadd := Lib.hid (hD.add strKey_inj strKey_lit trivial hm)
  have c0 : w.cell? ⟨b, off, none⟩ = some (.map (some mb)) := (blk_cell h.blk off).trans h.by_
  have c1 : w.cell? ⟨b, off + 1, none⟩ = some v := (blk_cell h.blk (off + 1)).trans h.lc
  obtain ⟨A, cp, rfl⟩ := own_slice h.row
  obtain ⟨i0, hi, hz0, hz1, hz2⟩ := info_parts Tryz.info9
  have hval : plainElem (H := Unit) Tryz.prog 3 (.int .i64 tx.length) = some (.lit (.int .i64 tx.length), []) := plainElem_int Tryz.underlying3 (by
    show decide _ = true
    rw [decide_eq_true_eq]
    have e1 : (IntKind.i64.max : Int) = 9223372036854775807 := rfl
    have e2 : (IntKind.i64.min : Int) = -9223372036854775808 := rfl
    omega)
  have hone : ∀ u ∈ (#[Value.string x] : Array Value).toList, u.oneCell' = true := by simp [Value.oneCell']
  have k1 : tx.length < maxLen := by unfold maxLen; omega
  have k2 : tx.length ≤ 1000000000 := by omega
  have HH := Lib.hid h
  clear h hD
  go_enter Tryz.func79, Tryz.ntmps79
  go_wp2_with (first
    | (at_lookup; refine wpList_lookup_own_ok_int _ rfl _ _ 82 rfl 9 3 .i64 (Go.Maps.string_keyed Tryz.underlying9) Tryz.underlying82 Tryz.underlying3 (Tryz.zeroValue3 _) mb tx.length D rfl hown _ _ rfl hkey ?_; intro c hat hwc; rw [hhas])
    | (at_mapUpdate; refine wpList_mapUpdate_own _ rfl _ _ _ 82 rfl 9 3 (Go.Maps.string_keyed Tryz.underlying9) Tryz.underlying82 (plainElem Tryz.prog 3) mb tx.length D rfl hown k1 _ _ _ rfl rfl hkey _ [] hval ?_; intro w1 hown1 hg1; obtain ⟨kk1, cc0, cc1, hr1, hB1, hbb1⟩ := HH.out.turned hg1; clear kk1 hbb1)
    | (at_builtin; refine wpList_append_long rfl _ _ 83 rfl B 9 i0 (.string ⟨#[]⟩) 1 16 Tryz.underlying83 hi hz0 hz1 hz2 rfl (by decide) (.slice A tx.length cp) tx.length (tx.map Value.string) #[.string x] 1 rfl rfl rfl hone hr1 k2 (by decide) hB1 ?_; intro A' c' w2 hown2 hg2 hat2; obtain ⟨d1, d2, d3⟩ := HH.out.pushed hm hg1 hown1 hadd.out hown2 hg2 hat2; have D3 := Lib.hid d3; clear d3))
  go_ret
  exact ⟨by rw [idx_none hm]; rfl, _, D3.out⟩
/-- A text's number. -/
theorem numText_any (B b off mb : Nat) (T : TypeId) (cs : Array Value) (v : Value) (tx : List ByteArray) (x : ByteArray) (w : World) (h : TxAt B b off mb T cs v tx w) (hx : x.size ≤ maxLen) (hn : tx.length ≤ 1000000) :
    Calls Tryz.prog 79 #[.pointer (some ⟨b, off, none⟩), .string x] w (TxPost B b off mb T cs v tx x w) := by
  by_cases hm : x ∈ tx
  · exact number_in B b off mb T cs v tx x w h hx hn hm
  · exact number_out B b off mb T cs v tx x w h hx hn hm
end Go.Proofs.YtlcbgklealipoaaGreatDoor
end

section
/- A trace as a map's key. -/
namespace Go.Proofs.YtlcbgklealipoaaGreatDoor
open Go Go.RowKit
set_option linter.unusedVariables false
set_option linter.unusedSimpArgs false

theorem Tryz.laidOut : laidOutB Tryz.prog = true := by kernel_rfl
theorem Tryz.row68 : (68 : TypeId) < Tryz.prog.types.size := of_decide_eq_true (by kernel_rfl)
theorem Tryz.wide68 : (match Tryz.prog.underlying 68 with | some (.array _ _) | some (.struct _) => true | _ => false) = true := by rw [Tryz.underlying68]
theorem Tryz.deep68 : Tryz.prog.keyTypeAt 3 68 = true := by kernel_rfl
set_option maxRecDepth 1000000 in
theorem Tryz.law68 : WideMaps.KeyLaw Tryz.prog 68 := deep_law_laid Tryz.laidOut (m := 3) (by omega) Tryz.row68 Tryz.deep68 Tryz.wide68
theorem Tryz.keyed68 : Go.Maps.Keyed Tryz.prog 68 := Go.Maps.Keyed.of_law Tryz.law68
theorem Tryz.info68 : (Tryz.prog.info? 68).map (fun i => (i.zero, i.size, i.bytes)) = some (some (.agg #[.int .u64 0, .int .u64 0]), 2, 16) := by kernel_rfl
def traceV (p : Nat × Nat) : Value := .agg #[.int .u64 p.1, .int .u64 p.2]
def traceKey (p : Nat × Nat) : Lit := .string (keyBytes [.int .u64 p.1, .int .u64 p.2])
theorem Tryz.key68 : Tryz.prog.keyType 68 = true := by kernel_rfl
theorem Tryz.cells68 : Tryz.prog.cellsOf 68 = 2 := by kernel_rfl
theorem Tryz.cells66 : Tryz.prog.cellsOf 66 = 1 := by kernel_rfl
theorem Tryz.typesN : Tryz.prog.types.size = 278 := by kernel_rfl
theorem u64_wf {n : Nat} (h : n < 18446744073709551616) : (Lit.int .u64 (n : Int)).wf = true := by
  show decide _ = true
  rw [decide_eq_true_eq]
  have e1 : (IntKind.u64.max : Int) = 18446744073709551615 := rfl
  have e2 : (IntKind.u64.min : Int) = 0 := rfl
  omega
theorem traceKey_lit (p : Nat × Nat) : WideAt.IsKeyLit (traceKey p) := trivial
theorem keyLits_trace (d : Nat) {p : Nat × Nat} (h : okP p) : Tryz.prog.keyLits (d + 2) 68 [.int .u64 p.1, .int .u64 p.2] = some [.int .u64 p.1, .int .u64 p.2] := by
  have h1 := u64_wf h.1
  have h2 := u64_wf h.2
  unfold Program.keyLits
  rw [Tryz.underlying68]
  simp only [Tryz.cells68]
  rw [if_pos ⟨rfl, by simp⟩]
  have g1 : Tryz.prog.keyLits (d + 1) 66 [.int .u64 p.1] = some [.int .u64 p.1] := by
    unfold Program.keyLits
    rw [Tryz.underlying66]
    simp [h1]
  have g2 : Tryz.prog.keyLits (d + 1) 66 [.int .u64 p.2] = some [.int .u64 p.2] := by
    unfold Program.keyLits
    rw [Tryz.underlying66]
    simp [h2]
  simp [Tryz.cells66, g1, g2]
theorem keyOf_trace {p : Nat × Nat} (h : okP p) : keyOf Tryz.prog 68 (traceV p) = some (traceKey p) := by
  have hf : (traceV p).formed Tryz.prog 68 = true := by
    simp [traceV, Value.formed, Tryz.underlying68, Tryz.cells68]
  unfold keyOf
  rw [Tryz.underlying68]
  simp only [Tryz.key68, hf, Bool.and_self, if_true]
  rw [Tryz.typesN]
  have hl : Tryz.prog.keyLits (278 + 1) 68 (traceV p).cells.toList = some [.int .u64 p.1, .int .u64 p.2] := keyLits_trace 277 h
  rw [hl]
  rfl
theorem traceKey_inj (a b : Nat × Nat) (ha : okP a) (hb : okP b) (h : traceKey a = traceKey b) : a = b := by
  have := Tryz.keyed68.inj (keyOf_trace ha) (h ▸ keyOf_trace hb)
  simp only [traceV] at this
  injection this with this
  have e := congrArg Array.toList this
  simp at e
  exact Prod.ext (by omega) (by omega)
end Go.Proofs.YtlcbgklealipoaaGreatDoor
end

section
/- names.number of a trace (the walk; turned by program from P2). -/
namespace Go.Proofs.YtlcbgklealipoaaGreatDoor
open Go Go.RowKit
set_option linter.unusedVariables false
set_option linter.unusedSimpArgs false

def trC (p : Nat × Nat) : List Value := [.int .u64 p.1, .int .u64 p.2]
/-- names[TraceID] in a block: the map and the list. -/
structure TrAt (B b off mb : Nat) (T : TypeId) (cs : Array Value) (v : Value) (tx : List (Nat × Nat)) (w : World) : Prop where
  blk : w.heap[b]? = some (.cells cs T (0, 0))
  ne9 : T ≠ 68
  by_ : cs[off]? = some (.map (some mb))
  lc : cs[off + 1]? = some v
  base : B ≤ b
  row : w.ownsRow B 68 2 v tx.length (tx.flatMap trC)
  map : ∃ D, w.ownsMap Tryz.prog 68 (plainElem Tryz.prog 3) mb tx.length D ∧ MapIs okP traceKey D tx
def TrPost (B b off mb : Nat) (T : TypeId) (cs : Array Value) (v : Value) (tx : List (Nat × Nat)) (x : Nat × Nat) (w : World) (e : Ending) (w' : World) : Prop :=
  e = .returned (.int .u64 (idxIn tx x)) ∧ ∃ v', TrAt B b off mb T (cs.setIfInBounds (off + 1) v') v' (addIn tx x) w' ∧ Moved v w v' ∧ Kept (fun k => k = b ∨ k = mb ∨ v.ownBlock = some k) w w'
theorem TrAt.alloc {B b off mb : Nat} {T : TypeId} {cs : Array Value} {v : Value} {tx : List (Nat × Nat)} {w : World} (h : TrAt B b off mb T cs v tx w) (o : Obj) : TrAt B b off mb T cs v tx (w.alloc o) :=
  ⟨blk_kept (Kept.alloc (fun _ => False) w o) h.blk (fun e => e), h.ne9, h.by_, h.lc, h.base, h.row.alloc o, by
    obtain ⟨D, h1, h2⟩ := h.map
    exact ⟨D, h1.alloc o, h2⟩⟩
theorem TrAt.drew {B b off mb : Nat} {T : TypeId} {cs : Array Value} {v : Value} {tx : List (Nat × Nat)} {w : World} (h : TrAt B b off mb T cs v tx w) : TrAt B b off mb T cs v tx w.drew := by
  obtain ⟨D, h1, h2⟩ := h.map
  exact ⟨h.blk, h.ne9, h.by_, h.lc, h.base, h.row, D, h1.drew, h2⟩
theorem TrPost.of_alloc {B b off mb : Nat} {T : TypeId} {cs : Array Value} {v : Value} {tx : List (Nat × Nat)} {x : Nat × Nat} {w w' : World} {e : Ending} (o : Obj) (h : TrPost B b off mb T cs v tx x (w.alloc o) e w') : TrPost B b off mb T cs v tx x w e w' := by
  obtain ⟨h1, v', h2, h3, h4⟩ := h
  refine ⟨h1, v', h2, ?_, (Kept.alloc _ w o).trans h4 (fun _ _ e => e) fun _ _ e => e⟩
  rcases h3 with h3 | h3
  · exact .inl h3
  · exact .inr fun k hk => by
      have := h3 k hk
      have hs : (w.alloc o).heap.size = w.heap.size + 1 := by simp
      omega
set_option maxHeartbeats 2000000 in
set_option maxRecDepth 100000 in
theorem trace_in (B b off mb : Nat) (T : TypeId) (cs : Array Value) (v : Value) (tx : List (Nat × Nat)) (x : Nat × Nat) (w : World) (h : TrAt B b off mb T cs v tx w) (hx : okP x) (hn : tx.length ≤ 1000000) (hm : x ∈ tx) :
    Calls Tryz.prog 78 #[.pointer (some ⟨b, off, none⟩), traceV x] w (TrPost B b off mb T cs v tx x w) := by
  have hq := heap_alloc_new w (.cells #[.int .u64 (x.1 : Int), .int .u64 (x.2 : Int)] 68)
  have q0 : (w.alloc (.cells #[.int .u64 x.1, .int .u64 x.2] 68)).cell? ⟨w.heap.size, 0, none⟩ = some (.int .u64 x.1) := (blk_cell hq 0).trans rfl
  have q1 : (w.alloc (.cells #[.int .u64 x.1, .int .u64 x.2] 68)).cell? ⟨w.heap.size, 1, none⟩ = some (.int .u64 x.2) := (blk_cell hq 1).trans rfl
  have h := h.alloc (.cells #[.int .u64 x.1, .int .u64 x.2] 68)
  obtain ⟨D, hown, hD⟩ := h.map
  have hkey := keyOf_trace hx
  have hhas : Go.Maps.has D (traceKey x) = true := by
    have := hD.has x hx
    rw [hasIn_iff.2 hm] at this
    exact this
  have hat0 := hD.at_ x hx hm
  have c0 : (w.alloc (.cells #[.int .u64 x.1, .int .u64 x.2] 68)).cell? ⟨b, off, none⟩ = some (.map (some mb)) := (blk_cell h.blk off).trans h.by_
  have c1 : (w.alloc (.cells #[.int .u64 x.1, .int .u64 x.2] 68)).cell? ⟨b, off + 1, none⟩ = some v := (blk_cell h.blk (off + 1)).trans h.lc
  obtain ⟨hk1, _⟩ := idx_mem hm
  have hw0 : (Lit.int .i64 0).wf = true := by decide
  obtain ⟨vv, ps, hrun, hv⟩ := hown.drew.look_ok Tryz.keyed68 Tryz.underlying86 (Tryz.zeroValue3 _) (plainElem_int Tryz.underlying3 hw0) hkey
  obtain ⟨c, rfl, hc, hwc⟩ := plainElem_int_inv Tryz.underlying3 hv
  rw [hhas] at hrun
  simp only [traceV] at hrun
  have HH := Lib.hid h
  clear h
  simp only [traceV] at hkey ⊢
  go_enter Tryz.func78, Tryz.ntmps78
  go_upto_region 1 with fail
  go_region_with (fail)
  all_goals
    have hcc : c = ((idxIn tx x : Nat) : Int) := by
      have := (congrArg Prod.fst hc).symm.trans hat0
      injection this with this
      injection this
    subst hcc
    have hwr : IntKind.u64.wrap ((idxIn tx x : Nat) : Int) = ((idxIn tx x : Nat) : Int) := by
      exact wraps_u64 _ (by omega) (by omega)
    go_simp
    go_wp2_with fail
    go_ret
    refine TrPost.of_alloc (.cells #[.int .u64 x.1, .int .u64 x.2] 68) ⟨rfl, v, ?_, .refl _ _, .drew _ _⟩
    rw [set_same HH.out.lc, add_mem hm]
    exact HH.out.drew
end Go.Proofs.YtlcbgklealipoaaGreatDoor
end

section
/- names.number of a trace that is new (the walk). -/
namespace Go.Proofs.YtlcbgklealipoaaGreatDoor
open Go Go.RowKit
set_option linter.unusedVariables false
set_option linter.unusedSimpArgs false

section
variable {B b off mb : Nat} {T : TypeId} {cs : Array Value} {v v' : Value} {tx : List (Nat × Nat)} {x : Nat × Nat} {w w1 w2 : World} {D : DataW Unit} {n : Nat}
theorem TrAt.ne (h : TrAt B b off mb T cs v tx w) : mb ≠ b ∧ v.ownBlock ≠ some mb ∧ v.ownBlock ≠ some b := by
  obtain ⟨D, ⟨es, ck, hmb, _⟩, _⟩ := h.map
  refine ⟨?_, own_map h.row hmb, own_ne h.row h.blk h.ne9⟩
  rintro rfl
  have := hmb.symm.trans h.blk
  injection this with this
  cases this
/-- Behind the map's turn. -/
theorem TrAt.turned (h : TrAt B b off mb T cs v tx w) (hg : w.grownBy w1 (some mb)) : Kept (fun k => k = mb) w w1 ∧ w1.cell? ⟨b, off, none⟩ = some (.map (some mb)) ∧ w1.cell? ⟨b, off + 1, none⟩ = some v ∧
    w1.ownsRow B 68 2 v tx.length (tx.flatMap trC) ∧ B ≤ w1.heap.size ∧ w1.heap[b]? = some (.cells cs T (0, 0)) := by
  have k1 : Kept (fun k => k = mb) w w1 := Kept.of_grown hg fun k e => by injection e with e; exact e.symm
  obtain ⟨n1, n2, n3⟩ := h.ne
  have hb := blk_kept k1 h.blk (fun e => n1 e.symm)
  exact ⟨k1, (blk_cell hb off).trans h.by_, (blk_cell hb (off + 1)).trans h.lc, own_kept h.row k1 fun k e e2 => n2 (e2 ▸ e), Nat.le_trans h.base (Nat.le_of_lt (blk_lt hb)), hb⟩
/-- Behind the append and the store. -/
theorem TrAt.pushed (h : TrAt B b off mb T cs v tx w) (hx : x ∉ tx) (hg : w.grownBy w1 (some mb)) (hown1 : w1.ownsMap Tryz.prog 68 (plainElem Tryz.prog 3) mb (tx.length + 1) D) (hD : MapIs okP traceKey D (tx ++ [x]))
    (hrow : w2.ownsRow B 68 2 v' (tx.length + 1) (tx.flatMap trC ++ (#[.int .u64 x.1, .int .u64 x.2] : Array Value).toList)) (hg2 : (w1.alloc (.cells #[.int .u64 x.1, .int .u64 x.2] 68)).grownBy w2 v.ownBlock) (hat : v'.ownBlock = v.ownBlock ∨ v'.ownBlock = some (w1.alloc (.cells #[.int .u64 x.1, .int .u64 x.2] 68)).heap.size) :
    w2.cell? ⟨b, off + 1, none⟩ = some v ∧ w2.frozen? ⟨b, off + 1, none⟩ = false ∧
    (TrAt B b off mb T (cs.setIfInBounds (off + 1) v') v' (addIn tx x) (w2.setCell ⟨b, off + 1, none⟩ v') ∧ Moved v w v' ∧ Kept (fun k => k = b ∨ k = mb ∨ v.ownBlock = some k) w (w2.setCell ⟨b, off + 1, none⟩ v')) := by
  obtain ⟨k1, c1, c2, hr1, hB1, hb1⟩ := h.turned hg
  obtain ⟨n1, n2, n3⟩ := h.ne
  have k2 : Kept (fun k => v.ownBlock = some k) w1 w2 := (Kept.alloc _ w1 _).trans (Kept.of_grown hg2 fun k e => e) (fun _ _ e => e) fun _ _ e => e
  have hb2 : w2.heap[b]? = some (.cells cs T (0, 0)) := blk_kept k2 hb1 n3
  have m2 := map_kept hown1 k2 n2
  have k3 : Kept (fun k => k = b) w2 (w2.setCell ⟨b, off + 1, none⟩ v') := Kept.setCell _ _ _ rfl
  have m3 := map_kept m2 k3 n1
  have hne' : v'.ownBlock ≠ some b := own_ne hrow hb2 h.ne9
  have hoff := (Array.getElem?_eq_some_iff.1 h.lc).1
  refine ⟨(blk_cell hb2 (off + 1)).trans h.lc, blk_frozen hb2 (off + 1), ⟨blk_set hb2 (off + 1) v', h.ne9, ?_, ?_, h.base, ?_, D, ?_, ?_⟩, ?_, ?_⟩
  · rw [Array.getElem?_setIfInBounds, if_neg (by omega)]; exact h.by_
  · rw [Array.getElem?_setIfInBounds, if_pos rfl, if_pos hoff]
  · rw [add_none hx, List.length_append, List.flatMap_append, List.flatMap_singleton]
    exact own_kept hrow k3 fun k e e2 => hne' (e2 ▸ e)
  · rw [add_none hx, List.length_append]
    exact m3
  · rw [add_none hx]; exact hD
  · rcases hat with e | e
    · exact .inl e
    · refine .inr fun k hk => ?_
      have := k1.size
      have hs : (w1.alloc (.cells #[.int .u64 x.1, .int .u64 x.2] 68)).heap.size = w1.heap.size + 1 := by simp
      rw [e, hs] at hk; injection hk with hk; omega
  · exact (k1.trans k2 (U := fun k => k = b ∨ k = mb ∨ v.ownBlock = some k) (fun _ _ e => .inr (.inl e)) fun _ _ e => .inr (.inr e)).trans k3 (fun _ _ e => e) fun _ _ e => .inl e
end
set_option maxHeartbeats 2000000 in
set_option maxRecDepth 100000 in
theorem trace_out (B b off mb : Nat) (T : TypeId) (cs : Array Value) (v : Value) (tx : List (Nat × Nat)) (x : Nat × Nat) (w : World) (h : TrAt B b off mb T cs v tx w) (hx : okP x) (hn : tx.length ≤ 1000000) (hm : x ∉ tx) :
    Calls Tryz.prog 78 #[.pointer (some ⟨b, off, none⟩), traceV x] w (TrPost B b off mb T cs v tx x w) := by
  have hq := heap_alloc_new w (.cells #[.int .u64 (x.1 : Int), .int .u64 (x.2 : Int)] 68)
  have q0 : (w.alloc (.cells #[.int .u64 x.1, .int .u64 x.2] 68)).cell? ⟨w.heap.size, 0, none⟩ = some (.int .u64 x.1) := (blk_cell hq 0).trans rfl
  have q1 : (w.alloc (.cells #[.int .u64 x.1, .int .u64 x.2] 68)).cell? ⟨w.heap.size, 1, none⟩ = some (.int .u64 x.2) := (blk_cell hq 1).trans rfl
  have h := h.alloc (.cells #[.int .u64 x.1, .int .u64 x.2] 68)
  obtain ⟨D, hown, hD⟩ := h.map
  have hkey := keyOf_trace hx
  have hhas : Go.Maps.has D (traceKey x) = false := by
    have := hD.has x hx
    rw [hasIn_not.2 hm] at this
    exact this
  have hadd := Lib.hid (hD.add traceKey_inj traceKey_lit hx hm)
  have c0 : (w.alloc (.cells #[.int .u64 x.1, .int .u64 x.2] 68)).cell? ⟨b, off, none⟩ = some (.map (some mb)) := (blk_cell h.blk off).trans h.by_
  have c1 : (w.alloc (.cells #[.int .u64 x.1, .int .u64 x.2] 68)).cell? ⟨b, off + 1, none⟩ = some v := (blk_cell h.blk (off + 1)).trans h.lc
  obtain ⟨A, cp, rfl⟩ := own_slice h.row
  obtain ⟨i0, hi, hz0, hz1, hz2⟩ := info_parts Tryz.info68
  have hval : plainElem (H := Unit) Tryz.prog 3 (.int .i64 tx.length) = some (.lit (.int .i64 tx.length), []) := plainElem_int Tryz.underlying3 (by
    show decide _ = true
    rw [decide_eq_true_eq]
    have e1 : (IntKind.i64.max : Int) = 9223372036854775807 := rfl
    have e2 : (IntKind.i64.min : Int) = -9223372036854775808 := rfl
    omega)
  have hone : ∀ u ∈ (#[.int .u64 x.1, .int .u64 x.2] : Array Value).toList, u.oneCell' = true := by simp [Value.oneCell']
  have k1 : tx.length < maxLen := by unfold maxLen; omega
  have k2 : tx.length ≤ 1000000000 := by omega
  have HQ : Hid (∀ g, (w.alloc (.cells #[.int .u64 x.1, .int .u64 x.2] 68)).heap[g]? = some (.cells #[.int .u64 (x.1 : Int), .int .u64 (x.2 : Int)] 68 (0, 0)) → ¬ g = mb) := Lib.hid fun g hg e => by
    obtain ⟨es, ck, hmb, _⟩ := hown
    subst e
    have := hmb.symm.trans hg
    injection this with this
    cases this
  have hw0 : (Lit.int .i64 0).wf = true := by decide
  obtain ⟨vv, ps, hrun, hv⟩ := hown.drew.look_ok Tryz.keyed68 Tryz.underlying86 (Tryz.zeroValue3 _) (plainElem_int Tryz.underlying3 hw0) hkey
  obtain ⟨c, rfl, hc, hwc⟩ := plainElem_int_inv Tryz.underlying3 hv
  rw [hhas] at hrun
  simp only [traceV] at hrun
  obtain ⟨w1, hup, hown1, hg1⟩ := hown.drew.drew.update Tryz.keyed68 Tryz.underlying86 k1 hkey hval
  simp only [traceV] at hup
  obtain ⟨kk1, cc0, cc1, hr1, hB1, hbb1⟩ := h.drew.drew.turned hg1
  have hqq := blk_kept kk1 (show (w.alloc (.cells #[.int .u64 (x.1 : Int), .int .u64 (x.2 : Int)] 68)).drew.drew.heap[w.heap.size]? = _ from hq) (HQ.out w.heap.size hq)
  have qq0 : w1.cell? ⟨w.heap.size, 0, none⟩ = some (.int .u64 x.1) := (blk_cell hqq 0).trans rfl
  have qq1 : w1.cell? ⟨w.heap.size, 1, none⟩ = some (.int .u64 x.2) := (blk_cell hqq 1).trans rfl
  clear kk1 hqq
  have hg1d : (w.alloc (.cells #[.int .u64 (x.1 : Int), .int .u64 (x.2 : Int)] 68)).drew.drew.grownBy w1.drew (some mb) := ⟨hg1.1, hg1.2, hg1.3, hg1.4, hg1.5⟩
  have f1 : (w1.alloc (.cells #[.int .u64 (x.1 : Int), .int .u64 (x.2 : Int)] 68)).drew.cell? ⟨b, off + 1, none⟩ = some (.slice A tx.length cp) :=
    (blk_cell (show (w1.alloc (.cells #[.int .u64 (x.1 : Int), .int .u64 (x.2 : Int)] 68)).drew.heap[b]? = _ from blk_kept (Kept.alloc (fun _ => False) w1 _) hbb1 (fun e => e)) (off + 1)).trans h.lc
  have hr1d : w1.drew.ownsRow B 68 2 (.slice A tx.length cp) tx.length (tx.flatMap trC) := hr1
  have hown1d := hown1.drew
  have hB1d : B ≤ w1.drew.heap.size := hB1
  have HH := Lib.hid h
  clear h hD
  simp only [traceV] at hkey ⊢
  go_enter Tryz.func78, Tryz.ntmps78
  go_upto_region 1 with fail
  go_region_with (fail)
  all_goals go_simp
  all_goals go_upto_region 4 with fail
  all_goals go_region_with (fail)
  all_goals go_simp
  all_goals go_upto_region 5 with fail
  all_goals go_region_law (refine step_append_long rfl _ _ 87 rfl B 68 i0 (.agg #[.int .u64 0, .int .u64 0]) 2 16 Tryz.underlying87 hi hz0 hz1 hz2 rfl (by decide) (.slice A tx.length cp) tx.length (tx.flatMap trC) #[.int .u64 x.1, .int .u64 x.2] 1 rfl rfl rfl hone hr1d k2 (by decide) hB1d ?_; intro A' c' w2 hown2 hg2 hat2; obtain ⟨d1, d2, d3⟩ := HH.out.drew.drew.pushed hm hg1d hown1d hadd.out hown2 hg2 hat2; have D3 := Lib.hid d3; clear d3)
  all_goals
    go_simp
    go_wp2_with fail
    go_ret
    obtain ⟨e1, e2, e3⟩ := D3.out
    refine TrPost.of_alloc (.cells #[.int .u64 x.1, .int .u64 x.2] 68) ⟨by rw [idx_none hm]; rfl, _, e1, e2, (Kept.drew (fun _ => False) _).trans ((Kept.drew (fun _ => False) _).trans e3 (fun _ _ e => e.elim) fun _ _ e => e) (fun _ _ e => e.elim) fun _ _ e => e⟩
end Go.Proofs.YtlcbgklealipoaaGreatDoor
end

section
/- What Encode has in hand: the writer, its texts, its traces. -/
namespace Go.Proofs.YtlcbgklealipoaaGreatDoor
open Go Go.RowKit
set_option linter.unusedVariables false
set_option linter.unusedSimpArgs false

/-- A trace's number. -/
theorem numTrace_any (B b off mb : Nat) (T : TypeId) (cs : Array Value) (v : Value) (tx : List (Nat × Nat)) (x : Nat × Nat) (w : World) (h : TrAt B b off mb T cs v tx w) (hx : okP x) (hn : tx.length ≤ 1000000) :
    Calls Tryz.prog 78 #[.pointer (some ⟨b, off, none⟩), traceV x] w (TrPost B b off mb T cs v tx x w) := by
  by_cases hm : x ∈ tx
  · exact trace_in B b off mb T cs v tx x w h hx hn hm
  · exact trace_out B b off mb T cs v tx x w h hx hn hm
theorem own_own {w : World} {B B' n n' s s' : Nat} {e e' : TypeId} {v v' : Value} {xs xs' : List Value} (h : w.ownsRow B e s v n xs) (h' : w.ownsRow B' e' s' v' n' xs') (he : e ≠ e') {k : Nat} (hk : v.ownBlock = some k) : v'.ownBlock ≠ some k := by
  intro hk'
  rcases h.2 with ⟨rfl, _⟩ | ⟨g, cap, cur, rfl, _, hh, _⟩
  · simp [Value.ownBlock] at hk
  · have : g = k := by simpa [Value.ownBlock] using hk
    subst this
    exact own_ne h' hh he hk'
theorem map_ne {w : World} {p : Program} {kt : TypeId} {R : Value → Option (DataW Unit × List MemPlace)} {b n : Nat} {D : DataW Unit} (h : w.ownsMap p kt R b n D) {g : Nat} {cs : Array Value} {t : TypeId} {fr : Nat × Nat} (hb : w.heap[g]? = some (.cells cs t fr)) : g ≠ b := by
  obtain ⟨es, ck, hmb, _⟩ := h
  rintro rfl
  have := hmb.symm.trans hb
  injection this with this
  cases this
theorem own_map' {w : World} {base n : Nat} {e : TypeId} {size : Nat} {v : Value} {xs : List Value} (h : w.ownsRow base e size v n xs) {p : Program} {kt : TypeId} {R : Value → Option (DataW Unit × List MemPlace)} {b m : Nat} {D : DataW Unit} (hm : w.ownsMap p kt R b m D) : v.ownBlock ≠ some b := by
  obtain ⟨es, ck, hmb, _⟩ := hm
  exact own_map h hmb
section
variable {B b off mb : Nat} {T : TypeId} {cs cs' : Array Value} {v : Value} {S : Nat → Prop} {w w' : World}
theorem TxAt.other {tx : List ByteArray} (h : TxAt B b off mb T cs v tx w) (hk : Kept S w w') (hb : w'.heap[b]? = some (.cells cs' T (0, 0))) (h1 : cs'[off]? = cs[off]?) (h2 : cs'[off + 1]? = cs[off + 1]?) (hv : ∀ k, v.ownBlock = some k → ¬ S k) (hm : ¬ S mb) : TxAt B b off mb T cs' v tx w' :=
  ⟨hb, h.ne9, h1.trans h.by_, h2.trans h.lc, h.base, own_kept h.row hk hv, by
    obtain ⟨D, hD, hM⟩ := h.map
    exact ⟨D, map_kept hD hk hm, hM⟩⟩
theorem TrAt.other {tx : List (Nat × Nat)} (h : TrAt B b off mb T cs v tx w) (hk : Kept S w w') (hb : w'.heap[b]? = some (.cells cs' T (0, 0))) (h1 : cs'[off]? = cs[off]?) (h2 : cs'[off + 1]? = cs[off + 1]?) (hv : ∀ k, v.ownBlock = some k → ¬ S k) (hm : ¬ S mb) : TrAt B b off mb T cs' v tx w' :=
  ⟨hb, h.ne9, h1.trans h.by_, h2.trans h.lc, h.base, own_kept h.row hk hv, by
    obtain ⟨D, hD, hM⟩ := h.map
    exact ⟨D, map_kept hD hk hm, hM⟩⟩
end
/-- The writer's six cells. -/
def wC (g mt : Nat) (tv : Value) (mr : Nat) (rv : Value) (st : Int) : Array Value := #[.pointer (some ⟨g, 0, none⟩), .map (some mt), tv, .map (some mr), rv, .int .i64 st]
/-- Blocks of cells that are none of the writer's stay. -/
def Apart (w w' : World) : Prop := ∀ (xb : Nat) (cs : Array Value) (t : TypeId) (fr : Nat × Nat), w.heap[xb]? = some (.cells cs t fr) → t ≠ 91 → t ≠ 160 → t ≠ 5 → t ≠ 9 → t ≠ 68 → w'.heap[xb]? = some (.cells cs t fr)
theorem Apart.refl (w : World) : Apart w w := fun _ _ _ _ h _ _ _ _ _ => h
theorem Apart.trans {a b c : World} (h : Apart a b) (k : Apart b c) : Apart a c := fun xb cs t fr e h1 h2 h3 h4 h5 => k xb cs t fr (h xb cs t fr e h1 h2 h3 h4 h5) h1 h2 h3 h4 h5
theorem Apart.of_kept {w w' : World} (h : Kept (fun _ => False) w w') : Apart w w' := fun xb cs t fr e _ _ _ _ _ => blk_kept h e (fun h => h)
structure WAt (wb g mt mr : Nat) (w0 : World) (b : BW) (N : Nat) (w : World) : Prop where
  wr : ∃ v, WrAt 160 5 w0.heap.size w g v b.out
  st : ∃ tv rv, TxAt w0.heap.size wb 1 mt 91 (wC g mt tv mr rv b.st) tv b.tx w ∧ TrAt w0.heap.size wb 3 mr 91 (wC g mt tv mr rv b.st) rv b.tr w
  ne : mt ≠ mr
  kept : Kept (fun _ => False) w0 w
  ge : w0.heap.size ≤ mt ∧ w0.heap.size ≤ mr
  len : b.out.length ≤ N ∧ b.tx.length ≤ N ∧ b.tr.length ≤ N
def WPost (wb g mt mr : Nat) (w0 : World) (b : BW) (N : Nat) (w : World) (r : Value) (e : Ending) (w' : World) : Prop := e = .returned r ∧ WAt wb g mt mr w0 b N w' ∧ Apart w w'
section
variable {wb g mt mr N : Nat} {w0 w : World} {b : BW}
theorem WAt.blk (h : WAt wb g mt mr w0 b N w) : ∃ tv rv, w.heap[wb]? = some (.cells (wC g mt tv mr rv b.st) 91 (0, 0)) := by
  obtain ⟨tv, rv, h1, h2⟩ := h.st
  exact ⟨tv, rv, h1.blk⟩
theorem WAt.c0 (h : WAt wb g mt mr w0 b N w) : w.cell? ⟨wb, 0, none⟩ = some (.pointer (some ⟨g, 0, none⟩)) := by
  obtain ⟨tv, rv, h1⟩ := h.blk
  exact (blk_cell h1 0).trans rfl
theorem WAt.c5 (h : WAt wb g mt mr w0 b N w) : w.cell? ⟨wb, 5, none⟩ = some (.int .i64 b.st) := by
  obtain ⟨tv, rv, h1⟩ := h.blk
  exact (blk_cell h1 5).trans rfl
theorem WAt.frozen (h : WAt wb g mt mr w0 b N w) (i : Nat) : w.frozen? ⟨wb, i, none⟩ = false := by
  obtain ⟨tv, rv, h1⟩ := h.blk
  exact blk_frozen h1 i
theorem WAt.mono (h : WAt wb g mt mr w0 b N w) {M : Nat} (hM : N ≤ M) : WAt wb g mt mr w0 b M w :=
  ⟨h.wr, h.st, h.ne, h.kept, h.ge, Nat.le_trans h.len.1 hM, Nat.le_trans h.len.2.1 hM, Nat.le_trans h.len.2.2 hM⟩
/-- What changes nothing of theirs. -/
theorem WAt.later {w' : World} (h : WAt wb g mt mr w0 b N w) (hk : Kept (fun _ => False) w w') : WAt wb g mt mr w0 b N w' := by
  obtain ⟨v, hv⟩ := h.wr
  obtain ⟨tv, rv, h1, h2⟩ := h.st
  have hb := blk_kept hk h1.blk (fun h => h)
  exact ⟨⟨v, hv.kept hk (fun h => h) (fun _ _ h => h)⟩, ⟨tv, rv, h1.other hk hb rfl rfl (fun _ _ h => h) (fun h => h), h2.other hk hb rfl rfl (fun _ _ h => h) (fun h => h)⟩, h.ne, h.kept.trans hk (fun _ _ e => e) (fun _ _ e => e), h.ge, h.len⟩
theorem WAt.alloc (h : WAt wb g mt mr w0 b N w) (o : Obj) : WAt wb g mt mr w0 b N (w.alloc o) := h.later (.alloc _ _ _)
theorem WAt.drew (h : WAt wb g mt mr w0 b N w) : WAt wb g mt mr w0 b N w.drew := h.later (.drew _ _)
/-- A block of another's. -/
theorem WAt.setCell (h : WAt wb g mt mr w0 b N w) {q i : Nat} {u : Value} {cs : Array Value} {t : TypeId} {fr : Nat × Nat} (hq : w.heap[q]? = some (.cells cs t fr)) (h1 : t ≠ 91) (h2 : t ≠ 160) (h3 : t ≠ 5) (h4 : t ≠ 9) (h5 : t ≠ 68) (hge : w0.heap.size ≤ q) : WAt wb g mt mr w0 b N (w.setCell ⟨q, i, none⟩ u) := by
  have hk : Kept (fun k => k = q) w (w.setCell ⟨q, i, none⟩ u) := .setCell _ _ _ rfl
  obtain ⟨v, hv⟩ := h.wr
  obtain ⟨tv, rv, a1, a2⟩ := h.st
  obtain ⟨D1, m1, _⟩ := a1.map
  obtain ⟨D2, m2, _⟩ := a2.map
  have nb : wb ≠ q := fun e => h1 (by
    have := a1.blk
    rw [e, hq] at this
    injection this with this
    injection this)
  have ng : g ≠ q := fun e => h2 (by
    have := hv.blk
    rw [e, hq] at this
    injection this with this
    injection this)
  have hb := blk_kept hk a1.blk nb
  refine ⟨⟨v, hv.kept hk ng fun k e e2 => own_ne hv.own hq h3 (e2 ▸ e)⟩, ⟨tv, rv, a1.other hk hb rfl rfl (fun k e e2 => own_ne a1.row hq h4 (e2 ▸ e)) fun e => map_ne m1 hq e.symm, a2.other hk hb rfl rfl (fun k e e2 => own_ne a2.row hq h5 (e2 ▸ e)) fun e => map_ne m2 hq e.symm⟩, h.ne, h.kept.trans hk (fun _ _ e => e) (fun i hi e => by omega), h.ge, h.len⟩
/-- What a call of the wire's writer leaves. -/
theorem WAt.put (h : WAt wb g mt mr w0 b N w) {v v' : Value} {l : List Int} {w' : World} {M : Nat} (hv : WrAt 160 5 w0.heap.size w g v b.out) (hst : WrStep 160 5 w0.heap.size g v w v' (b.out ++ l) w') (hl : l.length ≤ M) : WAt wb g mt mr w0 (b.put l) (N + M) w' ∧ Apart w w' := by
  obtain ⟨tv, rv, a1, a2⟩ := h.st
  obtain ⟨D1, m1, _⟩ := a1.map
  obtain ⟨D2, m2, _⟩ := a2.map
  have hk := hst.kept
  have hlen := h.len
  have hb := blk_kept hk a1.blk (by
    rintro (e | e)
    · have := a1.blk
      rw [e, hv.blk] at this
      injection this with this
      injection this with _ this
      cases this
    · exact own_ne hv.own a1.blk (by decide) e)
  have nm : ∀ {kt : TypeId} {R : Value → Option (DataW Unit × List MemPlace)} {m n : Nat} {D : DataW Unit}, w.ownsMap Tryz.prog kt R m n D → ¬ (m = g ∨ v.ownBlock = some m) := by
    intro kt R m n D hm
    rintro (e | e)
    · exact map_ne hm hv.blk e.symm
    · exact own_map' hv.own hm e
  have no : ∀ {e : TypeId} {s n : Nat} {u : Value} {xs : List Value}, w.ownsRow w0.heap.size e s u n xs → e ≠ 5 → e ≠ 160 → ∀ k, u.ownBlock = some k → ¬ (k = g ∨ v.ownBlock = some k) := by
    intro e s n u xs hu h5 h160 k hk1
    rintro (rfl | e)
    · exact own_ne hu hv.blk (fun h => h160 h.symm) hk1
    · exact own_own hv.own hu (fun h => h5 h.symm) e hk1
  refine ⟨⟨⟨v', hst.at_⟩, ⟨tv, rv, a1.other hk hb rfl rfl (no a1.row (by decide) (by decide)) (nm m1), a2.other hk hb rfl rfl (no a2.row (by decide) (by decide)) (nm m2)⟩, h.ne, h.kept.trans hk (fun _ _ e => e) ?_, h.ge, ?_⟩, ?_⟩
  · rintro i hi (e | e)
    · have := hv.base; omega
    · have := (hv.own.lt i e).1; omega
  · refine ⟨?_, Nat.le_trans hlen.2.1 (Nat.le_add_right _ _), Nat.le_trans hlen.2.2 (Nat.le_add_right _ _)⟩
    show (b.out ++ l).length ≤ _
    rw [List.length_append]; omega
  · intro xb cs t fr hx h1 h2 h3 h4 h5
    refine blk_kept hk hx ?_
    rintro (e | e)
    · rw [e, hv.blk] at hx
      injection hx with hx
      injection hx with _ hx
      exact h2 hx.symm
    · exact own_ne hv.own hx h3 e
end
end Go.Proofs.YtlcbgklealipoaaGreatDoor
end

