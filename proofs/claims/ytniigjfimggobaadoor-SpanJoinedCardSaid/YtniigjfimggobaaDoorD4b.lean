/- One more element behind a list that is read (append). -/
import Derived.Test.YtniigjfimggobaaDoorD4
import Derived.Deep.RegionLaw
namespace Go.Proofs.YtniigjfimggobaaDoor
open Go.RowKit
set_option linter.unusedVariables false
set_option linter.unusedSimpArgs false

section
variable {P : Program} {w : World} {ops : Array Oper} {rest : List Oper} {o : Oper} {a : Act} {Q : Exit → Act → World → Prop}
/-- 'append(s, x)' of one element that was just laid. -/
theorem wpList_append_one (hgd : o.guard = none) (s x : Operand) (t : TypeId) (ho : o.op = .call { callee := .builtin .append, args := #[s, x], argTypes := #[t, t] })
    (B : Nat) (e : TypeId) (i : TypeInfo) (z : Value) (size bytes : Nat) (ht : P.underlying t = some (.slice e)) (hi : P.info? e = some i) (hz : i.zero = some z) (hsize : i.size = size) (hby : i.bytes = bytes) (hzs : z.cells.size = size) (hsz : 0 < size)
    (v : Value) (n : Nat) (xs : List Value) (cs : Array Value) (c : Nat) (hs : a.eval s = v) (hx : a.eval x = .slice (some ⟨w.heap.size, 0, none⟩) 1 c)
    (hcs : cs.toList.length = size) (h1 : ∀ u ∈ cs.toList, u.oneCell' = true)
    (hown : w.ownsRow B e size v n xs) (h63 : n ≤ 1000) (hbytes : bytes ≤ 1000) (hB : B ≤ w.heap.size)
    (h : ∀ A c' w', w'.ownsRow B e size (.slice A (n + 1) c') (n + 1) (xs ++ cs.toList) → (w.alloc (.cells cs e)).grownBy w' v.ownBlock → wpList P ops Q rest (a.put o.dst (.slice A (n + 1) c')) w') : wpList P ops Q (o :: rest) a (w.alloc (.cells cs e)) := by
  refine wpList_append_own_at (w.alloc (.cells cs e)) hgd s x t ho B e i z size bytes ht hi hz hsize hby hzs hsz v n xs hs (hown.alloc _) ⟨w.heap.size, 0, none⟩ 1 c cs.toList hx (by rw [hcs, Nat.one_mul]) ?_ h1 (by simp [maxLen]; omega) (Nat.le_trans (Nat.mul_le_mul (show n + 1 ≤ 1001 by omega) hbytes) (by omega)) (by simp; omega) ?_
  · intro j u hu
    rw [Addr.add_lit, Nat.zero_add, blk_cell (heap_alloc_new w _), ← hu, Array.getElem?_toList]
  · intro v' w' hown' hg _ hat
    obtain ⟨A, c', rfl⟩ := own_slice hown'
    exact h A c' w' hown' hg
/-- The same at a step of a region that draws its order. -/
theorem step_append_one {K : Act → World → Prop} {E' : Prop} (hgd : o.guard = none) (s x : Operand) (t : TypeId) (ho : o.op = .call { callee := .builtin .append, args := #[s, x], argTypes := #[t, t] })
    (B : Nat) (e : TypeId) (i : TypeInfo) (z : Value) (size bytes : Nat) (ht : P.underlying t = some (.slice e)) (hi : P.info? e = some i) (hz : i.zero = some z) (hsize : i.size = size) (hby : i.bytes = bytes) (hzs : z.cells.size = size) (hsz : 0 < size)
    (v : Value) (n : Nat) (xs : List Value) (cs : Array Value) (c : Nat) (hs : a.eval s = v) (hx : a.eval x = .slice (some ⟨w.heap.size, 0, none⟩) 1 c)
    (hcs : cs.toList.length = size) (h1 : ∀ u ∈ cs.toList, u.oneCell' = true)
    (hown : w.ownsRow B e size v n xs) (h63 : n ≤ 1000) (hbytes : bytes ≤ 1000) (hB : B ≤ w.heap.size)
    (h : ∀ A c' w', w'.ownsRow B e size (.slice A (n + 1) c') (n + 1) (xs ++ cs.toList) → (w.alloc (.cells cs e)).grownBy w' v.ownBlock → K (a.put o.dst (.slice A (n + 1) c')) w') :
    if Region.wanted o (yielded ops a.tmps) = true then Oper.wp P o a (w.alloc (.cells cs e)) K Q else E' := by
  have hw : Region.wanted o (yielded ops a.tmps) = true := by simp [Region.wanted, hgd]
  rw [if_pos hw]
  obtain ⟨v', w', hr, h2, h3, _, _⟩ := run_append_own_at (P := P) (w.alloc (.cells cs e)) B t o.type e i z size bytes ht hi hz hsize hby hzs hsz v n xs (hown.alloc _) ⟨w.heap.size, 0, none⟩ 1 c cs.toList (by rw [hcs, Nat.one_mul]) (fun j u hu => by
    rw [Addr.add_lit, Nat.zero_add, blk_cell (heap_alloc_new w _), ← hu, Array.getElem?_toList]) h1 (by simp [maxLen]; omega) (Nat.le_trans (Nat.mul_le_mul (show n + 1 ≤ 1001 by omega) hbytes) (by omega)) (by simp; omega)
  unfold Oper.wp execOp
  simp only [ho, resolve, invoke, builtin, Sem.run_bind, Sem.run_pure, Result.andThen_ok, List.map_toArray, List.map_cons, List.map_nil, hs, hx, hr]
  obtain ⟨A, c', rfl⟩ := own_slice h2
  exact h A c' w' h2 h3
end
section
variable {B q r : Nat} {v : Value} {L : List Int} {sb rb : Nat} {w0 w : World} {s : Spn} {lv av ev : Value} {st : DSt}
theorem DecAt.spL {w2 : World} (h : DecAt B q r v L sb rb w0 w s lv av ev st) (hg : w.grownBy w2 lv.ownBlock) : w2.heap[sb]? = some (.cells (s.cells lv av ev) 33 (0, 0)) := by
  refine blk_kept (Kept.of_grown (S := fun k => lv.ownBlock = some k) hg (fun k hk => hk)) h.sp (fun hs => ?_)
  exact own_ne h.ll h.sp (by decide) hs
theorem DecAt.spA {w2 : World} (h : DecAt B q r v L sb rb w0 w s lv av ev st) (hg : w.grownBy w2 av.ownBlock) : w2.heap[sb]? = some (.cells (s.cells lv av ev) 33 (0, 0)) := by
  refine blk_kept (Kept.of_grown (S := fun k => av.ownBlock = some k) hg (fun k hk => hk)) h.sp (fun hs => ?_)
  exact own_ne h.la h.sp (by decide) hs
theorem DecAt.spE {w2 : World} (h : DecAt B q r v L sb rb w0 w s lv av ev st) (hg : w.grownBy w2 ev.ownBlock) : w2.heap[sb]? = some (.cells (s.cells lv av ev) 33 (0, 0)) := by
  refine blk_kept (Kept.of_grown (S := fun k => ev.ownBlock = some k) hg (fun k hk => hk)) h.sp (fun hs => ?_)
  exact own_ne h.le h.sp (by decide) hs
/-- An element that is being read, in a block of its own, is written. -/
theorem DecAt.elemA {w1 : World} {xb : Nat} {cs : Array Value} {fr : Nat × Nat} (h : DecAt B q r v L sb rb w0 w s lv av ev st) (hk : Kept (fun i => i = xb) w w1) (hx : w.heap[xb]? = some (.cells cs 66 fr)) (hne : av.ownBlock ≠ some xb) (hge : w0.heap.size ≤ xb) : DecAt B q r v L sb rb w0 w1 s lv av ev st := by
  have ty : ∀ k, k = xb → ∀ cs (t : Nat) fr, w.heap[k]? = some (.cells cs t fr) → t = 66 := by
    rintro k rfl cs t fr hb
    exact typ_of hx hb
  refine ⟨h.src.kept hk (fun k hs cs t fr hb => ?_), blk_kept hk h.sp (fun hs => ?_), blk_kept hk h.res (fun hs => ?_), h.ne, h.kept.trans hk (fun _ _ e => e) (fun i hi e => ?_), h.ge, own_keptT h.ll hk ?_, own_kept h.la hk ?_, own_keptT h.le hk ?_⟩
  · have := ty k hs cs t fr hb; omega
  · have := ty _ hs _ _ _ h.sp; omega
  · have := ty _ hs _ _ _ h.res; omega
  · omega
  · exact fun k hs cs t fr hb => by have := ty k hs cs t fr hb; omega
  · exact fun k hv hs => hne (by rw [hv, hs])
  · exact fun k hs cs t fr hb => by have := ty k hs cs t fr hb; omega
theorem DecAt.elemE {w1 : World} {xb : Nat} {cs : Array Value} {fr : Nat × Nat} (h : DecAt B q r v L sb rb w0 w s lv av ev st) (hk : Kept (fun i => i = xb) w w1) (hx : w.heap[xb]? = some (.cells cs 68 fr)) (hne : ev.ownBlock ≠ some xb) (hge : w0.heap.size ≤ xb) : DecAt B q r v L sb rb w0 w1 s lv av ev st := by
  have ty : ∀ k, k = xb → ∀ cs (t : Nat) fr, w.heap[k]? = some (.cells cs t fr) → t = 68 := by
    rintro k rfl cs t fr hb
    exact typ_of hx hb
  refine ⟨h.src.kept hk (fun k hs cs t fr hb => ?_), blk_kept hk h.sp (fun hs => ?_), blk_kept hk h.res (fun hs => ?_), h.ne, h.kept.trans hk (fun _ _ e => e) (fun i hi e => ?_), h.ge, own_keptT h.ll hk ?_, own_keptT h.la hk ?_, own_kept h.le hk ?_⟩
  · have := ty k hs cs t fr hb; omega
  · have := ty _ hs _ _ _ h.sp; omega
  · have := ty _ hs _ _ _ h.res; omega
  · omega
  · exact fun k hs cs t fr hb => by have := ty k hs cs t fr hb; omega
  · exact fun k hs cs t fr hb => by have := ty k hs cs t fr hb; omega
  · exact fun k hv hs => hne (by rw [hv, hs])
/-- A source's method leaves an element's block alone. -/
theorem SrcAt.apart {w1 : World} {xb : Nat} {cs : Array Value} {t : TypeId} {fr : Nat × Nat} (h : SrcAt B w q r v L st) (hk : Kept (fun i => i = q ∨ i = r) w w1) (hx : w.heap[xb]? = some (.cells cs t fr)) (h1 : t ≠ 94) (h2 : t ≠ 124) : w1.heap[xb]? = some (.cells cs t fr) := by
  obtain ⟨e, n, hq, hr, hn, hst⟩ := h
  refine blk_kept hk hx ?_
  rintro (rfl | rfl)
  · exact h1 (typ_of hq hx)
  · exact h2 (typ_of hr.blk hx)
end
end Go.Proofs.YtniigjfimggobaaDoor
