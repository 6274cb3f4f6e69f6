/- Rows that are full of one thing; where an append writes. -/
import Derived.Test.YtoolimfdncfgnaaLib
namespace Go.Proofs.Ytoolimfdncfgnaa
open Go.RowKit
set_option linter.unusedVariables false
set_option linter.unusedSimpArgs false

/-- Where an append has written: behind v's elements in v's own block, or in a new one. -/
def AppAt (e size : Nat) (w : World) (v : Value) (n : Nat) (news : List Value) (v' : Value) (w' : World) : Prop :=
  (∃ g cap cur, v = .slice (some ⟨g, 0, none⟩) n cap ∧ v'.ownBlock = some g ∧ w.heap[g]? = some (.cells cur e (0, 0)) ∧ n * size + news.length ≤ cur.size ∧
    w'.heap[g]? = some (.cells (cur.toList.take (n * size) ++ news ++ cur.toList.drop (n * size + news.length)).toArray e (0, 0)) ∧ Kept (fun k => k = g) w w') ∨
  ((∃ b, w.heap.size ≤ b ∧ v'.ownBlock = some b) ∧ Kept (fun _ => False) w w')
theorem AppAt.kept {e size : Nat} {w w' : World} {v v' : Value} {n : Nat} {news : List Value} (h : AppAt e size w v n news v' w') : Kept (fun k => v.ownBlock = some k) w w' := by
  rcases h with ⟨g, cap, cur, rfl, _, _, _, _, hk⟩ | ⟨_, hk⟩
  · exact hk.mono fun i _ e => by subst e; rfl
  · exact hk.mono fun _ _ e => e.elim
theorem AppAt.moved {e size : Nat} {w w' : World} {v v' : Value} {n : Nat} {news : List Value} (h : AppAt e size w v n news v' w') : Moved v w v' := by
  rcases h with ⟨g, cap, cur, rfl, h, _⟩ | ⟨⟨b, hb, h⟩, _⟩
  · exact .inl h
  · exact .inr fun k hk => by rw [h] at hk; injection hk with hk; omega
theorem AppAt.behind {e size : Nat} {w w' : World} {v v' : Value} {n : Nat} {news : List Value} {o : Obj} (h : AppAt e size (w.alloc o) v n news v' w') (hv : ∀ k, v.ownBlock = some k → k < w.heap.size) : AppAt e size w v n news v' w' := by
  have hs : (w.alloc o).heap.size = w.heap.size + 1 := by simp
  rcases h with ⟨g, cap, cur, rfl, h1, h2, h3, h4, hk⟩ | ⟨⟨b, hb, h⟩, hk⟩
  · have hg := hv g rfl
    rw [Below.heap_alloc w o g hg] at h2
    exact .inl ⟨g, cap, cur, rfl, h1, h2, h3, h4, (Kept.alloc _ w o).trans hk (fun _ _ e => e) fun _ _ e => e⟩
  · exact .inr ⟨⟨b, by omega, h⟩, (Kept.alloc _ w o).trans hk (fun _ _ e => e) fun _ _ e => e⟩

section
variable {P : Program} (w : World)
theorem run_append_two (base : Nat) (t ty e : TypeId) (i : TypeInfo) (z : Value) (size bytes : Nat) (ht : P.underlying t = some (.slice e)) (hi : P.info? e = some i) (hz : i.zero = some z)
    (hsize : i.size = size) (hby : i.bytes = bytes) (hzs : z.cells.size = size) (hsz : 0 < size)
    (v : Value) (n : Nat) (xs : List Value) (hown : w.ownsRow base e size v n xs)
    (a : Addr) (m c : Nat) (news : List Value) (hl : news.length = m * size) (hm : 0 < m) (hnews : ∀ j u, news[j]? = some u → w.cell? (a.add j) = some u) (h1 : ∀ u ∈ news, u.oneCell' = true)
    (h63 : n + m ≤ maxLen) (hbytes : (n + m) * bytes ≤ 140737488355328) (hbase : base ≤ w.heap.size) :
    ∃ v' w', (Builtin.append_ #[t, t] ty #[v, .slice (some a) m c]).run P w = .ok v' w' ∧ w'.ownsRow base e size v' (n + m) (xs ++ news) ∧ AppAt e size w v n news v' w' := by
  subst hsize
  subst hby
  have hsmall : n + m ≤ 9223372036854775807 := by simp only [maxLen] at h63; omega
  have hlen : (xs ++ news).length = (n + m) * i.size := by rw [List.length_append, hown.1, hl, Nat.add_mul]
  have grown : ∀ (old : Nat), old < n + m → 
      (w.drew.alloc (.cells (xs.toArray ++ news.toArray ++ Builtin.zeroCells z.cells (grownCap w (n + m) old e - (n + m))) e)).ownsRow base e i.size
        (.slice (some ⟨w.heap.size, 0, none⟩) (n + m) (grownCap w (n + m) old e)) (n + m) (xs ++ news) ∧
      Kept (fun _ => False) w (w.drew.alloc (.cells (xs.toArray ++ news.toArray ++ Builtin.zeroCells z.cells (grownCap w (n + m) old e - (n + m))) e)) := by
    intro old ho
    have hge := grownCap_ge w (n + m) old e
    have hcm : grownCap w (n + m) old e ≤ maxLen := grownCap_le_maxLen w (n + m) old e h63
    refine ⟨⟨hlen, .inr ⟨w.heap.size, _, _, rfl, hbase, heap_alloc_new w.drew _, hge, hcm, ?_, ?_⟩⟩, ⟨rfl, rfl, rfl, by simp, fun k hk _ => Go.heap_alloc_old w.drew _ hk⟩⟩
    · simp only [Array.size_append, List.size_toArray, size_zeroCells, hzs, hown.1, hl, ← Nat.add_mul]
      congr 1
      omega
    · simp only [Array.toList_append, List.append_assoc]
      rw [← List.append_assoc, ← hlen]
      exact List.take_left
  rcases hown.2 with ⟨rfl, rfl⟩ | ⟨g, cap, cur, rfl, hbg, hg, hnc, hcm, hcs, htake⟩
  · have hx : xs = [] := List.eq_nil_of_length_eq_zero (by simpa using hown.1)
    subst hx
    have hr := run_append_nil (P := P) w t ty e i z ht hi hz a m c news hl hnews (by omega) (by omega) (by have hb := hbytes; simp only [Nat.zero_add] at hb; omega)
    have hgr := grown 0 (by omega)
    simp only [Nat.zero_add, List.nil_append, Array.empty_append] at hgr ⊢
    exact ⟨_, _, hr, hgr.1, .inr ⟨⟨_, Nat.le_refl _, rfl⟩, hgr.2⟩⟩
  · by_cases hroom : n + m ≤ cap
    · have hfit : n * i.size + news.length ≤ cur.size := by rw [hl, hcs, ← Nat.add_mul]; exact Nat.mul_le_mul_right _ hroom
      have hr := run_append_room (P := P) w t ty e i ht hi g n cap cur hg a m c news hl hnews h1 hroom hfit
      refine ⟨_, _, hr, ⟨hlen, .inr ⟨g, cap, _, rfl, hbg, setRow_heap w g cur _ e _ hg, hroom, hcm, ?_, ?_⟩⟩, .inl ⟨g, cap, cur, rfl, rfl, hg, hfit, setRow_heap w g cur _ e _ hg, ⟨rfl, rfl, rfl, by simp, fun k _ hk => setRow_other w g k _ (fun e => hk e)⟩⟩⟩
      · simp only [List.size_toArray, List.length_append, List.length_take, List.length_drop, Array.length_toList]
        omega
      · rw [htake, ← hlen]
        exact List.take_left
    · have holds : ∀ j u, xs[j]? = some u → w.cell? ((⟨g, 0, none⟩ : Addr).add j) = some u := hown.cells (g := g) rfl
      have hr := run_append_grow (P := P) w t ty e i z ht hi hz ⟨g, 0, none⟩ n cap xs hown.1 holds a m c news hl hnews (by omega) (by omega) (growslice_fits (by omega) hbytes)
      have hgr := grown cap (by omega)
      exact ⟨_, _, hr, hgr.1, .inr ⟨⟨_, Nat.le_refl _, rfl⟩, hgr.2⟩⟩
end
section
variable {P : Program} {w : World} {ops : Array Oper} {rest : List Oper} {o : Oper} {a : Act} {Q : Exit → Act → World → Prop}
/-- 'append(s, x)' of one element that was just laid. -/
theorem wpList_append_paint (hgd : o.guard = none) (s x : Operand) (t : TypeId) (ho : o.op = .call { callee := .builtin .append, args := #[s, x], argTypes := #[t, t] })
    (B : Nat) (e : TypeId) (i : TypeInfo) (z : Value) (size bytes : Nat) (ht : P.underlying t = some (.slice e)) (hi : P.info? e = some i) (hz : i.zero = some z) (hsize : i.size = size) (hby : i.bytes = bytes) (hzs : z.cells.size = size) (hsz : 0 < size)
    (v : Value) (n : Nat) (xs news : List Value) (cs : Array Value) (m c : Nat) (hs : a.eval s = v) (hx : a.eval x = .slice (some ⟨w.heap.size, 0, none⟩) m c)
    (hcs : cs.toList = news) (hl : news.length = m * size) (hm : 0 < m) (h1 : ∀ u ∈ news, u.oneCell' = true)
    (hown : w.ownsRow B e size v n xs) (h63 : n + m ≤ maxLen) (hbytes : (n + m) * bytes ≤ 140737488355328) (hB : B ≤ w.heap.size)
    (h : ∀ v' w', w'.ownsRow B e size v' (n + m) (xs ++ news) → AppAt e size w v n news v' w' → wpList P ops Q rest (a.put o.dst v') w') : wpList P ops Q (o :: rest) a (w.alloc (.cells cs e)) := by
  have hnews : ∀ j u, news[j]? = some u → (w.alloc (.cells cs e)).cell? ((⟨w.heap.size, 0, none⟩ : Addr).add j) = some u := by
    intro j u hu
    have hadd : (⟨w.heap.size, 0, none⟩ : Addr).add j = ⟨w.heap.size, j, none⟩ := by unfold Addr.add; split <;> simp_all
    rw [hadd, blk_cell (heap_alloc_new w _), ← hu, ← hcs, Array.getElem?_toList]
  refine wpList_plain hgd fun K hK => ?_
  obtain ⟨v', w', hr, h2, h3⟩ := run_append_two (P := P) (w.alloc (.cells cs e)) B t o.type e i z size bytes ht hi hz hsize hby hzs hsz v n xs (hown.alloc _) ⟨w.heap.size, 0, none⟩ m c news hl hm hnews h1 h63 hbytes (by simp; omega)
  unfold Oper.wp execOp
  simp only [ho, resolve, invoke, builtin, Sem.run_bind, Sem.run_pure, Result.andThen_ok, List.map_toArray, List.map_cons, List.map_nil, hs, hx, hr]
  exact hK _ _ (h v' w' h2 (h3.behind fun k hk => (hown.lt k hk).2))
end

/-! ### rows full of one thing -/
def reps (k : Nat) (x : List Value) : List Value := (List.replicate k x).flatten
theorem reps_len (k : Nat) (x : List Value) : (reps k x).length = k * x.length := by
  unfold reps; rw [List.length_flatten, List.map_replicate, List.sum_replicate_nat]
theorem reps_succ (k : Nat) (x : List Value) : reps (k + 1) x = reps k x ++ x := by
  unfold reps; rw [List.replicate_succ', List.flatten_append]; simp
theorem reps_get (k : Nat) (x : List Value) (t j : Nat) (ht : t < k) (hj : j < x.length) : (reps k x)[t * x.length + j]? = x[j]? := by
  induction k with
  | zero => omega
  | succ k ih =>
    rw [reps_succ]
    rcases Nat.lt_or_ge t k with h | h
    · have hlt : t * x.length + j < k * x.length := by
        have : (t + 1) * x.length ≤ k * x.length := Nat.mul_le_mul_right _ h
        rw [Nat.add_mul] at this
        omega
      rw [List.getElem?_append_left (by rw [reps_len]; exact hlt), ih h]
    · obtain rfl : t = k := by omega
      rw [List.getElem?_append_right (by rw [reps_len]; omega), reps_len]
      congr 1
      omega
theorem reps_nil (x : List Value) : reps 0 x = [] := rfl
/-- What is written behind a full row is written over by the same. -/
theorem reps_splice (cur : List Value) (x : List Value) (n k : Nat) (hx : 0 < x.length) (hn : n * x.length + x.length ≤ cur.length) (h1 : cur.take (n * x.length) = reps n x) (h2 : cur.take (k * x.length) = reps k x) (hk : k * x.length ≤ cur.length) :
    (cur.take (n * x.length) ++ x ++ cur.drop (n * x.length + x.length)).take (k * x.length) = reps k x := by
  refine List.ext_getElem? fun p => ?_
  have hl : (cur.take (n * x.length)).length = n * x.length := by simp; omega
  rcases Nat.lt_or_ge p (k * x.length) with hp | hp
  · rw [List.getElem?_take, if_pos hp]
    have hr := congrArg (fun l => l[p]?) h2
    simp only [List.getElem?_take, if_pos hp] at hr
    rcases Nat.lt_or_ge p (n * x.length) with h | h
    · rw [List.append_assoc, List.getElem?_append_left (by rw [hl]; exact h), List.getElem?_take, if_pos h]
      exact hr
    · rcases Nat.lt_or_ge p (n * x.length + x.length) with h3 | h3
      · rw [List.append_assoc, List.getElem?_append_right (by rw [hl]; exact h), hl, List.getElem?_append_left (by omega)]
        have hnk : n < k := by
          rcases Nat.lt_or_ge n k with h4 | h4
          · exact h4
          · have := Nat.mul_le_mul_right x.length h4
            omega
        have := reps_get k x n (p - n * x.length) hnk (by omega)
        rw [← this]
        congr 1
        omega
      · rw [List.append_assoc, List.getElem?_append_right (by rw [hl]; exact h), hl, List.getElem?_append_right (by omega), List.getElem?_drop, ← hr]
        congr 1
        omega
  · rw [List.getElem?_eq_none (by simp; omega), List.getElem?_eq_none (by rw [reps_len]; exact hp)]
theorem AppAt.paint {e size B : Nat} {w w' : World} {v v' u : Value} {n k : Nat} {x : List Value} (h : AppAt e size w v n x v' w') (hx : x.length = size) (h0 : 0 < size)
    (hv : w.ownsRow B e size v n (reps n x)) (hu : w.ownsRow B e size u k (reps k x)) : w'.ownsRow B e size u k (reps k x) := by
  subst hx
  rcases h with ⟨g, cap, cur, rfl, h1, h2, h3, h4, hk⟩ | ⟨_, hk⟩
  · rcases Decidable.em (u.ownBlock = some g) with hg | hg
    · refine ⟨hu.1, ?_⟩
      rcases hu.2 with ⟨rfl, rfl⟩ | ⟨g', cap', cur', rfl, hb, hh, hc1, hc2, hc3, hc4⟩
      · exact .inl ⟨rfl, rfl⟩
      · have : g' = g := by simpa [Value.ownBlock] using hg
        subst this
        rw [h2] at hh
        injection hh with hh
        injection hh with hh _ _
        subst hh
        have hvt : cur.toList.take (n * x.length) = reps n x := by
          rcases hv.2 with ⟨e1, _⟩ | ⟨g2, cap2, cur2, e1, _, hh2, _, _, _, ht⟩
          · cases e1
          · injection e1 with e1 _ _
            injection e1 with e1
            injection e1 with e1
            subst e1
            rw [h2] at hh2
            injection hh2 with hh2
            injection hh2 with hh2 _ _
            subst hh2
            exact ht
        have hkc : k * x.length ≤ cur.size := by rw [hc3]; exact Nat.mul_le_mul_right _ hc1
        refine .inr ⟨g', cap', _, rfl, hb, h4, hc1, hc2, ?_, ?_⟩
        · simp only [List.size_toArray, List.length_append, List.length_take, List.length_drop, Array.length_toList]
          omega
        · exact reps_splice cur.toList x n k h0 (by simpa using h3) hvt hc4 (by simpa using hkc)
    · exact own_kept hu hk fun i hi e => hg (by rw [hi, e])
  · exact own_kept hu hk fun _ _ => id

/-- A list g that grew out of v, by copies of x. -/
structure Fam (B E size : Nat) (x : List Value) (v : Value) (n : Nat) (w0 : World) (g : Value) (m : Nat) (wr : World) : Prop where
  own : wr.ownsRow B E size g m (reps m x)
  moved : Moved v w0 g
  kept : Kept (fun b => v.ownBlock = some b) w0 wr
  base : wr.ownsRow B E size v n (reps n x)
theorem Fam.init {B E size : Nat} {x : List Value} {v : Value} {n : Nat} {w0 : World} (h : w0.ownsRow B E size v n (reps n x)) : Fam B E size x v n w0 v n w0 := ⟨h, .refl _ _, .refl _ _, h⟩
theorem Fam.step {B E size : Nat} {x : List Value} {v g g' : Value} {n m : Nat} {w0 wr w' : World} (h : Fam B E size x v n w0 g m wr) (hx : x.length = size) (h0 : 0 < size)
    (hown : w'.ownsRow B E size g' (m + 1) (reps m x ++ x)) (hat : AppAt E size wr g m x g' w') : Fam B E size x v n w0 g' (m + 1) w' :=
  ⟨by rw [reps_succ]; exact hown, h.moved.trans hat.moved h.kept.size, h.kept.trans hat.kept (fun _ _ e => e) (fun i hi e => by
    rcases h.moved with q | q
    · rw [← q]; exact e
    · exact absurd (q i e) (by omega)), hat.paint hx h0 h.own h.base⟩
theorem own_apart {w : World} {B B' E E' size size' n n' : Nat} {v u : Value} {xs ys : List Value} (h : w.ownsRow B E size v n xs) (h' : w.ownsRow B' E' size' u n' ys) (hE : E ≠ E') {k : Nat} (hv : v.ownBlock = some k) : u.ownBlock ≠ some k := by
  rcases h.2 with ⟨rfl, _⟩ | ⟨g, cap, cur, rfl, _, hh, _⟩
  · cases hv
  · have : g = k := by simpa [Value.ownBlock] using hv
    subst this
    exact own_ne h' hh (fun e => hE e)
end Go.Proofs.Ytoolimfdncfgnaa
