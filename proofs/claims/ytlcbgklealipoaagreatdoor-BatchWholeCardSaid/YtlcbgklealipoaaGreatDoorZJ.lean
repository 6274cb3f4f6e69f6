import Derived.Test.YtlcbgklealipoaaGreatDoorZI
import Derived.Test.YtlcbgklealipoaaGreatDoorZG
section
/- The reader's tables grow: lists in the reader's cells, maps as sets (plain). -/
namespace Go.Proofs.YtlcbgklealipoaaGreatDoor
open Go Go.RowKit
set_option linter.unusedVariables false
set_option linter.unusedSimpArgs false

/-- The map holds the things of the list. -/
structure SeenIs {α : Type} [DecidableEq α] (ok : α → Prop) (key : α → Lit) (D : DataW Unit) (l : List α) : Prop where
  isMap : Go.Maps.IsMap D
  has : ∀ x, ok x → Go.Maps.has D (key x) = hasIn l x
section
variable {α : Type} [DecidableEq α] {ok : α → Prop} {key : α → Lit} {D : DataW Unit} {l : List α}
theorem SeenIs.new : SeenIs ok key (.map []) ([] : List α) := ⟨⟨[], rfl⟩, fun x _ => rfl⟩
theorem SeenIs.add (hinj : ∀ x y, ok x → ok y → key x = key y → x = y) (hk : ∀ x, WideAt.IsKeyLit (key x)) (h : SeenIs ok key D l) {x : α} (hox : ok x) (v : DataW Unit) : SeenIs ok key (D.put (key x) v) (l ++ [x]) := by
  refine ⟨h.isMap.put _ _, fun y hoy => ?_⟩
  rw [hasIn_snoc]
  by_cases e : x = y
  · subst e
    rw [Go.Maps.has_put_same h.isMap (hk x)]
    simp
  · rw [Go.Maps.has_put_other (fun e2 => e (hinj _ _ hoy hox e2).symm), h.has y hoy]
    simp [e]
end
/-- The reader's cells, its four lists each by itself. -/
structure QRow (rb r : Nat) (w0 : World) (L : List Int) (n1 n2 n3 n4 : Nat) (x1 x2 x3 x4 : List Value) (tv : TV) (s : BSt) (w : World) : Prop where
  rd : ∃ v, RdAt w0.heap.size w r v L s.n
  le : s.n ≤ L.length
  blk : w.heap[rb]? = some (.cells (rC r tv.tl tv.ta s.tu tv.rl tv.ra s.ru s.st) 110 (0, 0))
  r1 : w.ownsRow w0.heap.size 9 1 tv.tl n1 x1
  r2 : w.ownsRow w0.heap.size 3 1 tv.ta n2 x2
  r3 : w.ownsRow w0.heap.size 68 2 tv.rl n3 x3
  r4 : w.ownsRow w0.heap.size 3 1 tv.ra n4 x4
  ne : ∀ k, tv.ta.ownBlock = some k → tv.ra.ownBlock ≠ some k
  base : w0.heap.size ≤ rb
  kept : Kept (fun _ => False) w0 w
  st : -9223372036854775808 ≤ s.st ∧ s.st ≤ 9223372036854775807
section
variable {rb r : Nat} {w0 w w1 : World} {L : List Int} {T : TT} {R : RR} {tv : TV} {s : BSt} {n1 n2 n3 n4 : Nat} {x1 x2 x3 x4 : List Value}
theorem QAt.rows (h : QAt rb r w0 L T R tv s w) : QRow rb r w0 L T.length T.length R.length R.length (tCells T) (atCells T) (rCells R) (atCells R) tv s w := by
  obtain ⟨b1, b2, b3, b4, b5, b6⟩ := h.blk
  exact ⟨h.rd, h.le, b1, b2, b3, b4, b5, b6, h.base, h.kept, h.st⟩
theorem QRow.at_ (h : QRow rb r w0 L T.length T.length R.length R.length (tCells T) (atCells T) (rCells R) (atCells R) tv s w) (htu : s.tu ≤ T.length) (hru : s.ru ≤ R.length) : QAt rb r w0 L T R tv s w :=
  ⟨h.rd, h.le, ⟨h.blk, h.r1, h.r2, h.r3, h.r4, h.ne⟩, h.base, h.kept, htu, hru, h.st⟩
theorem QRow.cell (h : QRow rb r w0 L n1 n2 n3 n4 x1 x2 x3 x4 tv s w) (i : Nat) : w.cell? ⟨rb, i, none⟩ = (rC r tv.tl tv.ta s.tu tv.rl tv.ra s.ru s.st)[i]? := blk_cell h.blk i
theorem QRow.frozen (h : QRow rb r w0 L n1 n2 n3 n4 x1 x2 x3 x4 tv s w) (i : Nat) : w.frozen? ⟨rb, i, none⟩ = false := blk_frozen h.blk i
theorem QRow.later {w' : World} (h : QRow rb r w0 L n1 n2 n3 n4 x1 x2 x3 x4 tv s w) (hk : Kept (fun _ => False) w w') : QRow rb r w0 L n1 n2 n3 n4 x1 x2 x3 x4 tv s w' := by
  obtain ⟨v, hv⟩ := h.rd
  exact ⟨⟨v, hv.kept hk (fun h => h) (fun _ _ h => h)⟩, h.le, blk_kept hk h.blk (fun h => h), own_kept h.r1 hk (fun _ _ h => h), own_kept h.r2 hk (fun _ _ h => h), own_kept h.r3 hk (fun _ _ h => h), own_kept h.r4 hk (fun _ _ h => h), h.ne, h.base, h.kept.trans hk (fun _ _ e => e) (fun _ _ e => e), h.st⟩
/-- A row that is none of these stays apart. -/
theorem row_apart {w : World} {B e e' sz sz' n n' : Nat} {v v' : Value} {xs xs' : List Value} (h : w.ownsRow B e sz v n xs) (h' : w.ownsRow B e' sz' v' n' xs') (hne : e ≠ e') : ∀ k, v.ownBlock = some k → v'.ownBlock ≠ some k := by
  intro k hk hk'
  rcases h'.2 with ⟨rfl, _⟩ | ⟨g, cap, cur, rfl, _, hh, _⟩
  · simp [Value.ownBlock] at hk'
  · have : g = k := by simpa [Value.ownBlock] using hk'
    subst this
    exact own_ne h hh (fun e2 => hne e2.symm) hk
/-- What all pushes share: a list has grown, its cell is not yet set. -/
theorem QRow.grow (h : QRow rb r w0 L n1 n2 n3 n4 x1 x2 x3 x4 tv s w) {u : Value} {e sz n : Nat} {xs : List Value} (hu : w.ownsRow w0.heap.size e sz u n xs) (h110 : e ≠ 110) (h171 : e ≠ 171) (h5 : e ≠ 5) {o : Obj} (hg : (w.alloc o).grownBy w1 u.ownBlock) :
    Kept (fun k => u.ownBlock = some k) w w1 ∧ w1.heap[rb]? = some (.cells (rC r tv.tl tv.ta s.tu tv.rl tv.ra s.ru s.st) 110 (0, 0)) ∧ (∃ v, RdAt w0.heap.size w1 r v L s.n) ∧ Kept (fun _ => False) w0 w1 := by
  have hk : Kept (fun k => u.ownBlock = some k) w w1 := (Kept.alloc _ w _).trans (Kept.of_grown hg fun k e => e) (fun _ _ e => e) fun _ _ e => e
  obtain ⟨v, hv⟩ := h.rd
  refine ⟨hk, blk_kept hk h.blk (own_ne hu h.blk (fun e => h110 e.symm)), ⟨v, hv.kept hk (own_ne hu hv.blk (fun e => h171 e.symm)) ?_⟩, h.kept.trans hk (fun _ _ e => e) (fun i hi e => by have := (hu.lt i e).1; omega)⟩
  intro k hk1 hk2
  rcases hv.lies with ⟨_, he⟩ | ⟨g, c, cur, he, _, hh, _⟩
  · rw [he] at hk1; simp [Value.ownBlock] at hk1
  · rw [he] at hk1
    have : g = k := by simpa [Value.ownBlock] using hk1
    subst this
    exact own_ne hu hh (fun e => h5 e.symm) hk2
theorem QRow.stored (hb : w1.heap[rb]? = some (.cells (rC r tv.tl tv.ta s.tu tv.rl tv.ra s.ru s.st) 110 (0, 0))) (hr : ∃ v, RdAt w0.heap.size w1 r v L s.n) (hk0 : Kept (fun _ => False) w0 w1) (hbase : w0.heap.size ≤ rb) (i : Nat) (u : Value) :
    (∃ v, RdAt w0.heap.size (w1.setCell ⟨rb, i, none⟩ u) r v L s.n) ∧ Kept (fun _ => False) w0 (w1.setCell ⟨rb, i, none⟩ u) ∧ Kept (fun k => k = rb) w1 (w1.setCell ⟨rb, i, none⟩ u) ∧
    ∀ {e sz n : Nat} {x : Value} {xs : List Value}, w1.ownsRow w0.heap.size e sz x n xs → e ≠ 110 → (w1.setCell ⟨rb, i, none⟩ u).ownsRow w0.heap.size e sz x n xs := by
  have hk : Kept (fun k => k = rb) w1 (w1.setCell ⟨rb, i, none⟩ u) := .setCell _ _ _ rfl
  obtain ⟨v, hv⟩ := hr
  refine ⟨⟨v, hv.kept hk ?_ ?_⟩, hk0.trans hk (fun _ _ e => e) (fun i hi e => by omega), hk, fun hu he => own_kept hu hk ?_⟩
  · rintro rfl; have := typ_of hb hv.blk; cases this
  · intro k hk' e
    subst e
    rcases hv.lies with ⟨_, he⟩ | ⟨g, c, cur, he, _, hh, _⟩
    · rw [he] at hk'; simp [Value.ownBlock] at hk'
    · rw [he] at hk'
      have : g = k := by simpa [Value.ownBlock] using hk'
      subst this
      have := typ_of hb hh
      cases this
  · intro k hk1 e
    subst e
    exact own_ne hu hb (fun h => he h.symm) hk1
/-- A list's new block is no other list's. -/
theorem row_new {B : Nat} {e sz n : Nat} {x u u' : Value} {xs : List Value} (hx : w.ownsRow B e sz x n xs) (hd : ∀ k, u.ownBlock = some k → x.ownBlock ≠ some k) {o : Obj} (hat : u'.ownBlock = u.ownBlock ∨ u'.ownBlock = some (w.alloc o).heap.size) : ∀ k, u'.ownBlock = some k → x.ownBlock ≠ some k := by
  intro k hk hxk
  rcases hat with h | h
  · exact hd k (h ▸ hk) hxk
  · rw [hk] at h
    injection h with h
    have := (hx.lt k hxk).2
    have hs : (w.alloc o).heap.size = w.heap.size + 1 := by simp
    omega
theorem QRow.push1 (h : QRow rb r w0 L n1 n2 n3 n4 x1 x2 x3 x4 tv s w) {o : Obj} {u : Value} {m : Nat} {xs : List Value} (hu : w1.ownsRow w0.heap.size 9 1 u m xs) (hg : (w.alloc o).grownBy w1 tv.tl.ownBlock) :
    w1.cell? ⟨rb, 1, none⟩ = some tv.tl ∧ w1.frozen? ⟨rb, 1, none⟩ = false ∧ QRow rb r w0 L m n2 n3 n4 xs x2 x3 x4 { tv with tl := u } s (w1.setCell ⟨rb, 1, none⟩ u) ∧ Kept (fun k => k = rb ∨ tv.tl.ownBlock = some k) w (w1.setCell ⟨rb, 1, none⟩ u) := by
  obtain ⟨k1, b1, hr, hk0⟩ := h.grow h.r1 (by decide) (by decide) (by decide) hg
  obtain ⟨g1, g2, g3, g4⟩ := QRow.stored b1 hr hk0 h.base 1 u
  have a2 := own_kept h.r2 k1 fun k e e2 => row_apart h.r1 h.r2 (by decide) k e2 e
  have a3 := own_kept h.r3 k1 fun k e e2 => row_apart h.r1 h.r3 (by decide) k e2 e
  have a4 := own_kept h.r4 k1 fun k e e2 => row_apart h.r1 h.r4 (by decide) k e2 e
  exact ⟨(blk_cell b1 1).trans rfl, blk_frozen b1 1, ⟨g1, h.le, (blk_set b1 1 u).trans rfl, g4 hu (by decide), g4 a2 (by decide), g4 a3 (by decide), g4 a4 (by decide), h.ne, h.base, g2, h.st⟩,
    k1.trans g3 (fun _ _ e => .inr e) fun _ _ e => .inl e⟩
theorem QRow.push2 (h : QRow rb r w0 L n1 n2 n3 n4 x1 x2 x3 x4 tv s w) {o : Obj} {u : Value} {m : Nat} {xs : List Value} (hu : w1.ownsRow w0.heap.size 3 1 u m xs) (hg : (w.alloc o).grownBy w1 tv.ta.ownBlock) (hat : u.ownBlock = tv.ta.ownBlock ∨ u.ownBlock = some (w.alloc o).heap.size) :
    w1.cell? ⟨rb, 2, none⟩ = some tv.ta ∧ w1.frozen? ⟨rb, 2, none⟩ = false ∧ QRow rb r w0 L n1 m n3 n4 x1 xs x3 x4 { tv with ta := u } s (w1.setCell ⟨rb, 2, none⟩ u) ∧ Kept (fun k => k = rb ∨ tv.ta.ownBlock = some k) w (w1.setCell ⟨rb, 2, none⟩ u) := by
  obtain ⟨k1, b1, hr, hk0⟩ := h.grow h.r2 (by decide) (by decide) (by decide) hg
  obtain ⟨g1, g2, g3, g4⟩ := QRow.stored b1 hr hk0 h.base 2 u
  have a1 := own_kept h.r1 k1 fun k e e2 => row_apart h.r2 h.r1 (by decide) k e2 e
  have a3 := own_kept h.r3 k1 fun k e e2 => row_apart h.r2 h.r3 (by decide) k e2 e
  have a4 := own_kept h.r4 k1 fun k e e2 => h.ne k e2 e
  exact ⟨(blk_cell b1 2).trans rfl, blk_frozen b1 2, ⟨g1, h.le, (blk_set b1 2 u).trans rfl, g4 a1 (by decide), g4 hu (by decide), g4 a3 (by decide), g4 a4 (by decide), row_new h.r4 h.ne hat, h.base, g2, h.st⟩,
    k1.trans g3 (fun _ _ e => .inr e) fun _ _ e => .inl e⟩
theorem QRow.push3 (h : QRow rb r w0 L n1 n2 n3 n4 x1 x2 x3 x4 tv s w) {o : Obj} {u : Value} {m : Nat} {xs : List Value} (hu : w1.ownsRow w0.heap.size 68 2 u m xs) (hg : (w.alloc o).grownBy w1 tv.rl.ownBlock) :
    w1.cell? ⟨rb, 4, none⟩ = some tv.rl ∧ w1.frozen? ⟨rb, 4, none⟩ = false ∧ QRow rb r w0 L n1 n2 m n4 x1 x2 xs x4 { tv with rl := u } s (w1.setCell ⟨rb, 4, none⟩ u) ∧ Kept (fun k => k = rb ∨ tv.rl.ownBlock = some k) w (w1.setCell ⟨rb, 4, none⟩ u) := by
  obtain ⟨k1, b1, hr, hk0⟩ := h.grow h.r3 (by decide) (by decide) (by decide) hg
  obtain ⟨g1, g2, g3, g4⟩ := QRow.stored b1 hr hk0 h.base 4 u
  have a1 := own_kept h.r1 k1 fun k e e2 => row_apart h.r3 h.r1 (by decide) k e2 e
  have a2 := own_kept h.r2 k1 fun k e e2 => row_apart h.r3 h.r2 (by decide) k e2 e
  have a4 := own_kept h.r4 k1 fun k e e2 => row_apart h.r3 h.r4 (by decide) k e2 e
  exact ⟨(blk_cell b1 4).trans rfl, blk_frozen b1 4, ⟨g1, h.le, (blk_set b1 4 u).trans rfl, g4 a1 (by decide), g4 a2 (by decide), g4 hu (by decide), g4 a4 (by decide), h.ne, h.base, g2, h.st⟩,
    k1.trans g3 (fun _ _ e => .inr e) fun _ _ e => .inl e⟩
theorem QRow.push4 (h : QRow rb r w0 L n1 n2 n3 n4 x1 x2 x3 x4 tv s w) {o : Obj} {u : Value} {m : Nat} {xs : List Value} (hu : w1.ownsRow w0.heap.size 3 1 u m xs) (hg : (w.alloc o).grownBy w1 tv.ra.ownBlock) (hat : u.ownBlock = tv.ra.ownBlock ∨ u.ownBlock = some (w.alloc o).heap.size) :
    w1.cell? ⟨rb, 5, none⟩ = some tv.ra ∧ w1.frozen? ⟨rb, 5, none⟩ = false ∧ QRow rb r w0 L n1 n2 n3 m x1 x2 x3 xs { tv with ra := u } s (w1.setCell ⟨rb, 5, none⟩ u) ∧ Kept (fun k => k = rb ∨ tv.ra.ownBlock = some k) w (w1.setCell ⟨rb, 5, none⟩ u) := by
  obtain ⟨k1, b1, hr, hk0⟩ := h.grow h.r4 (by decide) (by decide) (by decide) hg
  obtain ⟨g1, g2, g3, g4⟩ := QRow.stored b1 hr hk0 h.base 5 u
  have a1 := own_kept h.r1 k1 fun k e e2 => row_apart h.r4 h.r1 (by decide) k e2 e
  have a2 := own_kept h.r2 k1 fun k e e2 => h.ne k e e2
  have a3 := own_kept h.r3 k1 fun k e e2 => row_apart h.r4 h.r3 (by decide) k e2 e
  have hn := row_new h.r2 (fun k e e2 => h.ne k e2 e) hat
  exact ⟨(blk_cell b1 5).trans rfl, blk_frozen b1 5, ⟨g1, h.le, (blk_set b1 5 u).trans rfl, g4 a1 (by decide), g4 a2 (by decide), g4 a3 (by decide), g4 hu (by decide), (fun k e e2 => hn k e2 e), h.base, g2, h.st⟩,
    k1.trans g3 (fun _ _ e => .inr e) fun _ _ e => .inl e⟩
end
end Go.Proofs.YtlcbgklealipoaaGreatDoor
end

section
/- The tables: their plain law in steps; bytes with what stays; the reader beside a map. -/
namespace Go.Proofs.YtlcbgklealipoaaGreatDoor
open Go Go.RowKit
set_option linter.unusedVariables false
set_option linter.unusedSimpArgs false

def tabsR : Rdr (TT × RR) := uintR.bind fun nt => (Rdr.loop textsR nt []).bind fun T => uintR.bind fun nr => (Rdr.loop tracesR nr []).map fun R => (T, R)
def restR (T : List ByteArray) (R : List (Nat × Nat)) : Rdr (List Spn) := (uintR.chk fun n _ => if 500 < n then some 53 else none).bind fun n => Rdr.loop (spansR T R) n []
section
variable {L : List Int} {s s' : BSt}
theorem batch_tabs : batchR L s = match tabsR L s with
  | .ok p s' => (match restR (p.1.map Prod.fst) (p.2.map Prod.fst) L s' with | .ok l s2 => .ok (p, l) s2 | .err a no => .err a no)
  | .err a no => .err a no := by
  unfold batchR tabsR restR
  cases h1 : uintR L s with
  | err a no => rw [bind_err h1, bind_err h1]
  | ok nt s1 =>
    rw [bind_ok h1, bind_ok h1]
    cases h2 : Rdr.loop textsR nt [] L s1 with
    | err a no => rw [bind_err h2, bind_err h2]
    | ok T s2 =>
      rw [bind_ok h2, bind_ok h2]
      cases h3 : uintR L s2 with
      | err a no => rw [bind_err h3, bind_err h3]
      | ok nr s3 =>
        rw [bind_ok h3, bind_ok h3]
        cases h4 : Rdr.loop tracesR nr [] L s3 with
        | err a no =>
          rw [bind_err h4]
          unfold Rdr.map Rdr.mapS
          rw [h4]
        | ok R s4 =>
          rw [bind_ok h4]
          unfold Rdr.map Rdr.mapS
          rw [h4]
          simp only
          unfold Rdr.bind
          cases h5 : (uintR.chk fun n _ => if 500 < n then some 53 else none) L s4 with
          | err a no => simp only [h5]
          | ok n s5 =>
            simp only [h5]
            cases h6 : Rdr.loop (spansR (T.map Prod.fst) (R.map Prod.fst)) n [] L s5 <;> simp only [h6]
theorem texts_err {l : TT} {a no : Int} (h : textRd 200 L s = .err a no) : textsR l L s = .err a no := by unfold textsR Rdr.mapS Rdr.chk; rw [h]
theorem texts_dup {l : TT} {x : ByteArray} (h : textRd 200 L s = .ok x s') (hx : x ∈ l.map Prod.fst) : textsR l L s = .err s.n 54 := by
  unfold textsR Rdr.mapS Rdr.chk; rw [h]; simp only [hasIn_iff.2 hx, if_true]
theorem texts_ok {l : TT} {x : ByteArray} (h : textRd 200 L s = .ok x s') (hx : x ∉ l.map Prod.fst) : textsR l L s = .ok (l ++ [(x, s.n)]) s' := by
  unfold textsR Rdr.mapS Rdr.chk; rw [h]; simp only [hasIn_not.2 hx, Bool.false_eq_true, if_false]
theorem traces_err {l : RR} {a no : Int} (h : bytesR 16 L s = .err a no) : tracesR l L s = .err a no := by unfold tracesR Rdr.mapS Rdr.chk traceR Rdr.map Rdr.mapS; rw [h]
theorem traces_dup {l : RR} {p : List Int} (h : bytesR 16 L s = .ok p s') (hx : (of8 (p.take 8), of8 (p.drop 8)) ∈ l.map Prod.fst) : tracesR l L s = .err s.n 54 := by
  unfold tracesR Rdr.mapS Rdr.chk traceR Rdr.map Rdr.mapS; rw [h]; simp only [hasIn_iff.2 hx, if_true]
theorem traces_ok {l : RR} {p : List Int} (h : bytesR 16 L s = .ok p s') (hx : (of8 (p.take 8), of8 (p.drop 8)) ∉ l.map Prod.fst) : tracesR l L s = .ok (l ++ [((of8 (p.take 8), of8 (p.drop 8)), s.n)]) s' := by
  unfold tracesR Rdr.mapS Rdr.chk traceR Rdr.map Rdr.mapS; rw [h]; simp only [hasIn_not.2 hx, Bool.false_eq_true, if_false]
theorem text_got {x : ByteArray} (hb : Bytes L) (hn : s.n ≤ L.length) (h : textRd 200 L s = .ok x s') : x.size ≤ 200 ∧ s.n < s'.n ∧ s'.n ≤ L.length ∧ s' = { s with n := s'.n } := by
  obtain ⟨h1, h2, h3, _, h4, h5⟩ := (text_exact 200 (by decide)).form hb hn h
  have hp := txt_pos x
  have e : s'.n = s.n + (seg L s.n s'.n).length := by conv => lhs; rw [h5]
  rw [← h4] at hp
  refine ⟨h3, by omega, h2, ?_⟩
  conv => lhs; rw [h5]
  rw [← e]
theorem raw_got {p : List Int} {n : Nat} (h : bytesR n L s = .ok p s') : s' = { s with n := s'.n } ∧ s'.n = s.n + n := by
  unfold bytesR rawR at h
  split at h
  · rename_i q m hq
    injection h with h1 h2
    subst h2
    refine ⟨rfl, ?_⟩
    split at hq
    · cases hq
    · split at hq
      · cases hq
      · injection hq with _ hq
        simp only
        omega
  · cases h
end
section
variable {rb r : Nat} {w0 w : World} {L : List Int} {T : TT} {R : RR} {tv : TV} {s : BSt}
/-- As QPost, with what stays: all but the reader's place. -/
def QPostK {α : Type} (rb r : Nat) (w0 : World) (L : List Int) (T : TT) (R : RR) (tv : TV) (res : BRes α) (V : α → Value → World → Prop) (w : World) (e : Ending) (w' : World) : Prop :=
  match res with
  | .ok a s' => ∃ v, e = .returned v ∧ V a v w' ∧ QAt rb r w0 L T R tv s' w' ∧ Kept (fun k => k = r) w w'
  | .err a no => Stop a no w0 e w'
set_option maxHeartbeats 1000000 in
theorem qrawK (h : QAt rb r w0 L T R tv s w) (hl : L.length ≤ 65536) (n : Nat) (hn : n ≤ 100) :
    Calls Tryz.prog 42 #[.pointer (some ⟨rb, 0, none⟩), .int .i64 n] w (QPostK rb r w0 L T R tv (bytesR n L s) (fun q v w' => w'.ownsRow w0.heap.size 5 1 v q.length (nums .u8 q)) w) := by
  obtain ⟨v, hv⟩ := h.rd
  have c0 := h.c0
  have H := Lib.hid h
  have HV := Lib.hid hv
  have hle := h.le
  have hl2 : L.length ≤ 140737488355328 := by omega
  have n0 : (-9223372036854775808 : Int) ≤ n := by omega
  have n1 : (n : Int) ≤ 9223372036854775807 := by omega
  cases hq : rawR L s.n n with
  | ok q m =>
    have hres : bytesR n L s = .ok q { s with n := m } := by unfold bytesR; rw [hq]
    have HRES := Lib.hid hres
    have HM := Lib.hid (raw_rest hle hq).2.1
    have HQ := Lib.hid hq
    clear h hv hq hres
    go_enter Tryz.func42, Tryz.ntmps42
    go_wp2_with (first
      | (go_at_call 84; (with_reducible refine (getRaw_any w0.heap.size r s.n v L n w HV.out hle hl2 n0 n1).mono ?_); rintro e w1 hp; unfold RawPost at hp; rw [HQ.out] at hp; obtain ⟨v2, rfl, ho, h2, hk⟩ := hp; have H2 := Lib.hid (And.intro ho (And.intro h2 hk)); clear ho h2 hk)
      | (go_at_call 48; (with_reducible refine (stop_nil w1).mono ?_); rintro e w' ⟨rfl, rfl⟩))
    go_ret
    unfold QPostK
    rw [HRES.out]
    obtain ⟨m1, m2⟩ := H.out.moved HV.out H2.out.2.1 H2.out.2.2 HM.out
    exact ⟨_, rfl, own_low H2.out.1 H.out.kept.size, m1, H2.out.2.2⟩
  | err a no =>
    have hres : bytesR n L s = .err a no := by unfold bytesR; rw [hq]
    have HRES := Lib.hid hres
    have HQ := Lib.hid hq
    clear h hv hq hres
    go_enter Tryz.func42, Tryz.ntmps42
    go_wp2_with (first
      | (go_at_call 84; (with_reducible refine (getRaw_any w0.heap.size r s.n v L n w HV.out hle hl2 n0 n1).mono ?_); rintro e w1 hp; unfold RawPost at hp; rw [HQ.out] at hp; obtain ⟨err, rfl, g, rfl, _, hg, hk⟩ := hp; have HW1 := Lib.hid (And.intro hg hk); clear hg hk)
      | (go_at_call 48; (with_reducible refine (stop_err (a := a) (no := no) (w0 := w0) (H.out.kept.trans HW1.out.2 (fun _ _ e => e) (fun _ _ e => e)) HW1.out.1).mono ?_); rintro e w' ⟨q1, f1, rfl, hs⟩; have HS := Lib.hid hs; clear hs))
    refine ⟨rfl, ?_⟩
    unfold QPostK
    rw [HRES.out]
    exact ⟨q1, f1, rfl, HS.out⟩
set_option maxHeartbeats 1000000 in
theorem quintK (h : QAt rb r w0 L T R tv s w) (hl : L.length ≤ 65536) (hb : Bytes L) :
    Calls Tryz.prog 45 #[.pointer (some ⟨rb, 0, none⟩)] w (QPostK rb r w0 L T R tv (uintR L s) (fun x v _ => v = .int .u64 x) w) := by
  obtain ⟨v, hv⟩ := h.rd
  have c0 := h.c0
  have H := Lib.hid h
  have HV := Lib.hid hv
  have hle := h.le
  have hl2 : L.length ≤ 140737488355328 := by omega
  obtain ⟨q, hq⟩ : ∃ q, q = numR (L.drop s.n) 0 0 := ⟨_, rfl⟩
  have HQ := Lib.hid hq
  cases q with
  | ok x k =>
    have hsz := numR_size _ _ _ _ _ hq.symm
    have hres : uintR L s = .ok x { s with n := s.n + k } := by unfold uintR; rw [← hq]
    have HRES := Lib.hid hres
    have hn : s.n + k ≤ L.length := by rw [List.length_drop] at hsz; omega
    clear h hv hq hres hsz
    go_enter Tryz.func45, Tryz.ntmps45
    go_wp2_with (first
      | (go_at_call 86; (with_reducible refine (get_any w0.heap.size r s.n v L w HV.out hle hl2 hb).mono ?_); rintro e w1 hp; unfold GetPost at hp; rw [← HQ.out] at hp; obtain ⟨rfl, h2, hk⟩ := hp; have H2 := Lib.hid (And.intro h2 hk); clear h2 hk)
      | (go_at_call 48; (with_reducible refine (stop_nil w1).mono ?_); rintro e w' ⟨rfl, rfl⟩))
    go_ret
    unfold QPostK
    rw [HRES.out]
    obtain ⟨m1, m2⟩ := H.out.moved HV.out H2.out.1 H2.out.2 hn
    exact ⟨_, rfl, rfl, m1, H2.out.2⟩
  | form =>
    have hres : uintR L s = .err s.n 12 := by unfold uintR; rw [← hq]
    have HRES := Lib.hid hres
    clear h hv hq hres
    go_enter Tryz.func45, Tryz.ntmps45
    go_wp2_with (first
      | (go_at_call 86; (with_reducible refine (get_any w0.heap.size r s.n v L w HV.out hle hl2 hb).mono ?_); rintro e w1 hp; unfold GetPost at hp; rw [← HQ.out] at hp; obtain ⟨rfl, hw1⟩ := hp; have HW1 := Lib.hid hw1; clear hw1)
      | (go_at_call 48; (with_reducible refine (stop_err (a := s.n) (no := 12) (w0 := w0) (by rw [HW1.out]; exact H.out.kept.trans (.alloc _ _ _) (fun _ _ e => e) (fun _ _ e => e)) (by rw [HW1.out]; exact heap_alloc_new w _)).mono ?_); rintro e w' ⟨q1, f1, rfl, hs⟩; have HS := Lib.hid hs; clear hs))
    refine ⟨rfl, ?_⟩
    unfold QPostK
    rw [HRES.out]
    exact ⟨q1, f1, rfl, HS.out⟩
  | fin =>
    have hres : uintR L s = .err L.length 11 := by unfold uintR; rw [← hq]
    have HRES := Lib.hid hres
    clear h hv hq hres
    go_enter Tryz.func45, Tryz.ntmps45
    go_wp2_with (first
      | (go_at_call 86; (with_reducible refine (get_any w0.heap.size r s.n v L w HV.out hle hl2 hb).mono ?_); rintro e w1 hp; unfold GetPost at hp; rw [← HQ.out] at hp; obtain ⟨rfl, hw1⟩ := hp; have HW1 := Lib.hid hw1; clear hw1)
      | (go_at_call 48; (with_reducible refine (stop_err (a := L.length) (no := 11) (w0 := w0) (by rw [HW1.out]; exact H.out.kept.trans (.alloc _ _ _) (fun _ _ e => e) (fun _ _ e => e)) (by rw [HW1.out]; exact heap_alloc_new w _)).mono ?_); rintro e w' ⟨q1, f1, rfl, hs⟩; have HS := Lib.hid hs; clear hs))
    refine ⟨rfl, ?_⟩
    unfold QPostK
    rw [HRES.out]
    exact ⟨q1, f1, rfl, HS.out⟩
/-- Text of the wire's reader, in the reader's words. -/
def TxtPost (rb r : Nat) (w0 : World) (L : List Int) (T : TT) (R : RR) (tv : TV) (s : BSt) (w : World) (e : Ending) (w' : World) : Prop :=
  match textRd 200 L s with
  | .ok x s' => e = .returned (.tuple #[.string x, .nilIface]) ∧ QAt rb r w0 L T R tv s' w' ∧ Kept (fun k => k = r) w w'
  | .err a no => ∃ f, e = .returned (.tuple #[.string ⟨#[]⟩, .iface 35 (.pointer (some ⟨f, 0, none⟩))]) ∧ w'.heap[f]? = some (.cells #[.int .i64 a, .int .i64 no] 39 (0, 0)) ∧ Kept (fun _ => False) w0 w'
theorem qtxt (h : QAt rb r w0 L T R tv s w) (hl : L.length ≤ 65536) (hb : Bytes L) (hU : Lib.Utf8Tabs 1 2 w0) :
    Calls Tryz.prog 85 #[.pointer (some ⟨r, 0, none⟩), .int .i64 200] w (TxtPost rb r w0 L T R tv s w) := by
  obtain ⟨v, hv⟩ := h.rd
  refine (getText_any w0.heap.size r s.n v L 200 w hv h.le (by omega) hb (by decide) (by decide) (Utf8Tabs.kept hU h.kept (fun h => h) (fun h => h))).mono ?_
  intro e w' hp
  unfold TextPost at hp
  unfold TxtPost textRd
  have e2 : ((200 : Nat) : Int) = 200 := rfl
  rw [e2]
  cases hq : textR L s.n 200 with
  | ok q m =>
    rw [hq] at hp
    obtain ⟨rfl, h2, hk⟩ := hp
    have hle : m ≤ L.length := by
      have h1 : textRd 200 L s = .ok (strOfNums q) { s with n := m } := by unfold textRd; rw [e2, hq]
      exact (text_got hb h.le h1).2.2.1
    exact ⟨rfl, (h.moved hv h2 hk hle).1, hk⟩
  | err a no =>
    rw [hq] at hp
    obtain ⟨err, rfl, g, rfl, _, hg, hk⟩ := hp
    exact ⟨g, rfl, hg, h.kept.trans hk (fun _ _ e => e) (fun _ _ e => e)⟩
/-- A map's block has turned. -/
theorem QRow.mapped {n1 n2 n3 n4 : Nat} {x1 x2 x3 x4 : List Value} {w1 : World} {mb : Nat} {es : Array MapEntry} {ck : Nat} (h : QRow rb r w0 L n1 n2 n3 n4 x1 x2 x3 x4 tv s w) (hm : w.heap[mb]? = some (.map es ck)) (hk : Kept (fun k => k = mb) w w1) (hge : w0.heap.size ≤ mb) : QRow rb r w0 L n1 n2 n3 n4 x1 x2 x3 x4 tv s w1 := by
  have no : ∀ {k : Nat} {cs : Array Value} {t : TypeId} {fr : Nat × Nat}, w.heap[k]? = some (.cells cs t fr) → ¬ k = mb := by
    rintro k cs t fr hc rfl
    have := hm.symm.trans hc
    injection this with this
    cases this
  have nr : ∀ {e sz n : Nat} {u : Value} {xs : List Value}, w.ownsRow w0.heap.size e sz u n xs → ∀ k, u.ownBlock = some k → ¬ k = mb := fun hu k e e2 => own_map hu hm (e2 ▸ e)
  obtain ⟨v, hv⟩ := h.rd
  refine ⟨⟨v, hv.kept hk (no hv.blk) ?_⟩, h.le, blk_kept hk h.blk (no h.blk), own_kept h.r1 hk (nr h.r1), own_kept h.r2 hk (nr h.r2), own_kept h.r3 hk (nr h.r3), own_kept h.r4 hk (nr h.r4), h.ne, h.base, h.kept.trans hk (fun _ _ e => e) (fun i hi e => by omega), h.st⟩
  intro k hk1
  rcases hv.lies with ⟨_, he⟩ | ⟨g, c, cur, he, _, hh, _⟩
  · rw [he] at hk1; simp [Value.ownBlock] at hk1
  · rw [he] at hk1
    have : g = k := by simpa [Value.ownBlock] using hk1
    subst this
    exact no hh
theorem map_no {k : TypeId} {Rr : Value → Option (DataW Unit × List MemPlace)} {mb n : Nat} {D : DataW Unit} (h : w.ownsMap Tryz.prog k Rr mb n D) {j : Nat} {cs : Array Value} {t : TypeId} {fr : Nat × Nat} (hc : w.heap[j]? = some (.cells cs t fr)) : ¬ mb = j := by
  obtain ⟨es, ck, hm, _⟩ := h
  rintro rfl
  have := hm.symm.trans hc
  injection this with this
  cases this
theorem map_row {k : TypeId} {Rr : Value → Option (DataW Unit × List MemPlace)} {mb n : Nat} {D : DataW Unit} (h : w.ownsMap Tryz.prog k Rr mb n D) {B e sz m : Nat} {u : Value} {xs : List Value} (hu : w.ownsRow B e sz u m xs) : u.ownBlock ≠ some mb := by
  obtain ⟨es, ck, hm, _⟩ := h
  exact own_map hu hm
/-- The reader's rows, with what stays of the world ahead. -/
structure GRow (rb r : Nat) (w0 : World) (L : List Int) (n1 n2 n3 n4 : Nat) (x1 x2 x3 x4 : List Value) (tv : TV) (wE : World) (s : BSt) (w : World) : Prop where
  q : QRow rb r w0 L n1 n2 n3 n4 x1 x2 x3 x4 tv s w
  keptE : Kept (fun k => k = rb ∨ k = r) wE w
  newE : ∀ k, (tv.tl.ownBlock = some k ∨ tv.ta.ownBlock = some k ∨ tv.rl.ownBlock = some k ∨ tv.ra.ownBlock = some k) → wE.heap.size ≤ k
section
variable {wE w1 : World} {n1 n2 n3 n4 : Nat} {x1 x2 x3 x4 : List Value}
theorem GRow.later {w' : World} (h : GRow rb r w0 L n1 n2 n3 n4 x1 x2 x3 x4 tv wE s w) (hk : Kept (fun _ => False) w w') : GRow rb r w0 L n1 n2 n3 n4 x1 x2 x3 x4 tv wE s w' :=
  ⟨h.q.later hk, h.keptE.trans hk (fun _ _ e => e) (fun _ _ e => e.elim), h.newE⟩
theorem GRow.mapped {mb : Nat} {es : Array MapEntry} {ck : Nat} (h : GRow rb r w0 L n1 n2 n3 n4 x1 x2 x3 x4 tv wE s w) (hm : w.heap[mb]? = some (.map es ck)) (hg : w.grownBy w1 (some mb)) (hge : wE.heap.size ≤ mb) (hge0 : w0.heap.size ≤ mb) : GRow rb r w0 L n1 n2 n3 n4 x1 x2 x3 x4 tv wE s w1 := by
  have k1 : Kept (fun k => k = mb) w w1 := Kept.of_grown hg fun k e => by injection e with e; exact e.symm
  exact ⟨h.q.mapped hm k1 hge0, h.keptE.trans k1 (fun _ _ e => e) (fun i hi e => by omega), h.newE⟩
/-- Another block turns. -/
theorem GRow.other {qb : Nat} {cs : Array Value} {t : TypeId} {fr : Nat × Nat} (h : GRow rb r w0 L n1 n2 n3 n4 x1 x2 x3 x4 tv wE s w) (hq : w.heap[qb]? = some (.cells cs t fr)) (hk : Kept (fun k => k = qb) w w1) (ht : t ≠ 110 ∧ t ≠ 171 ∧ t ≠ 5 ∧ t ≠ 9 ∧ t ≠ 3) (h6 : tv.rl.ownBlock ≠ some qb) (hge : wE.heap.size ≤ qb) (hge0 : w0.heap.size ≤ qb) : GRow rb r w0 L n1 n2 n3 n4 x1 x2 x3 x4 tv wE s w1 := by
  obtain ⟨h1, h2, h3, h4, h5⟩ := ht
  obtain ⟨v, hv⟩ := h.q.rd
  refine ⟨⟨⟨v, hv.kept hk ?_ ?_⟩, h.q.le, blk_kept hk h.q.blk ?_, own_kept h.q.r1 hk fun k e e2 => own_ne h.q.r1 hq h4 (e2 ▸ e), own_kept h.q.r2 hk fun k e e2 => own_ne h.q.r2 hq h5 (e2 ▸ e), own_kept h.q.r3 hk fun k e e2 => h6 (e2 ▸ e), own_kept h.q.r4 hk fun k e e2 => own_ne h.q.r4 hq h5 (e2 ▸ e), h.q.ne, h.q.base, h.q.kept.trans hk (fun _ _ e => e) (fun i hi e => by omega), h.q.st⟩, h.keptE.trans hk (fun _ _ e => e) (fun i hi e => by omega), h.newE⟩
  · rintro rfl; exact h2 (typ_of hv.blk hq)
  · intro k hk1 hs
    rcases hv.lies with ⟨_, he⟩ | ⟨g, c, cur, he, _, hh, _⟩
    · rw [he] at hk1; simp [Value.ownBlock] at hk1
    · rw [he] at hk1
      have : g = k := by simpa [Value.ownBlock] using hk1
      subst this
      rw [hs] at hh
      exact h3 (typ_of hh hq)
  · rintro rfl; exact h1 (typ_of h.q.blk hq)
theorem GRow.push1 (h : GRow rb r w0 L n1 n2 n3 n4 x1 x2 x3 x4 tv wE s w) {o : Obj} {u : Value} {m : Nat} {xs : List Value} (hu : w1.ownsRow w0.heap.size 9 1 u m xs) (hg : (w.alloc o).grownBy w1 tv.tl.ownBlock) (hat : u.ownBlock = tv.tl.ownBlock ∨ u.ownBlock = some (w.alloc o).heap.size) :
    w1.cell? ⟨rb, 1, none⟩ = some tv.tl ∧ w1.frozen? ⟨rb, 1, none⟩ = false ∧ GRow rb r w0 L m n2 n3 n4 xs x2 x3 x4 { tv with tl := u } wE s (w1.setCell ⟨rb, 1, none⟩ u) ∧
    ∀ {k : TypeId} {Rr : Value → Option (DataW Unit × List MemPlace)} {mb n : Nat} {D : DataW Unit}, w.ownsMap Tryz.prog k Rr mb n D → (w1.setCell ⟨rb, 1, none⟩ u).ownsMap Tryz.prog k Rr mb n D := by
  obtain ⟨c, f, q, kk⟩ := h.q.push1 hu hg
  have hs := h.keptE.size
  have hsz : (w.alloc o).heap.size = w.heap.size + 1 := by simp
  refine ⟨c, f, ⟨q, h.keptE.trans kk (fun _ _ e => e) (fun i hi e => ?_), ?_⟩, fun hm => map_kept hm kk ?_⟩
  · rcases e with e | e
    · exact .inl e
    · have := h.newE i (.inl e); omega
  · intro k hk
    rcases hat with e | e
    · exact h.newE k (by simpa only [e] using hk)
    · simp only [e] at hk
      have hn := h.newE k
      rcases hk with hk | hk | hk | hk
      all_goals first
        | (injection hk with hk; omega)
        | exact hn (.inl hk)
        | exact hn (.inr (.inl hk))
        | exact hn (.inr (.inr (.inl hk)))
        | exact hn (.inr (.inr (.inr hk)))
  · rintro (e | e)
    · exact map_no hm h.q.blk e
    · exact map_row hm h.q.r1 e
theorem GRow.push2 (h : GRow rb r w0 L n1 n2 n3 n4 x1 x2 x3 x4 tv wE s w) {o : Obj} {u : Value} {m : Nat} {xs : List Value} (hu : w1.ownsRow w0.heap.size 3 1 u m xs) (hg : (w.alloc o).grownBy w1 tv.ta.ownBlock) (hat : u.ownBlock = tv.ta.ownBlock ∨ u.ownBlock = some (w.alloc o).heap.size) :
    w1.cell? ⟨rb, 2, none⟩ = some tv.ta ∧ w1.frozen? ⟨rb, 2, none⟩ = false ∧ GRow rb r w0 L n1 m n3 n4 x1 xs x3 x4 { tv with ta := u } wE s (w1.setCell ⟨rb, 2, none⟩ u) ∧
    ∀ {k : TypeId} {Rr : Value → Option (DataW Unit × List MemPlace)} {mb n : Nat} {D : DataW Unit}, w.ownsMap Tryz.prog k Rr mb n D → (w1.setCell ⟨rb, 2, none⟩ u).ownsMap Tryz.prog k Rr mb n D := by
  obtain ⟨c, f, q, kk⟩ := h.q.push2 hu hg hat
  have hs := h.keptE.size
  have hsz : (w.alloc o).heap.size = w.heap.size + 1 := by simp
  refine ⟨c, f, ⟨q, h.keptE.trans kk (fun _ _ e => e) (fun i hi e => ?_), ?_⟩, fun hm => map_kept hm kk ?_⟩
  · rcases e with e | e
    · exact .inl e
    · have := h.newE i (.inr (.inl e)); omega
  · intro k hk
    rcases hat with e | e
    · exact h.newE k (by simpa only [e] using hk)
    · simp only [e] at hk
      have hn := h.newE k
      rcases hk with hk | hk | hk | hk
      all_goals first
        | (injection hk with hk; omega)
        | exact hn (.inl hk)
        | exact hn (.inr (.inl hk))
        | exact hn (.inr (.inr (.inl hk)))
        | exact hn (.inr (.inr (.inr hk)))
  · rintro (e | e)
    · exact map_no hm h.q.blk e
    · exact map_row hm h.q.r2 e
theorem GRow.push3 (h : GRow rb r w0 L n1 n2 n3 n4 x1 x2 x3 x4 tv wE s w) {o : Obj} {u : Value} {m : Nat} {xs : List Value} (hu : w1.ownsRow w0.heap.size 68 2 u m xs) (hg : (w.alloc o).grownBy w1 tv.rl.ownBlock) (hat : u.ownBlock = tv.rl.ownBlock ∨ u.ownBlock = some (w.alloc o).heap.size) :
    w1.cell? ⟨rb, 4, none⟩ = some tv.rl ∧ w1.frozen? ⟨rb, 4, none⟩ = false ∧ GRow rb r w0 L n1 n2 m n4 x1 x2 xs x4 { tv with rl := u } wE s (w1.setCell ⟨rb, 4, none⟩ u) ∧
    ∀ {k : TypeId} {Rr : Value → Option (DataW Unit × List MemPlace)} {mb n : Nat} {D : DataW Unit}, w.ownsMap Tryz.prog k Rr mb n D → (w1.setCell ⟨rb, 4, none⟩ u).ownsMap Tryz.prog k Rr mb n D := by
  obtain ⟨c, f, q, kk⟩ := h.q.push3 hu hg
  have hs := h.keptE.size
  have hsz : (w.alloc o).heap.size = w.heap.size + 1 := by simp
  refine ⟨c, f, ⟨q, h.keptE.trans kk (fun _ _ e => e) (fun i hi e => ?_), ?_⟩, fun hm => map_kept hm kk ?_⟩
  · rcases e with e | e
    · exact .inl e
    · have := h.newE i (.inr (.inr (.inl e))); omega
  · intro k hk
    rcases hat with e | e
    · exact h.newE k (by simpa only [e] using hk)
    · simp only [e] at hk
      have hn := h.newE k
      rcases hk with hk | hk | hk | hk
      all_goals first
        | (injection hk with hk; omega)
        | exact hn (.inl hk)
        | exact hn (.inr (.inl hk))
        | exact hn (.inr (.inr (.inl hk)))
        | exact hn (.inr (.inr (.inr hk)))
  · rintro (e | e)
    · exact map_no hm h.q.blk e
    · exact map_row hm h.q.r3 e
theorem GRow.push4 (h : GRow rb r w0 L n1 n2 n3 n4 x1 x2 x3 x4 tv wE s w) {o : Obj} {u : Value} {m : Nat} {xs : List Value} (hu : w1.ownsRow w0.heap.size 3 1 u m xs) (hg : (w.alloc o).grownBy w1 tv.ra.ownBlock) (hat : u.ownBlock = tv.ra.ownBlock ∨ u.ownBlock = some (w.alloc o).heap.size) :
    w1.cell? ⟨rb, 5, none⟩ = some tv.ra ∧ w1.frozen? ⟨rb, 5, none⟩ = false ∧ GRow rb r w0 L n1 n2 n3 m x1 x2 x3 xs { tv with ra := u } wE s (w1.setCell ⟨rb, 5, none⟩ u) ∧
    ∀ {k : TypeId} {Rr : Value → Option (DataW Unit × List MemPlace)} {mb n : Nat} {D : DataW Unit}, w.ownsMap Tryz.prog k Rr mb n D → (w1.setCell ⟨rb, 5, none⟩ u).ownsMap Tryz.prog k Rr mb n D := by
  obtain ⟨c, f, q, kk⟩ := h.q.push4 hu hg hat
  have hs := h.keptE.size
  have hsz : (w.alloc o).heap.size = w.heap.size + 1 := by simp
  refine ⟨c, f, ⟨q, h.keptE.trans kk (fun _ _ e => e) (fun i hi e => ?_), ?_⟩, fun hm => map_kept hm kk ?_⟩
  · rcases e with e | e
    · exact .inl e
    · have := h.newE i (.inr (.inr (.inr e))); omega
  · intro k hk
    rcases hat with e | e
    · exact h.newE k (by simpa only [e] using hk)
    · simp only [e] at hk
      have hn := h.newE k
      rcases hk with hk | hk | hk | hk
      all_goals first
        | (injection hk with hk; omega)
        | exact hn (.inl hk)
        | exact hn (.inr (.inl hk))
        | exact hn (.inr (.inr (.inl hk)))
        | exact hn (.inr (.inr (.inr hk)))
  · rintro (e | e)
    · exact map_no hm h.q.blk e
    · exact map_row hm h.q.r4 e
theorem tcells_snoc (T : TT) (x : ByteArray) (n : Nat) : tCells (T ++ [(x, n)]) = tCells T ++ #[Value.string x].toList := by simp [tCells]
theorem acells_snoc {α : Type} (T : List (α × Nat)) (x : α) (n : Nat) : atCells (T ++ [(x, n)]) = atCells T ++ #[Value.int .i64 n].toList := by simp [atCells]
theorem rcells_snoc (R : RR) (x : Nat × Nat) (n : Nat) : rCells (R ++ [(x, n)]) = rCells R ++ (#[.int .u64 x.1, .int .u64 x.2] : Array Value).toList := by simp [rCells, trC]
/-- What was seen of texts, of traces. -/
def SeenT (mb : Nat) (T : TT) (w : World) : Prop := ∃ D, w.ownsMap Tryz.prog 9 (plainElem Tryz.prog 3) mb T.length D ∧ SeenIs (fun _ => True) strKey D (T.map Prod.fst)
def SeenR (mb : Nat) (R : RR) (w : World) : Prop := ∃ D, w.ownsMap Tryz.prog 68 (plainElem Tryz.prog 3) mb R.length D ∧ SeenIs okP traceKey D (R.map Prod.fst)
/-- The reader between two rounds of the tables. -/
structure GAt (rb r : Nat) (w0 : World) (L : List Int) (T : TT) (R : RR) (tv : TV) (wE : World) (s : BSt) (w : World) : Prop where
  at_ : QAt rb r w0 L T R tv s w
  keptE : Kept (fun k => k = rb ∨ k = r) wE w
  newE : ∀ k, (tv.tl.ownBlock = some k ∨ tv.ta.ownBlock = some k ∨ tv.rl.ownBlock = some k ∨ tv.ra.ownBlock = some k) → wE.heap.size ≤ k
theorem GAt.rows (h : GAt rb r w0 L T R tv wE s w) : GRow rb r w0 L T.length T.length R.length R.length (tCells T) (atCells T) (rCells R) (atCells R) tv wE s w := ⟨h.at_.rows, h.keptE, h.newE⟩
theorem GAt.later {w' : World} (h : GAt rb r w0 L T R tv wE s w) (hk : Kept (fun _ => False) w w') : GAt rb r w0 L T R tv wE s w' := ⟨h.at_.later hk, h.keptE.trans hk (fun _ _ e => e) (fun _ _ e => e.elim), h.newE⟩
theorem GAt.moved {s' : BSt} {w' : World} (h : GAt rb r w0 L T R tv wE s w) (h1 : QAt rb r w0 L T R tv s' w') (hk : Kept (fun k => k = r) w w') : GAt rb r w0 L T R tv wE s' w' :=
  ⟨h1, h.keptE.trans hk (fun _ _ e => e) (fun i hi e => .inr e), h.newE⟩
theorem GAt.map_moved {w' : World} {k : TypeId} {Rr : Value → Option (DataW Unit × List MemPlace)} {mb n : Nat} {D : DataW Unit} (h : GAt rb r w0 L T R tv wE s w) (hm : w.ownsMap Tryz.prog k Rr mb n D) (hk : Kept (fun k => k = r) w w') : w'.ownsMap Tryz.prog k Rr mb n D := by
  obtain ⟨v, hv⟩ := h.at_.rd
  exact map_kept hm hk (map_no hm hv.blk)
theorem GAt.aside {T0 : TT} {R0 : RR} {tv0 : TV} {s0 : BSt} (h : GAt rb r w0 L T R tv wE s w) (hE : QAt rb r w0 L T0 R0 tv0 s0 wE) : Aside wE w := by
  intro xb cs t fr hx g1 g2
  refine blk_kept h.keptE hx ?_
  obtain ⟨v, hv⟩ := hE.rd
  rintro (rfl | rfl)
  · exact g1 (typ_of hE.blk.1 hx)
  · exact g2 (typ_of hv.blk hx)
end
end
end Go.Proofs.YtlcbgklealipoaaGreatDoor
end

