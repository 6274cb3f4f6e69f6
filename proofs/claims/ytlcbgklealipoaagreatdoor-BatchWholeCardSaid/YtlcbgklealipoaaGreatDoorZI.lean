import Derived.Test.YtlcbgklealipoaaGreatDoorZH
import Derived.Test.YtlcbgklealipoaaGreatDoorZT
import Derived.Test.YtlcbgklealipoaaGreatDoorZU
section
/- The reader with a span that grows; a span's fields in stages. -/
namespace Go.Proofs.YtlcbgklealipoaaGreatDoor
open Go Go.RowKit
set_option linter.unusedVariables false
set_option linter.unusedSimpArgs false

/-! ### stages (plain) -/
section
variable {α β : Type} {L : List Int} {s s' : BSt}
theorem bind_ok {f : Rdr α} {g : α → Rdr β} {a : α} (h : f L s = .ok a s') : (f.bind g) L s = g a L s' := by unfold Rdr.bind; rw [h]
theorem bind_err {f : Rdr α} {g : α → Rdr β} {a no : Int} (h : f L s = .err a no) : (f.bind g) L s = .err a no := by unfold Rdr.bind; rw [h]
theorem loop_zero {f : α → Rdr α} {a : α} : Rdr.loop f 0 a L s = .ok a s := rfl
theorem loop_succ {f : α → Rdr α} {k : Nat} {a b c : α} {s1 s2 : BSt} (h : Rdr.loop f k a L s = .ok b s1) (h2 : f b L s1 = .ok c s2) : Rdr.loop f (k + 1) a L s = .ok c s2 := by
  show ((Rdr.loop f k a).bind f) L s = _
  rw [bind_ok h, h2]
theorem loop_bad {f : α → Rdr α} {a b : α} {s1 : BSt} {x no : Int} {k : Nat} (h : Rdr.loop f k a L s = .ok b s1) (h2 : f b L s1 = .err x no) : ∀ n, k < n → Rdr.loop f n a L s = .err x no := by
  intro n hn
  obtain ⟨m, rfl⟩ : ∃ m, n = k + 1 + m := ⟨n - (k + 1), by omega⟩
  clear hn
  induction m with
  | zero =>
    show ((Rdr.loop f k a).bind f) L s = _
    rw [bind_ok h, h2]
  | succ m ih =>
    show ((Rdr.loop f (k + 1 + m) a).bind f) L s = _
    exact bind_err ih
end
def x0 : Spn := ⟨0, 0, 0, 0, [], ⟨#[]⟩, ⟨#[]⟩, 0, 0, 0, 0, [], []⟩
section
variable (T : List ByteArray) (R : List (Nat × Nat))
def st12 (x : Spn) (ne : Nat) : Rdr Spn := (Rdr.loop (eventR T) ne (0, [])).map fun ev => { x with evs := ev.2 }
def st11 (x : Spn) : Rdr Spn := (countR 32).bind (st12 T x)
def st10 (x : Spn) (na : Nat) : Rdr Spn := (Rdr.loop (attrsR T) na []).bind fun ats => st11 T { x with ats := ats }
def st9 (x : Spn) : Rdr Spn := (countR 32).bind (st10 T x)
def st8 (x : Spn) (nl : Nat) : Rdr Spn := (Rdr.loop linkR nl []).bind fun links => st9 T { x with links := links }
def st7 (x : Spn) : Rdr Spn := (countR 16).bind (st8 T x)
def st6 (x : Spn) : Rdr Spn := (laterR x.start).bind fun fin => st7 T { x with fin := fin }
def st5 (x : Spn) : Rdr Spn := beginR.bind fun start => st6 T { x with start := start }
def st4 (x : Spn) : Rdr Spn := byteR.bind fun k => st5 T { x with kind := ((k % 8 : Nat) : Int), st := ((k / 8 : Nat) : Int) }
def st3 (x : Spn) : Rdr Spn := (namedT T).bind fun op => st4 T { x with op := op }
def st2 (x : Spn) : Rdr Spn := (namedT T).bind fun svc => st3 T { x with svc := svc }
def st1 (x : Spn) : Rdr Spn := longR.bind fun par => st2 T { x with par := par }
def st0 (x : Spn) : Rdr Spn := longR.bind fun id => st1 T { x with id := id }
theorem fields_st : fieldsR T R = (namedR R).bind fun tr => st0 T { x0 with hi := tr.1, lo := tr.2 } := rfl
end
/-! ### in memory -/
section
variable {rb r q : Nat} {w0 w wB W : World} {L : List Int} {T : TT} {R : RR} {tv : TV} {s : BSt} {x : Spn}
theorem QAt.others {S : Nat → Prop} {w' : World} (h : QAt rb r w0 L T R tv s w) (hk : Kept S w w') (hS : ∀ k, S k → w0.heap.size ≤ k ∧ ∃ cs t fr, w.heap[k]? = some (.cells cs t fr) ∧ t ≠ 110 ∧ t ≠ 171 ∧ t ≠ 5 ∧ t ≠ 9 ∧ t ≠ 3 ∧ t ≠ 68) : QAt rb r w0 L T R tv s w' := by
  obtain ⟨v, hv⟩ := h.rd
  obtain ⟨b1, b2, b3, b4, b5, b6⟩ := h.blk
  have no : ∀ {e : TypeId} {sz n : Nat} {u : Value} {xs : List Value}, w.ownsRow w0.heap.size e sz u n xs → (e = 9 ∨ e = 3 ∨ e = 68) → ∀ k, u.ownBlock = some k → ¬ S k := by
    intro e sz n u xs hu he k hk1 hs
    obtain ⟨_, cs, t, fr, hq, g1, g2, g3, g4, g5, g6⟩ := hS k hs
    refine own_ne hu hq ?_ hk1
    rcases he with rfl | rfl | rfl <;> assumption
  refine ⟨⟨v, hv.kept hk ?_ ?_⟩, h.le, ⟨blk_kept hk b1 ?_, own_kept b2 hk (no b2 (.inl rfl)), own_kept b3 hk (no b3 (.inr (.inl rfl))), own_kept b4 hk (no b4 (.inr (.inr rfl))), own_kept b5 hk (no b5 (.inr (.inl rfl))), b6⟩, h.base, h.kept.trans hk (fun _ _ e => e) (fun i hi e => by have := (hS i e).1; omega), h.tu, h.ru, h.st⟩
  · intro hs
    obtain ⟨_, cs, t, fr, hq, g1, g2, _⟩ := hS _ hs
    exact g2 (typ_of hv.blk hq)
  · intro k hk' hs
    obtain ⟨_, cs, t, fr, hq, g1, g2, g3, _⟩ := hS _ hs
    rcases hv.lies with ⟨_, he⟩ | ⟨g, c, cur, he, _, hh, _⟩
    · rw [he] at hk'; simp [Value.ownBlock] at hk'
    · rw [he] at hk'
      have : g = k := by simpa [Value.ownBlock] using hk'
      subst this
      exact g3 (typ_of hh hq)
  · intro hs
    obtain ⟨_, cs, t, fr, hq, g1, _⟩ := hS _ hs
    exact g1 (typ_of b1 hq)
def lkC (l : List Nat) : List Value := l.map fun (n : Nat) => .int .u64 n
def atC' (l : List Atr) : List Value := l.flatMap fun a => (atrA a).toList
def evC (l : List Evt) : List Value := l.flatMap fun e => (evtA e).toList
/-- The reader, and a span in a block of its own whose lists grow. -/
structure SMid (rb r : Nat) (w0 : World) (L : List Int) (T : TT) (R : RR) (tv : TV) (s : BSt) (wB : World) (q : Nat) (x : Spn) (lv av ev : Value) (W : World) : Prop where
  at_ : QMid rb r w0 L T R tv s wB q (x.cells lv av ev) 76 W
  lr : W.ownsRow w0.heap.size 69 1 lv x.links.length (lkC x.links)
  ar : W.ownsRow w0.heap.size 132 4 av x.ats.length (atC' x.ats)
  er : W.ownsRow w0.heap.size 134 2 ev x.evs.length (evC x.evs)
  new : (∀ k, lv.ownBlock = some k → wB.heap.size ≤ k) ∧ (∀ k, av.ownBlock = some k → wB.heap.size ≤ k) ∧ ∀ k, ev.ownBlock = some k → wB.heap.size ≤ k
section
variable {lv av ev : Value}
theorem SMid.call {s' : BSt} {W' : World} (h : SMid rb r w0 L T R tv s wB q x lv av ev W) (h1 : QAt rb r w0 L T R tv s' W') (h2 : Aside W W') : SMid rb r w0 L T R tv s' wB q x lv av ev W' :=
  ⟨h.at_.call h1 h2, own_aside h.lr h2 (by decide) (by decide), own_aside h.ar h2 (by decide) (by decide), own_aside h.er h2 (by decide) (by decide), h.new⟩
theorem SMid.later {W' : World} (h : SMid rb r w0 L T R tv s wB q x lv av ev W) (hk : Kept (fun _ => False) W W') : SMid rb r w0 L T R tv s wB q x lv av ev W' :=
  ⟨h.at_.later hk, own_kept h.lr hk (fun _ _ h => h), own_kept h.ar hk (fun _ _ h => h), own_kept h.er hk (fun _ _ h => h), h.new⟩
/-- A field is set. -/
theorem SMid.set (h : SMid rb r w0 L T R tv s wB q x lv av ev W) (i : Nat) (u : Value) (x' : Spn) (hC : (x.cells lv av ev).setIfInBounds i u = x'.cells lv av ev) (h1 : x'.links = x.links) (h2 : x'.ats = x.ats) (h3 : x'.evs = x.evs) :
    SMid rb r w0 L T R tv s wB q x' lv av ev (W.setCell ⟨q, i, none⟩ u) := by
  have hm := h.at_.store i u
  rw [hC] at hm
  have hk : Kept (fun k => k = q) W (W.setCell ⟨q, i, none⟩ u) := .setCell _ _ _ rfl
  refine ⟨hm, ?_, ?_, ?_, h.new⟩
  · rw [h1]; exact own_kept h.lr hk fun k e e2 => own_ne h.lr h.at_.blk (by decide) (e2 ▸ e)
  · rw [h2]; exact own_kept h.ar hk fun k e e2 => own_ne h.ar h.at_.blk (by decide) (e2 ▸ e)
  · rw [h3]; exact own_kept h.er hk fun k e e2 => own_ne h.er h.at_.blk (by decide) (e2 ▸ e)
/-- What a growing list's append leaves, ahead of the store. -/
theorem SMid.grown {e : TypeId} {sz n : Nat} {v v' : Value} {xs : List Value} {o : Obj} {W' : World} (h : SMid rb r w0 L T R tv s wB q x lv av ev W) (hv : W.ownsRow w0.heap.size e sz v n xs) (hn : ∀ k, v.ownBlock = some k → wB.heap.size ≤ k) (he : e ≠ 110 ∧ e ≠ 171 ∧ e ≠ 5 ∧ e ≠ 9 ∧ e ≠ 3 ∧ e ≠ 68 ∧ e ≠ 76)
    (hg : (W.alloc o).grownBy W' v.ownBlock) : Kept (fun k => v.ownBlock = some k) W W' ∧ QMid rb r w0 L T R tv s wB q (x.cells lv av ev) 76 W' := by
  have hk : Kept (fun k => v.ownBlock = some k) W W' := (Kept.alloc _ W _).trans (Kept.of_grown hg fun k e => e) (fun _ _ e => e) fun _ _ e => e
  have hS : ∀ k, v.ownBlock = some k → w0.heap.size ≤ k ∧ ∃ cs t fr, W.heap[k]? = some (.cells cs t fr) ∧ t ≠ 110 ∧ t ≠ 171 ∧ t ≠ 5 ∧ t ≠ 9 ∧ t ≠ 3 ∧ t ≠ 68 := by
    intro k hk1
    refine ⟨(hv.lt k hk1).1, ?_⟩
    rcases hv.2 with ⟨h1, _⟩ | ⟨g, cap, cur, h1, _, hh, _⟩
    · rw [h1] at hk1; simp [Value.ownBlock] at hk1
    · rw [h1] at hk1
      have : g = k := by simpa [Value.ownBlock] using hk1
      subst this
      exact ⟨cur, e, (0, 0), hh, he.1, he.2.1, he.2.2.1, he.2.2.2.1, he.2.2.2.2.1, he.2.2.2.2.2.1⟩
  refine ⟨hk, h.at_.at_.others hk hS, ?_, blk_kept hk h.at_.blk (fun e2 => own_ne hv h.at_.blk he.2.2.2.2.2.2.symm e2), h.at_.ge, h.at_.ge0, h.at_.ne⟩
  intro xb cs t fr hx g1 g2
  refine blk_kept hk (h.at_.ap _ _ _ _ hx g1 g2) fun e2 => ?_
  have := hn xb e2
  have := blk_lt hx
  omega
end
end
end Go.Proofs.YtlcbgklealipoaaGreatDoor
end

section
/- A list of a span that grows by one. -/
namespace Go.Proofs.YtlcbgklealipoaaGreatDoor
open Go Go.RowKit
set_option linter.unusedVariables false
set_option linter.unusedSimpArgs false

section
variable {rb r q : Nat} {w0 w wB W : World} {L : List Int} {T : TT} {R : RR} {tv : TV} {s : BSt} {x : Spn}
theorem QMid.grownQ {e : TypeId} {sz n : Nat} {v : Value} {xs : List Value} {o : Obj} {W' : World} {cs : Array Value} (h : QMid rb r w0 L T R tv s wB q cs 76 W) (hv : W.ownsRow w0.heap.size e sz v n xs) (hn : ∀ k, v.ownBlock = some k → wB.heap.size ≤ k) (he : e ≠ 110 ∧ e ≠ 171 ∧ e ≠ 5 ∧ e ≠ 9 ∧ e ≠ 3 ∧ e ≠ 68 ∧ e ≠ 76)
    (hg : (W.alloc o).grownBy W' v.ownBlock) : Kept (fun k => v.ownBlock = some k) W W' ∧ QMid rb r w0 L T R tv s wB q cs 76 W' := by
  have hk : Kept (fun k => v.ownBlock = some k) W W' := (Kept.alloc _ W _).trans (Kept.of_grown hg fun k e => e) (fun _ _ e => e) fun _ _ e => e
  have hS : ∀ k, v.ownBlock = some k → w0.heap.size ≤ k ∧ ∃ cs t fr, W.heap[k]? = some (.cells cs t fr) ∧ t ≠ 110 ∧ t ≠ 171 ∧ t ≠ 5 ∧ t ≠ 9 ∧ t ≠ 3 ∧ t ≠ 68 := by
    intro k hk1
    refine ⟨(hv.lt k hk1).1, ?_⟩
    rcases hv.2 with ⟨h1, _⟩ | ⟨g, cap, cur, h1, _, hh, _⟩
    · rw [h1] at hk1; simp [Value.ownBlock] at hk1
    · rw [h1] at hk1
      have : g = k := by simpa [Value.ownBlock] using hk1
      subst this
      exact ⟨cur, e, (0, 0), hh, he.1, he.2.1, he.2.2.1, he.2.2.2.1, he.2.2.2.2.1, he.2.2.2.2.2.1⟩
  refine ⟨hk, h.at_.others hk hS, ?_, blk_kept hk h.blk (fun e2 => own_ne hv h.blk he.2.2.2.2.2.2.symm e2), h.ge, h.ge0, h.ne⟩
  intro xb cs t fr hx g1 g2
  refine blk_kept hk (h.ap _ _ _ _ hx g1 g2) fun e2 => ?_
  have := hn xb e2
  have := blk_lt hx
  omega
theorem SMid.pushL {lv av ev v' : Value} {W' : World} {y : Nat} (h : SMid rb r w0 L T R tv s wB q x lv av ev W)
    (hown : W'.ownsRow w0.heap.size 69 1 v' (x.links.length + 1) (lkC x.links ++ (#[.int .u64 (y : Nat)] : Array Value).toList)) (hg : (W.alloc (.cells #[.int .u64 (y : Nat)] 69)).grownBy W' lv.ownBlock)
    (hat : v'.ownBlock = lv.ownBlock ∨ v'.ownBlock = some (W.alloc (.cells #[.int .u64 (y : Nat)] 69)).heap.size) :
    W'.cell? ⟨q, 4, none⟩ = some lv ∧ W'.frozen? ⟨q, 4, none⟩ = false ∧ SMid rb r w0 L T R tv s wB q { x with links := x.links ++ [y] } v' av ev (W'.setCell ⟨q, 4, none⟩ v') := by
  obtain ⟨kk, qm⟩ := h.at_.grownQ h.lr h.new.1 ⟨by decide, by decide, by decide, by decide, by decide, by decide, by decide⟩ hg
  have kq : Kept (fun k => k = q) W' (W'.setCell ⟨q, 4, none⟩ v') := .setCell _ _ _ rfl
  have hq := blk_lt h.at_.blk
  have hge := h.at_.ge
  have hn : ∀ k, v'.ownBlock = some k → wB.heap.size ≤ k := by
    intro k hk
    rcases hat with e | e
    · exact h.new.1 k (e ▸ hk)
    · rw [e] at hk
      have hs : (W.alloc (.cells #[.int .u64 (y : Nat)] 69)).heap.size = W.heap.size + 1 := by simp
      rw [hs] at hk
      injection hk with hk
      omega
  have hC : lkC x.links ++ (#[.int .u64 (y : Nat)] : Array Value).toList = lkC (x.links ++ [y]) := by simp [lkC]
  exact ⟨(qm.cq 4).trans rfl, qm.fq 4, qm.store 4 v', by rw [List.length_append]; exact hC ▸ own_kept hown kq fun k e e2 => own_ne hown qm.blk (by decide) (e2 ▸ e), own_kept (own_kept h.ar kk fun k e e2 => own_own h.lr h.ar (by decide) e2 e) kq fun k e e2 => own_ne h.ar h.at_.blk (by decide) (e2 ▸ e), own_kept (own_kept h.er kk fun k e e2 => own_own h.lr h.er (by decide) e2 e) kq fun k e e2 => own_ne h.er h.at_.blk (by decide) (e2 ▸ e), ⟨hn, h.new.2.1, h.new.2.2⟩⟩
theorem SMid.pushA {lv av ev v' : Value} {W' : World} {y : Atr} (h : SMid rb r w0 L T R tv s wB q x lv av ev W)
    (hown : W'.ownsRow w0.heap.size 132 4 v' (x.ats.length + 1) (atC' x.ats ++ (atrA y : Array Value).toList)) (hg : (W.alloc (.cells (atrA y) 132)).grownBy W' av.ownBlock)
    (hat : v'.ownBlock = av.ownBlock ∨ v'.ownBlock = some (W.alloc (.cells (atrA y) 132)).heap.size) :
    W'.cell? ⟨q, 11, none⟩ = some av ∧ W'.frozen? ⟨q, 11, none⟩ = false ∧ SMid rb r w0 L T R tv s wB q { x with ats := x.ats ++ [y] } lv v' ev (W'.setCell ⟨q, 11, none⟩ v') := by
  obtain ⟨kk, qm⟩ := h.at_.grownQ h.ar h.new.2.1 ⟨by decide, by decide, by decide, by decide, by decide, by decide, by decide⟩ hg
  have kq : Kept (fun k => k = q) W' (W'.setCell ⟨q, 11, none⟩ v') := .setCell _ _ _ rfl
  have hq := blk_lt h.at_.blk
  have hge := h.at_.ge
  have hn : ∀ k, v'.ownBlock = some k → wB.heap.size ≤ k := by
    intro k hk
    rcases hat with e | e
    · exact h.new.2.1 k (e ▸ hk)
    · rw [e] at hk
      have hs : (W.alloc (.cells (atrA y) 132)).heap.size = W.heap.size + 1 := by simp
      rw [hs] at hk
      injection hk with hk
      omega
  have hC : atC' x.ats ++ (atrA y : Array Value).toList = atC' (x.ats ++ [y]) := by simp [atC']
  exact ⟨(qm.cq 11).trans rfl, qm.fq 11, qm.store 11 v', own_kept (own_kept h.lr kk fun k e e2 => own_own h.ar h.lr (by decide) e2 e) kq fun k e e2 => own_ne h.lr h.at_.blk (by decide) (e2 ▸ e), by rw [List.length_append]; exact hC ▸ own_kept hown kq fun k e e2 => own_ne hown qm.blk (by decide) (e2 ▸ e), own_kept (own_kept h.er kk fun k e e2 => own_own h.ar h.er (by decide) e2 e) kq fun k e e2 => own_ne h.er h.at_.blk (by decide) (e2 ▸ e), ⟨h.new.1, hn, h.new.2.2⟩⟩
theorem SMid.pushE {lv av ev v' : Value} {W' : World} {y : Evt} (h : SMid rb r w0 L T R tv s wB q x lv av ev W)
    (hown : W'.ownsRow w0.heap.size 134 2 v' (x.evs.length + 1) (evC x.evs ++ (evtA y : Array Value).toList)) (hg : (W.alloc (.cells (evtA y) 134)).grownBy W' ev.ownBlock)
    (hat : v'.ownBlock = ev.ownBlock ∨ v'.ownBlock = some (W.alloc (.cells (evtA y) 134)).heap.size) :
    W'.cell? ⟨q, 12, none⟩ = some ev ∧ W'.frozen? ⟨q, 12, none⟩ = false ∧ SMid rb r w0 L T R tv s wB q { x with evs := x.evs ++ [y] } lv av v' (W'.setCell ⟨q, 12, none⟩ v') := by
  obtain ⟨kk, qm⟩ := h.at_.grownQ h.er h.new.2.2 ⟨by decide, by decide, by decide, by decide, by decide, by decide, by decide⟩ hg
  have kq : Kept (fun k => k = q) W' (W'.setCell ⟨q, 12, none⟩ v') := .setCell _ _ _ rfl
  have hq := blk_lt h.at_.blk
  have hge := h.at_.ge
  have hn : ∀ k, v'.ownBlock = some k → wB.heap.size ≤ k := by
    intro k hk
    rcases hat with e | e
    · exact h.new.2.2 k (e ▸ hk)
    · rw [e] at hk
      have hs : (W.alloc (.cells (evtA y) 134)).heap.size = W.heap.size + 1 := by simp
      rw [hs] at hk
      injection hk with hk
      omega
  have hC : evC x.evs ++ (evtA y : Array Value).toList = evC (x.evs ++ [y]) := by simp [evC]
  exact ⟨(qm.cq 12).trans rfl, qm.fq 12, qm.store 12 v', own_kept (own_kept h.lr kk fun k e e2 => own_own h.er h.lr (by decide) e2 e) kq fun k e e2 => own_ne h.lr h.at_.blk (by decide) (e2 ▸ e), own_kept (own_kept h.ar kk fun k e e2 => own_own h.er h.ar (by decide) e2 e) kq fun k e e2 => own_ne h.ar h.at_.blk (by decide) (e2 ▸ e), by rw [List.length_append]; exact hC ▸ own_kept hown kq fun k e e2 => own_ne hown qm.blk (by decide) (e2 ▸ e), ⟨h.new.1, h.new.2.1, hn⟩⟩
end
end Go.Proofs.YtlcbgklealipoaaGreatDoor
end

section
/- What was read of a span's fields: its texts' sizes; its lists in memory (plain). -/
namespace Go.Proofs.YtlcbgklealipoaaGreatDoor
open Go Go.RowKit
set_option linter.unusedVariables false
set_option linter.unusedSimpArgs false

section
variable {α β : Type} {L : List Int} {s s' : BSt}
theorem bind_inv {f : Rdr α} {g : α → Rdr β} {b : β} (h : (f.bind g) L s = .ok b s') : ∃ a s1, f L s = .ok a s1 ∧ g a L s1 = .ok b s' := by
  unfold Rdr.bind at h
  split at h
  · rename_i a s1 hf
    exact ⟨a, s1, hf, h⟩
  · cases h
theorem map_inv {f : Rdr α} {g : α → β} {b : β} (h : (f.map g) L s = .ok b s') : ∃ a, f L s = .ok a s' ∧ b = g a := by
  unfold Rdr.map Rdr.mapS at h
  split at h
  · rename_i a s1 hf
    injection h with h1 h2
    subst h2
    exact ⟨a, hf, h1.symm⟩
  · cases h
theorem map_ok {f : Rdr α} {g : α → β} {a : α} (h : f L s = .ok a s') : (f.map g) L s = .ok (g a) s' := by unfold Rdr.map Rdr.mapS; rw [h]
theorem map_err {f : Rdr α} {g : α → β} {a no : Int} (h : f L s = .err a no) : (f.map g) L s = .err a no := by unfold Rdr.map Rdr.mapS; rw [h]
theorem loop_inv {f : α → Rdr α} (P : α → Prop) (hP : ∀ a L s b s', P a → f a L s = .ok b s' → P b) {a : α} (h0 : P a) : ∀ (k : Nat) {s s' : BSt} {b : α}, Rdr.loop f k a L s = .ok b s' → P b
  | 0, s, s', b, h => by injection h with h1 h2; subst h1; exact h0
  | k + 1, s, s', b, h => by
    obtain ⟨c, s1, h1, h2⟩ := bind_inv h
    exact hP _ _ _ _ _ (loop_inv P hP h0 k h1) h2
end
section
variable {L : List Int} {s s' : BSt} {T : List ByteArray} {R : List (Nat × Nat)} {M : Nat}
theorem named_in {t : ByteArray} (h : namedT T L s = .ok t s') : t ∈ T := by
  unfold namedT Rdr.map Rdr.mapS Rdr.upd Rdr.chk at h
  cases hu : uintR L s with
  | err a no => rw [hu] at h; cases h
  | ok n s1 =>
    rw [hu] at h
    by_cases hn : T.length ≤ n
    · simp only [tabC, if_pos hn] at h; cases h
    · by_cases hn2 : s.tu < n
      · simp only [tabC, if_neg hn, if_pos hn2] at h; cases h
      · simp only [tabC, if_neg hn, if_neg hn2] at h
        injection h with h1 h2
        rw [← h1, List.getD_eq_getElem?_getD, List.getElem?_eq_getElem (by omega), Option.getD_some]
        exact List.getElem_mem _
theorem attr_sized (hT : ∀ t ∈ T, t.size ≤ M) {x : Atr} (h : attrR T L s = .ok x s') : x.key.size ≤ M ∧ x.t.size ≤ M := by
  unfold attrR at h
  obtain ⟨key, s1, h1, h⟩ := bind_inv h
  obtain ⟨k, s2, h2, h⟩ := bind_inv h
  have hk := hT _ (named_in h1)
  by_cases e0 : k = 0
  · simp only [if_pos e0] at h
    obtain ⟨t, h3, rfl⟩ := map_inv h
    exact ⟨hk, hT _ (named_in h3)⟩
  · by_cases e1 : k = 1
    · simp only [if_neg e0, if_pos e1] at h
      obtain ⟨t, h3, rfl⟩ := map_inv h
      exact ⟨hk, Nat.zero_le _⟩
    · simp only [if_neg e0, if_neg e1] at h
      obtain ⟨t, h3, rfl⟩ := map_inv h
      exact ⟨hk, Nat.zero_le _⟩
theorem fields_sized (hT : ∀ t ∈ T, t.size ≤ 9223372036854775807) {x : Spn} (h : fieldsR T R L s = .ok x s') : Sized x := by
  unfold fieldsR at h
  obtain ⟨tr, s1, _, h⟩ := bind_inv h
  obtain ⟨id, s2, _, h⟩ := bind_inv h
  obtain ⟨par, s3, _, h⟩ := bind_inv h
  obtain ⟨svc, s4, h4, h⟩ := bind_inv h
  obtain ⟨op, s5, h5, h⟩ := bind_inv h
  obtain ⟨k, s6, _, h⟩ := bind_inv h
  obtain ⟨start, s7, _, h⟩ := bind_inv h
  obtain ⟨fin, s8, _, h⟩ := bind_inv h
  obtain ⟨nl, s9, _, h⟩ := bind_inv h
  obtain ⟨links, s10, _, h⟩ := bind_inv h
  obtain ⟨na, s11, _, h⟩ := bind_inv h
  obtain ⟨ats, s12, h12, h⟩ := bind_inv h
  obtain ⟨ne, s13, _, h⟩ := bind_inv h
  obtain ⟨ev, h14, rfl⟩ := map_inv h
  refine ⟨hT _ (named_in h4), hT _ (named_in h5), ?_, ?_⟩
  · refine loop_inv (P := fun (l : List Atr) => ∀ x ∈ l, x.key.size ≤ 9223372036854775807 ∧ x.t.size ≤ 9223372036854775807) ?_ (fun x hx => by cases hx) na h12
    intro l L s b s' hl hb
    obtain ⟨y, hy, rfl⟩ := map_inv hb
    intro x hx
    rcases List.mem_append.1 hx with hx | hx
    · exact hl x hx
    · rw [List.mem_singleton] at hx; subst hx; exact attr_sized hT hy
  · refine loop_inv (P := fun (p : Int × List Evt) => ∀ x ∈ p.2, x.n.size ≤ 9223372036854775807) ?_ (fun x hx => by cases hx) ne h14
    intro p L s b s' hl hb
    obtain ⟨a, s1, _, hb⟩ := bind_inv hb
    obtain ⟨y, hy, rfl⟩ := map_inv hb
    intro x hx
    rcases List.mem_append.1 hx with hx | hx
    · exact hl x hx
    · rw [List.mem_singleton] at hx; subst hx; exact hT _ (named_in hy)
end
theorem stop_q {α : Type} {rb r : Nat} {w0 w w' : World} {L : List Int} {T : TT} {R : RR} {tv : TV} {res : BRes α} {V : α → Value → World → Prop} {a no : Int} {e : Ending} (h : res = .err a no) (hs : Stop a no w0 e w') : QPost rb r w0 L T R tv res V w e w' := by
  unfold QPost
  rw [h]
  exact hs
theorem takeA {P : Program} {ops : Array Oper} {md : Region.Mode} {Q : Exit → Act → World → Prop} {fuel : Nat} {listed : Array Bool} {oi : Oper} {v : Value} {ts : Array Value} {ds : List Deferred} {w : World} (i d : Nat) (hi : ops[i]? = some oi) (hs : Region.noSelect ops = true) (hf : Region.free md ops listed i = true) (hr : (Region.ready md ops listed).contains i = true)
    (hQ : ∀ c a w, Q (.panic c) (a.put oi.dst v) w → Q (.panic c) a w) (hd : oi.dst = some d) (hw : Region.wanted oi (yielded ops ts) = true) (hy : ∀ w, (execOp (Act.eval ⟨ts, ds⟩) oi).run P w = .ok (.value v) w)
    (h : wpAny P md ops Q fuel (listed.setIfInBounds i true) ⟨ts.setIfInBounds d v, ds⟩ w) : wpAny P md ops Q (fuel + 1) listed ⟨ts, ds⟩ w :=
  wpAny_take hi hs hf hr hQ (.inl ⟨hw, hy⟩) (by rw [hd]; exact h)
theorem flat_get {α : Type} (f : α → List Value) (n : Nat) (hf : ∀ a, (f a).length = n) : ∀ (l : List α) (i j : Nat) (x : α), l[i]? = some x → j < n → (l.flatMap f)[i * n + j]? = (f x)[j]?
  | [], i, j, x, h, _ => by simp at h
  | a :: l, 0, j, x, h, hj => by
    simp only [List.getElem?_cons_zero, Option.some.injEq] at h
    subst h
    rw [List.flatMap_cons, Nat.zero_mul, Nat.zero_add, List.getElem?_append_left (by rw [hf]; exact hj)]
  | a :: l, i + 1, j, x, h, hj => by
    rw [List.getElem?_cons_succ] at h
    rw [List.flatMap_cons, List.getElem?_append_right (by rw [hf, Nat.succ_mul]; omega), hf, show (i + 1) * n + j - n = i * n + j by rw [Nat.succ_mul]; omega]
    exact flat_get f n hf l i j x h hj
theorem lreads_own {w : World} {B : Nat} {v : Value} {l : List Nat} (h : w.ownsRow B 69 1 v l.length (lkC l)) : LReads w v l := by
  obtain ⟨A, c, rfl⟩ := own_slice h
  refine ⟨A, c, rfl, fun h0 => ?_⟩
  obtain ⟨g, rfl, _, hc⟩ := own_elem h (by rw [lkC, List.length_map]; exact h0)
  exact ⟨g, 0, rfl, fun i x hi => by rw [Nat.zero_add]; exact hc i _ (by rw [lkC, List.getElem?_map, hi]; rfl)⟩
theorem flat_pos {α : Type} (f : α → List Value) (n : Nat) (hn : 0 < n) (hf : ∀ a, (f a).length = n) : ∀ (l : List α), 0 < l.length → 0 < (l.flatMap f).length
  | a :: l, _ => by rw [List.flatMap_cons, List.length_append, hf]; omega
theorem treads_own {w : World} {B : Nat} {v : Value} {l : List Atr} (h : w.ownsRow B 132 4 v l.length (atC' l)) : TReads w v l := by
  obtain ⟨A, c, rfl⟩ := own_slice h
  refine ⟨A, c, rfl, fun h0 => ?_⟩
  obtain ⟨g, rfl, _, hc⟩ := own_elem h (flat_pos _ 4 (by decide) (fun _ => rfl) l h0)
  refine ⟨g, 0, rfl, fun i x hi => ?_⟩
  have e := fun (j : Nat) (hj : j < 4) => flat_get (fun a => (atrA a).toList) 4 (fun _ => rfl) l i j x hi hj
  simp only [Nat.zero_add]
  exact ⟨hc _ _ (e 0 (by decide)), hc _ _ (e 1 (by decide)), hc _ _ (e 2 (by decide)), hc _ _ (e 3 (by decide))⟩
theorem ereads_own {w : World} {B : Nat} {v : Value} {l : List Evt} (h : w.ownsRow B 134 2 v l.length (evC l)) : EReads w v l := by
  obtain ⟨A, c, rfl⟩ := own_slice h
  refine ⟨A, c, rfl, fun h0 => ?_⟩
  obtain ⟨g, rfl, _, hc⟩ := own_elem h (flat_pos _ 2 (by decide) (fun _ => rfl) l h0)
  refine ⟨g, 0, rfl, fun i x hi => ?_⟩
  have e := fun (j : Nat) (hj : j < 2) => flat_get (fun a => (evtA a).toList) 2 (fun _ => rfl) l i j x hi hj
  simp only [Nat.zero_add]
  exact ⟨hc _ _ (e 0 (by decide)), hc _ _ (e 1 (by decide))⟩
theorem sreads_own {w : World} {B : Nat} {x : Spn} {lv av ev : Value} (h1 : w.ownsRow B 69 1 lv x.links.length (lkC x.links)) (h2 : w.ownsRow B 132 4 av x.ats.length (atC' x.ats)) (h3 : w.ownsRow B 134 2 ev x.evs.length (evC x.evs))
    (l0 : x.links.length ≤ 16) (a0 : x.ats.length ≤ 32) (e0 : x.evs.length ≤ 32) : SReads w x lv av ev :=
  ⟨lreads_own h1, treads_own h2, ereads_own h3, by omega, by omega, by omega⟩
theorem span_ok {L : List Int} {s s' : BSt} {T : List ByteArray} {R : List (Nat × Nat)} {x : Spn} (h : fieldsR T R L s = .ok x s') : spanR T R L s = if checkS x = 0 then .ok x s' else .err s.n (checkS x) := by
  unfold spanR Rdr.chk
  rw [h]
  by_cases hc : checkS x = 0
  · simp only [if_pos hc]
  · simp only [if_neg hc]
end Go.Proofs.YtlcbgklealipoaaGreatDoor
end

