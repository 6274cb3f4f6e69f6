/- Decode: what it hands out, the reader's world cut off, the door behind a panic. -/
import Derived.Test.YtlcbgklealipoaaGreatDoorG12
import Derived.Test.YtlcbgklealipoaaGreatDoorZX
namespace Go.Proofs.YtlcbgklealipoaaGreatDoor
open Go Go.RowKit
set_option linter.unusedVariables false
set_option linter.unusedSimpArgs false

/-- The world below a block. -/
def cutW (n : Nat) (w : World) : World := { w with heap := w.heap.extract 0 n }
section
variable {n k : Nat} {w w0 w1 : World} {S : Nat → Prop}
theorem cut_size (h : n ≤ w.heap.size) : (cutW n w).heap.size = n := by simp [cutW]; omega
theorem cut_get (h : k < n) : (cutW n w).heap[k]? = w.heap[k]? := by
  show (w.heap.extract 0 n)[k]? = _
  rw [Array.getElem?_extract, Nat.zero_add]
  split
  · rfl
  · rename_i h2
    rw [Array.getElem?_eq_none]
    omega
theorem cut_kept (h : n ≤ w.heap.size) : Kept (fun _ => False) (cutW n w) w := ⟨rfl, rfl, rfl, by rw [cut_size h]; exact h, fun k hk _ => by rw [cut_size h] at hk; exact (cut_get hk).symm⟩
theorem kept_cut (h : Kept S w0 w) (hn : w0.heap.size ≤ n) (hw : n ≤ w.heap.size) (hS : ∀ k, k < w0.heap.size → ¬ S k) : Kept (fun _ => False) w0 (cutW n w) :=
  ⟨h.os, h.tape, h.output, by rw [cut_size hw]; exact hn, fun k hk _ => by rw [cut_get (by omega)]; exact h.block k hk (hS k hk)⟩
end
/-- A span and where its lists lie. -/
abbrev LSpn := Spn × Value × Value × Value
def yC (y : LSpn) : List Value := (y.1.cells y.2.1 y.2.2.1 y.2.2.2).toList
structure Own3 (B : Nat) (w : World) (y : LSpn) : Prop where
  l : w.ownsRow B 69 1 y.2.1 y.1.links.length (lkC y.1.links)
  a : w.ownsRow B 132 4 y.2.2.1 y.1.ats.length (atC' y.1.ats)
  e : w.ownsRow B 134 2 y.2.2.2 y.1.evs.length (evC y.1.evs)
/-- Spans that Decode made. -/
structure SOwn (B : Nat) (w : World) (v : Value) (q : List LSpn) : Prop where
  row : w.ownsRow B 76 13 v q.length (q.flatMap yC)
  each : ∀ y ∈ q, Own3 B w y
section
variable {rb r lb n B : Nat} {w0 w W : World} {L : List Int} {T : TT} {R : RR} {tv : TV} {s : BSt} {v v' : Value} {q : List LSpn} {y : LSpn}
theorem Own3.aside {w' : World} (h : Own3 B w y) (hk : Aside w w') : Own3 B w' y := ⟨own_aside h.l hk (by decide) (by decide), own_aside h.a hk (by decide) (by decide), own_aside h.e hk (by decide) (by decide)⟩
theorem Own3.low {B' : Nat} (h : Own3 B w y) (hB : B' ≤ B) : Own3 B' w y := ⟨own_low h.l hB, own_low h.a hB, own_low h.e hB⟩
theorem SOwn.aside {w' : World} (h : SOwn B w v q) (hk : Aside w w') : SOwn B w' v q := ⟨own_aside h.row hk (by decide) (by decide), fun y hy => (h.each y hy).aside hk⟩
theorem SOwn.low {B' : Nat} (h : SOwn B w v q) (hB : B' ≤ B) : SOwn B' w v q := ⟨own_low h.row hB, fun y hy => (h.each y hy).low hB⟩
theorem SOwn.later {w' : World} (h : SOwn B w v q) (hk : Kept (fun _ => False) w w') : SOwn B w' v q := h.aside (.of_kept hk)
/-- The reader's base may be another world of the same size. -/
theorem QAt.rebase {w1 : World} (h : QAt rb r w0 L T R tv s w) (hs : w1.heap.size = w0.heap.size) (hk : Kept (fun _ => False) w1 w) : QAt rb r w1 L T R tv s w := by
  obtain ⟨v, hv⟩ := h.rd
  exact ⟨⟨v, by rw [hs]; exact hv⟩, h.le, by rw [hs]; exact h.blk, by rw [hs]; exact h.base, hk, h.tu, h.ru, h.st⟩
/-- The list of spans grows, and is stored. -/
theorem QAt.push {cs : Array Value} {m : Nat} {xs : List Value} (h : QAt rb r w0 L T R tv s w) (hk : Kept (fun k => k = lb ∨ v.ownBlock = some k) w W) (hlb : w.heap[lb]? = some (.cells cs 25 (0, 0))) (hrow : w.ownsRow w0.heap.size 76 13 v m xs) :
    QAt rb r (cutW w0.heap.size W) L T R tv s W := by
  have hsz : w0.heap.size ≤ W.heap.size := Nat.le_trans h.kept.size hk.size
  obtain ⟨u, hu⟩ := h.rd
  obtain ⟨b1, b2, b3, b4, b5, b6⟩ := h.blk
  have no : ∀ {e sz m : Nat} {x : Value} {xs : List Value}, w.ownsRow w0.heap.size e sz x m xs → e ≠ 25 → e ≠ 76 → ∀ k, x.ownBlock = some k → ¬ (k = lb ∨ v.ownBlock = some k) := by
    intro e sz m x xs hx h25 h76 k hk1
    rintro (e2 | e2)
    · exact own_ne hx hlb (fun e => h25 e.symm) (e2 ▸ hk1)
    · exact row_apart hx hrow h76 k hk1 e2
  have nb : ∀ {k : Nat} {cs' : Array Value} {t : TypeId}, w.heap[k]? = some (.cells cs' t (0, 0)) → t ≠ 25 → t ≠ 76 → ¬ (k = lb ∨ v.ownBlock = some k) := by
    intro k cs' t hc h25 h76
    rintro (rfl | e2)
    · exact h25 (typ_of hlb hc)
    · exact own_ne hrow hc h76 e2
  refine ⟨⟨u, ?_⟩, h.le, ?_, by rw [cut_size hsz]; exact h.base, cut_kept hsz, h.tu, h.ru, h.st⟩
  · rw [cut_size hsz]
    refine hu.kept hk (nb hu.blk (by decide) (by decide)) ?_
    intro k hk1
    rcases hu.lies with ⟨_, he⟩ | ⟨g, c, cur, he, _, hh, _⟩
    · rw [he] at hk1; simp [Value.ownBlock] at hk1
    · rw [he] at hk1
      have : g = k := by simpa [Value.ownBlock] using hk1
      subst this
      exact nb hh (by decide) (by decide)
  · rw [cut_size hsz]
    exact ⟨blk_kept hk b1 (nb b1 (by decide) (by decide)), own_kept b2 hk (no b2 (by decide) (by decide)), own_kept b3 hk (no b3 (by decide) (by decide)), own_kept b4 hk (no b4 (by decide) (by decide)), own_kept b5 hk (no b5 (by decide) (by decide)), b6⟩
theorem SOwn.push {cs : Array Value} {w2 : World} {o : Obj} (h : SOwn B w v q) (hy : Own3 B w y) (hlb : w.heap[lb]? = some (.cells cs 25 (0, 0))) (hrow : w2.ownsRow B 76 13 v' (q.length + 1) (q.flatMap yC ++ yC y)) (hg : (w.alloc o).grownBy w2 v.ownBlock) :
    SOwn B (w2.setCell ⟨lb, 0, none⟩ v') v' (q ++ [y]) ∧ Kept (fun k => k = lb ∨ v.ownBlock = some k) w (w2.setCell ⟨lb, 0, none⟩ v') ∧ w2.heap[lb]? = some (.cells cs 25 (0, 0)) := by
  have k1 : Kept (fun k => v.ownBlock = some k) w w2 := (Kept.alloc _ w _).trans (Kept.of_grown hg fun k e => e) (fun _ _ e => e) fun _ _ e => e
  have k2 : Kept (fun k => k = lb) w2 (w2.setCell ⟨lb, 0, none⟩ v') := .setCell _ _ _ rfl
  have k3 : Kept (fun k => k = lb ∨ v.ownBlock = some k) w (w2.setCell ⟨lb, 0, none⟩ v') := k1.trans k2 (fun _ _ e => .inr e) (fun _ _ e => .inl e)
  have b2 := blk_kept k1 hlb (own_ne h.row hlb (by decide))
  have no : ∀ {e sz m : Nat} {x : Value} {xs : List Value}, w.ownsRow B e sz x m xs → e ≠ 25 → e ≠ 76 → ∀ k, x.ownBlock = some k → ¬ (k = lb ∨ v.ownBlock = some k) := by
    intro e sz m x xs hx h25 h76 k hk1
    rintro (e2 | e2)
    · exact own_ne hx hlb (fun e => h25 e.symm) (e2 ▸ hk1)
    · exact row_apart hx h.row h76 k hk1 e2
  have o3 : ∀ z : LSpn, Own3 B w z → Own3 B (w2.setCell ⟨lb, 0, none⟩ v') z := fun z hz => ⟨own_kept hz.l k3 (no hz.l (by decide) (by decide)), own_kept hz.a k3 (no hz.a (by decide) (by decide)), own_kept hz.e k3 (no hz.e (by decide) (by decide))⟩
  refine ⟨⟨?_, ?_⟩, k3, b2⟩
  · rw [List.length_append, List.flatMap_append, List.flatMap_singleton]
    exact own_kept hrow k2 fun k e e2 => own_ne hrow b2 (by decide) (e2 ▸ e)
  · intro z hz
    rcases List.mem_append.1 hz with hz | hz
    · exact o3 z (h.each z hz)
    · rw [List.mem_singleton] at hz; subst hz; exact o3 z hy
end
/-- What Decode answers. -/
def DecPost (L : List Int) (w : World) (e : Ending) (w' : World) : Prop :=
  match decB L with
  | .ok l => ∃ v q, e = .returned (.tuple #[v, .nilIface]) ∧ q.map Prod.fst = l ∧ SOwn w.heap.size w' v q ∧ Kept (fun _ => False) w w'
  | .err a no => ∃ g, e = .returned (.tuple #[.slice none 0 0, .iface 35 (.pointer (some ⟨g, 0, none⟩))]) ∧ w'.heap[g]? = some (.cells #[.int .i64 a, .int .i64 no] 39 (0, 0)) ∧ Kept (fun _ => False) w w'
/-- The two results' cells, read. -/
theorem res13 {tm : Array Value} {lb eb : Nat} {v u : Value} {W : World} (h2 : tm.getD 2 undef = .pointer (some ⟨lb, 0, none⟩)) (h3 : tm.getD 3 undef = .pointer (some ⟨eb, 0, none⟩))
    (hl : W.cell? ⟨lb, 0, none⟩ = some v) (he : W.cell? ⟨eb, 0, none⟩ = some u) : (results Tryz.f13 tm).run Tryz.prog W = .ok (.tuple #[v, u]) W := by
  rw [Array.getD_eq_getD_getElem?] at h2 h3
  simp [results, Tryz.results13, h2, h3, asAddr, loadVar, isAgg, underlying, Tryz.underlying25, Tryz.underlying28, hl, he, Result.andThen]
/-- Behind a panic: the door. -/
theorem door_stop {L : List Int} {w w0 w1 : World} {lb eb : Nat} {a no : Int} {tm : Array Value} {c : List PanicEntry} {v u : Value} (hres : decB L = .err a no) (hst : Stop a no w0 (.panicked c) w1) (hK : Kept (fun _ => False) w w0)
    (hl : w0.heap[lb]? = some (.cells #[v] 25 (0, 0))) (he : w0.heap[eb]? = some (.cells #[u] 28 (0, 0))) (hl0 : w.heap.size ≤ lb) (he0 : w.heap.size ≤ eb) (hw : 0 < w.heap.size) (hnd : Handle w)
    (h2 : tm.getD 2 undef = .pointer (some ⟨lb, 0, none⟩)) (h3 : tm.getD 3 undef = .pointer (some ⟨eb, 0, none⟩)) :
    bodyPostD Tryz.prog Tryz.f13 (DecPost L w) (.panic c) ⟨tm, [{ target := .fn (.func 40) #[.pointer (some ⟨lb, 0, none⟩), .pointer (some ⟨eb, 0, none⟩)], args := #[] }]⟩ w1 := by
  obtain ⟨sq, f, hc, hq, hf, hk⟩ := hst
  injection hc with hc
  subst hc
  have kw := hK.trans hk (U := fun _ => False) (fun _ _ e => e) (fun _ _ e => e)
  have bl := blk_kept hk hl (fun e => e)
  have be := blk_kept hk he (fun e => e)
  refine leaves_cons (f := 40) (args := #[.pointer (some ⟨lb, 0, none⟩), .pointer (some ⟨eb, 0, none⟩)]) (by simp) (by simp [go_sem]) ?_
  refine (dec1_stopped lb eb sq f a no _ _ w1 (hnd.kept kw (fun e => e)) hq bl be rfl rfl (by omega)).mono ?_
  rintro e u' w'' ⟨rfl, rfl, r1, r2, r3⟩
  simp only [settle, List.dropWhile_nil]
  refine ⟨_, res13 h2 h3 ((blk_cell r1 0).trans rfl) ((blk_cell r2 0).trans rfl), ?_⟩
  unfold DecPost
  rw [hres]
  refine ⟨f, rfl, blk_kept r3 hf ?_, kw.trans r3 (fun _ _ e => e) (fun i hi e => by rcases e with e | e <;> omega)⟩
  rintro (rfl | rfl)
  · have := typ_of bl hf; cases this
  · have := typ_of be hf; cases this
/-- Behind a return: the door. -/
theorem door_ret {L : List Int} {w w1 : World} {lb eb : Nat} {tm : Array Value} {v u : Value} (hl : w1.cell? ⟨lb, 0, none⟩ = some v) (he : w1.cell? ⟨eb, 0, none⟩ = some u)
    (h2 : tm.getD 2 undef = .pointer (some ⟨lb, 0, none⟩)) (h3 : tm.getD 3 undef = .pointer (some ⟨eb, 0, none⟩)) (hp : DecPost L w (.returned (.tuple #[v, u])) w1) :
    bodyPostD Tryz.prog Tryz.f13 (DecPost L w) .ret ⟨tm, [{ target := .fn (.func 40) #[.pointer (some ⟨lb, 0, none⟩), .pointer (some ⟨eb, 0, none⟩)], args := #[] }]⟩ w1 := by
  refine leaves_cons (f := 40) (args := #[.pointer (some ⟨lb, 0, none⟩), .pointer (some ⟨eb, 0, none⟩)]) (by simp) (by simp [go_sem]) ?_
  refine (dec1_idle _ _ w1).mono ?_
  rintro e u' w'' ⟨rfl, rfl, rfl⟩
  simp only [settle]
  exact ⟨_, res13 h2 h3 hl he, hp⟩
theorem door_ret0 {L : List Int} {w w1 : World} {lb eb : Nat} {tm : Array Value} {v u : Value} (hl : w1.cell? ⟨lb, 0, none⟩ = some v) (he : w1.cell? ⟨eb, 0, none⟩ = some u)
    (h2 : tm.getD 2 undef = .pointer (some ⟨lb, 0, none⟩)) (h3 : tm.getD 3 undef = .pointer (some ⟨eb, 0, none⟩)) (hp : DecPost L w (.returned (.tuple #[v, u])) w1) :
    bodyPostD Tryz.prog Tryz.f13 (DecPost L w) .ret ⟨tm, []⟩ w1 := ⟨_, res13 h2 h3 hl he, hp⟩
end Go.Proofs.YtlcbgklealipoaaGreatDoor
