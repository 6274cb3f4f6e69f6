import Derived.Test.YtlcbgklealipoaaGreatDoorLib
import Derived.Deep.RegionLaw
import Derived.Deep.RegionHeld3
import Derived.Test.YtlcbgklealipoaaGreatDoorZP
import Derived.Test.YtlcbgklealipoaaGreatDoorRd
import Derived.LaidEql
import Derived.Stop.Asserts
import Derived.RowKitTokens
import Derived.Defers
import Derived.Recover
section
/- A call of a function that has a body, as a step: in a region that draws its order, and in a plain one. -/
namespace Go.Proofs.YtlcbgklealipoaaGreatDoor
open Go Go.RowKit
set_option linter.unusedVariables false
set_option linter.unusedSimpArgs false

section
variable {P : Program} {w : World} {ops : Array Oper} {rest : List Oper} {o : Oper} {a : Act} {Q : Exit → Act → World → Prop} {K : Act → World → Prop} {E' : Prop} {f : FuncId} {fn : Func} {R : Ending → World → Prop}
theorem run_fn (hf : P.funcs[f]? = some fn) (hn : (fn.name == "runtime.NumGoroutine") = false) (hb : fn.body.isNone = false) (args : Array Value) (w : World) : (callFunc f args).run P w = .ok (.enter f args) w := by
  unfold callFunc
  simp only [Sem.run_bind, run_program, Result.andThen_ok, hf, hn, hb, Bool.false_eq_true, if_false, Sem.run_pure]
theorem wp_fn (ars : Array Operand) (ts : Array TypeId) (ho : o.op = .call { callee := .value (.func f), args := ars, argTypes := ts })
    (hf : P.funcs[f]? = some fn) (hn : (fn.name == "runtime.NumGoroutine") = false) (hb : fn.body.isNone = false) (hc : Calls P f (ars.map a.eval) w R)
    (hR : ∀ e w', R e w' → match e, w' with | .returned v, w'' => K (a.put o.dst v) w'' | .panicked c, w'' => Q (.panic c) a w'' | .outgrown, _ => LetsOut Q) : Oper.wp P o a w K Q := by
  unfold Oper.wp execOp
  simp only [ho, resolve, Deferred.ofValue, Act.eval, invoke, Sem.run_bind, Sem.run_pure, Result.andThen_ok, Array.append_empty, Array.empty_append, run_fn hf hn hb, Oper.upon_enter]
  exact hc.mono hR
theorem step_fn1 (hgd : o.guard = none) (x : Operand) (ts : Array TypeId) (ho : o.op = .call { callee := .value (.func f), args := #[x], argTypes := ts })
    (hf : P.funcs[f]? = some fn) (hn : (fn.name == "runtime.NumGoroutine") = false) (hb : fn.body.isNone = false) (vx : Value) (hx : a.eval x = vx) (hc : Calls P f #[vx] w R)
    (hR : ∀ e w', R e w' → match e, w' with | .returned v, w'' => K (a.put o.dst v) w'' | .panicked c, w'' => Q (.panic c) a w'' | .outgrown, _ => LetsOut Q) :
    if Region.wanted o (yielded ops a.tmps) = true then Oper.wp P o a w K Q else E' := by
  have hw : Region.wanted o (yielded ops a.tmps) = true := by simp [Region.wanted, hgd]
  rw [if_pos hw]
  subst hx
  exact wp_fn #[x] ts ho hf hn hb (by simpa using hc) hR
theorem step_fn2 (hgd : o.guard = none) (x y : Operand) (ts : Array TypeId) (ho : o.op = .call { callee := .value (.func f), args := #[x, y], argTypes := ts })
    (hf : P.funcs[f]? = some fn) (hn : (fn.name == "runtime.NumGoroutine") = false) (hb : fn.body.isNone = false) (vx vy : Value) (hx : a.eval x = vx) (hy : a.eval y = vy) (hc : Calls P f #[vx, vy] w R)
    (hR : ∀ e w', R e w' → match e, w' with | .returned v, w'' => K (a.put o.dst v) w'' | .panicked c, w'' => Q (.panic c) a w'' | .outgrown, _ => LetsOut Q) :
    if Region.wanted o (yielded ops a.tmps) = true then Oper.wp P o a w K Q else E' := by
  have hw : Region.wanted o (yielded ops a.tmps) = true := by simp [Region.wanted, hgd]
  rw [if_pos hw]
  subst hx hy
  exact wp_fn #[x, y] ts ho hf hn hb (by simpa using hc) hR
theorem step_fn3 (hgd : o.guard = none) (x y z : Operand) (ts : Array TypeId) (ho : o.op = .call { callee := .value (.func f), args := #[x, y, z], argTypes := ts })
    (hf : P.funcs[f]? = some fn) (hn : (fn.name == "runtime.NumGoroutine") = false) (hb : fn.body.isNone = false) (vx vy vz : Value) (hx : a.eval x = vx) (hy : a.eval y = vy) (hz : a.eval z = vz) (hc : Calls P f #[vx, vy, vz] w R)
    (hR : ∀ e w', R e w' → match e, w' with | .returned v, w'' => K (a.put o.dst v) w'' | .panicked c, w'' => Q (.panic c) a w'' | .outgrown, _ => LetsOut Q) :
    if Region.wanted o (yielded ops a.tmps) = true then Oper.wp P o a w K Q else E' := by
  have hw : Region.wanted o (yielded ops a.tmps) = true := by simp [Region.wanted, hgd]
  rw [if_pos hw]
  subst hx hy hz
  exact wp_fn #[x, y, z] ts ho hf hn hb (by simpa using hc) hR
theorem wpList_fn1 (hgd : o.guard = none) (x : Operand) (ts : Array TypeId) (ho : o.op = .call { callee := .value (.func f), args := #[x], argTypes := ts })
    (hf : P.funcs[f]? = some fn) (hn : (fn.name == "runtime.NumGoroutine") = false) (hb : fn.body.isNone = false) (vx : Value) (hx : a.eval x = vx) (hc : Calls P f #[vx] w R)
    (hR : ∀ e w', R e w' → match e, w' with | .returned v, w'' => wpList P ops Q rest (a.put o.dst v) w'' | .panicked c, w'' => Q (.panic c) a w'' | .outgrown, _ => LetsOut Q) : wpList P ops Q (o :: rest) a w :=
  wpList_plain hgd fun _ hK => wp_fn #[x] ts ho hf hn hb (by subst hx; simpa using hc) fun e w' h => by
    have := hR e w' h
    cases e with
    | returned v => exact hK _ _ this
    | panicked c => exact this
    | outgrown => exact this
theorem wpList_fn2 (hgd : o.guard = none) (x y : Operand) (ts : Array TypeId) (ho : o.op = .call { callee := .value (.func f), args := #[x, y], argTypes := ts })
    (hf : P.funcs[f]? = some fn) (hn : (fn.name == "runtime.NumGoroutine") = false) (hb : fn.body.isNone = false) (vx vy : Value) (hx : a.eval x = vx) (hy : a.eval y = vy) (hc : Calls P f #[vx, vy] w R)
    (hR : ∀ e w', R e w' → match e, w' with | .returned v, w'' => wpList P ops Q rest (a.put o.dst v) w'' | .panicked c, w'' => Q (.panic c) a w'' | .outgrown, _ => LetsOut Q) : wpList P ops Q (o :: rest) a w :=
  wpList_plain hgd fun _ hK => wp_fn #[x, y] ts ho hf hn hb (by subst hx hy; simpa using hc) fun e w' h => by
    have := hR e w' h
    cases e with
    | returned v => exact hK _ _ this
    | panicked c => exact this
    | outgrown => exact this
theorem wpList_fn3 (hgd : o.guard = none) (x y z : Operand) (ts : Array TypeId) (ho : o.op = .call { callee := .value (.func f), args := #[x, y, z], argTypes := ts })
    (hf : P.funcs[f]? = some fn) (hn : (fn.name == "runtime.NumGoroutine") = false) (hb : fn.body.isNone = false) (vx vy vz : Value) (hx : a.eval x = vx) (hy : a.eval y = vy) (hz : a.eval z = vz) (hc : Calls P f #[vx, vy, vz] w R)
    (hR : ∀ e w', R e w' → match e, w' with | .returned v, w'' => wpList P ops Q rest (a.put o.dst v) w'' | .panicked c, w'' => Q (.panic c) a w'' | .outgrown, _ => LetsOut Q) : wpList P ops Q (o :: rest) a w :=
  wpList_plain hgd fun _ hK => wp_fn #[x, y, z] ts ho hf hn hb (by subst hx hy hz; simpa using hc) fun e w' h => by
    have := hR e w' h
    cases e with
    | returned v => exact hK _ _ this
    | panicked c => exact this
    | outgrown => exact this
end
/-! ### a region that draws its order, under a condition that its loads lean on -/
section
variable {P : Program} {ops : Array Oper} {Q : Exit → Act → World → Prop} {md : Region.Mode} {S : World → Prop} {oi : Oper} {v : Value} {fuel : Nat} {listed : Array Bool} {ts : Array Value} {ds : List Deferred} {w : World} {f : FuncId} {fn : Func} {R : Ending → World → Prop}
theorem takeH (i d : Nat) (hi : ops[i]? = some oi) (hs : Region.noSelect ops = true) (hf : Region.free md ops listed i = true) (hr : (Region.ready md ops listed).contains i = true)
    (hQ : ∀ c a w, Q (.panic c) (a.put oi.dst v) w → Q (.panic c) a w) (hd : oi.dst = some d) (hw : Region.wanted oi (yielded ops ts) = true) (hy : ∀ w, S w → (execOp (Act.eval ⟨ts, ds⟩) oi).run P w = .ok (.value v) w) (hS : S w)
    (h : wpAnyH P md ops Q S fuel (listed.setIfInBounds i true) ⟨ts.setIfInBounds d v, ds⟩ w) : wpAnyH P md ops Q S (fuel + 1) listed ⟨ts, ds⟩ w :=
  wpAnyH_take hi hs hf hr hQ (.inl ⟨hw, hy⟩) hS (by rw [hd]; exact h)
theorem stepH (i d : Nat) (hr : Region.ready md ops listed = [i]) (hi : ops[i]? = some oi) (hgd : oi.guard = none) (hd : oi.dst = some d) (ars : Array Operand) (tt : Array TypeId)
    (ho : oi.op = .call { callee := .value (.func f), args := ars, argTypes := tt }) (hf : P.funcs[f]? = some fn) (hn : (fn.name == "runtime.NumGoroutine") = false) (hb : fn.body.isNone = false)
    (hc : Calls P f (ars.map (Act.eval ⟨ts, ds⟩)) w R)
    (hR : ∀ e w', R e w' → match e, w' with | .returned v, w'' => S w'' ∧ (S w'' → wpAnyH P md ops Q S fuel (listed.setIfInBounds i true) ⟨ts.setIfInBounds d v, ds⟩ w'') | .panicked c, w'' => Q (.panic c) ⟨ts, ds⟩ w'' | .outgrown, _ => LetsOut Q) :
    wpAnyH P md ops Q S (fuel + 1) listed ⟨ts, ds⟩ w := by
  refine wpAnyH_ready (rs := [i]) hr (by simp) (AllReadyH.cons hi (fun K hK => ?_) AllReadyH.nil)
  have hw : Region.wanted oi (yielded ops ts) = true := by simp [Region.wanted, hgd]
  rw [if_pos hw]
  refine wp_fn ars tt ho hf hn hb hc fun e w' h => ?_
  have := hR e w' h
  cases e with
  | returned v =>
    refine hK.out _ _ this.1 ?_
    rw [hd]
    exact this.2
  | panicked c => exact this
  | outgrown => exact this
theorem stepH1 (i d : Nat) (hr : Region.ready md ops listed = [i]) (hi : ops[i]? = some oi) (hgd : oi.guard = none) (hd : oi.dst = some d) (x : Operand) (tt : Array TypeId)
    (ho : oi.op = .call { callee := .value (.func f), args := #[x], argTypes := tt }) (hf : P.funcs[f]? = some fn) (hn : (fn.name == "runtime.NumGoroutine") = false) (hb : fn.body.isNone = false)
    (vx : Value) (hx : Act.eval ⟨ts, ds⟩ x = vx) (hc : Calls P f #[vx] w R)
    (hR : ∀ e w', R e w' → match e, w' with | .returned v, w'' => S w'' ∧ (S w'' → wpAnyH P md ops Q S fuel (listed.setIfInBounds i true) ⟨ts.setIfInBounds d v, ds⟩ w'') | .panicked c, w'' => Q (.panic c) ⟨ts, ds⟩ w'' | .outgrown, _ => LetsOut Q) :
    wpAnyH P md ops Q S (fuel + 1) listed ⟨ts, ds⟩ w := stepH i d hr hi hgd hd #[x] tt ho hf hn hb (by subst hx; simpa using hc) hR
theorem stepH2 (i d : Nat) (hr : Region.ready md ops listed = [i]) (hi : ops[i]? = some oi) (hgd : oi.guard = none) (hd : oi.dst = some d) (x y : Operand) (tt : Array TypeId)
    (ho : oi.op = .call { callee := .value (.func f), args := #[x, y], argTypes := tt }) (hf : P.funcs[f]? = some fn) (hn : (fn.name == "runtime.NumGoroutine") = false) (hb : fn.body.isNone = false)
    (vx vy : Value) (hx : Act.eval ⟨ts, ds⟩ x = vx) (hy : Act.eval ⟨ts, ds⟩ y = vy) (hc : Calls P f #[vx, vy] w R)
    (hR : ∀ e w', R e w' → match e, w' with | .returned v, w'' => S w'' ∧ (S w'' → wpAnyH P md ops Q S fuel (listed.setIfInBounds i true) ⟨ts.setIfInBounds d v, ds⟩ w'') | .panicked c, w'' => Q (.panic c) ⟨ts, ds⟩ w'' | .outgrown, _ => LetsOut Q) :
    wpAnyH P md ops Q S (fuel + 1) listed ⟨ts, ds⟩ w := stepH i d hr hi hgd hd #[x, y] tt ho hf hn hb (by subst hx hy; simpa using hc) hR
theorem stepH3 (i d : Nat) (hr : Region.ready md ops listed = [i]) (hi : ops[i]? = some oi) (hgd : oi.guard = none) (hd : oi.dst = some d) (x y z : Operand) (tt : Array TypeId)
    (ho : oi.op = .call { callee := .value (.func f), args := #[x, y, z], argTypes := tt }) (hf : P.funcs[f]? = some fn) (hn : (fn.name == "runtime.NumGoroutine") = false) (hb : fn.body.isNone = false)
    (vx vy vz : Value) (hx : Act.eval ⟨ts, ds⟩ x = vx) (hy : Act.eval ⟨ts, ds⟩ y = vy) (hz : Act.eval ⟨ts, ds⟩ z = vz) (hc : Calls P f #[vx, vy, vz] w R)
    (hR : ∀ e w', R e w' → match e, w' with | .returned v, w'' => S w'' ∧ (S w'' → wpAnyH P md ops Q S fuel (listed.setIfInBounds i true) ⟨ts.setIfInBounds d v, ds⟩ w'') | .panicked c, w'' => Q (.panic c) ⟨ts, ds⟩ w'' | .outgrown, _ => LetsOut Q) :
    wpAnyH P md ops Q S (fuel + 1) listed ⟨ts, ds⟩ w := stepH i d hr hi hgd hd #[x, y, z] tt ho hf hn hb (by subst hx hy hz; simpa using hc) hR
end
end Go.Proofs.YtlcbgklealipoaaGreatDoor
end

section
/- What Decode has in hand: the reader, its tables. -/
namespace Go.Proofs.YtlcbgklealipoaaGreatDoor
open Go Go.RowKit
set_option linter.unusedVariables false
set_option linter.unusedSimpArgs false

/-- Given up at a place. -/
def Stop (a no : Int) (w0 : World) (e : Ending) (w' : World) : Prop :=
  ∃ q f, e = .panicked [{ v := .iface 99 (.pointer (some ⟨q, 0, none⟩)), recovered := false }] ∧ w'.heap[q]? = some (.cells #[.iface 35 (.pointer (some ⟨f, 0, none⟩))] 187 (0, 0)) ∧ w'.heap[f]? = some (.cells #[.int .i64 a, .int .i64 no] 39 (0, 0)) ∧ Kept (fun _ => False) w0 w'
theorem Stop.later {a no : Int} {w0 w1 : World} {e : Ending} {w' : World} (hk : Kept (fun _ => False) w0 w1) (h : Stop a no w1 e w') : Stop a no w0 e w' := by
  obtain ⟨q, f, h1, h2, h3, h4⟩ := h
  exact ⟨q, f, h1, h2, h3, hk.trans h4 (fun _ _ e => e) (fun _ _ e => e)⟩
/-- The reader's eight cells. -/
def rC (r : Nat) (tl ta : Value) (tu : Nat) (rl ra : Value) (ru : Nat) (st : Int) : Array Value := #[.pointer (some ⟨r, 0, none⟩), tl, ta, .int .i64 tu, rl, ra, .int .i64 ru, .int .i64 st]
/-- The tables' four lists. -/
structure TV where
  tl : Value
  ta : Value
  rl : Value
  ra : Value
abbrev TT := List (ByteArray × Nat)
abbrev RR := List ((Nat × Nat) × Nat)
def tCells (T : TT) : List Value := T.map fun x => .string x.1
def rCells (R : RR) : List Value := R.flatMap fun x => trC x.1
def atCells {α : Type} (T : List (α × Nat)) : List Value := T.map fun x => .int .i64 x.2
/-- Blocks of cells that are none of the reader's stay. -/
def Aside (w w' : World) : Prop := ∀ (xb : Nat) (cs : Array Value) (t : TypeId) (fr : Nat × Nat), w.heap[xb]? = some (.cells cs t fr) → t ≠ 110 → t ≠ 171 → w'.heap[xb]? = some (.cells cs t fr)
theorem Aside.refl (w : World) : Aside w w := fun _ _ _ _ h _ _ => h
theorem Aside.trans {a b c : World} (h : Aside a b) (k : Aside b c) : Aside a c := fun xb cs t fr e h1 h2 => k xb cs t fr (h xb cs t fr e h1 h2) h1 h2
theorem Aside.of_kept {w w' : World} (h : Kept (fun _ => False) w w') : Aside w w' := fun xb cs t fr e _ _ => blk_kept h e (fun h => h)
theorem own_aside {w w' : World} {base : Nat} {e : TypeId} {size n : Nat} {v : Value} {xs : List Value} (h : w.ownsRow base e size v n xs) (hk : Aside w w') (h1 : e ≠ 110) (h2 : e ≠ 171) : w'.ownsRow base e size v n xs := by
  refine ⟨h.1, ?_⟩
  rcases h.2 with hn | ⟨g, cap, cur, rfl, hb, hgg, rest⟩
  · exact .inl hn
  · exact .inr ⟨g, cap, cur, rfl, hb, hk _ _ _ _ hgg h1 h2, rest⟩
theorem lies_aside {w w' : World} {E B : Nat} {v : Value} {l : List Int} (h : Lies E B w v l) (hk : Aside w w') (h1 : E ≠ 110) (h2 : E ≠ 171) : Lies E B w' v l := by
  rcases h with h | ⟨g, c, cur, rfl, hb, hh, rest⟩
  · exact .inl h
  · exact .inr ⟨g, c, cur, rfl, hb, hk _ _ _ _ hh h1 h2, rest⟩
structure QAt (rb r : Nat) (w0 : World) (L : List Int) (T : TT) (R : RR) (tv : TV) (s : BSt) (w : World) : Prop where
  rd : ∃ v, RdAt w0.heap.size w r v L s.n
  le : s.n ≤ L.length
  blk : w.heap[rb]? = some (.cells (rC r tv.tl tv.ta s.tu tv.rl tv.ra s.ru s.st) 110 (0, 0)) ∧ w.ownsRow w0.heap.size 9 1 tv.tl T.length (tCells T) ∧ w.ownsRow w0.heap.size 3 1 tv.ta T.length (atCells T) ∧
    w.ownsRow w0.heap.size 68 2 tv.rl R.length (rCells R) ∧ w.ownsRow w0.heap.size 3 1 tv.ra R.length (atCells R) ∧ ∀ k, tv.ta.ownBlock = some k → tv.ra.ownBlock ≠ some k
  base : w0.heap.size ≤ rb
  kept : Kept (fun _ => False) w0 w
  tu : s.tu ≤ T.length
  ru : s.ru ≤ R.length
  st : -9223372036854775808 ≤ s.st ∧ s.st ≤ 9223372036854775807
/-- What a reader's function answers. -/
def QPost {α : Type} (rb r : Nat) (w0 : World) (L : List Int) (T : TT) (R : RR) (tv : TV) (res : BRes α) (V : α → Value → World → Prop) (w : World) (e : Ending) (w' : World) : Prop :=
  match res with
  | .ok a s' => ∃ v, e = .returned v ∧ V a v w' ∧ QAt rb r w0 L T R tv s' w' ∧ Aside w w'
  | .err a no => Stop a no w0 e w'
section
variable {rb r : Nat} {w0 w : World} {L : List Int} {T : TT} {R : RR} {tv : TV} {s : BSt}
theorem QAt.c0 (h : QAt rb r w0 L T R tv s w) : w.cell? ⟨rb, 0, none⟩ = some (.pointer (some ⟨r, 0, none⟩)) := by
  obtain ⟨h1, _⟩ := h.blk
  exact (blk_cell h1 0).trans rfl
theorem QAt.c3 (h : QAt rb r w0 L T R tv s w) : w.cell? ⟨rb, 3, none⟩ = some (.int .i64 s.tu) := by
  obtain ⟨h1, _⟩ := h.blk
  exact (blk_cell h1 3).trans rfl
theorem QAt.c6 (h : QAt rb r w0 L T R tv s w) : w.cell? ⟨rb, 6, none⟩ = some (.int .i64 s.ru) := by
  obtain ⟨h1, _⟩ := h.blk
  exact (blk_cell h1 6).trans rfl
theorem QAt.c7 (h : QAt rb r w0 L T R tv s w) : w.cell? ⟨rb, 7, none⟩ = some (.int .i64 s.st) := by
  obtain ⟨h1, _⟩ := h.blk
  exact (blk_cell h1 7).trans rfl
theorem QAt.frozen (h : QAt rb r w0 L T R tv s w) (i : Nat) : w.frozen? ⟨rb, i, none⟩ = false := by
  obtain ⟨h1, _⟩ := h.blk
  exact blk_frozen h1 i
theorem QAt.later {w' : World} (h : QAt rb r w0 L T R tv s w) (hk : Kept (fun _ => False) w w') : QAt rb r w0 L T R tv s w' := by
  obtain ⟨v, hv⟩ := h.rd
  obtain ⟨h1, h2, h3, h4, h5, h6⟩ := h.blk
  have no : ∀ {v : Value}, ∀ k, v.ownBlock = some k → ¬ False := fun k _ e => e
  exact ⟨⟨v, hv.kept hk (fun h => h) (fun _ _ h => h)⟩, h.le, ⟨blk_kept hk h1 (fun h => h), own_kept h2 hk (fun _ _ h => h), own_kept h3 hk (fun _ _ h => h), own_kept h4 hk (fun _ _ h => h), own_kept h5 hk (fun _ _ h => h), h6⟩, h.base, h.kept.trans hk (fun _ _ e => e) (fun _ _ e => e), h.tu, h.ru, h.st⟩
theorem QAt.alloc (h : QAt rb r w0 L T R tv s w) (o : Obj) : QAt rb r w0 L T R tv s (w.alloc o) := h.later (.alloc _ _ _)
theorem QAt.drew (h : QAt rb r w0 L T R tv s w) : QAt rb r w0 L T R tv s w.drew := h.later (.drew _ _)
theorem typ_of {w : World} {k : Nat} {cs cs' : Array Value} {t t' : TypeId} {fr fr' : Nat × Nat} (h : w.heap[k]? = some (.cells cs t fr)) (h' : w.heap[k]? = some (.cells cs' t' fr')) : @Eq Nat t' t := by
  rw [h] at h'
  injection h' with h'
  injection h' with _ h2 _
  exact h2.symm
/-- The wire's reader has moved. -/
theorem QAt.moved {w' : World} {v : Value} {m : Nat} (h : QAt rb r w0 L T R tv s w) (hv : RdAt w0.heap.size w r v L s.n) (hv' : RdAt w0.heap.size w' r v L m) (hk : Kept (fun i => i = r) w w') (hm : m ≤ L.length) : QAt rb r w0 L T R tv { s with n := m } w' ∧ Aside w w' := by
  obtain ⟨h1, h2, h3, h4, h5, h6⟩ := h.blk
  have no : ∀ {e : TypeId} {sz n : Nat} {u : Value} {xs : List Value}, w.ownsRow w0.heap.size e sz u n xs → e ≠ 171 → ∀ k, u.ownBlock = some k → ¬ k = r := by
    rintro e sz n u xs hu he k hk1 rfl
    exact own_ne hu hv.blk (fun h => he h.symm) hk1
  have ap : Aside w w' := fun xb cs t fr hx g1 g2 => blk_kept hk hx (by rintro rfl; exact g2 (typ_of hv.blk hx))
  refine ⟨⟨⟨v, hv'⟩, hm, ⟨blk_kept hk h1 (by rintro rfl; have := typ_of hv.blk h1; cases this), own_kept h2 hk (no h2 (by decide)), own_kept h3 hk (no h3 (by decide)), own_kept h4 hk (no h4 (by decide)), own_kept h5 hk (no h5 (by decide)), h6⟩, h.base, h.kept.trans hk (fun _ _ e => e) (fun i hi e => by have := hv.base; omega), h.tu, h.ru, h.st⟩, ap⟩
/-- One of the reader's own numbers is set. -/
theorem QAt.set {s' : BSt} {i : Nat} {u : Value} (h : QAt rb r w0 L T R tv s w) (hn : s'.n = s.n) (hC : ∀ tl ta rl ra, (rC r tl ta s.tu rl ra s.ru s.st).setIfInBounds i u = rC r tl ta s'.tu rl ra s'.ru s'.st) (htu : s'.tu ≤ T.length) (hru : s'.ru ≤ R.length) (hst : -9223372036854775808 ≤ s'.st ∧ s'.st ≤ 9223372036854775807) :
    QAt rb r w0 L T R tv s' (w.setCell ⟨rb, i, none⟩ u) ∧ Aside w (w.setCell ⟨rb, i, none⟩ u) := by
  obtain ⟨v, hv⟩ := h.rd
  obtain ⟨h1, h2, h3, h4, h5, h6⟩ := h.blk
  have hk : Kept (fun k => k = rb) w (w.setCell ⟨rb, i, none⟩ u) := .setCell _ _ _ rfl
  have no : ∀ {e : TypeId} {sz n : Nat} {x : Value} {xs : List Value}, w.ownsRow w0.heap.size e sz x n xs → e ≠ 110 → ∀ k, x.ownBlock = some k → ¬ k = rb := by
    rintro e sz n x xs hu he k hk1 rfl
    exact own_ne hu h1 (fun h => he h.symm) hk1
  have hb := blk_set h1 i u
  rw [hC] at hb
  refine ⟨⟨⟨v, ?_⟩, by rw [hn]; exact h.le, ⟨hb, own_kept h2 hk (no h2 (by decide)), own_kept h3 hk (no h3 (by decide)), own_kept h4 hk (no h4 (by decide)), own_kept h5 hk (no h5 (by decide)), h6⟩, h.base, h.kept.trans hk (fun _ _ e => e) (fun i hi e => by have := h.base; omega), htu, hru, hst⟩, fun xb cs t fr hx g1 g2 => blk_kept hk hx (by rintro rfl; exact g1 (typ_of h1 hx))⟩
  rw [hn]
  refine hv.kept hk (by rintro rfl; have := typ_of h1 hv.blk; cases this) fun k hk' e => ?_
  subst e
  rcases hv.lies with ⟨_, he⟩ | ⟨g, c, cur, he, _, hh, _⟩
  · rw [he] at hk'; simp [Value.ownBlock] at hk'
  · rw [he] at hk'
    have : g = k := by simpa [Value.ownBlock] using hk'
    subst this
    have := typ_of h1 hh
    cases this
end
end Go.Proofs.YtlcbgklealipoaaGreatDoor
end

section
/- stop and wrong: how a reader gives up (the walks). -/
namespace Go.Proofs.YtlcbgklealipoaaGreatDoor
open Go Go.RowKit
set_option linter.unusedVariables false
set_option linter.unusedSimpArgs false

theorem stop_nil (w : World) : Calls Tryz.prog 48 #[.nilIface] w fun e w' => e = .returned (.tuple #[]) ∧ w' = w := by
  go_enter Tryz.func48, Tryz.ntmps48
  go_wp2_with fail
  go_end0
  exact ⟨rfl, rfl⟩
theorem stop_err {a no : Int} {w0 w : World} {f : Nat} (hk : Kept (fun _ => False) w0 w) (hf : w.heap[f]? = some (.cells #[.int .i64 a, .int .i64 no] 39 (0, 0))) :
    Calls Tryz.prog 48 #[.iface 35 (.pointer (some ⟨f, 0, none⟩))] w (Stop a no w0) := by
  have HF := Lib.hid (And.intro hk hf)
  clear hk hf
  go_enter Tryz.func48, Tryz.ntmps48
  go_wp2_with fail
  exact ⟨rfl, w.heap.size, f, rfl, heap_alloc_new w _, blk_kept (.alloc (fun _ => False) w _) HF.out.2 (fun h => h), HF.out.1.trans (.alloc _ _ _) (fun _ _ e => e) (fun _ _ e => e)⟩
theorem wrong_no (a no : Int) (w : World) : Calls Tryz.prog 46 #[.bool false, .int .i64 a, .int .i64 no] w fun e w' => e = .returned (.tuple #[]) ∧ w' = w := by
  go_enter Tryz.func46, Tryz.ntmps46
  go_wp2_with fail
  go_end0
  exact ⟨rfl, rfl⟩
theorem wrong_yes {w0 w : World} (a no : Int) (hk : Kept (fun _ => False) w0 w) : Calls Tryz.prog 46 #[.bool true, .int .i64 a, .int .i64 no] w (Stop a no w0) := by
  have HK := Lib.hid hk
  clear hk
  go_enter Tryz.func46, Tryz.ntmps46
  go_wp2_with (go_at_call 48; (with_reducible refine (stop_err (a := a) (no := no) (w0 := w0) (HK.out.trans (.alloc _ _ _) (fun _ _ e => e) (fun _ _ e => e)) (heap_alloc_new w _)).mono ?_); rintro e w' ⟨q1, f1, rfl, hs⟩; have HS := Lib.hid hs; clear hs)
  exact ⟨rfl, q1, f1, rfl, HS.out⟩
section
variable {rb r : Nat} {w0 w : World} {L : List Int} {T : TT} {R : RR} {tv : TV} {s : BSt}
set_option maxHeartbeats 1000000 in
theorem quint (h : QAt rb r w0 L T R tv s w) (hl : L.length ≤ 65536) (hb : Bytes L) :
    Calls Tryz.prog 45 #[.pointer (some ⟨rb, 0, none⟩)] w (QPost rb r w0 L T R tv (uintR L s) (fun x v _ => v = .int .u64 x) w) := by
  obtain ⟨v, hv⟩ := h.rd
  have c0 := h.c0
  have H := Lib.hid h
  have HV := Lib.hid hv
  have hle := h.le
  have hl2 : L.length ≤ 140737488355328 := by omega
  obtain ⟨q, hq⟩ : ∃ q, q = numR (L.drop s.n) 0 0 := ⟨_, rfl⟩
  have HQ := Lib.hid hq
  cases q with
  | ok x k =>
    have hsz := numR_size _ _ _ _ _ hq.symm
    have hres : uintR L s = .ok x { s with n := s.n + k } := by unfold uintR; rw [← hq]
    have HRES := Lib.hid hres
    have hn : s.n + k ≤ L.length := by rw [List.length_drop] at hsz; omega
    clear h hv hq hres hsz
    go_enter Tryz.func45, Tryz.ntmps45
    go_wp2_with (first
      | (go_at_call 86; (with_reducible refine (get_any w0.heap.size r s.n v L w HV.out hle hl2 hb).mono ?_); rintro e w1 hp; unfold GetPost at hp; rw [← HQ.out] at hp; obtain ⟨rfl, h2, hk⟩ := hp; have H2 := Lib.hid (And.intro h2 hk); clear h2 hk)
      | (go_at_call 48; (with_reducible refine (stop_nil w1).mono ?_); rintro e w' ⟨rfl, rfl⟩))
    go_ret
    unfold QPost
    rw [HRES.out]
    obtain ⟨m1, m2⟩ := H.out.moved HV.out H2.out.1 H2.out.2 hn
    exact ⟨_, rfl, rfl, m1, m2⟩
  | form =>
    have hres : uintR L s = .err s.n 12 := by unfold uintR; rw [← hq]
    have HRES := Lib.hid hres
    clear h hv hq hres
    go_enter Tryz.func45, Tryz.ntmps45
    go_wp2_with (first
      | (go_at_call 86; (with_reducible refine (get_any w0.heap.size r s.n v L w HV.out hle hl2 hb).mono ?_); rintro e w1 hp; unfold GetPost at hp; rw [← HQ.out] at hp; obtain ⟨rfl, hw1⟩ := hp; have HW1 := Lib.hid hw1; clear hw1)
      | (go_at_call 48; (with_reducible refine (stop_err (a := s.n) (no := 12) (w0 := w0) (by rw [HW1.out]; exact H.out.kept.trans (.alloc _ _ _) (fun _ _ e => e) (fun _ _ e => e)) (by rw [HW1.out]; exact heap_alloc_new w _)).mono ?_); rintro e w' ⟨q1, f1, rfl, hs⟩; have HS := Lib.hid hs; clear hs))
    refine ⟨rfl, ?_⟩
    unfold QPost
    rw [HRES.out]
    exact ⟨q1, f1, rfl, HS.out⟩
  | fin =>
    have hres : uintR L s = .err L.length 11 := by unfold uintR; rw [← hq]
    have HRES := Lib.hid hres
    clear h hv hq hres
    go_enter Tryz.func45, Tryz.ntmps45
    go_wp2_with (first
      | (go_at_call 86; (with_reducible refine (get_any w0.heap.size r s.n v L w HV.out hle hl2 hb).mono ?_); rintro e w1 hp; unfold GetPost at hp; rw [← HQ.out] at hp; obtain ⟨rfl, hw1⟩ := hp; have HW1 := Lib.hid hw1; clear hw1)
      | (go_at_call 48; (with_reducible refine (stop_err (a := L.length) (no := 11) (w0 := w0) (by rw [HW1.out]; exact H.out.kept.trans (.alloc _ _ _) (fun _ _ e => e) (fun _ _ e => e)) (by rw [HW1.out]; exact heap_alloc_new w _)).mono ?_); rintro e w' ⟨q1, f1, rfl, hs⟩; have HS := Lib.hid hs; clear hs))
    refine ⟨rfl, ?_⟩
    unfold QPost
    rw [HRES.out]
    exact ⟨q1, f1, rfl, HS.out⟩
set_option maxHeartbeats 1000000 in
theorem qint (h : QAt rb r w0 L T R tv s w) (hl : L.length ≤ 65536) (hb : Bytes L) :
    Calls Tryz.prog 128 #[.pointer (some ⟨rb, 0, none⟩)] w (QPost rb r w0 L T R tv (intR L s) (fun x v _ => v = .int .i64 x) w) := by
  obtain ⟨v, hv⟩ := h.rd
  have c0 := h.c0
  have H := Lib.hid h
  have HV := Lib.hid hv
  have hle := h.le
  have hl2 : L.length ≤ 140737488355328 := by omega
  obtain ⟨q, hq⟩ : ∃ q, q = numR (L.drop s.n) 0 0 := ⟨_, rfl⟩
  have HQ := Lib.hid hq
  cases q with
  | ok x k =>
    have hsz := numR_size _ _ _ _ _ hq.symm
    have hres : intR L s = .ok (zag x) { s with n := s.n + k } := by unfold intR Rdr.map Rdr.mapS uintR; rw [← hq]
    have HRES := Lib.hid hres
    have hn : s.n + k ≤ L.length := by rw [List.length_drop] at hsz; omega
    clear h hv hq hres hsz
    go_enter Tryz.func128, Tryz.ntmps128
    go_wp2_with (first
      | (go_at_call 143; (with_reducible refine (getInt_any w0.heap.size r s.n v L w HV.out hle hl2 hb).mono ?_); rintro e w1 hp; unfold GetIntPost at hp; rw [← HQ.out] at hp; obtain ⟨rfl, h2, hk⟩ := hp; have H2 := Lib.hid (And.intro h2 hk); clear h2 hk)
      | (go_at_call 48; (with_reducible refine (stop_nil w1).mono ?_); rintro e w' ⟨rfl, rfl⟩))
    go_ret
    unfold QPost
    rw [HRES.out]
    obtain ⟨m1, m2⟩ := H.out.moved HV.out H2.out.1 H2.out.2 hn
    exact ⟨_, rfl, rfl, m1, m2⟩
  | form =>
    have hres : intR L s = .err s.n 12 := by unfold intR Rdr.map Rdr.mapS uintR; rw [← hq]
    have HRES := Lib.hid hres
    clear h hv hq hres
    go_enter Tryz.func128, Tryz.ntmps128
    go_wp2_with (first
      | (go_at_call 143; (with_reducible refine (getInt_any w0.heap.size r s.n v L w HV.out hle hl2 hb).mono ?_); rintro e w1 hp; unfold GetIntPost at hp; rw [← HQ.out] at hp; obtain ⟨rfl, hw1⟩ := hp; have HW1 := Lib.hid hw1; clear hw1)
      | (go_at_call 48; (with_reducible refine (stop_err (a := s.n) (no := 12) (w0 := w0) (by rw [HW1.out]; exact H.out.kept.trans (.alloc _ _ _) (fun _ _ e => e) (fun _ _ e => e)) (by rw [HW1.out]; exact heap_alloc_new w _)).mono ?_); rintro e w' ⟨q1, f1, rfl, hs⟩; have HS := Lib.hid hs; clear hs))
    refine ⟨rfl, ?_⟩
    unfold QPost
    rw [HRES.out]
    exact ⟨q1, f1, rfl, HS.out⟩
  | fin =>
    have hres : intR L s = .err L.length 11 := by unfold intR Rdr.map Rdr.mapS uintR; rw [← hq]
    have HRES := Lib.hid hres
    clear h hv hq hres
    go_enter Tryz.func128, Tryz.ntmps128
    go_wp2_with (first
      | (go_at_call 143; (with_reducible refine (getInt_any w0.heap.size r s.n v L w HV.out hle hl2 hb).mono ?_); rintro e w1 hp; unfold GetIntPost at hp; rw [← HQ.out] at hp; obtain ⟨rfl, hw1⟩ := hp; have HW1 := Lib.hid hw1; clear hw1)
      | (go_at_call 48; (with_reducible refine (stop_err (a := L.length) (no := 11) (w0 := w0) (by rw [HW1.out]; exact H.out.kept.trans (.alloc _ _ _) (fun _ _ e => e) (fun _ _ e => e)) (by rw [HW1.out]; exact heap_alloc_new w _)).mono ?_); rintro e w' ⟨q1, f1, rfl, hs⟩; have HS := Lib.hid hs; clear hs))
    refine ⟨rfl, ?_⟩
    unfold QPost
    rw [HRES.out]
    exact ⟨q1, f1, rfl, HS.out⟩
end
end Go.Proofs.YtlcbgklealipoaaGreatDoor
end

section
/- errors.As at a *Fault, errors.Is at its number (the walks), and what fault tells. -/
namespace Go.Proofs.YtlcbgklealipoaaGreatDoor
open Go.RowKit Go.Extern.Stop Go.Stop Go.Extern
set_option linter.unusedVariables false
set_option linter.unusedSimpArgs false

theorem Tryz.valueOf27 (t : Addr) (w : World) : (ReflectliteValue.unpack (.iface 37 (.pointer (some t)))).run Tryz.prog w
    = .ok (.agg #[.pointer (some ⟨4, 37, none⟩), .pointer (some ⟨w.heap.size, 0, none⟩), .int .u64 150]) (w.alloc (.cells #[.pointer (some t)] 37)) := by kernel_rfl
theorem Tryz.type27 (a : Addr) (w : World) : (ReflectliteValue.methodAny (ReflectliteValue.valueError "reflectlite.Value.Type" 0) (fun t _ _ _ => ReflectliteType.toType t) #[.agg #[.pointer (some ⟨4, 37, none⟩), .pointer (some a), .int .u64 150]]).run Tryz.prog w
    = .ok (.iface 190 (.agg #[.pointer (some ⟨4, 37, none⟩)])) w := by kernel_rfl
theorem Tryz.methodKind (h : Value) (w : World) : (Go.method 378 190 (.agg #[h]) "Kind").run Tryz.prog w = .ok (174, h) w := by kernel_rfl
theorem Tryz.kind27 (w : World) : ((ReflectliteType.abiMethod fun t => (fun a : Nat => Value.int IntKind.u8 (a : Int)) <$> Rtype.kind t) #[.pointer (some ⟨4, 37, none⟩)]).run Tryz.prog w = .ok (.int .u8 22) w := by kernel_rfl
theorem Tryz.kind25 (w : World) : ((ReflectliteType.abiMethod fun t => (fun a : Nat => Value.int IntKind.u8 (a : Int)) <$> Rtype.kind t) #[.pointer (some ⟨4, 35, none⟩)]).run Tryz.prog w = .ok (.int .u8 22) w := by kernel_rfl

theorem rlm (z : Sem Value) (f : TypeId → Addr → Nat → Nat → Sem Value) (v : Value) :
    ReflectliteValue.method z f #[v] = (do match ← ReflectliteValue.parts v with | none => z | some (t, a, fl) => f t a fl (fl % 32)) := rfl
theorem Tryz.parts27 (a : Addr) (w : World) : (ReflectliteValue.parts (.agg #[.pointer (some ⟨4, 37, none⟩), .pointer (some a), .int .u64 150])).run Tryz.prog w = .ok (some (37, a, 150)) w := by kernel_rfl
/-- (Value).IsNil at the Value of a **p.E that is not nil. -/
theorem Tryz.isNil27 (a p : Addr) (W : World) (ha : W.cell? a = some (.pointer (some p))) :
    (ReflectliteValue.method (ReflectliteValue.valueError "reflectlite.Value.IsNil" 0) ReflectliteValue.isNil #[.agg #[.pointer (some ⟨4, 37, none⟩), .pointer (some a), .int .u64 150]]).run Tryz.prog W = .ok (.bool false) W := by
  rw [rlm]
  simp only [Sem.run_bind, Tryz.parts27, Result.andThen]
  simp [ReflectliteValue.isNil, loadVar, isAgg, underlying, Tryz.underlying37, ha, Result.andThen]

theorem Tryz.methodElem (h : Value) (w : World) : (Go.method 378 190 (.agg #[h]) "Elem").run Tryz.prog w = .ok (188, .agg #[h]) w := by kernel_rfl
theorem Tryz.methodImplements (h : Value) (w : World) : (Go.method 378 190 (.agg #[h]) "Implements").run Tryz.prog w = .ok (189, .agg #[h]) w := by kernel_rfl
theorem Tryz.methodAssignableTo (h : Value) (w : World) : (Go.method 378 190 (.agg #[h]) "AssignableTo").run Tryz.prog w = .ok (186, .agg #[h]) w := by kernel_rfl
theorem Tryz.elem27 (w : World) : (ReflectliteType.method ReflectliteType.elem #[.agg #[.pointer (some ⟨4, 37, none⟩)]]).run Tryz.prog w = .ok (.iface 190 (.agg #[.pointer (some ⟨4, 35, none⟩)])) w := by kernel_rfl
theorem Tryz.implements25 (w : World) : (ReflectliteType.relation "Implements" ReflectliteType.implements_ #[.agg #[.pointer (some ⟨4, 35, none⟩)], .iface 190 (.agg #[.pointer (some ⟨4, 28, none⟩)])]).run Tryz.prog w = .ok (.bool true) w := by kernel_rfl
theorem Tryz.typeOf25 (v : Value) (w : World) : (ReflectliteType.typeOf #[.iface 35 v]).run Tryz.prog w = .ok (.iface 190 (.agg #[.pointer (some ⟨4, 35, none⟩)])) w := by kernel_rfl
theorem Tryz.assignable25 (w : World) : (ReflectliteType.relation "AssignableTo" ReflectliteType.assignableTo #[.agg #[.pointer (some ⟨4, 35, none⟩)], .iface 190 (.agg #[.pointer (some ⟨4, 35, none⟩)])]).run Tryz.prog w = .ok (.bool true) w := by kernel_rfl
theorem Tryz.valueOf25 (e : Addr) (w : World) : (ReflectliteValue.unpack (.iface 35 (.pointer (some e)))).run Tryz.prog w
    = .ok (.agg #[.pointer (some ⟨4, 35, none⟩), .pointer (some ⟨w.heap.size, 0, none⟩), .int .u64 150]) (w.alloc (.cells #[.pointer (some e)] 35)) := by kernel_rfl

theorem Tryz.elemOf27 (w : World) : (Rtype.elem? 37).run Tryz.prog w = .ok (some 35) w := by kernel_rfl
theorem Tryz.mk25 (p : Addr) (w : World) : (ReflectliteValue.mk 35 p ReflectliteValue.flagAddr).run Tryz.prog w = .ok (.agg #[.pointer (some ⟨4, 35, none⟩), .pointer (some p), .int .u64 406]) w := by kernel_rfl
/-- (Value).Elem at the Value of a **p.E that is not nil: the Value of the *p.E variable that it points to, addressable. -/
theorem Tryz.elemV27 (a p : Addr) (W : World) (ha : W.cell? a = some (.pointer (some p))) :
    (ReflectliteValue.method (ReflectliteValue.valueError "reflectlite.Value.Elem" 0) ReflectliteValue.elem #[.agg #[.pointer (some ⟨4, 37, none⟩), .pointer (some a), .int .u64 150]]).run Tryz.prog W
      = .ok (.agg #[.pointer (some ⟨4, 35, none⟩), .pointer (some p), .int .u64 406]) W := by
  rw [rlm]
  simp only [Sem.run_bind, Tryz.parts27, Result.andThen]
  simp [ReflectliteValue.elem, loadVar, isAgg, underlying, Tryz.underlying37, ha, Result.andThen, Tryz.elemOf27, Tryz.mk25]
theorem rls (v x : Value) : ReflectliteValue.set #[v, x] = (do
    let (some (dst, a, fl), some (src, b, _)) := (← ReflectliteValue.parts v, ← ReflectliteValue.parts x)
      | unsupported (.noEntry "extern/(internal/reflectlite.Value).Set.zeroValue")
    if fl / ReflectliteValue.flagAddr % 2 == 0 then unsupported (.noEntry "extern/(internal/reflectlite.Value).Set.unaddressable")
    let val ← loadVar src b
    if ← Rtype.directlyAssignable dst src then storeVar dst a val
    else if ← Rtype.implements dst src then
      if (← Rtype.kind src) == 20 then
        match val with
        | .nilIface => unsupported (.noEntry "extern/reflectlite: a nil value of one interface type handed on as a value of another")
        | _ => storeVar dst a val
      else storeVar dst a (.iface src val)
    else panicString ("reflectlite.Set: value of type " ++ (← Rtype.spelt src) ++ " is not assignable to type " ++ (← Rtype.spelt dst))
    pure (.tuple #[])) := rfl
theorem Tryz.parts25a (a : Addr) (w : World) : (ReflectliteValue.parts (.agg #[.pointer (some ⟨4, 35, none⟩), .pointer (some a), .int .u64 406])).run Tryz.prog w = .ok (some (35, a, 406)) w := by kernel_rfl
theorem Tryz.parts25 (a : Addr) (w : World) : (ReflectliteValue.parts (.agg #[.pointer (some ⟨4, 35, none⟩), .pointer (some a), .int .u64 150])).run Tryz.prog w = .ok (some (35, a, 150)) w := by kernel_rfl
theorem Tryz.direct25 (w : World) : (Rtype.directlyAssignable 35 35).run Tryz.prog w = .ok true w := by kernel_rfl
theorem Tryz.size25 (w : World) : (sizeOf 35).run Tryz.prog w = .ok 1 w := by kernel_rfl
/-- (Value).Set: the *p.E variable at 'ta' gets what the Value's own variable 'b' holds. -/
theorem Tryz.set25 (ta b e : Addr) (old : Value) (W : World) (hb : W.cell? b = some (.pointer (some e))) (ht : W.cell? ta = some old) (hf : W.frozen? ta = false) :
    (ReflectliteValue.set #[.agg #[.pointer (some ⟨4, 35, none⟩), .pointer (some ta), .int .u64 406], .agg #[.pointer (some ⟨4, 35, none⟩), .pointer (some b), .int .u64 150]]).run Tryz.prog W
      = .ok (.tuple #[]) (W.setCell ta (.pointer (some e))) := by
  rw [rls]
  simp only [Sem.run_bind, Tryz.parts25a, Tryz.parts25, Result.andThen]
  simp [ReflectliteValue.flagAddr, loadVar, isAgg, underlying, Tryz.underlying35, hb, Result.andThen, Tryz.direct25, storeVar, Value.cells, storeCells, Addr.add]
  rw [run_store Tryz.prog W ta _ _ (by rfl)]
  simp [ht, hf]

set_option maxHeartbeats 4000000 in
theorem as_hit (e t : Addr) (old : Value) (w : World) (hg : w.cell? ⟨0, 0, none⟩ = some (.iface 190 (.agg #[.pointer (some ⟨4, 28, none⟩)]))) (ht0 : w.cell? t = some old) (hf0 : w.frozen? t = false) :
    Calls Tryz.prog 15 #[.iface 35 (.pointer (some e)), .iface 37 (.pointer (some t))] w fun ev w' => ev = .returned (.bool true) ∧ w' = ((((w.alloc (.cells #[.pointer (some t)] 37)).alloc (.cells #[.pointer (some ⟨4, 37, none⟩), .pointer (some ⟨w.heap.size, 0, none⟩), .int .u64 150] 119)).alloc (.cells #[.pointer (some ⟨4, 37, none⟩), .pointer (some ⟨w.heap.size, 0, none⟩), .int .u64 150] 119)).alloc (.cells #[.pointer (some e)] 35)).setCell t (.pointer (some e)) := by
  have h6 := @run_callFunc_extern Tryz.prog 50 _ (fun args => ReflectliteValue.unpack (args.getD 0 (.tuple #[]))) Tryz.func50 (by kernel_rfl) (by kernel_rfl) (by kernel_rfl) (by kernel_rfl)
  have h7 := @run_callFunc_extern Tryz.prog 51 _ (ReflectliteValue.methodAny (ReflectliteValue.valueError "reflectlite.Value.Type" 0) (fun t _ _ _ => ReflectliteType.toType t)) Tryz.func51 (by kernel_rfl) (by kernel_rfl) (by kernel_rfl) (by kernel_rfl)
  have h8 := @run_callFunc_extern Tryz.prog 52 _ (ReflectliteValue.method (ReflectliteValue.valueError "reflectlite.Value.IsNil" 0) ReflectliteValue.isNil) Tryz.func52 (by kernel_rfl) (by kernel_rfl) (by kernel_rfl) (by kernel_rfl)
  have h27 := @run_callFunc_extern Tryz.prog 174 _ (ReflectliteType.abiMethod fun t => do pure (.int .u8 (← Rtype.kind t))) Tryz.func174 (by kernel_rfl) (by kernel_rfl) (by kernel_rfl) (by kernel_rfl)
  have h37 := @run_callFunc_extern Tryz.prog 188 _ (ReflectliteType.method ReflectliteType.elem) Tryz.func188 (by kernel_rfl) (by kernel_rfl) (by kernel_rfl) (by kernel_rfl)
  have h38 := @run_callFunc_extern Tryz.prog 189 _ (ReflectliteType.relation "Implements" ReflectliteType.implements_) Tryz.func189 (by kernel_rfl) (by kernel_rfl) (by kernel_rfl) (by kernel_rfl)
  have h10 := @run_callFunc_extern Tryz.prog 96 _ ReflectliteType.typeOf Tryz.func96 (by kernel_rfl) (by kernel_rfl) (by kernel_rfl) (by kernel_rfl)
  have h35 := @run_callFunc_extern Tryz.prog 186 _ (ReflectliteType.relation "AssignableTo" ReflectliteType.assignableTo) Tryz.func186 (by kernel_rfl) (by kernel_rfl) (by kernel_rfl) (by kernel_rfl)
  have h11 := @run_callFunc_extern Tryz.prog 97 _ (ReflectliteValue.method (ReflectliteValue.valueError "reflectlite.Value.Elem" 0) ReflectliteValue.elem) Tryz.func97 (by kernel_rfl) (by kernel_rfl) (by kernel_rfl) (by kernel_rfl)
  have h12 := @run_callFunc_extern Tryz.prog 98 _ ReflectliteValue.set Tryz.func98 (by kernel_rfl) (by kernel_rfl) (by kernel_rfl) (by kernel_rfl)
  have tO := Tryz.typeOf25
  have mA := Tryz.methodAssignableTo
  have a25 := Tryz.assignable25
  have v25 := Tryz.valueOf25
  have f6 := Tryz.valueOf27
  have f7 := Tryz.type27
  have mK := Tryz.methodKind
  have mE := Tryz.methodElem
  have mI := Tryz.methodImplements
  have k27 := Tryz.kind27
  have k25 := Tryz.kind25
  have e27 := Tryz.elem27
  have i25 := Tryz.implements25
  have n8 := Tryz.isNil27 ⟨w.heap.size, 0, none⟩ t ((w.alloc (.cells #[.pointer (some t)] 37)).alloc (.cells #[.pointer (some ⟨4, 37, none⟩), .pointer (some ⟨w.heap.size, 0, none⟩), .int .u64 150] 119)) (by simp)
  have hlt : 0 < w.heap.size := by
    rcases Nat.eq_zero_or_pos w.heap.size with h0 | h
    · simp [World.cell?, h0] at hg
    · exact h
  have hg2 : ((w.alloc (.cells #[.pointer (some t)] 37)).alloc (.cells #[.pointer (some ⟨4, 37, none⟩), .pointer (some ⟨w.heap.size, 0, none⟩), .int .u64 150] 119)).cell? ⟨0, 0, none⟩ = some (.iface 190 (.agg #[.pointer (some ⟨4, 28, none⟩)])) := by
    rw [World.cell?_alloc_lt _ _ ⟨0, 0, none⟩ (by simp), World.cell?_alloc_lt _ _ ⟨0, 0, none⟩ hlt]; exact hg
  have htl : t.block < w.heap.size := by
    rcases Nat.lt_or_ge t.block w.heap.size with h | h
    · exact h
    · simp [World.cell?, Array.getElem?_eq_none h] at ht0
  have el := Tryz.elemV27 ⟨w.heap.size, 0, none⟩ t (((w.alloc (.cells #[.pointer (some t)] 37)).alloc (.cells #[.pointer (some ⟨4, 37, none⟩), .pointer (some ⟨w.heap.size, 0, none⟩), .int .u64 150] 119)).alloc (.cells #[.pointer (some ⟨4, 37, none⟩), .pointer (some ⟨w.heap.size, 0, none⟩), .int .u64 150] 119)) (by rw [World.cell?_alloc_lt _ _ ⟨w.heap.size, 0, none⟩ (by simp; omega)]; simp)
  have st := Tryz.set25 t ⟨w.heap.size + 1 + 1 + 1, 0, none⟩ e old ((((w.alloc (.cells #[.pointer (some t)] 37)).alloc (.cells #[.pointer (some ⟨4, 37, none⟩), .pointer (some ⟨w.heap.size, 0, none⟩), .int .u64 150] 119)).alloc (.cells #[.pointer (some ⟨4, 37, none⟩), .pointer (some ⟨w.heap.size, 0, none⟩), .int .u64 150] 119)).alloc (.cells #[.pointer (some e)] 35))
    (by rw [World.cell?_alloc_at _ _ _ _ (by simp)]; rfl)
    (by rw [World.cell?_alloc_lt _ _ t (by simp; omega), World.cell?_alloc_lt _ _ t (by simp; omega), World.cell?_alloc_lt _ _ t (by simp; omega), World.cell?_alloc_lt _ _ t htl]; exact ht0)
    (by rw [World.frozen?_alloc_old _ _ t (by simp; omega), World.frozen?_alloc_old _ _ t (by simp; omega), World.frozen?_alloc_old _ _ t (by simp; omega), World.frozen?_alloc_old _ _ t (Nat.ne_of_lt htl)]; exact hf0)
  go_enter Tryz.func15, Tryz.ntmps15
  go_wp2
  refine wp_loop_rounds 1 ?_
  rw [rounds_succ]
  go_wp2
  go_ret
  exact ⟨rfl, rfl⟩
end Go.Proofs.YtlcbgklealipoaaGreatDoor
end

section
/- errors.As at a *Fault through a *stopped, errors.Is at its number (the walks). -/
namespace Go.Proofs.YtlcbgklealipoaaGreatDoor
open Go.RowKit Go.Extern.Stop Go.Stop Go.Extern
set_option linter.unusedVariables false
set_option linter.unusedSimpArgs false

theorem Tryz.typeOf99 (v : Value) (w : World) : (ReflectliteType.typeOf #[.iface 99 v]).run Tryz.prog w = .ok (.iface 190 (.agg #[.pointer (some ⟨4, 99, none⟩)])) w := by kernel_rfl
theorem Tryz.assignable99 (w : World) : (ReflectliteType.relation "AssignableTo" ReflectliteType.assignableTo #[.agg #[.pointer (some ⟨4, 99, none⟩)], .iface 190 (.agg #[.pointer (some ⟨4, 35, none⟩)])]).run Tryz.prog w = .ok (.bool false) w := by kernel_rfl
theorem Tryz.noAs99 (v : Value) (xT : TypeId) (w : World) : (Instr.typeAssert (.iface 99 v) xT 195 true).run Tryz.prog w = .ok (.tuple #[.nilIface, .bool false]) w := run_typeAssert_lacksB Tryz.underlying195 (by kernel_rfl) (by kernel_rfl) v xT w
theorem Tryz.hasUnwrap99 (v : Value) (xT : TypeId) (w : World) : (Instr.typeAssert (.iface 99 v) xT 198 true).run Tryz.prog w = .ok (.tuple #[.iface 99 v, .bool true]) w := run_typeAssert_hasB Tryz.underlying198 (by kernel_rfl) v xT w
theorem Tryz.methodUnwrap99 (v : Value) (w : World) : (Go.method 378 99 v "Unwrap").run Tryz.prog w = .ok (181, v) w := by kernel_rfl
set_option maxHeartbeats 4000000 in
theorem as_thru (s : Nat) (e t : Addr) (old : Value) (w : World) (hs : w.cell? ⟨s, 0, none⟩ = some (.iface 35 (.pointer (some e)))) (hg : w.cell? ⟨0, 0, none⟩ = some (.iface 190 (.agg #[.pointer (some ⟨4, 28, none⟩)]))) (ht0 : w.cell? t = some old) (hf0 : w.frozen? t = false) :
    Calls Tryz.prog 15 #[.iface 99 (.pointer (some ⟨s, 0, none⟩)), .iface 37 (.pointer (some t))] w fun ev w' => ev = .returned (.bool true) ∧ w' = ((((w.alloc (.cells #[.pointer (some t)] 37)).alloc (.cells #[.pointer (some ⟨4, 37, none⟩), .pointer (some ⟨w.heap.size, 0, none⟩), .int .u64 150] 119)).alloc (.cells #[.pointer (some ⟨4, 37, none⟩), .pointer (some ⟨w.heap.size, 0, none⟩), .int .u64 150] 119)).alloc (.cells #[.pointer (some e)] 35)).setCell t (.pointer (some e)) := by
  have h6 := @run_callFunc_extern Tryz.prog 50 _ (fun args => ReflectliteValue.unpack (args.getD 0 (.tuple #[]))) Tryz.func50 (by kernel_rfl) (by kernel_rfl) (by kernel_rfl) (by kernel_rfl)
  have h7 := @run_callFunc_extern Tryz.prog 51 _ (ReflectliteValue.methodAny (ReflectliteValue.valueError "reflectlite.Value.Type" 0) (fun t _ _ _ => ReflectliteType.toType t)) Tryz.func51 (by kernel_rfl) (by kernel_rfl) (by kernel_rfl) (by kernel_rfl)
  have h8 := @run_callFunc_extern Tryz.prog 52 _ (ReflectliteValue.method (ReflectliteValue.valueError "reflectlite.Value.IsNil" 0) ReflectliteValue.isNil) Tryz.func52 (by kernel_rfl) (by kernel_rfl) (by kernel_rfl) (by kernel_rfl)
  have h27 := @run_callFunc_extern Tryz.prog 174 _ (ReflectliteType.abiMethod fun t => do pure (.int .u8 (← Rtype.kind t))) Tryz.func174 (by kernel_rfl) (by kernel_rfl) (by kernel_rfl) (by kernel_rfl)
  have h37 := @run_callFunc_extern Tryz.prog 188 _ (ReflectliteType.method ReflectliteType.elem) Tryz.func188 (by kernel_rfl) (by kernel_rfl) (by kernel_rfl) (by kernel_rfl)
  have h38 := @run_callFunc_extern Tryz.prog 189 _ (ReflectliteType.relation "Implements" ReflectliteType.implements_) Tryz.func189 (by kernel_rfl) (by kernel_rfl) (by kernel_rfl) (by kernel_rfl)
  have h10 := @run_callFunc_extern Tryz.prog 96 _ ReflectliteType.typeOf Tryz.func96 (by kernel_rfl) (by kernel_rfl) (by kernel_rfl) (by kernel_rfl)
  have h35 := @run_callFunc_extern Tryz.prog 186 _ (ReflectliteType.relation "AssignableTo" ReflectliteType.assignableTo) Tryz.func186 (by kernel_rfl) (by kernel_rfl) (by kernel_rfl) (by kernel_rfl)
  have h11 := @run_callFunc_extern Tryz.prog 97 _ (ReflectliteValue.method (ReflectliteValue.valueError "reflectlite.Value.Elem" 0) ReflectliteValue.elem) Tryz.func97 (by kernel_rfl) (by kernel_rfl) (by kernel_rfl) (by kernel_rfl)
  have h12 := @run_callFunc_extern Tryz.prog 98 _ ReflectliteValue.set Tryz.func98 (by kernel_rfl) (by kernel_rfl) (by kernel_rfl) (by kernel_rfl)
  have tO := Tryz.typeOf25
  have tO9 := Tryz.typeOf99
  have a99 := Tryz.assignable99
  have nA := Tryz.noAs99
  have uW := Tryz.hasUnwrap99
  have mU := Tryz.methodUnwrap99
  have hsl : s < w.heap.size := World.block_lt_of_cell? w ⟨s, 0, none⟩ hs
  have hs2 : (((w.alloc (.cells #[.pointer (some t)] 37)).alloc (.cells #[.pointer (some ⟨4, 37, none⟩), .pointer (some ⟨w.heap.size, 0, none⟩), .int .u64 150] 119)).alloc (.cells #[.pointer (some ⟨4, 37, none⟩), .pointer (some ⟨w.heap.size, 0, none⟩), .int .u64 150] 119)).cell? ⟨s, 0, none⟩ = some (.iface 35 (.pointer (some e))) := by
    rw [World.cell?_alloc_lt _ _ ⟨s, 0, none⟩ (by simp; omega), World.cell?_alloc_lt _ _ ⟨s, 0, none⟩ (by simp; omega), World.cell?_alloc_lt _ _ ⟨s, 0, none⟩ hsl]; exact hs
  have mA := Tryz.methodAssignableTo
  have a25 := Tryz.assignable25
  have v25 := Tryz.valueOf25
  have f6 := Tryz.valueOf27
  have f7 := Tryz.type27
  have mK := Tryz.methodKind
  have mE := Tryz.methodElem
  have mI := Tryz.methodImplements
  have k27 := Tryz.kind27
  have k25 := Tryz.kind25
  have e27 := Tryz.elem27
  have i25 := Tryz.implements25
  have n8 := Tryz.isNil27 ⟨w.heap.size, 0, none⟩ t ((w.alloc (.cells #[.pointer (some t)] 37)).alloc (.cells #[.pointer (some ⟨4, 37, none⟩), .pointer (some ⟨w.heap.size, 0, none⟩), .int .u64 150] 119)) (by simp)
  have hlt : 0 < w.heap.size := by
    rcases Nat.eq_zero_or_pos w.heap.size with h0 | h
    · simp [World.cell?, h0] at hg
    · exact h
  have hg2 : ((w.alloc (.cells #[.pointer (some t)] 37)).alloc (.cells #[.pointer (some ⟨4, 37, none⟩), .pointer (some ⟨w.heap.size, 0, none⟩), .int .u64 150] 119)).cell? ⟨0, 0, none⟩ = some (.iface 190 (.agg #[.pointer (some ⟨4, 28, none⟩)])) := by
    rw [World.cell?_alloc_lt _ _ ⟨0, 0, none⟩ (by simp), World.cell?_alloc_lt _ _ ⟨0, 0, none⟩ hlt]; exact hg
  have htl : t.block < w.heap.size := by
    rcases Nat.lt_or_ge t.block w.heap.size with h | h
    · exact h
    · simp [World.cell?, Array.getElem?_eq_none h] at ht0
  have el := Tryz.elemV27 ⟨w.heap.size, 0, none⟩ t (((w.alloc (.cells #[.pointer (some t)] 37)).alloc (.cells #[.pointer (some ⟨4, 37, none⟩), .pointer (some ⟨w.heap.size, 0, none⟩), .int .u64 150] 119)).alloc (.cells #[.pointer (some ⟨4, 37, none⟩), .pointer (some ⟨w.heap.size, 0, none⟩), .int .u64 150] 119)) (by rw [World.cell?_alloc_lt _ _ ⟨w.heap.size, 0, none⟩ (by simp; omega)]; simp)
  have st := Tryz.set25 t ⟨w.heap.size + 1 + 1 + 1, 0, none⟩ e old ((((w.alloc (.cells #[.pointer (some t)] 37)).alloc (.cells #[.pointer (some ⟨4, 37, none⟩), .pointer (some ⟨w.heap.size, 0, none⟩), .int .u64 150] 119)).alloc (.cells #[.pointer (some ⟨4, 37, none⟩), .pointer (some ⟨w.heap.size, 0, none⟩), .int .u64 150] 119)).alloc (.cells #[.pointer (some e)] 35))
    (by rw [World.cell?_alloc_at _ _ _ _ (by simp)]; rfl)
    (by rw [World.cell?_alloc_lt _ _ t (by simp; omega), World.cell?_alloc_lt _ _ t (by simp; omega), World.cell?_alloc_lt _ _ t (by simp; omega), World.cell?_alloc_lt _ _ t htl]; exact ht0)
    (by rw [World.frozen?_alloc_old _ _ t (by simp; omega), World.frozen?_alloc_old _ _ t (by simp; omega), World.frozen?_alloc_old _ _ t (by simp; omega), World.frozen?_alloc_old _ _ t (Nat.ne_of_lt htl)]; exact hf0)
  go_enter Tryz.func15, Tryz.ntmps15
  go_wp2
  refine wp_loop_rounds 2 ?_
  rw [rounds_succ]
  go_wp2
  rw [rounds_succ]
  go_wp2
  go_ret
  exact ⟨rfl, rfl⟩

theorem Tryz.isTypeOf (v : Value) (w : World) : (Extern.ReflectliteType.typeOf #[.iface 24 v]).run Tryz.prog w = .ok (.iface 190 (.agg #[.pointer (some ⟨4, 24, none⟩)])) w := by kernel_rfl
/-- The model's entry for (rtype).Comparable. -/
def isCmp : Array Value → Sem Value := Extern.ReflectliteType.method fun t => do Extern.Rtype.noPackHeld "Comparable" t; pure (.bool (← typeInfo t).comparable)
theorem Tryz.isComparable (w : World) : (isCmp #[.agg #[.pointer (some ⟨4, 24, none⟩)]]).run Tryz.prog w = .ok (.bool true) w := by kernel_rfl
theorem Tryz.isMethodComparable (v : Value) (w : World) : (Go.method 378 190 v "Comparable").run Tryz.prog w = .ok (187, v) w := by kernel_rfl
theorem Tryz.isComp : (Tryz.prog.info? 24).map (·.comparable) = some true := by kernel_rfl
theorem Tryz.noIsF (v : Value) (xT : TypeId) (w : World) : (Instr.typeAssert (.iface 35 v) xT 223 true).run Tryz.prog w = .ok (.tuple #[.nilIface, .bool false]) w := run_typeAssert_lacksB Tryz.underlying223 (by kernel_rfl) (by kernel_rfl) v xT w
theorem Tryz.hasUnwrapF (v : Value) (xT : TypeId) (w : World) : (Instr.typeAssert (.iface 35 v) xT 198 true).run Tryz.prog w = .ok (.tuple #[.iface 35 v, .bool true]) w := run_typeAssert_hasB Tryz.underlying198 (by kernel_rfl) v xT w
theorem Tryz.methodUnwrap (v : Value) (w : World) : (Go.method 378 35 v "Unwrap").run Tryz.prog w = .ok (179, v) w := by kernel_rfl
theorem run_eql_iface_int {P : Program} {ti tp : TypeId} {ms : Array (String × TypeId)} {i : TypeInfo} {k : IntKind} (x : Int) (w : World)
    (hi : P.underlying ti = some (.interface ms)) (hp : P.underlying tp = some (.int k)) (hinfo : P.info? tp = some i) (hcomp : i.comparable = true) :
    (binOp .eql ti (.iface tp (.int k x)) (.iface tp (.int k x))).run P w = .ok (.bool true) w := by
  have h : ∀ d : Nat, (Op.equalIn (d + 2) ti (.iface tp (.int k x)) (.iface tp (.int k x))).run P w = .ok true w := fun d => by simp [Op.equalIn, run_underlying hi, run_underlying hp, typeInfo, hinfo, hcomp]
  simp only [binOp]
  simp [Op.equal, Op.maxDepth, h 9998]

/-- errors.Is(f, f.Err). -/
theorem is_fault (e : Nat) (no : Int) (w : World) (h1 : w.cell? ⟨e, 1, none⟩ = some (.int .i64 no)) :
    Calls Tryz.prog 62 #[.iface 35 (.pointer (some ⟨e, 0, none⟩)), .iface 24 (.int .i64 no)] w fun ev w' => ev = .returned (.bool true) ∧ w' = w := by
  obtain ⟨i, hi, hcmp⟩ := Option.map_eq_some_iff.1 Tryz.isComp
  have h8 := @run_callFunc_extern Tryz.prog 96 _ Extern.ReflectliteType.typeOf Tryz.func96 (by kernel_rfl) (by kernel_rfl) (by kernel_rfl) (by kernel_rfl)
  have h32 := @run_callFunc_extern Tryz.prog 187 _ isCmp Tryz.func187 (by kernel_rfl) (by kernel_rfl) (by kernel_rfl) (by kernel_rfl)
  have tT := Tryz.isTypeOf
  have cT := Tryz.isComparable
  have mR := Tryz.isMethodComparable
  have nW := Tryz.noIsF
  have uW := Tryz.hasUnwrapF
  have mU := Tryz.methodUnwrap
  have heq := run_eql_iface_int (P := Tryz.prog) no w Tryz.underlying28 Tryz.underlying24 hi hcmp
  have hty := run_eql_iface_types (P := Tryz.prog) 35 24 (.pointer (some ⟨e, 0, none⟩)) (.int .i64 no) Tryz.underlying28 (by decide) w
  go_enter Tryz.func62, Tryz.ntmps62
  go_wp2
  refine wp_loop_rounds 2 ?_
  rw [rounds_succ]
  go_wp2
  rw [rounds_succ]
  go_wp2
  go_ret
  exact ⟨rfl, rfl⟩

/-- The handle of the type 'error' lies in its variable. -/
def Handle (w : World) : Prop := w.cell? ⟨0, 0, none⟩ = some (.iface 190 (.agg #[.pointer (some ⟨4, 28, none⟩)]))
theorem Kept.alloc4 (w : World) (a b c d : Obj) : Kept (fun _ => False) w ((((w.alloc a).alloc b).alloc c).alloc d) :=
  (((Kept.alloc _ w a).trans (.alloc _ _ b) (U := fun _ => False) (fun _ _ e => e) (fun _ _ e => e)).trans (.alloc _ _ c) (U := fun _ => False) (fun _ _ e => e) (fun _ _ e => e)).trans (.alloc _ _ d) (fun _ _ e => e) (fun _ _ e => e)
/-- errors.As, what it leaves. -/
theorem as_hit2 (e : Addr) (g : Nat) (old : Value) (w : World) (hg : Handle w) (hb : w.heap[g]? = some (.cells #[old] 35 (0, 0))) :
    Calls Tryz.prog 15 #[.iface 35 (.pointer (some e)), .iface 37 (.pointer (some ⟨g, 0, none⟩))] w fun ev w' => ev = .returned (.bool true) ∧ w'.cell? ⟨g, 0, none⟩ = some (.pointer (some e)) ∧ Kept (fun k => k = g) w w' := by
  refine (as_hit e ⟨g, 0, none⟩ old w hg ((blk_cell hb 0).trans rfl) (blk_frozen hb 0)).mono ?_
  rintro ev w' ⟨rfl, rfl⟩
  refine ⟨rfl, ?_, ?_⟩
  · have h4 := fun a b c d => blk_kept (Kept.alloc4 w a b c d) hb (fun e => e)
    exact (blk_cell (blk_set (h4 _ _ _ _) 0 _) 0).trans rfl
  · exact (Kept.alloc4 w _ _ _ _).trans (Kept.setCell (S := fun k => k = g) _ _ _ rfl) (fun _ _ e => e.elim) (fun _ _ e => e)
theorem as_thru2 (s : Nat) (e : Addr) (g : Nat) (old : Value) (w : World) (hs : w.cell? ⟨s, 0, none⟩ = some (.iface 35 (.pointer (some e)))) (hg : Handle w) (hb : w.heap[g]? = some (.cells #[old] 35 (0, 0))) :
    Calls Tryz.prog 15 #[.iface 99 (.pointer (some ⟨s, 0, none⟩)), .iface 37 (.pointer (some ⟨g, 0, none⟩))] w fun ev w' => ev = .returned (.bool true) ∧ w'.cell? ⟨g, 0, none⟩ = some (.pointer (some e)) ∧ Kept (fun k => k = g) w w' := by
  refine (as_thru s e ⟨g, 0, none⟩ old w hs hg ((blk_cell hb 0).trans rfl) (blk_frozen hb 0)).mono ?_
  rintro ev w' ⟨rfl, rfl⟩
  refine ⟨rfl, ?_, ?_⟩
  · have h4 := fun a b c d => blk_kept (Kept.alloc4 w a b c d) hb (fun e => e)
    exact (blk_cell (blk_set (h4 _ _ _ _) 0 _) 0).trans rfl
  · exact (Kept.alloc4 w _ _ _ _).trans (Kept.setCell (S := fun k => k = g) _ _ _ rfl) (fun _ _ e => e.elim) (fun _ _ e => e)
theorem Handle.kept {S : Nat → Prop} {w w' : World} (h : Handle w) (hk : Kept S w w') (h0 : ¬ S 0) : Handle w' :=
  (World.cell?_of_block (hk.block 0 (World.block_lt_of_cell? w ⟨0, 0, none⟩ h) h0)).trans h
end Go.Proofs.YtlcbgklealipoaaGreatDoor
end

section
/- What Decode defers (the walks): Decode$1, of a frame that returns, of a frame that gives up. -/
namespace Go.Proofs.YtlcbgklealipoaaGreatDoor
open Go Go.RowKit
set_option linter.unusedVariables false
set_option linter.unusedSimpArgs false

theorem dec1_idle (p q : Addr) (w : World) :
    CallsD Tryz.prog 40 #[.pointer (some p), .pointer (some q)] .returning w fun e u' w' => e = .returned (.tuple #[]) ∧ u' = .returning ∧ w' = w := by
  refine callsD_of_wpS Tryz.func40 rfl fun c₀ cs hu => ?_
  apply wpS_seq
  apply wpS_region
  simp [wpOpsS, go_sem, recoverD, hu, Tryz.ntmps40, Exit.thenS]
  apply wpS_seq
  apply wpS_seq
  apply wpS_region
  simp [wpOpsS, go_sem, Exit.thenS]
  refine wpS_cond (t := true) (by simp [Act.eval, Array.replicate]) ?_
  simp only [if_true]
  refine wpS_of_wp (wp_ret ?_)
  cases c₀
  simp_all [bodyPostS, results, Tryz.results40, Exit.thenS]
theorem Tryz.assert99 (v : Value) (xT : TypeId) (w : World) : (Instr.typeAssert (.iface 99 v) xT 99 true).run Tryz.prog w = .ok (.tuple #[v, .bool true]) w := by kernel_rfl
set_option maxHeartbeats 1000000 in
set_option maxRecDepth 100000 in
theorem dec1_stopped (lb eb sq f : Nat) (a no : Int) (cs1 cs2 : Array Value) (w : World) (hg : Handle w) (hs : w.heap[sq]? = some (.cells #[.iface 35 (.pointer (some ⟨f, 0, none⟩))] 187 (0, 0)))
    (hl : w.heap[lb]? = some (.cells cs1 25 (0, 0))) (he : w.heap[eb]? = some (.cells cs2 28 (0, 0))) (h1 : cs1.size = 1) (h2 : cs2.size = 1) (h0 : 0 < lb ∧ 0 < eb) :
    CallsD Tryz.prog 40 #[.pointer (some ⟨lb, 0, none⟩), .pointer (some ⟨eb, 0, none⟩)] (.panicking [{ v := .iface 99 (.pointer (some ⟨sq, 0, none⟩)), recovered := false }]) w fun e u' w' =>
      e = .returned (.tuple #[]) ∧ u' = .panicking [{ v := .iface 99 (.pointer (some ⟨sq, 0, none⟩)), recovered := true }] ∧
      w'.heap[lb]? = some (.cells #[.slice none 0 0] 25 (0, 0)) ∧ w'.heap[eb]? = some (.cells #[.iface 35 (.pointer (some ⟨f, 0, none⟩))] 28 (0, 0)) ∧ Kept (fun k => k = lb ∨ k = eb) w w' := by
  obtain ⟨v1, rfl⟩ : ∃ v, cs1 = #[v] := by
    obtain ⟨l⟩ := cs1
    match l, h1 with
    | [v], _ => exact ⟨v, rfl⟩
  obtain ⟨v2, rfl⟩ : ∃ v, cs2 = #[v] := by
    obtain ⟨l⟩ := cs2
    match l, h2 with
    | [v], _ => exact ⟨v, rfl⟩
  have hne : ¬ lb = eb := by rintro rfl; rw [hl] at he; injection he with he; injection he with _ he _; cases he
  have hne2 : ¬ eb = lb := fun e => hne e.symm
  have n1 : ¬ sq = lb := by rintro rfl; rw [hl] at hs; injection hs with hs; injection hs with _ hs _; cases hs
  have n2 : ¬ sq = eb := by rintro rfl; rw [he] at hs; injection hs with hs; injection hs with _ hs _; cases hs
  have c1 : w.cell? ⟨lb, 0, none⟩ = some v1 := (blk_cell hl 0).trans rfl
  have c2 : w.cell? ⟨eb, 0, none⟩ = some v2 := (blk_cell he 0).trans rfl
  have f1 := blk_frozen hl 0
  have f2 := blk_frozen he 0
  have a99 := Tryz.assert99
  have HH := Lib.hid (And.intro hg (And.intro hs (And.intro hl he)))
  obtain ⟨h01, h02⟩ := h0
  have HN0 := Lib.hid (And.intro h01 h02)
  clear hg hs hl he h01 h02 h1 h2
  refine callsD_of_wpS Tryz.func40 rfl fun c₀ cs hu => ?_
  simp only [Tryz.ntmps40, List.size_toArray, List.length_cons, List.length_nil, Nat.reduceAdd, Nat.reduceSub, Array.replicate_succ, Array.replicate_zero, List.push_toArray, List.append_toArray, List.nil_append, List.cons_append]
  apply wpS_seq
  apply wpS_region
  simp [wpOpsS, go_sem, recoverD, hu, Tryz.ntmps40, Exit.thenS]
  refine wpS_of_wp ?_
  have HMODE := Lib.hid hu
  clear hu
  go_upto_region 7 with fail
  obtain ⟨V, hV⟩ : ∃ V, V = (w.setCell ⟨lb, 0, none⟩ (.slice none 0 0)).setCell ⟨eb, 0, none⟩ (.iface 99 (.pointer (some ⟨sq, 0, none⟩))) := ⟨_, rfl⟩
  obtain ⟨W, hW⟩ : ∃ W, W = V.alloc (.cells #[.pointer none] 35) := ⟨_, rfl⟩
  obtain ⟨g, hgg⟩ : ∃ g, g = w.heap.size := ⟨_, rfl⟩
  have hsz : V.heap.size = w.heap.size := by rw [hV]; simp
  have kV : Kept (fun k => k = lb ∨ k = eb) w V := by
    rw [hV]
    exact (Kept.setCell (S := fun k => k = lb) _ _ _ rfl).trans (Kept.setCell (S := fun k => k = eb) _ _ _ rfl) (fun _ _ e => .inl e) (fun _ _ e => .inr e)
  have bl : V.heap[lb]? = some (.cells #[.slice none 0 0] 25 (0, 0)) := by
    rw [hV]; exact blk_kept (Kept.setCell (S := fun k => k = eb) _ _ _ rfl) (blk_set HH.out.2.2.1 0 _) hne
  have be : V.heap[eb]? = some (.cells #[.iface 99 (.pointer (some ⟨sq, 0, none⟩))] 28 (0, 0)) := by
    rw [hV]; exact blk_set (blk_kept (Kept.setCell (S := fun k => k = lb) _ _ _ rfl) HH.out.2.2.2 (fun e => hne e.symm)) 0 _
  have kW : Kept (fun _ => False) V W := by rw [hW]; exact .alloc _ _ _
  have bg : W.heap[g]? = some (.cells #[.pointer none] 35 (0, 0)) := by rw [hW, hgg, ← hsz]; exact heap_alloc_new V _
  have bs : W.heap[sq]? = some (.cells #[.iface 35 (.pointer (some ⟨f, 0, none⟩))] 187 (0, 0)) := blk_kept kW (blk_kept kV HH.out.2.1 (fun e => e.elim n1 n2)) (fun e => e)
  have hnd : Handle W := (HH.out.1.kept kV (fun e => by have := HN0.out; rcases e with e | e <;> omega)).kept kW (fun e => e)
  have bl2 := blk_kept kW bl (fun e => e)
  have be2 := blk_kept kW be (fun e => e)
  have gl : ¬ lb = g := by have := blk_lt bl; rw [hsz] at this; omega
  have ge' : ¬ eb = g := by have := blk_lt be; rw [hsz] at this; omega
  have cs0 : W.cell? ⟨sq, 0, none⟩ = some (.iface 35 (.pointer (some ⟨f, 0, none⟩))) := (blk_cell bs 0).trans rfl
  rw [← hV, ← hW, ← hgg]
  have HB := Lib.hid (And.intro bg (And.intro hnd (And.intro bl2 (And.intro be2 (And.intro kV (And.intro kW (And.intro gl ge')))))))
  have HS0 := Lib.hid cs0
  have HLTG : Hid (w.heap.size ≤ g) := Lib.hid (by omega)
  clear hV hW hgg hsz kV bl be kW bg bs hnd bl2 be2 gl ge' cs0 c1 c2 f1 f2
  go_wp2_with (go_at_call 15; (with_reducible refine (as_thru2 sq ⟨f, 0, none⟩ g (.pointer none) W HS0.out HB.out.2.1 HB.out.1).mono ?_); rintro ev w5 ⟨rfl, hc5, hk5⟩; have b5 := blk_kept hk5 HB.out.2.2.2.1 HB.out.2.2.2.2.2.2.2; have y5 : w5.cell? ⟨eb, 0, none⟩ = some (.iface 99 (.pointer (some ⟨sq, 0, none⟩))) := (blk_cell b5 0).trans rfl; have z5 := blk_frozen b5 0; have H5 := Lib.hid (And.intro hk5 b5); clear hk5 b5)
  have r1 : (w5.setCell ⟨eb, 0, none⟩ (.iface 35 (.pointer (some ⟨f, 0, none⟩)))).heap[lb]? = some (.cells #[.slice none 0 0] 25 (0, 0)) := blk_kept (Kept.setCell (S := fun k => k = eb) _ _ _ rfl) (blk_kept H5.out.1 HB.out.2.2.1 HB.out.2.2.2.2.2.2.1) hne
  have r2 : (w5.setCell ⟨eb, 0, none⟩ (.iface 35 (.pointer (some ⟨f, 0, none⟩)))).heap[eb]? = some (.cells #[.iface 35 (.pointer (some ⟨f, 0, none⟩))] 28 (0, 0)) := blk_set H5.out.2 0 _
  have r3 : Kept (fun k => k = lb ∨ k = eb) w (w5.setCell ⟨eb, 0, none⟩ (.iface 35 (.pointer (some ⟨f, 0, none⟩)))) :=
    ((HB.out.2.2.2.2.1.trans HB.out.2.2.2.2.2.1 (fun _ _ e => e) (fun _ _ e => e.elim)).trans H5.out.1 (fun _ _ e => e) (fun i hi e => by have := HLTG.out; omega)).trans (Kept.setCell (S := fun k => k = eb) _ _ _ rfl) (fun _ _ e => e) (fun _ _ e => .inr e)
  exact ⟨rfl, _, rfl, _, by simp [results, Tryz.results40], rfl, rfl, r1, r2, r3⟩
end Go.Proofs.YtlcbgklealipoaaGreatDoor
end

