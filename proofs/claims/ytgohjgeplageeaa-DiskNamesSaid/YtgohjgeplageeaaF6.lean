/- add: a step more. -/
import Derived.Test.YtgohjgeplageeaaA1
import Derived.Deep.DeepMust
namespace Go.Proofs.Ytgohjgeplageeaa
open Go Go.RowKit
set_option linter.unusedVariables false
set_option linter.unusedSimpArgs false
attribute [local go_sem] Try.meth80 Try.meth107
attribute [local go_sem ↓] Go.wp_at_zero Go.wp_at_succ

theorem Try.info102 : (Try.prog.info? 102).map (fun i => (i.zero, i.size, i.bytes)) = some (some .nilIface, 1, 16) := by kernel_rfl
theorem SAt.iface {w : World} {C : Col} {c : Nat × Nat × Nat} {u : Value} {s : Stp} (h : SAt w C c u s) : ∃ t x, u = .iface t x := by
  cases s with
  | app l => obtain ⟨b, rfl, _⟩ := h; exact ⟨_, _, rfl⟩
  | cut n => obtain rfl := h; exact ⟨_, _, rfl⟩
/-- What add leaves. -/
def AddPost (C : Col) (δ k a : Nat) (vl : Value) (F : Fil) (w : World) (e : Ending) (w' : World) : Prop :=
  e = .returned (.tuple #[]) ∧ Kept (fun b => (C b).1 = δ ∧ (C b).2.1 = k) w w' ∧ ∃ C' vp vs us, Agr w C C' ∧ FAt w' C' δ k a vl vp vs us F
theorem row_apart' {w : World} {B e sz n B' e' sz' n' : Nat} {v v' : Value} {xs xs' : List Value} (h : w.ownsRow B e sz v n xs) (h' : w.ownsRow B' e' sz' v' n' xs') (hne : e ≠ e') : ∀ b, v.ownBlock = some b → v'.ownBlock ≠ some b := by
  intro b hb
  obtain ⟨-, ⟨rfl, -⟩ | ⟨g, c, cur, rfl, -, hg, -⟩⟩ := h
  · cases hb
  · have : g = b := by simpa [Value.ownBlock] using hb
    subst this
    exact own_ne h' hg hne
theorem grown_kept {w w1 : World} {o : Obj} {v : Value} (hg : (w.alloc o).grownBy w1 v.ownBlock) : Kept (fun b => v.ownBlock = some b) w w1 :=
  (Kept.alloc _ w o).trans (Kept.of_grown hg fun k e => e) (fun _ _ e => e) fun _ _ e => e
/-- Half way: the step is pending; the bytes that are seen are as they were. -/
structure MidAdd (w : World) (C : Col) (δ k a : Nat) (vl vp vs vp' : Value) (us : List Value) (u : Value) (F : Fil) (s : Stp) (W : World) : Prop where
  h : FAt w C δ k a vl vp vs us F
  st : SAt w C (δ, k, 4 + F.pen.length) u s
  blk : FBlk W a vl vp' vs
  kept : Kept (fun b => b = a ∨ vp.ownBlock = some b) w W
  pen : W.ownsRow 0 102 1 vp' (F.pen.length + 1) (us ++ [u])
  pb : vp'.ownBlock = vp.ownBlock ∨ ∀ b, vp'.ownBlock = some b → w.heap.size ≤ b
section
variable {w : World} {C : Col} {δ k a : Nat} {vl vp vs vp' : Value} {us : List Value} {u : Value} {F : Fil} {s : Stp} {W : World}
theorem MidAdd.no (h : MidAdd w C δ k a vl vp vs vp' us u F s W) {m : Nat} (h0 : m ≠ 0) (h2 : m ≠ 2) : ∀ b, C b = (δ, k, m) → ¬ (b = a ∨ vp.ownBlock = some b) := by
  rintro b hb (rfl | e)
  · rw [h.h.ca] at hb
    simp only [Prod.mk.injEq, true_and] at hb
    omega
  · rw [h.h.cp b e] at hb
    simp only [Prod.mk.injEq, true_and] at hb
    omega
theorem MidAdd.see (h : MidAdd w C δ k a vl vp vs vp' us u F s W) : BAt W C (δ, k, 3) vs F.see := h.h.see.kept h.kept (h.no (by omega) (by omega)) (Agr.refl _ _)
theorem MidAdd.stW (h : MidAdd w C δ k a vl vp vs vp' us u F s W) : SAt W C (δ, k, 4 + F.pen.length) u s := h.st.kept h.kept (h.no (by omega) (by omega)) (Agr.refl _ _)
theorem MidAdd.later (h : MidAdd w C δ k a vl vp vs vp' us u F s W) {W' : World} (hk : Kept (fun _ => False) W W') : MidAdd w C δ k a vl vp vs vp' us u F s W' :=
  ⟨h.h, h.st, h.blk.kept hk (fun e => e), h.kept.trans hk (fun _ _ e => e) (fun _ _ e => e.elim), own_kept0 h.pen hk, h.pb⟩
/-- The step is done on the bytes that are seen. -/
theorem MidAdd.close (h : MidAdd w C δ k a vl vp vs vp' us u F s W) {v' : Value} {W' : World} (r : OwnStep .u8 5 0 vs W v' (s.part F.see s.units) W') :
    AddPost C δ k a vl (F.add s) w (.returned (.tuple #[])) (W'.setCell ⟨a, 2, none⟩ v') := by
  have hsz : w.heap.size ≤ W.heap.size := h.kept.size
  have hsW := h.see
  have k1 : Kept (fun b => b = a ∨ vs.ownBlock = some b) W (W'.setCell ⟨a, 2, none⟩ v') := r.kept.trans (Kept.setCell (S := fun b => b = a) _ _ _ rfl) (fun _ _ e => .inr e) fun _ _ e => .inl e
  have kk : Kept (fun b => (C b).1 = δ ∧ (C b).2.1 = k) w (W'.setCell ⟨a, 2, none⟩ v') := by
    refine h.kept.trans k1 ?_ ?_
    · rintro b hb (rfl | e)
      · rw [h.h.ca]; exact ⟨rfl, rfl⟩
      · rw [h.h.cp b e]; exact ⟨rfl, rfl⟩
    · rintro b hb (rfl | e)
      · rw [h.h.ca]; exact ⟨rfl, rfl⟩
      · rw [h.h.see.col b e]; exact ⟨rfl, rfl⟩
  -- what stays of the file behind the whole
  have no3 : ∀ m, m ≠ 0 → m ≠ 3 → ∀ b, C b = (δ, k, m) → ¬ (b = a ∨ vs.ownBlock = some b) := by
    rintro m h0 h2 b hb (rfl | e)
    · rw [h.h.ca] at hb; simp only [Prod.mk.injEq, true_and] at hb; omega
    · rw [h.h.see.col b e] at hb; simp only [Prod.mk.injEq, true_and] at hb; omega
  have pen2 : (W'.setCell ⟨a, 2, none⟩ v').ownsRow 0 102 1 vp' (F.pen.length + 1) (us ++ [u]) := by
    refine own_kept h.pen k1 ?_
    rintro b hb (rfl | e)
    · exact own_ne h.pen h.blk (by decide) hb
    · exact row_apart' h.pen hsW.own (by decide) b hb e
  have b1 := h.blk.kept r.kept (fun e => own_ne hsW.own h.blk (by decide) e)
  have hv'a : v'.ownBlock ≠ some a := own_ne r.own b1 (by decide)
  refine ⟨rfl, kk, (fun b => if b < w.heap.size then C b else if vp'.ownBlock = some b then (δ, k, 2) else (δ, k, 3)), vp', v', us ++ [u], fun b hb => by simp [hb], ?_⟩
  have agr : Agr w C (fun b => if b < w.heap.size then C b else if vp'.ownBlock = some b then (δ, k, 2) else (δ, k, 3)) := fun b hb => by simp [hb]
  have st2 : ∀ m u' s', 4 ≤ m → SAt w C (δ, k, m) u' s' → SAt (W'.setCell ⟨a, 2, none⟩ v') (fun b => if b < w.heap.size then C b else if vp'.ownBlock = some b then (δ, k, 2) else (δ, k, 3)) (δ, k, m) u' s' := fun m u' s' hm hs => by
    have h1 := hs.kept h.kept (h.no (by omega) (by omega)) (Agr.refl w C)
    cases s' with
    | app l =>
      obtain ⟨b, rfl, hb⟩ := hs
      obtain ⟨b', e', hb'⟩ := h1
      have e'' : b = b' := by simpa using e'
      subst e''
      exact ⟨b, rfl, own_kept hb'.own k1 (fun i hi => no3 m (by omega) (by omega) i (hb.col i hi)), fun i hi => (agr i (own_lt hb.own i hi)).trans (hb.col i hi)⟩
    | cut n => exact hs
  refine ⟨(b1.s2 v'), (agr a h.h.lt).trans h.h.ca, ?_, ?_, ?_, ?_, ?_⟩
  · exact ⟨own_kept (h.h.las.kept h.kept (h.no (by omega) (by omega)) (Agr.refl _ _)).own k1 (fun i hi => no3 1 (by omega) (by omega) i (h.h.las.col i hi)), fun i hi => (agr i (own_lt h.h.las.own i hi)).trans (h.h.las.col i hi)⟩
  · show (W'.setCell ⟨a, 2, none⟩ v').ownsRow 0 102 1 vp' (F.pen ++ [s]).length (us ++ [u])
    rw [List.length_append]
    exact pen2
  · intro b hb
    by_cases hlt : b < w.heap.size
    · simp only [hlt, if_true]
      rcases h.pb with e | e
      · exact h.h.cp b (e ▸ hb)
      · have := e b hb; omega
    · simp [hlt, hb]
  · intro j s' hj
    have hj' : (F.pen ++ [s])[j]? = some s' := hj
    rw [List.getElem?_append] at hj'
    have hus : us.length = F.pen.length := by have := h.h.pen.1; omega
    by_cases hlt : j < F.pen.length
    · rw [if_pos hlt] at hj'
      obtain ⟨u', hu', hs'⟩ := h.h.st j s' hj'
      exact ⟨u', by rw [List.getElem?_append, if_pos (by omega)]; exact hu', st2 _ _ _ (by omega) hs'⟩
    · rw [if_neg hlt] at hj'
      have hj0 : j = F.pen.length := by
        have := (List.getElem?_eq_some_iff.1 hj').1
        simp at this
        omega
      subst hj0
      simp at hj'
      subst hj'
      exact ⟨u, by rw [List.getElem?_append, if_neg (by omega), hus]; simp, st2 _ _ _ (by omega) h.st⟩
  · refine ⟨own_kept r.own (Kept.setCell (S := fun b => b = a) _ _ _ rfl) (fun i hi e => hv'a (e ▸ hi)), fun b hb => ?_⟩
    by_cases hlt : b < w.heap.size
    · simp only [hlt, if_true]
      rcases r.moved with e | e
      · exact h.h.see.col b (e ▸ hb)
      · have := e b hb; omega
    · have hne : ¬ vp'.ownBlock = some b := by
        intro e
        have hv2 := own_kept r.own (Kept.setCell (S := fun b => b = a) W' ⟨a, 2, none⟩ v' rfl) (fun i hi e => hv'a (e ▸ hi))
        exact row_apart' pen2 hv2 (by decide) b e hb
      simp [hlt, hne]
end
theorem add_mid {w : World} {C : Col} {δ k a : Nat} {vl vp vs : Value} {us : List Value} {F : Fil} {u : Value} {s : Stp} (h : FAt w C δ k a vl vp vs us F) (hs : SAt w C (δ, k, 4 + F.pen.length) u s)
    {o : Obj} {v1 : Value} {w1 : World} (r1 : w1.ownsRow 0 102 1 v1 (F.pen.length + 1) (us ++ [u])) (r2 : (w.alloc o).grownBy w1 vp.ownBlock) (r3 : v1.ownBlock = vp.ownBlock ∨ v1.ownBlock = some (w.alloc o).heap.size) :
    w1.cell? ⟨a, 1, none⟩ = some vp ∧ w1.frozen? ⟨a, 1, none⟩ = false ∧ MidAdd w C δ k a vl vp vs v1 us u F s (w1.setCell ⟨a, 1, none⟩ v1) := by
  have k1 := grown_kept r2
  have b1 := (show FBlk w a vl vp vs from h.blk).kept k1 (fun e => own_ne h.pen h.blk (by decide) e)
  refine ⟨b1.c1, b1.fr 1, h, hs, b1.s1 v1, k1.trans (Kept.setCell (S := fun b => b = a) _ _ _ rfl) (fun _ _ e => .inr e) (fun _ _ e => .inl e), own_kept r1 (Kept.setCell (S := fun b => b = a) _ _ _ rfl) (fun i hi e => own_ne r1 b1 (by decide) (e ▸ hi)), ?_⟩
  rcases r3 with e | e
  · exact .inl e
  · refine .inr fun b hb => ?_
    rw [e] at hb
    injection hb with hb
    rw [← hb]
    simp
set_option maxRecDepth 100000 in
theorem add_any {w : World} {C : Col} {δ k a : Nat} {vl vp vs : Value} {us : List Value} {F : Fil} (h : FAt w C δ k a vl vp vs us F) (u : Value) (s : Stp) (hs : SAt w C (δ, k, 4 + F.pen.length) u s) (hc : ∀ n, s = .cut n → n ≤ F.see.length)
    (hn : F.see.length + s.units ≤ 1000000000000) (hn2 : F.pen.length ≤ 1000000000000) : Calls Try.prog 34 #[.pointer (some ⟨a, 0, none⟩), u] w (AddPost C δ k a vl (F.add s) w) := by
  obtain ⟨i0, hi, hz0, hz1, hz2⟩ := info_parts Try.info102
  have q1 := (show FBlk w a vl vp vs from h.blk).c1
  have f1 := (show FBlk w a vl vp vs from h.blk).fr 1
  obtain ⟨Ap, cp, rfl⟩ := own_slice h.pen
  obtain ⟨As, cs, rfl⟩ := own_slice h.see.own
  obtain ⟨tt, xx, rfl⟩ := hs.iface
  have H := Lib.hid (And.intro h (And.intro hs hc))
  have hpen := h.pen
  have hp := Lib.hid hpen
  clear h hs hc hpen
  have hone : ∀ z ∈ (#[Value.iface tt xx]).toList, z.oneCell' = true := by simp [Value.oneCell']
  go_enter Try.func34, Try.ntmps34
  go_upto_region 1 with (at_builtin; refine wpList_append_long rfl _ _ 70 rfl 0 102 i0 .nilIface 1 16 Try.underlying70 hi hz0 hz1 hz2 rfl (by decide) (.slice Ap F.pen.length cp) F.pen.length us #[.iface tt xx] 1 rfl rfl rfl hone hp.out hn2 (by decide) (Nat.zero_le _) ?_; intro A1 c1 w1 r1 r2 r3; obtain ⟨y1, y2, ym⟩ := add_mid H.out.1 H.out.2.1 r1 r2 r3; have HM := Lib.hid ym; clear ym r1 r2 r3)
  cases s with
  | app l =>
    obtain ⟨b, e, hb⟩ := H.out.2.1
    obtain ⟨rfl, rfl⟩ : tt = 80 ∧ xx = .agg #[b] := by simpa using e
    obtain ⟨A', c', rfl⟩ := own_slice hb.own
    have hl : l.length < 9223372036854775808 := by simp only [Stp.units] at hn; omega
    have hpart : F.see.length + (Stp.app l).units ≤ 140737488355328 := by omega
    clear e hb y1 y2 q1 f1
    have z1 := HM.out.blk.c2
    have z2 := HM.out.blk.fr 2
    have z1d := (HM.out.later (Kept.drew _ _)).blk.c2
    have z2d := (HM.out.later (Kept.drew _ _)).blk.fr 2
    go_region_law (first
      | (go_simp; go_at_call 101; refine (units_app _ _ _ _).mono ?_; rintro e w2 ⟨rfl, hk2⟩; have H2 := Lib.hid ((HM.out.later (Kept.drew _ _)).later hk2); have z3 := H2.out.blk.c2; have z4 := H2.out.blk.fr 2)
      | (go_simp; go_at_call 50; refine (part_any H2.out.stW 0 _ F.see l.length H2.out.see.own (Nat.zero_le _) (fun _ => H.out.2.2) hpart hl).mono ?_; rintro e w3 ⟨v3, rfl, r3⟩; obtain ⟨A3, c3, rfl⟩ := own_slice r3.own; have b3 := H2.out.blk.kept r3.kept (fun e => own_ne H2.out.see.own H2.out.blk (by decide) e); have y1 := b3.c2; have y2 := b3.fr 2; have HC := Lib.hid (H2.out.close r3); clear b3 r3))
    all_goals (go_end0; exact HC.out)
  | cut n =>
    have e : Value.iface tt xx = .iface 107 (.agg #[.int .i64 n]) := H.out.2.1
    obtain ⟨rfl, rfl⟩ : tt = 107 ∧ xx = .agg #[.int .i64 n] := by simpa using e
    have hpart : F.see.length + (Stp.cut n).units ≤ 140737488355328 := by omega
    clear e y1 y2 q1 f1
    have z1 := HM.out.blk.c2
    have z2 := HM.out.blk.fr 2
    have z1d := (HM.out.later (Kept.drew _ _)).blk.c2
    have z2d := (HM.out.later (Kept.drew _ _)).blk.fr 2
    go_region_law (first
      | (go_simp; go_at_call 102; refine (units_cut _ _).mono ?_; rintro e w2 ⟨rfl, hk2⟩; have H2 := Lib.hid ((HM.out.later (Kept.drew _ _)).later hk2); have z3 := H2.out.blk.c2; have z4 := H2.out.blk.fr 2)
      | (go_simp; go_at_call 50; refine (part_any H2.out.stW 0 _ F.see 1 H2.out.see.own (Nat.zero_le _) (fun _ => H.out.2.2) hpart (by decide)).mono ?_; rintro e w3 ⟨v3, rfl, r3⟩; obtain ⟨A3, c3, rfl⟩ := own_slice r3.own; have b3 := H2.out.blk.kept r3.kept (fun e => own_ne H2.out.see.own H2.out.blk (by decide) e); have y1 := b3.c2; have y2 := b3.fr 2; have HC := Lib.hid (H2.out.close r3); clear b3 r3))
    all_goals (go_end0; exact HC.out)
end Go.Proofs.Ytgohjgeplageeaa
