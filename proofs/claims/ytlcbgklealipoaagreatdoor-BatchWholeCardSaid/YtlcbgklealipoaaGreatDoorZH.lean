import Derived.Test.YtlcbgklealipoaaGreatDoorZG
section
/- The reader: a trace of the table (the walk; printed by gen_g7.py). -/
namespace Go.Proofs.YtlcbgklealipoaaGreatDoor
open Go Go.RowKit
set_option linter.unusedVariables false
set_option linter.unusedSimpArgs false

section
variable {rb r : Nat} {w0 w : World} {L : List Int} {T : TT} {R : RR} {tv : TV} {s : BSt}
/-- A local block changes. -/
theorem QAt.other {w' : World} {q : Nat} {cs : Array Value} {t : TypeId} {fr : Nat × Nat} (h : QAt rb r w0 L T R tv s w) (hq : w.heap[q]? = some (.cells cs t fr)) (hk : Kept (fun k => k = q) w w') (h1 : t ≠ 110) (h2 : t ≠ 171) (h3 : t ≠ 5) (h4 : t ≠ 9) (h5 : t ≠ 3) (h6 : tv.rl.ownBlock ≠ some q) (hge : w0.heap.size ≤ q) : QAt rb r w0 L T R tv s w' := by
  obtain ⟨v, hv⟩ := h.rd
  obtain ⟨b1, b2, b3, b4, b5, b6⟩ := h.blk
  have nr : ¬ r = q := by rintro rfl; exact h2 (typ_of hv.blk hq)
  have nb : ¬ rb = q := by rintro rfl; exact h1 (typ_of b1 hq)
  refine ⟨⟨v, hv.kept hk nr ?_⟩, h.le, ⟨blk_kept hk b1 nb, own_kept b2 hk (fun k e e2 => own_ne b2 hq h4 (e2 ▸ e)), own_kept b3 hk (fun k e e2 => own_ne b3 hq h5 (e2 ▸ e)), own_kept b4 hk (fun k e e2 => h6 (e2 ▸ e)), own_kept b5 hk (fun k e e2 => own_ne b5 hq h5 (e2 ▸ e)), b6⟩, h.base, h.kept.trans hk (fun _ _ e => e) (fun i hi e => by omega), h.tu, h.ru, h.st⟩
  rintro k hk' rfl
  rcases hv.lies with ⟨_, he⟩ | ⟨g, c, cur, he, _, hh, _⟩
  · rw [he] at hk'; simp [Value.ownBlock] at hk'
  · rw [he] at hk'
    have : g = k := by simpa [Value.ownBlock] using hk'
    subst this
    exact h3 (typ_of hh hq)
theorem Aside.local {w W2 W4 : World} (h : Aside w W2) (hk : Kept (fun k => k = w.heap.size) W2 W4) : Aside w W4 := fun xb cs t fr hx h1 h2 => blk_kept hk (h xb cs t fr hx h1 h2) (by have := blk_lt hx; omega)
theorem ret68 {a : Act} {fn : Func} {Q : Ending → World → Prop} {W : World} {p : Tmp} (h : fn.results = #[.cell p 68]) (g : Nat) (cs : Array Value) {t : TypeId} {fr : Nat × Nat} (hd : a.defers = [])
    (hp : a.tmps.getD p undef = .pointer (some ⟨g, 0, none⟩)) (hb : W.heap[g]? = some (.cells cs t fr)) (hn : cs.size = 2) (hR : Q (.returned (.agg cs)) W) : bodyPost Tryz.prog fn Q .ret a W :=
  bodyPost_ret_by (results_cell_row h a.tmps W g t cs fr _ hp hb Tryz.underlying68 rfl (by rw [Tryz.size68, hn])) hd hR
/-- Two cells of a block are stored. -/
theorem set_two {W : World} {q : Nat} {a b c d : Value} {t : TypeId} (h : W.heap[q]? = some (.cells #[a, b] t (0, 0))) : ((W.setCell ⟨q, 0, none⟩ c).setCell ⟨q, 1, none⟩ d).heap[q]? = some (.cells #[c, d] t (0, 0)) ∧ Kept (fun k => k = q) W ((W.setCell ⟨q, 0, none⟩ c).setCell ⟨q, 1, none⟩ d) :=
  ⟨blk_set (blk_set h 0 c) 1 d, (Kept.setCell (S := fun k => k = q) _ _ _ rfl).trans (Kept.setCell (S := fun k => k = q) _ _ _ rfl) (fun _ _ e => e) (fun _ _ e => e)⟩
set_option maxHeartbeats 4000000 in
set_option maxRecDepth 100000 in
theorem qtrace (h : QAt rb r w0 L T R tv s w) (hl : L.length ≤ 65536) (hb : Bytes L) (hT : R.length ≤ 1000000) :
    Calls Tryz.prog 87 #[.pointer (some ⟨rb, 0, none⟩), .pointer (some ⟨rb, 4, none⟩)] w (QPost rb r w0 L T R tv (namedR (R.map Prod.fst) L s) (fun x v _ => v = .agg #[.int .u64 x.1, .int .u64 x.2]) w) := by
  have H0 := Lib.hid h
  obtain ⟨W, hW⟩ : ∃ W, W = w.alloc (.cells #[.int .u64 0, .int .u64 0] 68) := ⟨_, rfl⟩
  have hk0 : Kept (fun _ => False) w W := by rw [hW]; exact .alloc _ _ _
  have HB : Hid (W.heap[w.heap.size]? = some (.cells #[.int .u64 0, .int .u64 0] 68 (0, 0))) := Lib.hid (by rw [hW]; exact heap_alloc_new w _)
  have HNE : Hid (rb ≠ w.heap.size) := Lib.hid (by have := blk_lt h.blk.1; omega)
  have HRL : Hid (tv.rl.ownBlock ≠ some w.heap.size) := Lib.hid (fun e => by have := own_lt h.blk.2.2.2.1 _ e; omega)
  have h := h.later hk0
  have HK0 := Lib.hid hk0
  have hW' := hW.symm
  have c0 := h.c0
  have H := Lib.hid h
  clear hW hk0
  cases hu : uintR L s with
  | err a no =>
    have hres : namedR (R.map Prod.fst) L s = .err a no := by unfold namedR Rdr.map Rdr.mapS Rdr.upd Rdr.chk; rw [hu]
    have HRES := Lib.hid hres
    have HU := Lib.hid hu
    clear h hu hres
    go_enter Tryz.func87, Tryz.ntmps87
    go_wp2_with (first
      | (go_at_call 44; (with_reducible refine (qat H.out hl).mono ?_); rintro e w' ⟨rfl, rfl⟩)
      | (go_at_call 45; (with_reducible refine (quint H.out hl hb).mono ?_); rintro e w1 hp; unfold QPost at hp; rw [HU.out] at hp; obtain ⟨q1, f1, rfl, hs⟩ := hp; have HS := Lib.hid hs; clear hs))
    refine ⟨rfl, ?_⟩
    unfold QPost
    rw [HRES.out]
    exact ⟨q1, f1, rfl, HS.out⟩
  | ok n s1 =>
    have hn64 := uintR_lt hu
    obtain ⟨t1, t2, t3⟩ := uintR_st hu
    have htu := h.ru
    have HU := Lib.hid hu
    obtain ⟨tu, htu0⟩ : ∃ x, x = s.ru := ⟨_, rfl⟩
    rw [← htu0] at htu t2
    have HT1 := Lib.hid t2
    have c6 : ∀ W, QAt rb r w0 L T R tv s1 W → W.cell? ⟨rb, 6, none⟩ = some (.int .i64 tu) := fun W hW => by rw [← HT1.out]; exact hW.c6
    have HC6 := Lib.hid c6
    by_cases h55 : R.length ≤ n
    · have hres : namedR (R.map Prod.fst) L s = .err s.n 55 := by unfold namedR Rdr.map Rdr.mapS Rdr.upd Rdr.chk tabC; rw [hu]; simp only [List.length_map, if_pos h55]
      have HRES := Lib.hid hres
      have b1 : (R.length ≤ n) = True := eq_true h55
      clear h hu hres h55 t1 t2 t3 htu0 c6
      go_enter Tryz.func87, Tryz.ntmps87
      go_wp2_with (first
      | (go_at_call 44; (with_reducible refine (qat H.out hl).mono ?_); rintro e w' ⟨rfl, rfl⟩)
      | (go_at_call 45; (with_reducible refine (quint H.out hl hb).mono ?_); rintro e w1 hp; unfold QPost at hp; rw [HU.out] at hp; obtain ⟨v1, rfl, rfl, h1, a1⟩ := hp; have H1 := Lib.hid (And.intro h1 a1); obtain ⟨tA, tc, y1, y2⟩ := h1.tabR; have y3 := HC6.out w1 h1; clear h1 a1)
      | (go_at_call 46; (with_reducible refine (wrong_yes (w0 := w0) s.n 55 H1.out.1.kept).mono ?_); rintro e w2 ⟨q1, f1, rfl, hs⟩; have HS := Lib.hid hs; clear hs))
      refine ⟨rfl, ?_⟩
      unfold QPost
      rw [HRES.out]
      exact ⟨q1, f1, rfl, HS.out⟩
    have b1 : (R.length ≤ n) = False := eq_false h55
    by_cases h54 : tu < n
    · have hres : namedR (R.map Prod.fst) L s = .err s.n 54 := by unfold namedR Rdr.map Rdr.mapS Rdr.upd Rdr.chk tabC; rw [hu]; simp only [List.length_map, if_neg h55, ← htu0, if_pos h54]
      have HRES := Lib.hid hres
      have b2 : (tu < n) = True := eq_true h54
      clear h hu hres h55 h54 t1 t2 t3 htu0 c6
      go_enter Tryz.func87, Tryz.ntmps87
      go_wp2_with (first
      | (go_at_call 44; (with_reducible refine (qat H.out hl).mono ?_); rintro e w' ⟨rfl, rfl⟩)
      | (go_at_call 45; (with_reducible refine (quint H.out hl hb).mono ?_); rintro e w1 hp; unfold QPost at hp; rw [HU.out] at hp; obtain ⟨v1, rfl, rfl, h1, a1⟩ := hp; have H1 := Lib.hid (And.intro h1 a1); obtain ⟨tA, tc, y1, y2⟩ := h1.tabR; have y3 := HC6.out w1 h1; clear h1 a1)
      | (go_at_call 46; (with_reducible refine (wrong_yes (w0 := w0) s.n 54 H1.out.1.kept).mono ?_); rintro e w2 ⟨q1, f1, rfl, hs⟩; have HS := Lib.hid hs; clear hs)
      | (go_at_call 46; (with_reducible refine (wrong_no _ _ _).mono ?_); rintro e w' ⟨rfl, rfl⟩))
      refine ⟨rfl, ?_⟩
      unfold QPost
      rw [HRES.out]
      exact ⟨q1, f1, rfl, HS.out⟩
    have b2 : (tu < n) = False := eq_false h54
    obtain ⟨x, hx⟩ : ∃ x, R[n]? = some x := ⟨_, List.getElem?_eq_getElem (by omega)⟩
    have hval : (R.map Prod.fst).getD n (0, 0) = x.1 := by rw [List.getD_eq_getElem?_getD, List.getElem?_map, hx]; rfl
    have HX := Lib.hid hx
    by_cases he : n = tu
    · have hres : namedR (R.map Prod.fst) L s = .ok x.1 { s1 with ru := s1.ru + 1 } := by
        unfold namedR Rdr.map Rdr.mapS Rdr.upd Rdr.chk tabC; rw [hu]; simp only [List.length_map, if_neg h55, ← htu0, if_neg h54, if_pos he, hval, t2]
      have HRES := Lib.hid hres
      have htl : tu + 1 ≤ R.length := by omega
      clear h hu hres h55 h54 t1 t2 t3 htu0 c6 hx hval
      subst he
      go_enter Tryz.func87, Tryz.ntmps87
      go_wp2_with (first
      | (go_at_call 44; (with_reducible refine (qat H.out hl).mono ?_); rintro e w' ⟨rfl, rfl⟩)
      | (go_at_call 45; (with_reducible refine (quint H.out hl hb).mono ?_); rintro e w1 hp; unfold QPost at hp; rw [HU.out] at hp; obtain ⟨v1, rfl, rfl, h1, a1⟩ := hp; have H1 := Lib.hid (And.intro h1 a1); obtain ⟨tA, tc, y1, y2⟩ := h1.tabR; have y3 := HC6.out w1 h1; have hb1 := a1 _ _ _ _ HB.out (by decide) (by decide); have y7 : w1.cell? ⟨w.heap.size, 0, none⟩ = some (.int .u64 0) := (blk_cell hb1 0).trans rfl; have y8 : w1.cell? ⟨w.heap.size, 1, none⟩ = some (.int .u64 0) := (blk_cell hb1 1).trans rfl; have y9 := blk_frozen hb1 0; have y10 := blk_frozen hb1 1; have y11 : rb ≠ w.heap.size := HNE.out; have HB1 := Lib.hid hb1; clear hb1; obtain ⟨g, eA, y4, y5, y6⟩ := y2 n x HX.out; subst eA; have z6 := h1.frozen 6; clear y2; clear h1 a1)
      | (go_at_call 46; (with_reducible refine (wrong_no _ _ _).mono ?_); rintro e w' ⟨rfl, rfl⟩))
      have hst := H1.out.1.setRu (by rw [HT1.out]; exact htl)
      rw [HT1.out] at hst
      obtain ⟨m1, m2⟩ := hst
      obtain ⟨W2, hW2⟩ : ∃ W2, W2 = w'.setCell ⟨rb, 6, none⟩ (.int .i64 ((n : Int) + 1)) := ⟨_, rfl⟩
      rw [← hW2] at m1 m2 ⊢
      have hb2 := m2 _ _ _ _ HB1.out (by decide) (by decide)
      obtain ⟨b4, k4⟩ := set_two (c := .int .u64 x.1.1) (d := .int .u64 x.1.2) hb2
      refine ret68 rfl w.heap.size _ rfl rfl b4 rfl ?_
      unfold QPost
      rw [HRES.out, HT1.out]
      exact ⟨_, rfl, rfl, m1.other hb2 k4 (by decide) (by decide) (by decide) (by decide) (by decide) HRL.out H0.out.kept.size, (((Aside.of_kept HK0.out).trans H1.out.2).trans m2).local k4⟩
    · have hres : namedR (R.map Prod.fst) L s = .ok x.1 s1 := by
        unfold namedR Rdr.map Rdr.mapS Rdr.upd Rdr.chk tabC; rw [hu]; simp only [List.length_map, if_neg h55, ← htu0, if_neg h54, if_neg he, hval]
      have HRES := Lib.hid hres
      have b3 : ((n : Int) == (tu : Int)) = false := by rw [beq_eq_false_iff_ne]; omega
      have b4 : (n == tu) = false := by rw [beq_eq_false_iff_ne]; exact he
      have b5 : n < R.length := by omega
      clear h hu hres h55 h54 t1 t2 t3 htu0 c6 hx hval he
      go_enter Tryz.func87, Tryz.ntmps87
      go_wp2_with (first
      | (go_at_call 44; (with_reducible refine (qat H.out hl).mono ?_); rintro e w' ⟨rfl, rfl⟩)
      | (go_at_call 45; (with_reducible refine (quint H.out hl hb).mono ?_); rintro e w1 hp; unfold QPost at hp; rw [HU.out] at hp; obtain ⟨v1, rfl, rfl, h1, a1⟩ := hp; have H1 := Lib.hid (And.intro h1 a1); obtain ⟨tA, tc, y1, y2⟩ := h1.tabR; have y3 := HC6.out w1 h1; have hb1 := a1 _ _ _ _ HB.out (by decide) (by decide); have y7 : w1.cell? ⟨w.heap.size, 0, none⟩ = some (.int .u64 0) := (blk_cell hb1 0).trans rfl; have y8 : w1.cell? ⟨w.heap.size, 1, none⟩ = some (.int .u64 0) := (blk_cell hb1 1).trans rfl; have y9 := blk_frozen hb1 0; have y10 := blk_frozen hb1 1; have y11 : rb ≠ w.heap.size := HNE.out; have HB1 := Lib.hid hb1; clear hb1; obtain ⟨g, eA, y4, y5, y6⟩ := y2 n x HX.out; subst eA; clear y2; clear h1 a1)
      | (go_at_call 46; (with_reducible refine (wrong_no _ _ _).mono ?_); rintro e w' ⟨rfl, rfl⟩))
      obtain ⟨b4, k4⟩ := set_two (c := .int .u64 x.1.1) (d := .int .u64 x.1.2) HB1.out
      refine ret68 rfl w.heap.size _ rfl rfl b4 rfl ?_
      unfold QPost
      rw [HRES.out]
      exact ⟨_, rfl, rfl, H1.out.1.other HB1.out k4 (by decide) (by decide) (by decide) (by decide) (by decide) HRL.out H0.out.kept.size, ((Aside.of_kept HK0.out).trans H1.out.2).local k4⟩
end
end Go.Proofs.YtlcbgklealipoaaGreatDoor
end

section
/- The reader: a thing that is known of a span (the walk; printed by gen_g8.py). -/
namespace Go.Proofs.YtlcbgklealipoaaGreatDoor
open Go Go.RowKit
set_option linter.unusedVariables false
set_option linter.unusedSimpArgs false

section
variable {rb r : Nat} {w0 w : World} {L : List Int} {T : TT} {R : RR} {tv : TV} {s : BSt}
theorem Aside.locals {w W2 W4 : World} {q : Nat} (h : Aside w W2) (hk : Kept (fun k => k = q) W2 W4) (hq : w.heap.size ≤ q) : Aside w W4 := fun xb cs t fr hx h1 h2 => blk_kept hk (h xb cs t fr hx h1 h2) (by have := blk_lt hx; omega)
/-- The reader, with one local block. -/
structure QMid (rb r : Nat) (w0 : World) (L : List Int) (T : TT) (R : RR) (tv : TV) (s : BSt) (wB : World) (q : Nat) (cs : Array Value) (t : TypeId) (W : World) : Prop where
  at_ : QAt rb r w0 L T R tv s W
  ap : Aside wB W
  blk : W.heap[q]? = some (.cells cs t (0, 0))
  ge : wB.heap.size ≤ q
  ge0 : w0.heap.size ≤ q
  ne : t ≠ 110 ∧ t ≠ 171 ∧ t ≠ 5 ∧ t ≠ 9 ∧ t ≠ 3 ∧ t ≠ 68
section
variable {q : Nat} {cs : Array Value} {t : TypeId} {wB W : World}
theorem QMid.cq (h : QMid rb r w0 L T R tv s wB q cs t W) (i : Nat) : W.cell? ⟨q, i, none⟩ = cs[i]? := blk_cell h.blk i
theorem QMid.fq (h : QMid rb r w0 L T R tv s wB q cs t W) (i : Nat) : W.frozen? ⟨q, i, none⟩ = false := blk_frozen h.blk i
theorem QMid.later {W' : World} (h : QMid rb r w0 L T R tv s wB q cs t W) (hk : Kept (fun _ => False) W W') : QMid rb r w0 L T R tv s wB q cs t W' := ⟨h.at_.later hk, h.ap.trans (.of_kept hk), blk_kept hk h.blk (fun h => h), h.ge, h.ge0, h.ne⟩
theorem QMid.call {s' : BSt} {W' : World} (h : QMid rb r w0 L T R tv s wB q cs t W) (h1 : QAt rb r w0 L T R tv s' W') (h2 : Aside W W') : QMid rb r w0 L T R tv s' wB q cs t W' := ⟨h1, h.ap.trans h2, h2 _ _ _ _ h.blk h.ne.1 h.ne.2.1, h.ge, h.ge0, h.ne⟩
theorem QMid.turn {cs' : Array Value} {W' : World} (h : QMid rb r w0 L T R tv s wB q cs t W) (hk : Kept (fun k => k = q) W W') (hb : W'.heap[q]? = some (.cells cs' t (0, 0))) : QMid rb r w0 L T R tv s wB q cs' t W' :=
  ⟨h.at_.other h.blk hk h.ne.1 h.ne.2.1 h.ne.2.2.1 h.ne.2.2.2.1 h.ne.2.2.2.2.1 (own_ne h.at_.blk.2.2.2.1 h.blk h.ne.2.2.2.2.2) h.ge0, h.ap.locals hk h.ge, hb, h.ge, h.ge0, h.ne⟩
theorem QMid.store (h : QMid rb r w0 L T R tv s wB q cs t W) (i : Nat) (u : Value) : QMid rb r w0 L T R tv s wB q (cs.setIfInBounds i u) t (W.setCell ⟨q, i, none⟩ u) := h.turn (.setCell _ _ _ rfl) (blk_set h.blk i u)
end
theorem wpList_atr_to {ops : Array Oper} {rest : List Oper} {op : Oper} {a : Act} {Q : Exit → Act → World → Prop} (hgd : op.guard = none) (x y : Operand) (ho : op.op = .store 132 x y) (g : Nat) (s0 s : Atr) (hx : a.eval x = .pointer (some ⟨g, 0, none⟩)) (hy : a.eval y = .agg (atrA s)) (hb : w.heap[g]? = some (.cells (atrA s0) 132 (0, 0)))
    (h : ∀ w', w'.heap[g]? = some (.cells (atrA s) 132 (0, 0)) → Kept (fun k => k = g) w w' → wpList Tryz.prog ops Q rest (a.put op.dst undef) w') : wpList Tryz.prog ops Q (op :: rest) a w :=
  wpList_store_blk hgd 132 x y ho 4 Tryz.size132 g (atrA s0) (atrA s) hx hy hb rfl rfl (by simp [atrA, Value.oneCell']) h
theorem ret132 {a : Act} {fn : Func} {Q : Ending → World → Prop} {W : World} {p : Tmp} (h : fn.results = #[.cell p 132]) (g : Nat) (cs : Array Value) {t : TypeId} {fr : Nat × Nat} (hd : a.defers = [])
    (hp : a.tmps.getD p undef = .pointer (some ⟨g, 0, none⟩)) (hb : W.heap[g]? = some (.cells cs t fr)) (hn : cs.size = 4) (hR : Q (.returned (.agg cs)) W) : bodyPost Tryz.prog fn Q .ret a W :=
  bodyPost_ret_by (results_cell_row h a.tmps W g t cs fr _ hp hb Tryz.underlying132 rfl (by rw [Tryz.size132, hn])) hd hR
theorem smallR_le {m n : Nat} {s1 : BSt} (h : smallR m L s = .ok n s1) : n ≤ m := by
  unfold smallR Rdr.chk at h
  split at h
  · rename_i v s' hv
    by_cases hb : m < v
    · simp only [if_pos hb] at h; cases h
    · simp only [if_neg hb] at h
      injection h with h1 h2
      omega
  · cases h
set_option maxHeartbeats 8000000 in
set_option maxRecDepth 100000 in
theorem qattr (h : QAt rb r w0 L T R tv s w) (hl : L.length ≤ 65536) (hb : Bytes L) (hT : T.length ≤ 1000000) :
    Calls Tryz.prog 93 #[.pointer (some ⟨rb, 0, none⟩)] w (QPost rb r w0 L T R tv (attrR (T.map Prod.fst) L s) (fun x v _ => v = .agg (atrA x)) w) := by
  have H0 := Lib.hid h
  obtain ⟨W, hW⟩ : ∃ W, W = w.alloc (.cells #[.string ⟨#[]⟩, .int .i64 0, .string ⟨#[]⟩, .int .i64 0] 132) := ⟨_, rfl⟩
  have hk0 : Kept (fun _ => False) w W := by rw [hW]; exact .alloc _ _ _
  have HB : Hid (W.heap[w.heap.size]? = some (.cells (atrA ⟨⟨#[]⟩, 0, ⟨#[]⟩, 0⟩) 132 (0, 0))) := Lib.hid (by rw [hW]; exact heap_alloc_new w _)
  have h := h.later hk0
  have HK0 := Lib.hid hk0
  have hW' := hW.symm
  have H := Lib.hid h
  clear hW hk0 h
  cases hu : namedT (T.map Prod.fst) L s with
  | err a no =>
    have hres : attrR (T.map Prod.fst) L s = .err a no := by unfold attrR Rdr.bind; rw [hu]
    have HRES := Lib.hid hres
    have HU := Lib.hid hu
    clear hu hres
    go_enter Tryz.func93, Tryz.ntmps93
    go_wp2_with (go_at_call 89; (with_reducible refine (qtext H.out hl hb hT).mono ?_); rintro e w1 hp; unfold QPost at hp; rw [HU.out] at hp; obtain ⟨q1, f1, rfl, hs⟩ := hp; have HS := Lib.hid hs; clear hs)
    refine ⟨rfl, ?_⟩
    unfold QPost
    rw [HRES.out]
    exact ⟨q1, f1, rfl, HS.out⟩
  | ok key s1 =>
  have HU := Lib.hid hu
  go_enter Tryz.func93, Tryz.ntmps93
  go_upto_region 2 with (first
    | (go_at_call 89; (with_reducible refine (qtext H.out hl hb hT).mono ?_); rintro e w1 hp; unfold QPost at hp; rw [HU.out] at hp; obtain ⟨v1, rfl, rfl, h1, a1⟩ := hp; have H1 := Lib.hid (And.intro h1 a1); clear h1 a1)
    | (refine wpList_atr_new rfl _ _ rfl ⟨key, 0, ⟨#[]⟩, 0⟩ _ rfl rfl rfl ?_; intro w2 hb2 hk2; have H2 := Lib.hid (And.intro hb2 hk2); clear hb2 hk2))
  obtain ⟨q2, hq2⟩ : ∃ q, q = w1.heap.size := ⟨_, rfl⟩
  have hsz : W.heap.size = w.heap.size + 1 := by rw [← hW']; simp
  have hlt := blk_lt (H1.out.2 _ _ _ _ HB.out (by decide) (by decide))
  have hm : QMid rb r w0 L T R tv s1 W q2 (atrA ⟨key, 0, ⟨#[]⟩, 0⟩) 132 w2 := ⟨H1.out.1.later H2.out.2, H1.out.2.trans (.of_kept H2.out.2), by rw [hq2]; exact H2.out.1, by omega, by have := H0.out.kept.size; omega, by decide, by decide, by decide, by decide, by decide, by decide⟩
  rw [← hq2]
  try simp only [Act.put]
  have HM := Lib.hid hm
  have hsm : Calls Tryz.prog 129 #[.pointer (some ⟨rb, 0, none⟩), .int .u8 2] w2 (QPost rb r w0 L T R tv (smallR 2 L s1) (fun x v _ => v = .int .u8 x) w2) := qsmall hm.at_ hl hb 2 (by omega)
  have HSM := Lib.hid hsm
  clear hsz hlt hm hsm hq2 H1 H2
  cases hv : smallR 2 L s1 with
  | err a no =>
    have hres : attrR (T.map Prod.fst) L s = .err a no := by unfold attrR Rdr.bind; rw [hu]; simp only [hv]
    have HRES := Lib.hid hres
    have HVV := Lib.hid hv
    clear hu hv hres
    go_wp2_with (go_at_call 129; (with_reducible refine HSM.out.mono ?_); rintro e w1 hp; unfold QPost at hp; rw [HVV.out] at hp; obtain ⟨q1, f1, rfl, hs⟩ := hp; have HS := Lib.hid hs; clear hs)
    refine ⟨rfl, ?_⟩
    unfold QPost
    rw [HRES.out]
    exact ⟨q1, f1, rfl, HS.out⟩
  | ok k s2 =>
    have hk2 := smallR_le hv
    have HVV := Lib.hid hv
    go_upto_region 4 with (go_at_call 129; (with_reducible refine HSM.out.mono ?_); rintro e w3 hp; unfold QPost at hp; rw [HVV.out] at hp; obtain ⟨v3, rfl, rfl, h3, a3⟩ := hp; have hm3 := HM.out.call h3 a3; have y3 : w3.cell? ⟨q2, 1, none⟩ = some (.int .i64 0) := (hm3.cq 1).trans rfl; have z3 := hm3.fq 1; have HM3 := Lib.hid hm3; clear hm3 h3 a3)
    have hm4 : QMid rb r w0 L T R tv s2 W q2 (atrA ⟨key, k, ⟨#[]⟩, 0⟩) 132 (w3.setCell ⟨q2, 1, none⟩ (.int .i64 k)) := HM3.out.store 1 (.int .i64 k)
    obtain ⟨W4, hW4⟩ : ∃ W4, W4 = w3.setCell ⟨q2, 1, none⟩ (.int .i64 k) := ⟨_, rfl⟩
    rw [← hW4] at hm4 ⊢
    have HM4 := Lib.hid hm4
    have hs1 : Calls Tryz.prog 129 #[.pointer (some ⟨rb, 0, none⟩), .int .u8 1] W4 (QPost rb r w0 L T R tv (smallR 1 L s2) (fun x v _ => v = .int .u8 x) W4) := qsmall hm4.at_ hl hb 1 (by omega)
    have HS1 := Lib.hid hs1
    clear hm4 hW4 y3 z3 HM3 HM HSM hs1
    rcases (show k = 0 ∨ k = 1 ∨ k = 2 by omega) with hk | hk | hk
    · have hres0 : ∀ a no, namedT (T.map Prod.fst) L s2 = .err a no → attrR (T.map Prod.fst) L s = .err a no := fun a no he => by
        unfold attrR Rdr.bind; rw [hu]; simp only [hv, if_pos hk]; unfold Rdr.map Rdr.mapS; rw [he]
      have hres1 : ∀ x s3, namedT (T.map Prod.fst) L s2 = .ok x s3 → attrR (T.map Prod.fst) L s = .ok ⟨key, (k : Int), x, 0⟩ s3 := fun x s3 he => by
        unfold attrR Rdr.bind; rw [hu]; simp only [hv, if_pos hk]; unfold Rdr.map Rdr.mapS; rw [he]; simp only [hk]; rfl
      have HR0 := Lib.hid hres0
      have HR1 := Lib.hid hres1
      have k0 : (((k : Nat) : Int) == 0) = true := by rw [hk]; rfl
      clear hres0 hres1 hk hu hv hk2
      cases hx : namedT (T.map Prod.fst) L s2 with
      | err a no =>
        have HRES := Lib.hid (HR0.out a no hx)
        have HX := Lib.hid hx
        clear hx
        go_wp2_with (go_at_call 89; (with_reducible refine (qtext HM4.out.at_ hl hb hT).mono ?_); rintro e w1 hp; unfold QPost at hp; rw [HX.out] at hp; obtain ⟨q1, f1, rfl, hs⟩ := hp; have HS := Lib.hid hs; clear hs)
        refine ⟨rfl, ?_⟩
        unfold QPost
        rw [HRES.out]
        exact ⟨q1, f1, rfl, HS.out⟩
      | ok x s3 =>
        have HRES := Lib.hid (HR1.out x s3 hx)
        have HX := Lib.hid hx
        clear hx
        go_upto_region 10 with (go_at_call 89; (with_reducible refine (qtext HM4.out.at_ hl hb hT).mono ?_); rintro e w5 hp; unfold QPost at hp; rw [HX.out] at hp; obtain ⟨v5, rfl, rfl, h5, a5⟩ := hp; have hm5 := HM4.out.call h5 a5; have y5 : w5.cell? ⟨q2, 2, none⟩ = some (.string ⟨#[]⟩) := (hm5.cq 2).trans rfl; have z5 := hm5.fq 2; have HM5' := Lib.hid hm5; clear hm5 h5 a5)
        have hm6 : QMid rb r w0 L T R tv s3 W q2 (atrA ⟨key, (k : Int), x, 0⟩) 132 (w5.setCell ⟨q2, 2, none⟩ (.string x)) := HM5'.out.store 2 (.string x)
        obtain ⟨W6, hW6⟩ : ∃ W6, W6 = w5.setCell ⟨q2, 2, none⟩ (.string x) := ⟨_, rfl⟩
        rw [← hW6] at hm6 ⊢
        have HM5 := Lib.hid hm6
        have hb5 := hm6.ap _ _ _ _ HB.out (by decide) (by decide)
        have HB5 := Lib.hid hb5
        clear hm6 hW6 hb5 y5 z5 HM5'
        go_wp2_with (first
          | (refine wpList_atr_blk rfl _ rfl q2 ⟨key, (k : Int), x, 0⟩ rfl HM5.out.blk ?_)
          | (refine wpList_atr_to rfl _ _ rfl w.heap.size ⟨⟨#[]⟩, 0, ⟨#[]⟩, 0⟩ ⟨key, (k : Int), x, 0⟩ rfl rfl HB5.out ?_; intro w9 hb9 hk9; have H9 := Lib.hid (And.intro hb9 hk9); clear hb9 hk9))
        refine ret132 rfl w.heap.size _ rfl rfl H9.out.1 rfl ?_
        unfold QPost
        rw [HRES.out]
        exact ⟨_, rfl, rfl, HM5.out.at_.other HB5.out H9.out.2 (by decide) (by decide) (by decide) (by decide) (by decide) (own_ne HM5.out.at_.blk.2.2.2.1 HB5.out (by decide)) H0.out.kept.size, ((Aside.of_kept HK0.out).trans HM5.out.ap).local H9.out.2⟩
    · have hres0 : ∀ a no, intR L s2 = .err a no → attrR (T.map Prod.fst) L s = .err a no := fun a no he => by
        unfold attrR Rdr.bind; rw [hu]; simp only [hv, if_neg (show ¬ k = 0 by omega), if_pos hk]; unfold Rdr.map Rdr.mapS; rw [he]
      have hres1 : ∀ x s3, intR L s2 = .ok x s3 → attrR (T.map Prod.fst) L s = .ok ⟨key, (k : Int), ⟨#[]⟩, x⟩ s3 := fun x s3 he => by
        unfold attrR Rdr.bind; rw [hu]; simp only [hv, if_neg (show ¬ k = 0 by omega), if_pos hk]; unfold Rdr.map Rdr.mapS; rw [he]; simp only [hk]; rfl
      have HR0 := Lib.hid hres0
      have HR1 := Lib.hid hres1
      have k0 : (((k : Nat) : Int) == 0) = false := by rw [hk]; rfl
      have k1 : (((k : Nat) : Int) == 1) = true := by rw [hk]; rfl
      clear hres0 hres1 hk hu hv hk2
      cases hx : intR L s2 with
      | err a no =>
        have HRES := Lib.hid (HR0.out a no hx)
        have HX := Lib.hid hx
        clear hx
        go_wp2_with (go_at_call 128; (with_reducible refine (qint HM4.out.at_ hl hb).mono ?_); rintro e w1 hp; unfold QPost at hp; rw [HX.out] at hp; obtain ⟨q1, f1, rfl, hs⟩ := hp; have HS := Lib.hid hs; clear hs)
        refine ⟨rfl, ?_⟩
        unfold QPost
        rw [HRES.out]
        exact ⟨q1, f1, rfl, HS.out⟩
      | ok x s3 =>
        have HRES := Lib.hid (HR1.out x s3 hx)
        have HX := Lib.hid hx
        clear hx
        go_upto_region 10 with (go_at_call 128; (with_reducible refine (qint HM4.out.at_ hl hb).mono ?_); rintro e w5 hp; unfold QPost at hp; rw [HX.out] at hp; obtain ⟨v5, rfl, rfl, h5, a5⟩ := hp; have hm5 := HM4.out.call h5 a5; have y5 : w5.cell? ⟨q2, 3, none⟩ = some (.int .i64 0) := (hm5.cq 3).trans rfl; have z5 := hm5.fq 3; have HM5' := Lib.hid hm5; clear hm5 h5 a5)
        have hm6 : QMid rb r w0 L T R tv s3 W q2 (atrA ⟨key, (k : Int), ⟨#[]⟩, x⟩) 132 (w5.setCell ⟨q2, 3, none⟩ (.int .i64 x)) := HM5'.out.store 3 (.int .i64 x)
        obtain ⟨W6, hW6⟩ : ∃ W6, W6 = w5.setCell ⟨q2, 3, none⟩ (.int .i64 x) := ⟨_, rfl⟩
        rw [← hW6] at hm6 ⊢
        have HM5 := Lib.hid hm6
        have hb5 := hm6.ap _ _ _ _ HB.out (by decide) (by decide)
        have HB5 := Lib.hid hb5
        clear hm6 hW6 hb5 y5 z5 HM5'
        go_wp2_with (first
          | (refine wpList_atr_blk rfl _ rfl q2 ⟨key, (k : Int), ⟨#[]⟩, x⟩ rfl HM5.out.blk ?_)
          | (refine wpList_atr_to rfl _ _ rfl w.heap.size ⟨⟨#[]⟩, 0, ⟨#[]⟩, 0⟩ ⟨key, (k : Int), ⟨#[]⟩, x⟩ rfl rfl HB5.out ?_; intro w9 hb9 hk9; have H9 := Lib.hid (And.intro hb9 hk9); clear hb9 hk9))
        refine ret132 rfl w.heap.size _ rfl rfl H9.out.1 rfl ?_
        unfold QPost
        rw [HRES.out]
        exact ⟨_, rfl, rfl, HM5.out.at_.other HB5.out H9.out.2 (by decide) (by decide) (by decide) (by decide) (by decide) (own_ne HM5.out.at_.blk.2.2.2.1 HB5.out (by decide)) H0.out.kept.size, ((Aside.of_kept HK0.out).trans HM5.out.ap).local H9.out.2⟩
    · have hres0 : ∀ a no, smallR 1 L s2 = .err a no → attrR (T.map Prod.fst) L s = .err a no := fun a no he => by
        unfold attrR Rdr.bind; rw [hu]; simp only [hv, if_neg (show ¬ k = 0 by omega), if_neg (show ¬ k = 1 by omega)]; unfold Rdr.map Rdr.mapS; rw [he]
      have hres1 : ∀ x s3, smallR 1 L s2 = .ok x s3 → attrR (T.map Prod.fst) L s = .ok ⟨key, (k : Int), ⟨#[]⟩, (x : Int)⟩ s3 := fun x s3 he => by
        unfold attrR Rdr.bind; rw [hu]; simp only [hv, if_neg (show ¬ k = 0 by omega), if_neg (show ¬ k = 1 by omega)]; unfold Rdr.map Rdr.mapS; rw [he]; simp only [hk]; rfl
      have HR0 := Lib.hid hres0
      have HR1 := Lib.hid hres1
      have k0 : (((k : Nat) : Int) == 0) = false := by rw [hk]; rfl
      have k1 : (((k : Nat) : Int) == 1) = false := by rw [hk]; rfl
      have k2 : (((k : Nat) : Int) == 2) = true := by rw [hk]; rfl
      clear hres0 hres1 hk hu hv hk2
      cases hx : smallR 1 L s2 with
      | err a no =>
        have HRES := Lib.hid (HR0.out a no hx)
        have HX := Lib.hid hx
        clear hx
        go_wp2_with (go_at_call 129; (with_reducible refine HS1.out.mono ?_); rintro e w1 hp; unfold QPost at hp; rw [HX.out] at hp; obtain ⟨q1, f1, rfl, hs⟩ := hp; have HS := Lib.hid hs; clear hs)
        refine ⟨rfl, ?_⟩
        unfold QPost
        rw [HRES.out]
        exact ⟨q1, f1, rfl, HS.out⟩
      | ok x s3 =>
        have HRES := Lib.hid (HR1.out x s3 hx)
        have HX := Lib.hid hx
        have hx1 := smallR_le hx
        clear hx
        go_upto_region 10 with (go_at_call 129; (with_reducible refine HS1.out.mono ?_); rintro e w5 hp; unfold QPost at hp; rw [HX.out] at hp; obtain ⟨v5, rfl, rfl, h5, a5⟩ := hp; have hm5 := HM4.out.call h5 a5; have y5 : w5.cell? ⟨q2, 3, none⟩ = some (.int .i64 0) := (hm5.cq 3).trans rfl; have z5 := hm5.fq 3; have HM5' := Lib.hid hm5; clear hm5 h5 a5)
        have hm6 : QMid rb r w0 L T R tv s3 W q2 (atrA ⟨key, (k : Int), ⟨#[]⟩, (x : Int)⟩) 132 (w5.setCell ⟨q2, 3, none⟩ (.int .i64 x)) := HM5'.out.store 3 (.int .i64 x)
        obtain ⟨W6, hW6⟩ : ∃ W6, W6 = w5.setCell ⟨q2, 3, none⟩ (.int .i64 x) := ⟨_, rfl⟩
        rw [← hW6] at hm6 ⊢
        have HM5 := Lib.hid hm6
        have hb5 := hm6.ap _ _ _ _ HB.out (by decide) (by decide)
        have HB5 := Lib.hid hb5
        clear hm6 hW6 hb5 y5 z5 HM5'
        go_wp2_with (first
          | (refine wpList_atr_blk rfl _ rfl q2 ⟨key, (k : Int), ⟨#[]⟩, (x : Int)⟩ rfl HM5.out.blk ?_)
          | (refine wpList_atr_to rfl _ _ rfl w.heap.size ⟨⟨#[]⟩, 0, ⟨#[]⟩, 0⟩ ⟨key, (k : Int), ⟨#[]⟩, (x : Int)⟩ rfl rfl HB5.out ?_; intro w9 hb9 hk9; have H9 := Lib.hid (And.intro hb9 hk9); clear hb9 hk9))
        refine ret132 rfl w.heap.size _ rfl rfl H9.out.1 rfl ?_
        unfold QPost
        rw [HRES.out]
        exact ⟨_, rfl, rfl, HM5.out.at_.other HB5.out H9.out.2 (by decide) (by decide) (by decide) (by decide) (by decide) (own_ne HM5.out.at_.blk.2.2.2.1 HB5.out (by decide)) H0.out.kept.size, ((Aside.of_kept HK0.out).trans HM5.out.ap).local H9.out.2⟩
end
end Go.Proofs.YtlcbgklealipoaaGreatDoor
end

