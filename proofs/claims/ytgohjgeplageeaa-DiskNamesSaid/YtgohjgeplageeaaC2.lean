/- Copy: the twins; a file's twin. -/
import Derived.Test.YtgohjgeplageeaaC1
import Derived.Test.YtgohjgeplageeaaM3
namespace Go.Proofs.Ytgohjgeplageeaa
open Go Go.RowKit
set_option linter.unusedVariables false
set_option linter.unusedSimpArgs false
attribute [local go_sem ↓] Go.wp_at_zero Go.wp_at_succ

/-- A copy under way: which files have twins. -/
structure CpSt (w0 : World) (C0 : Col) (S : Dsk) (ad : Nat → Nat) (δ' tc tb : Nat) (T : Nat → Option Nat) (C : Col) (w : World) : Prop where
  kept : Kept (fun _ => False) w0 w
  agr : Agr w0 C0 C
  tw : TwAt w tb ad T
  cell : w.heap[tc]? = some (.cells #[.map (some tb)] 87 (0, 0))
  ctb : (C tb).1 ≠ δ'
  ntb : w0.heap.size ≤ tb
  ntc : w0.heap.size ≤ tc
  fl : ∀ i t, T i = some t → S.made.getD i false = true ∧ w0.heap.size ≤ t ∧ ∃ F vl vp vs us, S.fs[i]? = some F ∧ FAt w C δ' (i + 1) t vl vp vs us F
section
variable {w0 w w' : World} {C0 C C' : Col} {S : Dsk} {ad : Nat → Nat} {δ' tc tb : Nat} {T : Nat → Option Nat}
theorem CpSt.ne (h : CpSt w0 C0 S ad δ' tc tb T C w) : tb ≠ tc := by
  rintro rfl
  obtain ⟨K, ⟨es, c, hb, _⟩, _⟩ := h.tw
  rw [h.cell] at hb
  cases hb
/-- Other blocks turn. -/
theorem CpSt.later {R : Nat → Prop} (h : CpSt w0 C0 S ad δ' tc tb T C w) (hk : Kept R w w') (hC : Agr w C C') (h1 : ¬ R tb) (h2 : ¬ R tc) (h3 : ∀ b, R b → w0.heap.size ≤ b) (h4 : ∀ b, (C b).1 = δ' → (C b).2.1 ≠ 0 → ¬ R b) : CpSt w0 C0 S ad δ' tc tb T C' w' := by
  refine ⟨h.kept.trans hk (fun _ _ e => e) (fun b hb e => by have := h3 b e; omega), h.agr.trans hC h.kept.size, h.tw.kept hk h1, blk_kept hk h.cell h2, by rw [hC tb h.tw.lt]; exact h.ctb, h.ntb, h.ntc, fun i t hi => ?_⟩
  obtain ⟨g1, g2, F, vl, vp, vs, us, g3, g4⟩ := h.fl i t hi
  exact ⟨g1, g2, F, vl, vp, vs, us, g3, g4.kept hk (fun b e1 e2 => h4 b e1 (by omega)) hC⟩
end
def OfPost (w0 : World) (C0 : Col) (S : Dsk) (ad : Nat → Nat) (δ' tc tb : Nat) (T : Nat → Option Nat) (C : Col) (i : Nat) (w : World) (e : Ending) (w' : World) : Prop :=
  ∃ t T' C', e = .returned (.pointer (some ⟨t, 0, none⟩)) ∧ T' i = some t ∧ (∀ j u, T j = some u → T' j = some u) ∧ CpSt w0 C0 S ad δ' tc tb T' C' w' ∧ Agr w C C' ∧ Kept (fun b => b = tb) w w'
theorem of_end {w0 w w1 w2 : World} {C0 C C1 : Col} {S : Dsk} {ad : Nat → Nat} {δ' tc tb : Nat} {T : Nat → Option Nat} {i t : Nat} {F : Fil} {vl vp vs : Value} {us : List Value} (st : CpSt w0 C0 S ad δ' tc tb T C w) (hi : S.made.getD i false = true) (hF : S.fs[i]? = some F) (hT : T i = none)
    (r1 : w.heap.size ≤ t) (r2 : Agr w C C1) (r3 : FAt w1 C1 δ' (i + 1) t vl vp vs us F) (k1 : Kept (fun _ => False) w w1) (p1 : TwAt w2 tb ad fun j => if j = i then some t else T j) (p2 : w1.grownBy w2 (some tb)) :
    CpSt w0 C0 S ad δ' tc tb (fun j => if j = i then some t else T j) C1 w2 ∧ Kept (fun b => b = tb) w w2 ∧ (∀ j u, T j = some u → (if j = i then some t else T j) = some u) := by
  have k2 : Kept (fun b => b = tb) w1 w2 := Kept.of_grown p2 fun k e => by injection e with e; exact e.symm
  have hctb : (C1 tb).1 ≠ δ' := by rw [r2 tb st.tw.lt]; exact st.ctb
  have hno : ∀ b, (C1 b).1 = δ' → b ≠ tb := fun b e e2 => hctb (e2 ▸ e)
  have hsz := st.kept.size
  refine ⟨⟨(kept0 st.kept k1).trans k2 (fun _ _ e => e) (fun b hb e => by have := st.ntb; omega), st.agr.trans r2 hsz, p1, blk_kept k2 (blk_kept k1 st.cell (fun e => e)) (fun e => st.ne e.symm), hctb, st.ntb, st.ntc, ?_⟩, k1.trans k2 (fun _ _ e => e.elim) (fun _ _ e => e), ?_⟩
  · intro j u hj
    by_cases e : j = i
    · subst e
      replace hj : (if j = j then some t else T j) = some u := hj
      rw [if_pos rfl] at hj
      have hj := Option.some.inj hj
      subst hj
      exact ⟨hi, by omega, F, vl, vp, vs, us, hF, r3.kept k2 (fun b e1 _ => hno b e1) (Agr.refl _ _)⟩
    · replace hj : (if j = i then some t else T j) = some u := hj
      rw [if_neg e] at hj
      obtain ⟨g1, g2, G, a1, a2, a3, a4, g3, g4⟩ := st.fl j u hj
      exact ⟨g1, g2, G, a1, a2, a3, a4, g3, (g4.kept k1 (fun _ _ _ e => e) r2).kept k2 (fun b e1 _ => hno b e1) (Agr.refl _ _)⟩
  · intro j u hj
    by_cases e : j = i
    · subst e; rw [hT] at hj; cases hj
    · rw [if_neg e]; exact hj
theorem of_nil (w : World) (tc : Nat) : Calls Try.prog 40 #[.pointer none, .pointer (some ⟨tc, 0, none⟩)] w fun e w' => e = .returned (.pointer none) ∧ w' = w := by
  go_enter Try.func40, Try.ntmps40
  go_wp2_with fail
  go_ret
  exact ⟨rfl, rfl⟩
set_option maxHeartbeats 4000000 in
set_option maxRecDepth 100000 in
theorem of_any {w0 w : World} {C0 C : Col} {δ d N ml ms : Nat} {vm vd : Value} {ad : Nat → Nat} {S : Dsk} (h0 : S.Ok N) (h : DAt w0 C0 δ d N ml ms vm vd ad S) (hN : N ≤ 1000000000000) {δ' tc tb : Nat} {T : Nat → Option Nat} (st : CpSt w0 C0 S ad δ' tc tb T C w) (i : Nat) (hi : S.made.getD i false = true) :
    Calls Try.prog 40 #[.pointer (some ⟨ad i, 0, none⟩), .pointer (some ⟨tc, 0, none⟩)] w (OfPost w0 C0 S ad δ' tc tb T C i w) := by
  have hsol : ∀ j, S.made.getD j false = true → Solid w (ad j) := fun j hj => (h.solid h0 hj).kept st.kept (fun e => e)
  have hTs : ∀ j t, T j = some t → Solid w (ad j) := fun j t ht => hsol j (st.fl j t ht).1
  have hinj : ∀ j t, T j = some t → ad j = ad i → j = i := fun j t ht e => h.inj h0 (st.fl j t ht).1 hi e
  have q0 := (blk_cell st.cell 0).trans (show _ = some (.map (some tb)) from rfl)
  have hlk := st.tw.look hTs (hsol i hi) hinj
  cases hT : T i with
  | some t =>
    rw [hT] at hlk
    simp only [Option.map_some] at hlk
    have E := Lib.hid (And.intro st hT)
    clear st hT hsol hTs hinj h h0
    go_enter Try.func40, Try.ntmps40
    go_wp2_with fail
    go_ret
    exact ⟨t, T, C, rfl, E.out.2, fun _ _ e => e, E.out.1, Agr.refl _ _, .refl _ _⟩
  | none =>
    rw [hT] at hlk
    simp only [Option.map_none] at hlk
    have hlf : i < S.fs.length := by have := getD_lt hi; have := h0.len; omega
    obtain ⟨F, hF⟩ : ∃ F, S.fs[i]? = some F := ⟨_, List.getElem?_eq_getElem hlf⟩
    obtain ⟨vl, vp, vs, us, hFA⟩ := h.fl i F hF hi
    have hnb := h0.nby F (List.mem_of_getElem? hF)
    have hse := h0.see_le hF
    have hn1 : F.las.length ≤ 140737488355328 := by omega
    have hn2 : F.see.length ≤ 140737488355328 := by omega
    have hn3 : F.pen.length ≤ 1000000000000 := by omega
    have hn4 : allL F.pen ≤ 140737488355328 := by omega
    have E := Lib.hid (And.intro st (And.intro hT (And.intro hsol (And.intro hTs (And.intro hinj (And.intro hFA hF))))))
    have HI := Lib.hid hi
    clear st hT hsol hTs hinj h h0 hFA hF hnb hse hlf hi
    have q0d : w.drew.cell? ⟨tc, 0, none⟩ = _ := q0
    go_enter Try.func40, Try.ntmps40
    go_upto_region 4 with fail
    go_region_law (go_simp; go_at_call 41; refine (copied_any (E.out.2.2.2.2.2.1.kept (kept0 E.out.1.kept (Kept.drew _ _)) (fun _ _ _ e => e) (fun b hb => E.out.1.agr b hb)) δ' (i + 1) hn1 hn2 hn3 hn4).mono ?_; rintro e w1 ⟨t, C1, vl', vp', vs', us', rfl, r1, r2, r3, r4⟩; have k1 := kept0 (Kept.drew (fun _ => False) w) r4; have y0 := (blk_cell (blk_kept k1 E.out.1.cell (fun e => e)) 0).trans (show _ = some (.map (some tb)) from rfl); obtain ⟨w2, hup, p1, p2, p3⟩ := (E.out.1.tw.kept k1 (fun e => e)).put (fun j u hu => (E.out.2.2.2.1 j u hu).kept k1 (fun e => e)) ((E.out.2.2.1 i HI.out).kept k1 (fun e => e)) E.out.2.2.2.2.1 E.out.2.1 t; have G := Lib.hid (And.intro r1 (And.intro r2 (And.intro r3 (And.intro k1 (And.intro p1 (And.intro p2 p3)))))); clear r1 r2 r3 r4 k1 p1 p2 p3)
    all_goals
      obtain ⟨g1, g2, g3, g4, g5, g6, g7⟩ := G.out
      obtain ⟨t1, t2, t3⟩ := of_end E.out.1 HI.out E.out.2.2.2.2.2.2 E.out.2.1 g1 g2 g3 g4 g5 g6
      have q5 := (blk_cell t1.cell 0).trans (show _ = some (.map (some tb)) from rfl)
      have hsol2 : ∀ j, S.made.getD j false = true → Solid w2 (ad j) := fun j hj => (E.out.2.2.1 j hj).kept t2 (fun e => by
        obtain ⟨cs, U, hc⟩ := E.out.2.2.1 j hj
        obtain ⟨K, ⟨es, c, hb, _⟩, _⟩ := E.out.1.tw
        rw [e, hb] at hc
        cases hc)
      have hlk2 := t1.tw.look (fun j u hu => hsol2 j (t1.fl j u hu).1) (hsol2 i HI.out) (fun j u hu e => by
        by_cases e2 : j = i
        · exact e2
        · exact E.out.2.2.2.2.1 j u (by rw [if_neg e2] at hu; exact hu) e)
      simp only [if_true, Option.map_some] at hlk2
      have HT := Lib.hid (And.intro t1 (And.intro t2 (And.intro t3 g2)))
      clear q0 q0d hlk y0 hup g1 g2 g3 g4 g5 g6 g7 t1 t2 t3 hsol2 G
      go_wp2_with fail
      go_ret
      obtain ⟨t1, t2, t3, g2⟩ := HT.out
      exact ⟨t, _, C1, rfl, if_pos rfl, t3, t1, g2, t2⟩
end Go.Proofs.Ytgohjgeplageeaa
