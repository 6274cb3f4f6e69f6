/- Copy: the new disk under way. -/
import Derived.Test.YtgohjgeplageeaaC2
import Derived.Test.YtgohjgeplageeaaG9
namespace Go.Proofs.Ytgohjgeplageeaa
open Go Go.RowKit
set_option linter.unusedVariables false
set_option linter.unusedSimpArgs false

def adT (T : Nat → Option Nat) (i : Nat) : Nat := (T i).getD 0
structure CpAll (w0 : World) (C0 : Col) (S : Dsk) (ad : Nat → Nat) (δ tc tb cb l s k1 k2 : Nat) (T : Nat → Option Nat) (C : Col) (w : World) (vm vd : Value) (f1 f2 : Nm) (mv : List Mv) (md : List Bool) : Prop where
  st : CpSt w0 C0 S ad δ tc tb T C w
  blk : DBlk w cb l s vm vd S.off S.arm S.how S.uni
  cd : C cb = (δ, 0, 0)
  cl : C l = (δ, 0, 1)
  cs : C s = (δ, 0, 2)
  las : NmAt w l k1 (adT T) f1
  see : NmAt w s k2 (adT T) f2
  mov : w.ownsRow 0 74 3 vm mv.length (mv.flatMap (mvC (adT T)))
  cm : ∀ b, vm.ownBlock = some b → C b = (δ, 0, 3)
  mad : w.ownsRow 0 66 1 vd md.length (mdC (adT T) md)
  ck : ∀ b, vd.ownBlock = some b → C b = (δ, 0, 4)
  r1 : ∀ t i, f1 t = some i → (T i).isSome = true
  r2 : ∀ t i, f2 t = some i → (T i).isSome = true
  r3 : ∀ m i, m ∈ mv → m.f = some i → (T i).isSome = true
  r4 : ∀ i, md.getD i false = true → (T i).isSome = true
  n0 : w0.heap.size ≤ cb
  n1 : w0.heap.size ≤ l
  n2 : w0.heap.size ≤ s
  n3 : ∀ b, vm.ownBlock = some b → w0.heap.size ≤ b
  n4 : ∀ b, vd.ownBlock = some b → w0.heap.size ≤ b
theorem adT_ext {T T' : Nat → Option Nat} (h : ∀ j u, T j = some u → T' j = some u) {i : Nat} (hi : (T i).isSome = true) : adT T' i = adT T i := by
  obtain ⟨t, ht⟩ := Option.isSome_iff_exists.1 hi
  simp [adT, ht, h i t ht]
theorem some_ext {T T' : Nat → Option Nat} (h : ∀ j u, T j = some u → T' j = some u) {i : Nat} (hi : (T i).isSome = true) : (T' i).isSome = true := by
  obtain ⟨t, ht⟩ := Option.isSome_iff_exists.1 hi
  rw [h i t ht]; rfl
theorem mvC_ext (ad ad' : Nat → Nat) (l : List Mv) (h : ∀ x i, x ∈ l → x.f = some i → ad' i = ad i) : l.flatMap (mvC ad) = l.flatMap (mvC ad') := by
  induction l with
  | nil => rfl
  | cons x r ih =>
    rw [List.flatMap_cons, List.flatMap_cons, ih (fun y i hy => h y i (by simp [hy]))]
    congr 1
    unfold mvC ptrV
    cases e : x.f with
    | none => rfl
    | some i => simp [h x i (by simp) e]
theorem mdC_ext (ad ad' : Nat → Nat) (l : List Bool) (h : ∀ i, l.getD i false = true → ad' i = ad i) : mdC ad l = mdC ad' l := by
  unfold mdC
  apply List.ext_getElem?
  intro i
  rw [List.getElem?_mapIdx, List.getElem?_mapIdx]
  cases e : l[i]? with
  | none => rfl
  | some b =>
    cases b with
    | false => rfl
    | true =>
      have := h i (by rw [List.getD_eq_getElem?_getD, e]; rfl)
      simp [mdV, ptrV, this]
section
variable {w0 w w' : World} {C0 C C' : Col} {S : Dsk} {ad : Nat → Nat} {δ tc tb cb l s k1 k2 : Nat} {T T' : Nat → Option Nat} {vm vd : Value} {f1 f2 : Nm} {mv : List Mv} {md : List Bool}
/-- Another file has a twin. -/
theorem CpAll.more (h : CpAll w0 C0 S ad δ tc tb cb l s k1 k2 T C w vm vd f1 f2 mv md) (hx : ∀ j u, T j = some u → T' j = some u) (st : CpSt w0 C0 S ad δ tc tb T' C' w') (hC : Agr w C C') (hk : Kept (fun b => b = tb) w w') : CpAll w0 C0 S ad δ tc tb cb l s k1 k2 T' C' w' vm vd f1 f2 mv md := by
  have hno : ∀ m b, C b = (δ, 0, m) → ¬ b = tb := by
    rintro m b e rfl
    exact h.st.ctb (by rw [e])
  refine ⟨st, h.blk.kept hk (hno _ _ h.cd), (hC _ (blk_lt h.blk)).trans h.cd, (hC _ h.las.lt).trans h.cl, (hC _ h.see.lt).trans h.cs,
    (h.las.kept hk (hno _ _ h.cl)).congr (fun t i hi => adT_ext hx (h.r1 t i hi)), (h.see.kept hk (hno _ _ h.cs)).congr (fun t i hi => adT_ext hx (h.r2 t i hi)), ?_, fun b hb => (hC _ (own_lt h.mov b hb)).trans (h.cm b hb), ?_, fun b hb => (hC _ (own_lt h.mad b hb)).trans (h.ck b hb),
    fun t i hi => some_ext hx (h.r1 t i hi), fun t i hi => some_ext hx (h.r2 t i hi), fun m i hm hi => some_ext hx (h.r3 m i hm hi), fun i hi => some_ext hx (h.r4 i hi), h.n0, h.n1, h.n2, h.n3, h.n4⟩
  · rw [← mvC_ext (adT T) (adT T') mv (fun x i hx2 hi => adT_ext hx (h.r3 x i hx2 hi))]
    exact own_kept h.mov hk (fun b hb => hno _ _ (h.cm b hb))
  · rw [← mdC_ext (adT T) (adT T') md (fun i hi => adT_ext hx (h.r4 i hi))]
    exact own_kept h.mad hk (fun b hb => hno _ _ (h.ck b hb))
/-- Blocks turn that are not its. -/
theorem CpAll.later {R : Nat → Prop} (h : CpAll w0 C0 S ad δ tc tb cb l s k1 k2 T C w vm vd f1 f2 mv md) (hk : Kept R w w') (hC : Agr w C C') (h1 : ∀ b, (C b).1 = δ → ¬ R b) (h2 : ¬ R tb) (h3 : ¬ R tc) (h4 : ∀ b, R b → w0.heap.size ≤ b) : CpAll w0 C0 S ad δ tc tb cb l s k1 k2 T C' w' vm vd f1 f2 mv md := by
  have hno : ∀ m b, C b = (δ, 0, m) → ¬ R b := fun m b e => h1 b (by rw [e])
  exact ⟨h.st.later hk hC h2 h3 h4 (fun b e _ => h1 b e), h.blk.kept hk (hno _ _ h.cd), (hC _ (blk_lt h.blk)).trans h.cd, (hC _ h.las.lt).trans h.cl, (hC _ h.see.lt).trans h.cs,
    h.las.kept hk (hno _ _ h.cl), h.see.kept hk (hno _ _ h.cs), own_kept h.mov hk (fun b hb => hno _ _ (h.cm b hb)), fun b hb => (hC _ (own_lt h.mov b hb)).trans (h.cm b hb), own_kept h.mad hk (fun b hb => hno _ _ (h.ck b hb)), fun b hb => (hC _ (own_lt h.mad b hb)).trans (h.ck b hb),
    h.r1, h.r2, h.r3, h.r4, h.n0, h.n1, h.n2, h.n3, h.n4⟩
/-- What belongs to the new disk itself turns. -/
theorem CpAll.stOwn {R : Nat → Prop} (h : CpAll w0 C0 S ad δ tc tb cb l s k1 k2 T C w vm vd f1 f2 mv md) (hk : Kept R w w') (hR : ∀ b, R b → (C b).1 = δ ∧ (C b).2.1 = 0 ∧ w0.heap.size ≤ b ∧ b ≠ tc) (hC : Agr w C C') : CpSt w0 C0 S ad δ tc tb T C' w' :=
  h.st.later hk hC (fun e => h.st.ctb (hR _ e).1) (fun e => (hR _ e).2.2.2 rfl) (fun b e => (hR b e).2.2.1) (fun b e1 e2 e => e2 (hR b e).2.1)
theorem CpAll.ne (h : CpAll w0 C0 S ad δ tc tb cb l s k1 k2 T C w vm vd f1 f2 mv md) : cb ≠ tc ∧ l ≠ tc ∧ s ≠ tc ∧ (∀ b, vm.ownBlock = some b → b ≠ tc) ∧ (∀ b, vd.ownBlock = some b → b ≠ tc) := by
  refine ⟨?_, h.las.ne_blk h.st.cell, h.see.ne_blk h.st.cell, fun b hb e => own_ne h.mov h.st.cell (by decide) (e ▸ hb), fun b hb e => own_ne h.mad h.st.cell (by decide) (e ▸ hb)⟩
  intro e
  have h1 := h.blk
  unfold DBlk at h1
  rw [e, h.st.cell] at h1
  cases h1
/-- A lasting name more. -/
theorem CpAll.putL (h : CpAll w0 C0 S ad δ tc tb cb l s k1 k2 T C w vm vd f1 f2 mv md) {t : ByteArray} {i k1' : Nat} (hT : (T i).isSome = true) (hn : NmAt w' l k1' (adT T) (f1.put t i)) (hg : w.grownBy w' (some l)) : CpAll w0 C0 S ad δ tc tb cb l s k1' k2 T C w' vm vd (f1.put t i) f2 mv md := by
  have hk : Kept (fun b => b = l) w w' := Kept.of_grown hg fun k e => by injection e with e; exact e.symm
  have hls : s ≠ l := fun e => by have := h.cs; rw [e, h.cl] at this; cases this
  refine ⟨h.stOwn hk (fun b e => by subst e; rw [h.cl]; exact ⟨rfl, rfl, h.n1, h.ne.2.1⟩) (Agr.refl _ _), h.blk.kept hk (h.las.ne_blk h.blk).symm, h.cd, h.cl, h.cs, hn, h.see.kept hk hls, own_kept h.mov hk (fun b hb e => by subst e; exact h.las.ne_own h.mov hb), h.cm, own_kept h.mad hk (fun b hb e => by subst e; exact h.las.ne_own h.mad hb), h.ck, ?_, h.r2, h.r3, h.r4, h.n0, h.n1, h.n2, h.n3, h.n4⟩
  intro u j hu
  by_cases e : u = t
  · simp only [Nm.put, if_pos e] at hu
    rw [← Option.some.inj hu]; exact hT
  · simp only [Nm.put, if_neg e] at hu
    exact h.r1 u j hu
/-- A name more that is seen. -/
theorem CpAll.putS (h : CpAll w0 C0 S ad δ tc tb cb l s k1 k2 T C w vm vd f1 f2 mv md) {t : ByteArray} {i k2' : Nat} (hT : (T i).isSome = true) (hn : NmAt w' s k2' (adT T) (f2.put t i)) (hg : w.grownBy w' (some s)) : CpAll w0 C0 S ad δ tc tb cb l s k1 k2' T C w' vm vd f1 (f2.put t i) mv md := by
  have hk : Kept (fun b => b = s) w w' := Kept.of_grown hg fun k e => by injection e with e; exact e.symm
  have hls : l ≠ s := fun e => by have := h.cs; rw [← e, h.cl] at this; cases this
  refine ⟨h.stOwn hk (fun b e => by subst e; rw [h.cs]; exact ⟨rfl, rfl, h.n2, h.ne.2.2.1⟩) (Agr.refl _ _), h.blk.kept hk (h.see.ne_blk h.blk).symm, h.cd, h.cl, h.cs, h.las.kept hk hls, hn, own_kept h.mov hk (fun b hb e => by subst e; exact h.see.ne_own h.mov hb), h.cm, own_kept h.mad hk (fun b hb e => by subst e; exact h.see.ne_own h.mad hb), h.ck, h.r1, ?_, h.r3, h.r4, h.n0, h.n1, h.n2, h.n3, h.n4⟩
  intro u j hu
  by_cases e : u = t
  · simp only [Nm.put, if_pos e] at hu
    rw [← Option.some.inj hu]; exact hT
  · simp only [Nm.put, if_neg e] at hu
    exact h.r2 u j hu
/-- A move more. -/
theorem CpAll.pushM (h : CpAll w0 C0 S ad δ tc tb cb l s k1 k2 T C w vm vd f1 f2 mv md) {m : Mv} (hT : ∀ i, m.f = some i → (T i).isSome = true) {W1 : World} {o : Obj} {v' : Value} (q1 : W1.ownsRow 0 74 3 v' (mv.length + 1) (mv.flatMap (mvC (adT T)) ++ mvC (adT T) m)) (q2 : (w.alloc o).grownBy W1 vm.ownBlock) (q3 : v'.ownBlock = vm.ownBlock ∨ v'.ownBlock = some (w.alloc o).heap.size) :
    W1.cell? ⟨cb, 1, none⟩ = some vm ∧ W1.frozen? ⟨cb, 1, none⟩ = false ∧ CpAll w0 C0 S ad δ tc tb cb l s k1 k2 T (C.new w.heap.size (δ, 0, 3)) (W1.setCell ⟨cb, 1, none⟩ v') v' vd f1 f2 (mv ++ [m]) md := by
  obtain ⟨y1, y2, y3, y4, y5⟩ := st_moves h.blk h.mov q1 q2
  have hC := Agr.new w C (δ, 0, 3)
  have hcv : ∀ b, v'.ownBlock = some b → (C.new w.heap.size (δ, 0, 3)) b = (δ, 0, 3) ∧ w0.heap.size ≤ b := fun b hb => by
    rcases row_moved q3 with e | e
    · rw [e] at hb
      exact ⟨(hC b (own_lt h.mov b hb)).trans (h.cm b hb), h.n3 b hb⟩
    · have := e b hb
      have := h.st.kept.size
      exact ⟨Col.new_ge (by omega), by omega⟩
  have st' := h.stOwn y5 (fun b e => by
    rcases e with rfl | e
    · rw [h.cd]; exact ⟨rfl, rfl, h.n0, h.ne.1⟩
    · rw [h.cm b e]; exact ⟨rfl, rfl, h.n3 b e, h.ne.2.2.2.1 b e⟩) hC
  have hl : ∀ {bb N : Nat} {f : Nm}, NmAt w bb N (adT T) f → ¬ (bb = cb ∨ vm.ownBlock = some bb) := fun hn e => e.elim (hn.ne_blk h.blk) (hn.ne_own h.mov)
  refine ⟨y1, y2, st', y3, (hC _ (blk_lt h.blk)).trans h.cd, (hC _ h.las.lt).trans h.cl, (hC _ h.see.lt).trans h.cs, h.las.kept y5 (hl h.las), h.see.kept y5 (hl h.see), ?_, fun b hb => (hcv b hb).1, own_kept h.mad y5 ?_, fun b hb => (hC _ (own_lt h.mad b hb)).trans (h.ck b hb), h.r1, h.r2, ?_, h.r4, h.n0, h.n1, h.n2, fun b hb => (hcv b hb).2, h.n4⟩
  · rw [List.length_append, List.flatMap_append]
    simpa using y4
  · rintro b hb (rfl | e)
    · exact own_ne h.mad h.blk (by decide) hb
    · exact row_apart' h.mad h.mov (by decide) b hb e
  · intro x i hx hi
    rcases List.mem_append.1 hx with hx | hx
    · exact h.r3 x i hx hi
    · simp at hx
      subst hx
      exact hT i hi
/-- A file more that was made, or is gone. -/
theorem CpAll.pushD (h : CpAll w0 C0 S ad δ tc tb cb l s k1 k2 T C w vm vd f1 f2 mv md) {b0 : Bool} (hT : b0 = true → (T md.length).isSome = true) {W1 : World} {o : Obj} {v' : Value} (q1 : W1.ownsRow 0 66 1 v' (md.length + 1) (mdC (adT T) md ++ [mdV (adT T) md.length b0])) (q2 : (w.alloc o).grownBy W1 vd.ownBlock) (q3 : v'.ownBlock = vd.ownBlock ∨ v'.ownBlock = some (w.alloc o).heap.size) :
    W1.cell? ⟨cb, 3, none⟩ = some vd ∧ W1.frozen? ⟨cb, 3, none⟩ = false ∧ CpAll w0 C0 S ad δ tc tb cb l s k1 k2 T (C.new w.heap.size (δ, 0, 4)) (W1.setCell ⟨cb, 3, none⟩ v') vm v' f1 f2 mv (md ++ [b0]) := by
  obtain ⟨y1, y2, y3, y4, y5⟩ := st_made h.blk h.mad q1 q2
  have hC := Agr.new w C (δ, 0, 4)
  have hcv : ∀ b, v'.ownBlock = some b → (C.new w.heap.size (δ, 0, 4)) b = (δ, 0, 4) ∧ w0.heap.size ≤ b := fun b hb => by
    rcases row_moved q3 with e | e
    · rw [e] at hb
      exact ⟨(hC b (own_lt h.mad b hb)).trans (h.ck b hb), h.n4 b hb⟩
    · have := e b hb
      have := h.st.kept.size
      exact ⟨Col.new_ge (by omega), by omega⟩
  have st' := h.stOwn y5 (fun b e => by
    rcases e with rfl | e
    · rw [h.cd]; exact ⟨rfl, rfl, h.n0, h.ne.1⟩
    · rw [h.ck b e]; exact ⟨rfl, rfl, h.n4 b e, h.ne.2.2.2.2 b e⟩) hC
  have hl : ∀ {bb N : Nat} {f : Nm}, NmAt w bb N (adT T) f → ¬ (bb = cb ∨ vd.ownBlock = some bb) := fun hn e => e.elim (hn.ne_blk h.blk) (hn.ne_own h.mad)
  refine ⟨y1, y2, st', y3, (hC _ (blk_lt h.blk)).trans h.cd, (hC _ h.las.lt).trans h.cl, (hC _ h.see.lt).trans h.cs, h.las.kept y5 (hl h.las), h.see.kept y5 (hl h.see), own_kept h.mov y5 ?_, fun b hb => (hC _ (own_lt h.mov b hb)).trans (h.cm b hb), ?_, fun b hb => (hcv b hb).1, h.r1, h.r2, h.r3, ?_, h.n0, h.n1, h.n2, h.n3, fun b hb => (hcv b hb).2⟩
  · rintro b hb (rfl | e)
    · exact own_ne h.mov h.blk (by decide) hb
    · exact row_apart' h.mov h.mad (by decide) b hb e
  · rw [List.length_append]
    unfold mdC at y4 ⊢
    rw [List.mapIdx_append]
    simpa using y4
  · intro i hi
    by_cases e : i < md.length
    · refine h.r4 i ?_
      rw [List.getD_eq_getElem?_getD, List.getElem?_append, if_pos e] at hi
      rw [List.getD_eq_getElem?_getD]; exact hi
    · have h1 := getD_lt hi
      have e2 : i = md.length := by simp at h1; omega
      subst e2
      refine hT ?_
      rw [List.getD_eq_getElem?_getD] at hi
      simpa using hi
/-- The copy is whole. -/
theorem CpAll.done {N : Nat} (h0 : S.Ok N) (h : CpAll w0 C0 S ad δ tc tb cb l s (N - S.mvs.length) N T C w vm vd S.las S.see S.mvs S.made) : DskAt w C δ cb N S := by
  refine ⟨h0, l, s, vm, vd, adT T, h.blk, h.cd, h.cl, h.cs, h.las, h.see, h.mov, h.cm, h.mad, h.ck, fun i F hi hm => ?_⟩
  obtain ⟨t, ht⟩ := Option.isSome_iff_exists.1 (h.r4 i hm)
  obtain ⟨_, _, G, vl, vp, vs, us, g3, g4⟩ := h.st.fl i t ht
  rw [hi] at g3
  have g3 := Option.some.inj g3
  subst g3
  have : adT T i = t := by simp [adT, ht]
  rw [this]
  exact ⟨vl, vp, vs, us, g4⟩
end
end Go.Proofs.Ytgohjgeplageeaa
