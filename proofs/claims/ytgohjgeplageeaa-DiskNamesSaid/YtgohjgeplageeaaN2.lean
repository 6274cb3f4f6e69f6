/- Restart, plain; what stays. -/
import Derived.Test.YtgohjgeplageeaaN1
namespace Go.Proofs.Ytgohjgeplageeaa
open Go Go.RowKit
set_option linter.unusedVariables false
set_option linter.unusedSimpArgs false

/-- How many moves are done. -/
def Dsk.mvN (S : Dsk) (kn : Int) : Nat := (max 0 (min kn (S.mvs.length : Int))).toNat
def Dsk.reNm (S : Dsk) (kn : Int) : Nm := playM (S.mvs.take (S.mvN kn)) S.las
/-- A file behind the loss. -/
def reF (kd : List Int) (i : Nat) (F : Fil) : Fil := Fil.settle (F.kept (kd.getD i 0).toNat)
/-- The first j files are settled. -/
def Dsk.reFs (S : Dsk) (kd : List Int) (j : Nat) : Dsk := { S with fs := S.fs.mapIdx fun i F => if i < j then reF kd i F else F }
def Dsk.reN (S : Dsk) (kn : Int) : Dsk := { S with las := S.reNm kn, see := S.reNm kn, mvs := [] }
noncomputable def Dsk.rest (S : Dsk) (kn : Int) (kd : List Int) : Dsk := { ((S.reN kn).reFs kd S.fs.length).sweep with off := false, arm := 0 }
theorem mvN_le (S : Dsk) (kn : Int) : S.mvN kn ≤ S.mvs.length := by unfold Dsk.mvN; omega
theorem Dsk.Ok.reN {S : Dsk} {N : Nat} (h : S.Ok N) (kn : Int) : (S.reN kn).Ok N :=
  { h with play := rfl, okm := trivial, rl := (fun s i hi => h.made_at _ s i hi), rs := (fun s i hi => h.made_at _ s i hi), rm := (fun m i hm => by cases hm), nm := (fun m hm => by cases hm), nmv := Nat.zero_le _, mvf := (fun m hm => by cases hm) }
theorem kept_len {F : Fil} {u N : Nat} (h : F.las.length + allL F.pen ≤ N) : (F.kept u).length ≤ N := Nat.le_trans (keptL_len F.pen u F.las) h
theorem Dsk.Ok.reFs {S : Dsk} {N : Nat} (h : S.Ok N) (kd : List Int) (j : Nat) : (S.reFs kd j).Ok N := by
  have hfs : ∀ G, G ∈ (S.reFs kd j).fs → ∃ i F, F ∈ S.fs ∧ (G = F ∨ G = reF kd i F) := by
    intro G hG
    obtain ⟨i, hi⟩ := List.mem_iff_getElem?.1 hG
    simp only [Dsk.reFs, List.getElem?_mapIdx] at hi
    cases e : S.fs[i]? with
    | none => rw [e] at hi; cases hi
    | some F =>
      rw [e] at hi
      have hi := Option.some.inj hi
      refine ⟨i, F, List.mem_of_getElem? e, ?_⟩
      rw [← hi]
      split
      · exact .inr rfl
      · exact .inl rfl
  refine { h with len := ?_, file := ?_, nfs := ?_, nby := ?_ }
  · show S.made.length = (S.fs.mapIdx _).length
    rw [List.length_mapIdx]; exact h.len
  · intro G hG
    obtain ⟨i, F, hF, rfl | rfl⟩ := hfs G hG
    · exact h.file _ hF
    · exact ⟨trivial, rfl⟩
  · show (S.fs.mapIdx _).length ≤ N
    rw [List.length_mapIdx]; exact h.nfs
  · intro G hG
    obtain ⟨i, F, hF, rfl | rfl⟩ := hfs G hG
    · exact h.nby _ hF
    · refine ⟨?_, Nat.zero_le _⟩
      show (F.kept _).length + 0 ≤ N
      exact kept_len (h.nby _ hF).1
theorem Dsk.Ok.rest {S : Dsk} {N : Nat} (h : S.Ok N) (kn : Int) (kd : List Int) : (S.rest kn kd).Ok N :=
  { ((h.reN kn).reFs kd S.fs.length).sweep with arm := ⟨Int.le_refl 0, (by decide : (0 : Int) < 9223372036854775808)⟩ }
theorem reFs_zero (S : Dsk) (kd : List Int) : S.reFs kd 0 = S := by
  have : S.fs.mapIdx (fun i F => if i < 0 then reF kd i F else F) = S.fs := by
    apply List.ext_getElem?
    intro i
    rw [List.getElem?_mapIdx]
    cases S.fs[i]? <;> rfl
  unfold Dsk.reFs
  rw [this]
theorem reFs_get (S : Dsk) (kd : List Int) (j i : Nat) : (S.reFs kd j).fs[i]? = S.fs[i]?.map fun F => if i < j then reF kd i F else F := by
  simp only [Dsk.reFs, List.getElem?_mapIdx]
theorem reFs_succ (S : Dsk) (kd : List Int) (j : Nat) : (S.reFs kd j).turn j (reF kd j) = S.reFs kd (j + 1) := by
  have : (S.reFs kd j).fs.modify j (reF kd j) = (S.reFs kd (j + 1)).fs := by
    apply List.ext_getElem?
    intro i
    rw [List.getElem?_modify, reFs_get, reFs_get]
    cases S.fs[i]? with
    | none => rfl
    | some F =>
      by_cases e : j = i
      · subst e
        simp
      · by_cases e2 : i < j
        · simp [e, e2, show i < j + 1 by omega]
        · simp [e, e2, show ¬ i < j + 1 by omega]
  unfold Dsk.turn
  rw [this]
  rfl
/-- A file that is gone: nobody looks. -/
theorem DAt.skip {w : World} {C : Col} {δ d N ml ms : Nat} {vm vd : Value} {ad : Nat → Nat} {S : Dsk} {kd : List Int} {j : Nat} (h : DAt w C δ d N ml ms vm vd ad (S.reFs kd j)) (hm : S.made.getD j false = false) : DAt w C δ d N ml ms vm vd ad (S.reFs kd (j + 1)) := by
  refine { h with fl := ?_ }
  intro i F hi hmi
  have e : i ≠ j := by
    rintro rfl
    have hmi : S.made.getD i false = true := hmi
    rw [hm] at hmi; cases hmi
  rw [reFs_get] at hi
  refine h.fl i F ?_ hmi
  rw [reFs_get, ← hi]
  cases S.fs[i]? with
  | none => rfl
  | some G =>
    by_cases e2 : i < j
    · simp [e2, show i < j + 1 by omega]
    · simp [e2, show ¬ i < j + 1 by omega]
/-- The lasting names turn. -/
theorem DAt.relas {w w' : World} {C : Col} {δ d N N' ml ms : Nat} {vm vd : Value} {ad : Nat → Nat} {S : Dsk} {L : Nm} (h : DAt w C δ d N ml ms vm vd ad S) (hn : NmAt w' ml N' ad L) (hk : Kept (fun b => b = ml) w w') :
    DBlk w' d ml ms vm vd S.off S.arm S.how S.uni ∧ w'.ownsRow 0 66 1 vd S.made.length (mdC ad S.made) ∧ NmAt w' ml N' ad L := by
  refine ⟨DBlk.kept h.blk hk (h.las.ne_blk h.blk).symm, own_kept h.md hk (fun b hb e => by subst e; exact h.las.ne_own h.md hb), hn⟩
/-- Behind the loss of the names. -/
theorem DAt.renamed {w w1 w2 : World} {C : Col} {δ d N ml ms : Nat} {vm vd : Value} {ad : Nat → Nat} {S : Dsk} {L : Nm} (h : DAt w C δ d N ml ms vm vd ad S) (k1 : Kept (fun b => b = ml) w w1) (n2 : NmAt w2 ml N ad L) (n3 : NmAt w2 w1.heap.size N ad L) (k2 : Kept (fun _ => False) w1 w2) :
    DBlk w2 d ml ms vm vd S.off S.arm S.how S.uni ∧ DAt ((w2.setCell ⟨d, 1, none⟩ (.slice none 0 0)).setCell ⟨d, 2, none⟩ (.map (some w1.heap.size))) (C.new w1.heap.size (δ, 0, 2)) δ d N ml w1.heap.size (.slice none 0 0) vd ad { S with las := L, see := L, mvs := [] } ∧ Kept (fun b => b = d ∨ b = ml) w ((w2.setCell ⟨d, 1, none⟩ (.slice none 0 0)).setCell ⟨d, 2, none⟩ (.map (some w1.heap.size))) := by
  have k12 : Kept (fun b => b = ml) w w2 := k1.trans k2 (fun _ _ e => e) (fun _ _ e => e.elim)
  have B : DBlk w2 d ml ms vm vd S.off S.arm S.how S.uni := DBlk.kept h.blk k12 (h.las.ne_blk h.blk).symm
  have B2 := (B.s1 (.slice none 0 0)).s2 w1.heap.size
  have ks : Kept (fun b => b = d) w2 ((w2.setCell ⟨d, 1, none⟩ (.slice none 0 0)).setCell ⟨d, 2, none⟩ (.map (some w1.heap.size))) :=
    (Kept.setCell (S := fun k => k = d) _ _ _ rfl).trans (Kept.setCell (S := fun k => k = d) _ _ _ rfl) (fun _ _ e => e) fun _ _ e => e
  have kk := k12.trans ks (U := fun b => b = d ∨ b = ml) (fun _ _ e => .inr e) (fun _ _ e => .inl e)
  have hagr : Agr w C (C.new w1.heap.size (δ, 0, 2)) := fun b hb => Agr.new w1 C (δ, 0, 2) b (Nat.lt_of_lt_of_le hb k1.size)
  have hno : ∀ j m b, (j ≠ 0 ∨ m = 4) → C b = (δ, j, m) → ¬ (b = d ∨ b = ml) := by
    rintro j m b hj e (rfl | rfl)
    · rw [h.cd] at e; simp only [Prod.mk.injEq, true_and] at e; omega
    · rw [h.cl] at e; simp only [Prod.mk.injEq, true_and] at e; omega
  refine ⟨B, ⟨B2, (hagr d (blk_lt h.blk)).trans h.cd, (hagr ml h.las.lt).trans h.cl, by simp [Col.new], n2.kept ks (n2.ne_blk B), n3.kept ks (n3.ne_blk B), World.ownsRow_nil _ _ _ _, (fun b hb => by cases hb), own_kept h.md kk (fun b hb => hno 0 4 b (.inr rfl) (h.ck b hb)), fun b hb => (hagr b (own_lt h.md b hb)).trans (h.ck b hb), ?_⟩, kk⟩
  intro i F hi hm
  obtain ⟨vl, vp, vs, us, hF⟩ := h.fl i F hi hm
  exact ⟨vl, vp, vs, us, hF.kept kk (fun b e1 e2 => hno (i + 1) (C b).2.2 b (.inl (by omega)) (by rw [← e1, ← e2])) hagr⟩
end Go.Proofs.Ytgohjgeplageeaa
