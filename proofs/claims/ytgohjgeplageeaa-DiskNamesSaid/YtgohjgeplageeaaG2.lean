/- A file of a disk turns: what stays; what Append, Cut, Sync do, plain. -/
import Derived.Test.YtgohjgeplageeaaG1
namespace Go.Proofs.Ytgohjgeplageeaa
open Go Go.RowKit
set_option linter.unusedVariables false
set_option linter.unusedSimpArgs false

theorem chgD_eq (S : Dsk) : S.chgD = { S with off := S.chgD.off, arm := S.chgD.arm, how := S.chgD.how, uni := S.chgD.uni } := by
  unfold Dsk.chgD
  split
  · rfl
  · split
    · rfl
    · split <;> rfl
theorem chgD_ok {S : Dsk} {N : Nat} (h : S.Ok N) : S.chgD.Ok N := by
  unfold Dsk.chgD
  split
  · exact h
  · rename_i c
    have h1 := h.arm
    have h2 : 0 ≤ S.arm - 1 ∧ S.arm - 1 < 9223372036854775808 := by omega
    split
    · exact { h with arm := h2 }
    · split <;> exact { h with arm := h2 }
theorem chgD_fs (S : Dsk) : S.chgD.fs = S.fs ∧ S.chgD.made = S.made ∧ S.chgD.see = S.see ∧ S.chgD.las = S.las ∧ S.chgD.mvs = S.mvs := by
  rw [chgD_eq]; exact ⟨rfl, rfl, rfl, rfl, rfl⟩
/-- Behind change. -/
theorem DAt.chg {w w' : World} {C : Col} {δ d N ml ms : Nat} {vm vd : Value} {ad : Nat → Nat} {S : Dsk} (h : DAt w C δ d N ml ms vm vd ad S) {e : Ending} (hp : ChgPost S w d ml ms vm vd e w') : DAt w' C δ d N ml ms vm vd ad S.chgD := by
  rw [chgD_eq]; exact h.turned hp.2.2 hp.2.1
/-- One file of it turns. -/
theorem DAt.turnFile {w w' : World} {C C' : Col} {δ d N ml ms : Nat} {vm vd : Value} {ad : Nat → Nat} {S : Dsk} (h : DAt w C δ d N ml ms vm vd ad S) {i : Nat} {F : Fil} {g : Fil → Fil} (hi : S.fs[i]? = some F) (hk : Kept (fun b => (C b).1 = δ ∧ (C b).2.1 = i + 1) w w') (hC : Agr w C C')
    {vl vp vs : Value} {us : List Value} (hF : FAt w' C' δ (i + 1) (ad i) vl vp vs us (g F)) : DAt w' C' δ d N ml ms vm vd ad (S.turn i g) := by
  have hT : ∀ m b, C b = (δ, 0, m) → ¬ ((C b).1 = δ ∧ (C b).2.1 = i + 1) := by
    rintro m b e ⟨-, e2⟩
    rw [e] at e2
    cases e2
  refine ⟨blk_kept hk h.blk (hT _ _ h.cd), (hC _ (blk_lt h.blk)).trans h.cd, (hC _ h.las.lt).trans h.cl, (hC _ h.see.lt).trans h.cs, h.las.kept hk (hT _ _ h.cl), h.see.kept hk (hT _ _ h.cs),
    own_kept h.mv hk fun b hb => hT _ b (h.cm b hb), fun b hb => (hC b (own_lt h.mv b hb)).trans (h.cm b hb), own_kept h.md hk fun b hb => hT _ b (h.ck b hb), fun b hb => (hC b (own_lt h.md b hb)).trans (h.ck b hb), ?_⟩
  intro j G hj hm
  simp only [Dsk.turn, List.getElem?_modify] at hj
  by_cases e : i = j
  · subst e
    rw [hi] at hj
    simp at hj
    subst hj
    exact ⟨_, _, _, _, hF⟩
  · have hj' : S.fs[j]? = some G := by
      revert hj
      cases S.fs[j]? <;> simp [e]
    obtain ⟨vl', vp', vs', us', hG⟩ := h.fl j G hj' hm
    exact ⟨vl', vp', vs', us', hG.kept hk (fun b e1 e2 ⟨_, e3⟩ => by omega) hC⟩
theorem mem_modify {α : Type} {l : List α} {i : Nat} {g : α → α} {x y : α} (hi : l[i]? = some x) (h : y ∈ l.modify i g) : y ∈ l ∨ y = g x := by
  obtain ⟨j, hj⟩ := List.mem_iff_getElem?.1 h
  rw [List.getElem?_modify] at hj
  by_cases e : i = j
  · subst e
    rw [hi] at hj
    simp at hj
    exact .inr hj.symm
  · left
    apply List.mem_of_getElem? (i := j)
    revert hj
    cases l[j]? <;> simp [e]
theorem Dsk.Ok.turn {S : Dsk} {N N' : Nat} (h : S.Ok N) {i : Nat} {F : Fil} {g : Fil → Fil} (hi : S.fs[i]? = some F) (hN : N ≤ N') (h1 : okL (g F).pen (g F).las ∧ (g F).see = fullL (g F).pen (g F).las) (h2 : (g F).las.length + allL (g F).pen ≤ N' ∧ (g F).pen.length ≤ N') : (S.turn i g).Ok N' := by
  have h' := h.mono hN
  refine { h' with len := ?_, file := ?_, nfs := ?_, nby := ?_ }
  · show S.made.length = (S.fs.modify i g).length
    rw [List.length_modify]; exact h.len
  · intro G hG
    rcases mem_modify hi hG with hG | rfl
    · exact h.file G hG
    · exact h1
  · show (S.fs.modify i g).length ≤ N'
    rw [List.length_modify]; exact h'.nfs
  · intro G hG
    rcases mem_modify hi hG with hG | rfl
    · exact h'.nby G hG
    · exact h2
theorem Dsk.Ok.add {S : Dsk} {N : Nat} (h : S.Ok N) {i : Nat} {F : Fil} (hi : S.fs[i]? = some F) (s : Stp) (hs : ∀ n, s = .cut n → n ≤ F.see.length) : (S.turn i (·.add s)).Ok (N + s.units + 1) := by
  obtain ⟨h1, h2⟩ := h.file F (List.mem_of_getElem? hi)
  obtain ⟨h3, h4⟩ := h.nby F (List.mem_of_getElem? hi)
  refine h.turn hi (by omega) ⟨?_, ?_⟩ ⟨?_, ?_⟩
  · show okL (F.pen ++ [s]) F.las
    rw [okL_append]
    refine ⟨h1, ?_, trivial⟩
    rw [← h2]; exact hs
  · show s.part F.see s.units = fullL (F.pen ++ [s]) F.las
    rw [fullL_append, ← h2]; rfl
  · show F.las.length + allL (F.pen ++ [s]) ≤ N + s.units + 1
    rw [allL_append]
    simp only [allL]
    omega
  · show (F.pen ++ [s]).length ≤ N + s.units + 1
    rw [List.length_append]
    simp only [List.length_cons, List.length_nil]
    omega
theorem Dsk.Ok.see_le {S : Dsk} {N : Nat} (h : S.Ok N) {i : Nat} {F : Fil} (hi : S.fs[i]? = some F) : F.see.length ≤ N := by
  obtain ⟨h1, h2⟩ := h.file F (List.mem_of_getElem? hi)
  obtain ⟨h3, h4⟩ := h.nby F (List.mem_of_getElem? hi)
  have := fullL_len F.pen F.las
  rw [h2]; omega
theorem Dsk.Ok.settle {S : Dsk} {N : Nat} (h : S.Ok N) {i : Nat} {F : Fil} (hi : S.fs[i]? = some F) : (S.turn i fun F => Fil.settle F.see).Ok N :=
  h.turn hi (Nat.le_refl _) ⟨trivial, rfl⟩ ⟨by have := h.see_le hi; simp only [Fil.settle, allL]; omega, Nat.zero_le _⟩
theorem own_base {w : World} {B B' e sz n : Nat} {v : Value} {xs : List Value} (h : w.ownsRow B e sz v n xs) (hB : B' ≤ B) : w.ownsRow B' e sz v n xs := by
  obtain ⟨h1, h | ⟨g, cap, cur, rfl, r1, r⟩⟩ := h
  · exact ⟨h1, .inl h⟩
  · exact ⟨h1, .inr ⟨g, cap, cur, rfl, Nat.le_trans hB r1, r⟩⟩
theorem Addr.add_block (a : Addr) (j : Nat) : (a.add j).block = a.block := by unfold Addr.add; split <;> rfl
/-- A file was settled with bytes that are new. -/
theorem FAt.settled {w w1 w2 : World} {C : Col} {δ k a : Nat} {vl vp vs v : Value} {us : List Value} {F : Fil} {l : List Int} {e : Ending} (h : FAt w C δ k a vl vp vs us F) (h1 : w1.ownsRow w.heap.size 5 1 v l.length (nums .u8 l)) (k1 : Kept (fun _ => False) w w1) (h2 : SettlePost a v l w1 e w2) :
    ∃ v' C', Agr w C C' ∧ FAt w2 C' δ k a v (.slice none 0 0) v' [] (Fil.settle l) ∧ Kept (fun b => b = a) w w2 := by
  obtain ⟨v', -, hb, hr, hk⟩ := h2
  have hsz := k1.size
  have hsz2 := hk.size
  have ha := h.lt
  refine ⟨v', fun b => if b < w.heap.size then C b else if v.ownBlock = some b then (δ, k, 1) else (δ, k, 3), fun b hb => by simp [hb], ⟨hb, by simp [ha, h.ca], ⟨own_kept (own_base h1 (Nat.zero_le _)) hk (fun b hb e => by have := (h1.lt b hb).1; omega), fun b hb => ?_⟩, World.ownsRow_nil _ _ _ _, fun b hb => (by cases hb), fun j s hj => by simp [Fil.settle] at hj, ⟨own_base hr (Nat.zero_le _), fun b hb => ?_⟩⟩, k1.trans hk (fun _ _ e => e.elim) (fun _ _ e => e)⟩
  · have := (h1.lt b hb).1
    simp [Nat.not_lt.2 this, hb]
  · have h3 := (hr.lt b hb).1
    have h4 : v.ownBlock ≠ some b := fun e => by have := own_lt h1 b e; omega
    simp [show ¬ b < w.heap.size by omega, h4]
/-- Bytes that lie elsewhere are read as before. -/
theorem Reads.keptS {w w' : World} {v : Value} {l : List Int} {S : Nat → Prop} (h : Reads w v l) (hk : Kept S w w') (hS : ∀ A n c, v = .slice (some A) n c → ¬ S A.block) : Reads w' v l := by
  obtain ⟨A, c, rfl, h0, hc⟩ := h
  refine ⟨A, c, rfl, h0, fun j u hu => ?_⟩
  obtain ⟨ad, rfl, hcell⟩ := hc j u hu
  exact ⟨ad, rfl, kept_cell hk hcell (by show ¬ S (ad.add j).block; rw [Addr.add_block]; exact hS ad _ _ rfl)⟩
def Dsk.onFile (S : Dsk) (s : ByteArray) (g : Fil → Fil) : Dsk := match S.see s with
  | some i => S.turn i g
  | none => S
def Dsk.syncE (S : Dsk) (s : ByteArray) : Int := if S.err s = 0 then S.chgE else S.err s
def Dsk.syncD (S : Dsk) (s : ByteArray) : Dsk := if S.err s = 0 then (if S.chgN = 0 then S.chgD else S.chgD.onFile s fun F => Fil.settle F.see) else S
/-- As many of the bytes as the change lets through. -/
def Dsk.appL (S : Dsk) (l : List Int) : List Int := if 0 ≤ S.chgN then l.take S.chgN.toNat else l
def Dsk.appD (S : Dsk) (s : ByteArray) (l : List Int) : Dsk := if S.err s = 0 then (if (S.appL l).length = 0 then S.chgD else S.chgD.onFile s (·.add (.app (S.appL l)))) else S
def Dsk.cutE (S : Dsk) (s : ByteArray) (n : Int) : Int := if S.err s = 0 then (if n < 0 ∨ ((S.file s).see.length : Int) < n then 74 else S.chgE) else S.err s
def Dsk.cutD (S : Dsk) (s : ByteArray) (n : Int) : Dsk := if S.err s = 0 then (if n < 0 ∨ ((S.file s).see.length : Int) < n then S else if S.chgN = 0 then S.chgD else S.chgD.onFile s (·.add (.cut n.toNat))) else S
theorem turn_N {S : Dsk} {N : Nat} (h : S.Ok N) : -1 ≤ S.chgN ∧ S.chgN < 9223372036854775808 := by
  have := h.uni
  unfold Dsk.chgN
  split
  · omega
  · split <;> omega
end Go.Proofs.Ytgohjgeplageeaa
