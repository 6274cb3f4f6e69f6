/- Create. -/
import Derived.Test.YtgohjgeplageeaaG4
namespace Go.Proofs.Ytgohjgeplageeaa
open Go Go.RowKit
set_option linter.unusedVariables false
set_option linter.unusedSimpArgs false

def Dsk.creE (S : Dsk) (s : ByteArray) : Int := if S.err s = 0 then 73 else if S.err s = 72 then S.chgE else S.err s
/-- A new file, with a name. -/
def Dsk.newFile (S : Dsk) (s : ByteArray) : Dsk := { S with fs := S.fs ++ [⟨[], [], []⟩], made := S.made ++ [true], see := S.see.put s S.fs.length, mvs := S.mvs ++ [⟨noStr, s, some S.fs.length⟩] }
def Dsk.creD (S : Dsk) (s : ByteArray) : Dsk := if S.err s = 72 then (if S.chgN = 0 then S.chgD else S.chgD.newFile s) else S
theorem playM_append : ∀ (p q : List Mv) (n : Nm), playM (p ++ q) n = playM q (playM p n)
  | [], q, n => rfl
  | m :: r, q, n => playM_append r q _
theorem okM_append : ∀ (p q : List Mv) (n : Nm), okM (p ++ q) n ↔ okM p n ∧ okM q (playM p n)
  | [], q, n => by simp [okM, playM]
  | m :: r, q, n => by simp only [List.cons_append, okM, playM, okM_append r q, and_assoc]
theorem getD_app {l : List Bool} {i : Nat} (h : l.getD i false = true) (b : Bool) : (l ++ [b]).getD i false = true := by
  rw [List.getD_eq_getElem?_getD] at h ⊢
  have hlt : i < l.length := by
    apply Decidable.byContradiction
    intro hn
    rw [List.getElem?_eq_none (by omega)] at h
    cases h
  rw [List.getElem?_append, if_pos hlt]
  exact h
theorem getD_lt {l : List Bool} {i : Nat} (h : l.getD i false = true) : i < l.length := by
  apply Decidable.byContradiction
  intro hn
  rw [List.getD_eq_getElem?_getD, List.getElem?_eq_none (by omega)] at h
  cases h
theorem Dsk.Ok.newFile {S : Dsk} {N : Nat} (h : S.Ok N) {s : ByteArray} (hs : s.size ≤ 40 ∧ 0 < s.size) : (S.newFile s).Ok (N + 1) := by
  have h' := h.mono (Nat.le_succ N)
  have hdone : ∀ n : Nm, (⟨noStr, s, some S.fs.length⟩ : Mv).done n = n.put s S.fs.length := fun n => by simp [Mv.done]
  refine ⟨?_, ?_, ?_, fun t i hi => getD_app (h.rl t i hi) _, ?_, ?_, ?_, ?_, ?_, ?_, ?_, h.arm, h.uni, h.how, ?_⟩
  · show (S.made ++ [true]).length = (S.fs ++ [_]).length
    rw [List.length_append, List.length_append, h.len]; rfl
  · show S.see.put s S.fs.length = playM (S.mvs ++ [_]) S.las
    rw [playM_append, ← h.play]
    exact (hdone _).symm
  · show okM (S.mvs ++ [_]) S.las
    rw [okM_append]
    exact ⟨h.okm, ⟨⟨fun _ => rfl, fun e => absurd rfl e⟩, trivial⟩⟩
  · intro t i hi
    show (S.made ++ [true]).getD i false = true
    have hi' : (S.see.put s S.fs.length) t = some i := hi
    unfold Nm.put at hi'
    split at hi'
    · injection hi' with e
      subst e
      rw [← h.len, List.getD_eq_getElem?_getD]
      simp
    · exact getD_app (h.rs t i hi') _
  · intro m i hm hi
    rcases List.mem_append.1 hm with hm | hm
    · exact getD_app (h.rm m i hm hi) _
    · simp at hm
      subst hm
      injection hi with e
      subst e
      show (S.made ++ [true]).getD _ false = true
      rw [← h.len, List.getD_eq_getElem?_getD]
      simp
  · intro m hm
    rcases List.mem_append.1 hm with hm | hm
    · exact h.nm m hm
    · simp at hm
      subst hm
      exact ⟨Nat.zero_le _, hs.1⟩
  · intro F hF
    rcases List.mem_append.1 hF with hF | hF
    · exact h.file F hF
    · simp at hF
      subst hF
      exact ⟨trivial, rfl⟩
  · show (S.fs ++ [_]).length ≤ N + 1
    have := h.nfs
    simp; omega
  · show (S.mvs ++ [_]).length ≤ N + 1
    have := h.nmv
    simp; omega
  · intro F hF
    rcases List.mem_append.1 hF with hF | hF
    · exact h'.nby F hF
    · simp at hF
      subst hF
      exact ⟨Nat.zero_le _, Nat.zero_le _⟩
  · intro m hm hfr
    rcases List.mem_append.1 hm with hm | hm
    · exact h.mvf m hm hfr
    · simp at hm
      subst hm
      exact absurd rfl hfr
theorem NmAt.ne_blk {w : World} {b N : Nat} {ad : Nat → Nat} {f : Nm} (h : NmAt w b N ad f) {g : Nat} {cs : Array Value} {t : TypeId} {fr : Nat × Nat} (hg : w.heap[g]? = some (.cells cs t fr)) : b ≠ g := by
  rintro rfl
  obtain ⟨n, D, _, ⟨es, c, hb, _⟩, _⟩ := h
  rw [hb] at hg
  cases hg
theorem NmAt.ne_own {w : World} {b N : Nat} {ad : Nat → Nat} {f : Nm} (h : NmAt w b N ad f) {B e sz n : Nat} {v : Value} {xs : List Value} (hv : w.ownsRow B e sz v n xs) : v.ownBlock ≠ some b := by
  intro hb
  obtain ⟨-, ⟨rfl, -⟩ | ⟨g, c, cur, rfl, -, hg, -⟩⟩ := hv
  · cases hb
  · have : g = b := by simpa [Value.ownBlock] using hb
    subst this
    exact h.ne_blk hg rfl
section
variable {W W1 : World} {d ml ms n : Nat} {vm vd v' : Value} {off : Bool} {arm how uni : Int} {xs ys : List Value} {o : Obj}
theorem st_made (hb : DBlk W d ml ms vm vd off arm how uni) (hv : W.ownsRow 0 66 1 vd n xs) (r1 : W1.ownsRow 0 66 1 v' (n + 1) ys) (r2 : (W.alloc o).grownBy W1 vd.ownBlock) :
    W1.cell? ⟨d, 3, none⟩ = some vd ∧ W1.frozen? ⟨d, 3, none⟩ = false ∧ DBlk (W1.setCell ⟨d, 3, none⟩ v') d ml ms vm v' off arm how uni ∧ (W1.setCell ⟨d, 3, none⟩ v').ownsRow 0 66 1 v' (n + 1) ys ∧ Kept (fun b => b = d ∨ vd.ownBlock = some b) W (W1.setCell ⟨d, 3, none⟩ v') := by
  have k1 := grown_kept r2
  have b1 := hb.kept k1 (fun e => own_ne hv hb (by decide) e)
  exact ⟨b1.c3, b1.fr 3, b1.s3 v', own_kept r1 (Kept.setCell (S := fun b => b = d) _ _ _ rfl) (fun i hi e => own_ne r1 b1 (by decide) (e ▸ hi)), k1.trans (Kept.setCell (S := fun b => b = d) _ _ _ rfl) (fun _ _ e => .inr e) (fun _ _ e => .inl e)⟩
theorem st_moves (hb : DBlk W d ml ms vm vd off arm how uni) (hv : W.ownsRow 0 74 3 vm n xs) (r1 : W1.ownsRow 0 74 3 v' (n + 1) ys) (r2 : (W.alloc o).grownBy W1 vm.ownBlock) :
    W1.cell? ⟨d, 1, none⟩ = some vm ∧ W1.frozen? ⟨d, 1, none⟩ = false ∧ DBlk (W1.setCell ⟨d, 1, none⟩ v') d ml ms v' vd off arm how uni ∧ (W1.setCell ⟨d, 1, none⟩ v').ownsRow 0 74 3 v' (n + 1) ys ∧ Kept (fun b => b = d ∨ vm.ownBlock = some b) W (W1.setCell ⟨d, 1, none⟩ v') := by
  have k1 := grown_kept r2
  have b1 := hb.kept k1 (fun e => own_ne hv hb (by decide) e)
  exact ⟨b1.c1, b1.fr 1, b1.s1 v', own_kept r1 (Kept.setCell (S := fun b => b = d) _ _ _ rfl) (fun i hi e => own_ne r1 b1 (by decide) (e ▸ hi)), k1.trans (Kept.setCell (S := fun b => b = d) _ _ _ rfl) (fun _ _ e => .inr e) (fun _ _ e => .inl e)⟩
end
theorem row_moved {W : World} {v v' : Value} {o : Obj} (hat : v'.ownBlock = v.ownBlock ∨ v'.ownBlock = some (W.alloc o).heap.size) : v'.ownBlock = v.ownBlock ∨ ∀ b, v'.ownBlock = some b → W.heap.size ≤ b := by
  rcases hat with e | e
  · exact .inl e
  · refine .inr fun b hb => ?_
    rw [e] at hb
    injection hb with hb
    rw [← hb]
    simp
end Go.Proofs.Ytgohjgeplageeaa
