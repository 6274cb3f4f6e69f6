/- A disk in memory: which blocks are whose (a colouring), its files, its names. -/
import Derived.Test.YtgohjgeplageeaaD1
import Derived.Lib.Hide
import Derived.Deep.MidRow
import Derived.Laws.Rows
import Derived.Laws.ResultCell
namespace Go.Proofs.Ytgohjgeplageeaa
open Go Go.RowKit
set_option linter.unusedVariables false
set_option linter.unusedSimpArgs false

/-- Whose a block is: the disk's number (0: nobody's), the file's number and 1 (0: the disk's own), what it is for. -/
abbrev Col := Nat → Nat × Nat × Nat
def Agr (w : World) (C C' : Col) : Prop := ∀ b, b < w.heap.size → C' b = C b
theorem Agr.refl (w : World) (C : Col) : Agr w C C := fun _ _ => rfl
theorem Agr.trans {w w' : World} {C C' C'' : Col} (h : Agr w C C') (h' : Agr w' C' C'') (hs : w.heap.size ≤ w'.heap.size) : Agr w C C'' := fun b hb => (h' b (Nat.lt_of_lt_of_le hb hs)).trans (h b hb)
/-- The new blocks get a colour. -/
def Col.new (C : Col) (n : Nat) (c : Nat × Nat × Nat) : Col := fun b => if b < n then C b else c
theorem Agr.new (w : World) (C : Col) (c : Nat × Nat × Nat) : Agr w C (C.new w.heap.size c) := fun b hb => by simp [Col.new, hb]
theorem Col.new_ge {C : Col} {n b : Nat} {c : Nat × Nat × Nat} (h : n ≤ b) : C.new n c b = c := by simp [Col.new, Nat.not_lt.2 h]

/-- Bytes of one's own. -/
structure BAt (w : World) (C : Col) (c : Nat × Nat × Nat) (v : Value) (l : List Int) : Prop where
  own : w.ownsRow 0 5 1 v l.length (nums .u8 l)
  col : ∀ b, v.ownBlock = some b → C b = c
def SAt (w : World) (C : Col) (c : Nat × Nat × Nat) (u : Value) : Stp → Prop
  | .app l => ∃ b, u = .iface 80 (.agg #[b]) ∧ BAt w C c b l
  | .cut n => u = .iface 107 (.agg #[.int .i64 n])
section
variable {w w' : World} {C C' : Col} {c : Nat × Nat × Nat} {S : Nat → Prop} {v u : Value} {l : List Int} {s : Stp}
theorem BAt.kept (h : BAt w C c v l) (hk : Kept S w w') (hS : ∀ b, C b = c → ¬ S b) (hC : Agr w C C') : BAt w' C' c v l :=
  ⟨own_kept h.own hk fun b hb hs => hS b (h.col b hb) hs, fun b hb => (hC b (own_lt h.own b hb)).trans (h.col b hb)⟩
theorem BAt.nil (w : World) (C : Col) (c : Nat × Nat × Nat) : BAt w C c (.slice none 0 0) [] := ⟨World.ownsRow_nil _ _ _ _, fun b hb => by cases hb⟩
theorem BAt.reads (h : BAt w C c v l) : Reads w v l := (Lies.of_own h.own).reads
theorem BAt.slice (h : BAt w C c v l) : ∃ A n, v = .slice A l.length n := own_slice h.own
theorem SAt.kept (h : SAt w C c u s) (hk : Kept S w w') (hS : ∀ b, C b = c → ¬ S b) (hC : Agr w C C') : SAt w' C' c u s := by
  cases s with
  | app l => obtain ⟨b, rfl, h⟩ := h; exact ⟨b, rfl, h.kept hk hS hC⟩
  | cut n => exact h
end
/-- A file: its block, its three lists. -/
structure FAt (w : World) (C : Col) (δ k a : Nat) (vl vp vs : Value) (us : List Value) (F : Fil) : Prop where
  blk : w.heap[a]? = some (.cells #[vl, vp, vs] 72 (0, 0))
  ca : C a = (δ, k, 0)
  las : BAt w C (δ, k, 1) vl F.las
  pen : w.ownsRow 0 102 1 vp F.pen.length us
  cp : ∀ b, vp.ownBlock = some b → C b = (δ, k, 2)
  st : ∀ j s, F.pen[j]? = some s → ∃ u, us[j]? = some u ∧ SAt w C (δ, k, 4 + j) u s
  see : BAt w C (δ, k, 3) vs F.see
section
variable {w w' : World} {C C' : Col} {S : Nat → Prop} {δ k a : Nat} {vl vp vs : Value} {us : List Value} {F : Fil}
theorem FAt.kept (h : FAt w C δ k a vl vp vs us F) (hk : Kept S w w') (hS : ∀ b, (C b).1 = δ → (C b).2.1 = k → ¬ S b) (hC : Agr w C C') : FAt w' C' δ k a vl vp vs us F := by
  have hS' : ∀ m b, C b = (δ, k, m) → ¬ S b := fun m b e => hS b (by rw [e]) (by rw [e])
  exact ⟨blk_kept hk h.blk (hS' _ _ h.ca), (hC _ (blk_lt h.blk)).trans h.ca, h.las.kept hk (hS' _) hC, own_kept h.pen hk fun b hb => hS' _ b (h.cp b hb), fun b hb => (hC b (own_lt h.pen b hb)).trans (h.cp b hb),
    fun j s hj => by obtain ⟨u, hu, hs⟩ := h.st j s hj; exact ⟨u, hu, hs.kept hk (hS' _) hC⟩, h.see.kept hk (hS' _) hC⟩
theorem FAt.lt (h : FAt w C δ k a vl vp vs us F) : a < w.heap.size := blk_lt h.blk
end
def mvC (ad : Nat → Nat) (m : Mv) : List Value := [.string m.fr, .string m.to, ptrV ad m.f]
def mdV (ad : Nat → Nat) (i : Nat) (b : Bool) : Value := ptrV ad (if b = true then some i else none)
def mdC (ad : Nat → Nat) (l : List Bool) : List Value := l.mapIdx (mdV ad)
/-- A disk: its block, its names' blocks, its two lists, where its files lie. -/
structure DAt (w : World) (C : Col) (δ d N ml ms : Nat) (vm vd : Value) (ad : Nat → Nat) (S : Dsk) : Prop where
  blk : w.heap[d]? = some (.cells #[.map (some ml), vm, .map (some ms), vd, .bool S.off, .int .i64 S.arm, .int .i64 S.how, .int .i64 S.uni] 65 (0, 0))
  cd : C d = (δ, 0, 0)
  cl : C ml = (δ, 0, 1)
  cs : C ms = (δ, 0, 2)
  las : NmAt w ml (N - S.mvs.length) ad S.las
  see : NmAt w ms N ad S.see
  mv : w.ownsRow 0 74 3 vm S.mvs.length (S.mvs.flatMap (mvC ad))
  cm : ∀ b, vm.ownBlock = some b → C b = (δ, 0, 3)
  md : w.ownsRow 0 66 1 vd S.made.length (mdC ad S.made)
  ck : ∀ b, vd.ownBlock = some b → C b = (δ, 0, 4)
  fl : ∀ i F, S.fs[i]? = some F → S.made.getD i false = true → ∃ vl vp vs us, FAt w C δ (i + 1) (ad i) vl vp vs us F
/-- What always holds of a disk. N: at most so many moves, files, bytes. -/
structure Dsk.Ok (S : Dsk) (N : Nat) : Prop where
  len : S.made.length = S.fs.length
  play : S.see = playM S.mvs S.las
  okm : okM S.mvs S.las
  rl : ∀ s i, S.las s = some i → S.made.getD i false = true
  rs : ∀ s i, S.see s = some i → S.made.getD i false = true
  rm : ∀ m i, m ∈ S.mvs → m.f = some i → S.made.getD i false = true
  nm : ∀ m, m ∈ S.mvs → m.fr.size ≤ 40 ∧ m.to.size ≤ 40
  file : ∀ F, F ∈ S.fs → okL F.pen F.las ∧ F.see = fullL F.pen F.las
  nfs : S.fs.length ≤ N
  nmv : S.mvs.length ≤ N
  nby : ∀ F, F ∈ S.fs → F.las.length + allL F.pen ≤ N ∧ F.pen.length ≤ N
  arm : 0 ≤ S.arm ∧ S.arm < 9223372036854775808
  uni : 0 ≤ S.uni ∧ S.uni < 9223372036854775808
  how : S.how = 0 ∨ S.how = 1
  mvf : ∀ m, m ∈ S.mvs → m.fr ≠ noStr → m.f = none
section
variable {w w' : World} {C C' : Col} {T : Nat → Prop} {δ d N ml ms : Nat} {vm vd : Value} {ad : Nat → Nat} {S : Dsk}
theorem DAt.kept (h : DAt w C δ d N ml ms vm vd ad S) (hk : Kept T w w') (hT : ∀ b, (C b).1 = δ → ¬ T b) (hC : Agr w C C') : DAt w' C' δ d N ml ms vm vd ad S := by
  have hT' : ∀ j m b, C b = (δ, j, m) → ¬ T b := fun j m b e => hT b (by rw [e])
  refine ⟨blk_kept hk h.blk (hT' _ _ _ h.cd), (hC _ (blk_lt h.blk)).trans h.cd, (hC _ h.las.lt).trans h.cl, (hC _ h.see.lt).trans h.cs, h.las.kept hk (hT' _ _ _ h.cl), h.see.kept hk (hT' _ _ _ h.cs),
    own_kept h.mv hk fun b hb => hT' _ _ b (h.cm b hb), fun b hb => (hC b (own_lt h.mv b hb)).trans (h.cm b hb), own_kept h.md hk fun b hb => hT' _ _ b (h.ck b hb), fun b hb => (hC b (own_lt h.md b hb)).trans (h.ck b hb), ?_⟩
  intro i F hi hm
  obtain ⟨vl, vp, vs, us, hF⟩ := h.fl i F hi hm
  exact ⟨vl, vp, vs, us, hF.kept hk (fun b e _ => hT b e) hC⟩
end
/-- A disk, wherever its parts lie. -/
def DskAt (w : World) (C : Col) (δ d N : Nat) (S : Dsk) : Prop := S.Ok N ∧ ∃ ml ms vm vd ad, DAt w C δ d N ml ms vm vd ad S
theorem DskAt.kept {w w' : World} {C C' : Col} {T : Nat → Prop} {δ d N : Nat} {S : Dsk} (h : DskAt w C δ d N S) (hk : Kept T w w') (hT : ∀ b, (C b).1 = δ → ¬ T b) (hC : Agr w C C') : DskAt w' C' δ d N S := by
  obtain ⟨h0, ml, ms, vm, vd, ad, h⟩ := h
  exact ⟨h0, ml, ms, vm, vd, ad, h.kept hk hT hC⟩
end Go.Proofs.Ytgohjgeplageeaa
