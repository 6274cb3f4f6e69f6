/- Small words on memory: what stays, what a writer's bytes are. -/
import Derived.WalkKit
import Derived.Below
import Derived.OwnWalk
import Derived.Maps.AppendAt
import Derived.Laws.BitsLemmas
import Derived.IntWalk
import Derived.Deep.Draws
import Derived.Laws.BytesArg
import Derived.Deep.QuietTactic
import Derived.BigQuiet
import Derived.Laws.Strings
import Derived.Laws.AppendOwnNone
import Derived.Lib.Strings
import Derived.ChangeSame
import Derived.ProofKit
import Derived.OpenShut
namespace Go.Proofs.Ytgohjgeplageeaa
open Go.RowKit Go.ChangeShapes
set_option linter.unusedVariables false
set_option linter.unusedSimpArgs false

/-- Every block that was there, but for those of S, is as it was. -/
structure Kept (S : Nat → Prop) (w w' : World) : Prop where
  os : w'.os = w.os
  tape : w'.tape = w.tape
  output : w'.output = w.output
  size : w.heap.size ≤ w'.heap.size
  block : ∀ k, k < w.heap.size → ¬ S k → w'.heap[k]? = w.heap[k]?
theorem Kept.refl (S : Nat → Prop) (w : World) : Kept S w w := ⟨rfl, rfl, rfl, Nat.le_refl _, fun _ _ _ => rfl⟩
theorem Kept.trans {S T U : Nat → Prop} {a b c : World} (h : Kept S a b) (k : Kept T b c) (hS : ∀ i, i < a.heap.size → S i → U i) (hT : ∀ i, i < a.heap.size → T i → U i) : Kept U a c :=
  ⟨k.os.trans h.os, k.tape.trans h.tape, k.output.trans h.output, Nat.le_trans h.size k.size, fun i hi hn =>
    (k.block i (Nat.lt_of_lt_of_le hi h.size) (fun e => hn (hT i hi e))).trans (h.block i hi (fun e => hn (hS i hi e)))⟩
theorem Kept.mono {S U : Nat → Prop} {a b : World} (h : Kept S a b) (hS : ∀ i, i < a.heap.size → S i → U i) : Kept U a b :=
  ⟨h.os, h.tape, h.output, h.size, fun i hi hn => h.block i hi (fun e => hn (hS i hi e))⟩
theorem Kept.alloc (S : Nat → Prop) (w : World) (o : Obj) : Kept S w (w.alloc o) :=
  ⟨rfl, rfl, rfl, by simp, fun k hk _ => Below.heap_alloc w o k hk⟩
theorem Kept.drewN (S : Nat → Prop) (w : World) (n : Nat) : Kept S w (w.drewN n) := ⟨rfl, rfl, rfl, Nat.le_refl _, fun _ _ _ => rfl⟩
theorem Kept.drew (S : Nat → Prop) (w : World) : Kept S w w.drew := ⟨rfl, rfl, rfl, Nat.le_refl _, fun _ _ _ => rfl⟩
theorem Kept.setCell {S : Nat → Prop} (w : World) (a : Addr) (u : Value) (h : S a.block) : Kept S w (w.setCell a u) :=
  ⟨rfl, rfl, rfl, by simp [World.setCell], fun k _ hn => Below.heap_setCell w a u k (fun e => hn (e ▸ h))⟩
theorem Kept.of_grown {S : Nat → Prop} {w w' : World} {row : Option Nat} (h : w.grownBy w' row) (hS : ∀ k, row = some k → S k) : Kept S w w' :=
  ⟨h.os, h.tape, h.output, h.size, fun k hk hn => h.block k hk (fun e => hn (hS k e.symm))⟩
theorem Kept.of_below {w w' : World} (h : Below w.heap.size w w') (S : Nat → Prop) : Kept S w w' := ⟨h.os, h.tape, h.output, h.size, fun k hk _ => h.block k hk⟩
theorem Kept.below {S : Nat → Prop} {w w' : World} {B : Nat} (h : Kept S w w') (hB : B ≤ w.heap.size) (hS : ∀ k, k < B → ¬ S k) : Below B w w' :=
  ⟨h.os, h.tape, h.output, h.size, fun k hk => h.block k (by omega) (hS k hk)⟩

def nums (k : IntKind) (xs : List Int) : List Value := xs.map fun x => .int k x
theorem nums_length (k : IntKind) (xs : List Int) : (nums k xs).length = xs.length := by simp [nums]
theorem nums_append (k : IntKind) (xs ys : List Int) : nums k (xs ++ ys) = nums k xs ++ nums k ys := by simp [nums]

theorem blk_lt {W : World} {g : Nat} {o : Obj} (h : W.heap[g]? = some o) : g < W.heap.size := (Array.getElem?_eq_some_iff.1 h).1
theorem blk_cell {W : World} {g : Nat} {cs : Array Value} {t : TypeId} {fr : Nat × Nat} (h : W.heap[g]? = some (.cells cs t fr)) (i : Nat) : W.cell? ⟨g, i, none⟩ = cs[i]? := by
  simp [World.cell?, h]
theorem blk_frozen {W : World} {g : Nat} {cs : Array Value} {t : TypeId} (h : W.heap[g]? = some (.cells cs t (0, 0))) (i : Nat) : W.frozen? ⟨g, i, none⟩ = false := by
  simp [World.frozen?, h]
theorem blk_set {W : World} {g : Nat} {cs : Array Value} {t : TypeId} {fr : Nat × Nat} (h : W.heap[g]? = some (.cells cs t fr)) (i : Nat) (u : Value) :
    (W.setCell ⟨g, i, none⟩ u).heap[g]? = some (.cells (cs.setIfInBounds i u) t fr) := by
  simp [World.setCell, Array.getElem?_modify, h]

theorem own_slice {w : World} {base n : Nat} {e : TypeId} {size : Nat} {v : Value} {xs : List Value} (h : w.ownsRow base e size v n xs) : ∃ A c, v = .slice A n c := by
  rcases h.2 with ⟨rfl, rfl⟩ | ⟨g, cap, cur, rfl, _⟩
  · exact ⟨none, 0, rfl⟩
  · exact ⟨_, cap, rfl⟩
theorem own_lt {w : World} {base : Nat} {e : TypeId} {size n : Nat} {v : Value} {xs : List Value} (h : w.ownsRow base e size v n xs) (k : Nat) (hk : v.ownBlock = some k) : k < w.heap.size := (h.lt k hk).2
/-- A block of another element type is not the row's. -/
theorem own_ne {w : World} {base : Nat} {e : TypeId} {size n : Nat} {v : Value} {xs : List Value} (h : w.ownsRow base e size v n xs) {g : Nat} {cs : Array Value} {t : TypeId} {fr : Nat × Nat}
    (hb : w.heap[g]? = some (.cells cs t fr)) (ht : t ≠ e) : v.ownBlock ≠ some g := by
  intro hk
  rcases h.2 with ⟨rfl, _⟩ | ⟨g', cap, cur, rfl, _, hh, _⟩
  · simp [Value.ownBlock] at hk
  · have : g' = g := by simpa [Value.ownBlock] using hk
    subst this
    rw [hb] at hh
    injection hh with hh
    injection hh with _ h2
    exact ht h2
theorem own_kept {S : Nat → Prop} {w w' : World} {base : Nat} {e : TypeId} {size n : Nat} {v : Value} {xs : List Value} (h : w.ownsRow base e size v n xs) (hk : Kept S w w') (hS : ∀ k, v.ownBlock = some k → ¬ S k) : w'.ownsRow base e size v n xs := by
  refine ⟨h.1, ?_⟩
  rcases h.2 with hn | ⟨g, cap, cur, rfl, hb, hgg, rest⟩
  · exact .inl hn
  · exact .inr ⟨g, cap, cur, rfl, hb, by rw [hk.block g (blk_lt hgg) (hS g rfl)]; exact hgg, rest⟩
theorem blk_kept {S : Nat → Prop} {w w' : World} (hk : Kept S w w') {g : Nat} {o : Obj} (h : w.heap[g]? = some o) (hS : ¬ S g) : w'.heap[g]? = some o := by
  rw [hk.block g (blk_lt h) hS]; exact h

/-- Where a row lies that was v's, or is new. -/
def Moved (v : Value) (w : World) (v' : Value) : Prop := v'.ownBlock = v.ownBlock ∨ ∀ k, v'.ownBlock = some k → w.heap.size ≤ k
theorem Moved.refl (v : Value) (w : World) : Moved v w v := .inl rfl
theorem Moved.trans {v v1 v2 : Value} {w w1 : World} (h : Moved v w v1) (k : Moved v1 w1 v2) (hs : w.heap.size ≤ w1.heap.size) : Moved v w v2 := by
  rcases k with k | k
  · rcases h with h | h
    · exact .inl (k.trans h)
    · exact .inr fun i hi => h i (k ▸ hi)
  · exact .inr fun i hi => Nat.le_trans hs (k i hi)

/-- A struct of one field at block g, type T, whose field is a list of bytes of its own. -/
structure WrAt (T E B : Nat) (W : World) (g : Nat) (v : Value) (l : List Int) : Prop where
  blk : W.heap[g]? = some (.cells #[v] T (0, 0))
  base : B ≤ g
  own : W.ownsRow B E 1 v l.length (nums .u8 l)
structure WrStep (T E B g : Nat) (v : Value) (w : World) (v' : Value) (l' : List Int) (w' : World) : Prop where
  at_ : WrAt T E B w' g v' l'
  moved : Moved v w v'
  kept : Kept (fun k => k = g ∨ v.ownBlock = some k) w w'
theorem WrStep.refl {T E B g : Nat} {v : Value} {w : World} {l : List Int} (h : WrAt T E B w g v l) : WrStep T E B g v w v l w := ⟨h, .refl _ _, .refl _ _⟩
theorem WrStep.trans {T E B g : Nat} {v v1 v2 : Value} {w w1 w2 : World} {l1 l2 : List Int} (h : WrStep T E B g v w v1 l1 w1) (k : WrStep T E B g v1 w1 v2 l2 w2) : WrStep T E B g v w v2 l2 w2 :=
  ⟨k.at_, h.moved.trans k.moved h.kept.size, h.kept.trans k.kept (fun _ _ e => e) fun i hi e => by
    rcases e with e | e
    · exact .inl e
    · rcases h.moved with m | m
      · exact .inr (m ▸ e)
      · exact absurd (m i e) (by omega)⟩
/-- What an append and the store behind it leave. -/
theorem WrAt.append {T E B g : Nat} {v v' : Value} {w w1 : World} {l : List Int} (h : WrAt T E B w g v l) (hTE : T ≠ E) (o : Obj) (l' : List Int) (hown : w1.ownsRow B E 1 v' l'.length (nums .u8 l'))
    (hg : (w.alloc o).grownBy w1 v.ownBlock) (hat : v'.ownBlock = v.ownBlock ∨ v'.ownBlock = some (w.alloc o).heap.size) :
    w1.cell? ⟨g, 0, none⟩ = some v ∧ w1.frozen? ⟨g, 0, none⟩ = false ∧ WrStep T E B g v w v' l' (w1.setCell ⟨g, 0, none⟩ v') := by
  have hne : v.ownBlock ≠ some g := own_ne h.own h.blk hTE
  have hs : (w.alloc o).heap.size = w.heap.size + 1 := by simp
  have hlt := blk_lt h.blk
  have k1 : Kept (fun k => v.ownBlock = some k) w w1 := (Kept.alloc _ w o).trans (Kept.of_grown hg fun k e => e) (fun _ _ e => e) fun _ _ e => e
  have hb1 : w1.heap[g]? = some (.cells #[v] T (0, 0)) := blk_kept k1 h.blk hne
  have k2 : Kept (fun k => k = g) w1 (w1.setCell ⟨g, 0, none⟩ v') := Kept.setCell _ _ _ rfl
  have hne' : v'.ownBlock ≠ some g := own_ne hown hb1 hTE
  refine ⟨blk_cell hb1 0, blk_frozen hb1 0, ⟨?_, h.base, own_kept hown k2 fun k e e2 => hne' (e2 ▸ e)⟩, ?_, k1.trans k2 (fun _ _ e => .inr e) fun _ _ e => .inl e⟩
  · rw [blk_set hb1]; rfl
  · rcases hat with e | e
    · exact .inl e
    · exact .inr fun k hk => by rw [e, hs] at hk; injection hk with hk; omega

/-! ### a number's bytes -/
def venc (n : Nat) : List Int := if h : n < 128 then [(n : Int)] else ((n % 128 + 128 : Nat) : Int) :: venc (n / 128)
termination_by n
theorem venc_lt {n : Nat} (h : n < 128) : venc n = [(n : Int)] := by rw [venc, dif_pos h]
theorem venc_ge {n : Nat} (h : ¬ n < 128) : venc n = ((n % 128 + 128 : Nat) : Int) :: venc (n / 128) := by rw [venc, dif_neg h]
theorem venc_len (k : Nat) : ∀ n, n < 128 ^ (k + 1) → (venc n).length ≤ k + 1 := by
  induction k with
  | zero => intro n h; rw [venc_lt (by simpa using h)]; simp
  | succ k ih =>
    intro n h
    by_cases h1 : n < 128
    · rw [venc_lt h1]; simp
    · rw [venc_ge h1]
      have := ih (n / 128) (by rw [Nat.pow_succ] at h; exact Nat.div_lt_of_lt_mul (by rw [Nat.mul_comm]; exact h))
      simp; omega
theorem venc_len10 {n : Nat} (h : n < 18446744073709551616) : (venc n).length ≤ 10 := venc_len 9 n (by
  refine Nat.lt_of_lt_of_le h ?_; decide)
theorem venc_pos (n : Nat) : 0 < (venc n).length := by
  by_cases h : n < 128
  · rw [venc_lt h]; simp
  · rw [venc_ge h]; simp
theorem or128 : ∀ a : Fin 256, bits .or .u8 (a.val : Int) 128 = ((a.val % 128 + 128 : Nat) : Int) := by decide +kernel
theorem u8_or128' (n : Nat) : bits .or .u8 ((n : Int) % 256) 128 = ((n % 128 + 128 : Nat) : Int) := by
  have h := or128 ⟨n % 256, Nat.mod_lt _ (by decide)⟩
  simp only at h
  rw [show ((n : Int) % 256) = ((n % 256 : Nat) : Int) by omega, h]
  congr 1
  omega
/-! ### bytes in memory -/
/-- v's elements are l; they lie at the head of a block from B on (nil: none). -/
def Lies (E B : Nat) (w : World) (v : Value) (l : List Int) : Prop :=
  (l = [] ∧ v = .slice none 0 0) ∨ ∃ g c cur, v = .slice (some ⟨g, 0, none⟩) l.length c ∧ B ≤ g ∧ w.heap[g]? = some (.cells cur E (0, 0)) ∧ l.length ≤ c ∧ c ≤ cur.size ∧ c ≤ maxLen ∧ cur.toList.take l.length = nums .u8 l
theorem Lies.of_own {E B : Nat} {w : World} {v : Value} {l : List Int} (h : w.ownsRow B E 1 v l.length (nums .u8 l)) : Lies E B w v l := by
  rcases h.2 with ⟨rfl, h0⟩ | ⟨g, cap, cur, rfl, hb, hh, h1, h2, h3, h4⟩
  · exact .inl ⟨List.eq_nil_of_length_eq_zero h0, rfl⟩
  · exact .inr ⟨g, cap, cur, rfl, hb, hh, h1, by omega, h2, by simpa using h4⟩
theorem Lies.lt {E B : Nat} {w : World} {v : Value} {l : List Int} (h : Lies E B w v l) (k : Nat) (hk : v.ownBlock = some k) : B ≤ k ∧ k < w.heap.size := by
  rcases h with ⟨_, rfl⟩ | ⟨g, c, cur, rfl, hb, hh, _⟩
  · simp [Value.ownBlock] at hk
  · simp [Value.ownBlock] at hk; subst hk; exact ⟨hb, blk_lt hh⟩
theorem Lies.kept {S : Nat → Prop} {w w' : World} {E B : Nat} {v : Value} {l : List Int} (h : Lies E B w v l) (hk : Kept S w w') (hS : ∀ k, v.ownBlock = some k → ¬ S k) : Lies E B w' v l := by
  rcases h with h | ⟨g, c, cur, rfl, hb, hh, rest⟩
  · exact .inl h
  · exact .inr ⟨g, c, cur, rfl, hb, by rw [hk.block g (blk_lt hh) (hS g rfl)]; exact hh, rest⟩
theorem Lies.mono {E B B' : Nat} {w : World} {v : Value} {l : List Int} (h : Lies E B w v l) (hB : B' ≤ B) : Lies E B' w v l := by
  rcases h with h | ⟨g, c, cur, rfl, hb, rest⟩
  · exact .inl h
  · exact .inr ⟨g, c, cur, rfl, by omega, rest⟩
theorem Lies.slice {E B : Nat} {w : World} {v : Value} {l : List Int} (h : Lies E B w v l) : ∃ A c, v = .slice A l.length c := by
  rcases h with ⟨rfl, rfl⟩ | ⟨g, c, cur, rfl, _⟩
  · exact ⟨none, 0, rfl⟩
  · exact ⟨_, c, rfl⟩
theorem Lies.cell {E B : Nat} {w : World} {v : Value} {l : List Int} (h : Lies E B w v l) {A : Addr} {n c : Nat} (hv : v = .slice (some A) n c) (j : Nat) (u : Value) (hu : (nums .u8 l)[j]? = some u) : w.cell? (A.add j) = some u := by
  rcases h with ⟨_, rfl⟩ | ⟨g, c', cur, rfl, _, hh, h1, h2, h3, h4⟩
  · cases hv
  · injection hv with hA hn hc
    injection hA with hA
    subst hA
    have hadd : (⟨g, 0, none⟩ : Addr).add j = ⟨g, j, none⟩ := by unfold Addr.add; split <;> simp_all
    rw [hadd, blk_cell hh]
    rw [← h4, List.getElem?_take] at hu
    split at hu
    · simpa using hu
    · cases hu
theorem nums_get (k : IntKind) (l : List Int) (j : Nat) (h : j < l.length) : (nums k l)[j]? = some (.int k (l.getD j 0)) := by
  simp [nums, List.getElem?_eq_getElem h, List.getD_eq_getElem?_getD]
theorem Lies.at_ {E B : Nat} {w : World} {A : Addr} {n c : Nat} {l : List Int} (h : Lies E B w (.slice (some A) n c) l) (j : Nat) (hj : j < l.length) : w.cell? (A.add j) = some (.int .u8 (l.getD j 0)) :=
  h.cell rfl j _ (nums_get _ _ _ hj)
theorem Lies.string {P : Program} {w : World} {E B : Nat} {src dst e : TypeId} {v : Value} {l : List Int} (hs : P.underlying src = some (.slice e)) (he : P.underlying e = some (.int .u8)) (hd : P.underlying dst = some .string)
    (h : Lies E B w v l) : (convert src dst v).run P w = .ok (.string (strOfNums l)) w := by
  rcases h with ⟨rfl, rfl⟩ | ⟨g, c, cur, rfl, hb, hh, h1, h2, h3, h4⟩
  · exact run_convert_bytes_nil w src e hs he 0 0 dst hd
  · refine run_convert_bytes_arg w src e hs he g 0 _ c l rfl (fun i hi => ?_) dst hd
    rw [Nat.zero_add, blk_cell hh]
    have hu := nums_get .u8 l i hi
    rw [← h4, List.getElem?_take, if_pos hi] at hu
    simpa using hu

/-! ### what reads as bytes -/
theorem ret_eq {k : IntKind} {a b : Int} (h : a = b) : Ending.returned (.int k a) = .returned (.int k b) := by rw [h]
theorem own_empty (w : World) (B E : Nat) (hB : B ≤ w.heap.size) : (w.alloc (.cells #[] E)).ownsRow B E 1 (.slice (some ⟨w.heap.size, 0, none⟩) 0 0) 0 [] :=
  World.ownsRow_made w #[] 0 hB (by simp [maxLen]) rfl
theorem cell_alloc {w : World} {a : Addr} {u : Value} (h : w.cell? a = some u) (o : Obj) : (w.alloc o).cell? a = some u :=
  (World.cell?_of_block (Below.heap_alloc w o a.block (World.block_lt_of_cell? w a h))).trans h
theorem news_alloc {w : World} {A : Addr} {news : List Value} (h : ∀ j u, news[j]? = some u → w.cell? (A.add j) = some u) (o : Obj) : ∀ j u, news[j]? = some u → (w.alloc o).cell? (A.add j) = some u :=
  fun j u hu => cell_alloc (h j u hu) o
/-- v reads as l. -/
def Reads (w : World) (v : Value) (l : List Int) : Prop :=
  ∃ A c, v = .slice A l.length c ∧ ((A = none → c = 0) ∧ l.length ≤ c) ∧ ∀ j u, (nums .u8 l)[j]? = some u → ∃ ad, A = some ad ∧ w.cell? (ad.add j) = some u
theorem Reads.kept {w w' : World} {v : Value} {l : List Int} (h : Reads w v l) (hk : Kept (fun _ => False) w w') : Reads w' v l := by
  obtain ⟨A, c, rfl, h0, hc⟩ := h
  refine ⟨A, c, rfl, h0, fun j u hu => ?_⟩
  obtain ⟨ad, hA, hcell⟩ := hc j u hu
  exact ⟨ad, hA, (World.cell?_of_block (hk.block _ (World.block_lt_of_cell? w _ hcell) id)).trans hcell⟩
theorem Lies.reads {E B : Nat} {w : World} {v : Value} {l : List Int} (h : Lies E B w v l) : Reads w v l := by
  obtain ⟨A, c, rfl⟩ := h.slice
  refine ⟨A, c, rfl, ⟨fun hA => ?_, ?_⟩, fun j u hu => ?_⟩
  · subst hA
    rcases h with ⟨_, he⟩ | ⟨g, c', cur, he, _⟩
    · injection he
    · cases he
  · rcases h with ⟨rfl, _⟩ | ⟨g, c', cur, he, _, _, h1, _⟩
    · exact Nat.zero_le _
    · injection he with _ _ he; omega
  cases A with
  | none =>
    rcases h with ⟨rfl, _⟩ | ⟨g, c', cur, he, _⟩
    · simp [nums] at hu
    · cases he
  | some ad => exact ⟨ad, rfl, h.cell rfl j u hu⟩
theorem wraps_u64 (n : Int) (h₀ : 0 ≤ n) (h₁ : n < 2 ^ 64) : IntKind.u64.wrap n = n := by rw [IntKind.wrap_u64]; omega
def Bytes (l : List Int) : Prop := ∀ x ∈ l, 0 ≤ x ∧ x < 256
theorem WrAt.kept {S : Nat → Prop} {T E B g : Nat} {v : Value} {l : List Int} {w w' : World} (h : WrAt T E B w g v l) (hk : Kept S w w') (hg : ¬ S g) (hv : ∀ k, v.ownBlock = some k → ¬ S k) : WrAt T E B w' g v l :=
  ⟨blk_kept hk h.blk hg, h.base, own_kept h.own hk hv⟩
theorem WrAt.new (T E : Nat) (w : World) : WrAt T E w.heap.size (w.alloc (.cells #[.slice none 0 0] T)) w.heap.size (.slice none 0 0) [] :=
  ⟨heap_alloc_new w _, Nat.le_refl _, World.ownsRow_nil _ _ _ _⟩
theorem ret_true {b : Bool} (h : b = true) : Ending.returned (.bool b) = .returned (.bool true) := by rw [h]
theorem str_list (l : List Int) : (strOfNums l).toList = l.map fun n => UInt8.ofNat n.toNat := by rw [ByteArray.toList_eq, strOfNums_data]
theorem str_extract (l : List Int) (k : Nat) : ((strOfNums l).extract 0 k).toList = (strOfNums (l.take k)).toList := by
  rw [str_list, ByteArray.toList_eq, Lib.extract_data, strOfNums_data, List.drop_zero, Nat.sub_zero, List.map_take]
theorem str_inj {x y : List Int} (hx : Bytes x) (hy : Bytes y) (h : (strOfNums x).toList = (strOfNums y).toList) : x = y := by
  rw [str_list, str_list] at h
  have hl : x.length = y.length := by have := congrArg List.length h; simpa using this
  refine List.ext_getElem hl fun i h1 h2 => ?_
  have e : (x.map fun n => UInt8.ofNat n.toNat)[i]'(by simpa using h1) = (y.map fun n => UInt8.ofNat n.toNat)[i]'(by simpa using h2) := by simp only [h]
  simp only [List.getElem_map] at e
  have b1 := hx x[i] (List.getElem_mem h1)
  have b2 := hy y[i] (List.getElem_mem h2)
  have e2 := congrArg UInt8.toNat e
  rw [UInt8.toNat_ofNat', UInt8.toNat_ofNat'] at e2
  omega
theorem str_ne {x y : List Int} (hx : Bytes x) (hy : Bytes y) (h : x ≠ y) : ((strOfNums x).toList == (strOfNums y).toList) = false := by
  rw [beq_eq_false_iff_ne]; exact fun e => h (str_inj hx hy e)
theorem Bytes.take {l : List Int} (h : Bytes l) (k : Nat) : Bytes (l.take k) := fun x hx => h x (List.mem_of_mem_take hx)
theorem Bytes.getD {l : List Int} (h : Bytes l) (k : Nat) (hk : k < l.length) : 0 ≤ l.getD k 0 ∧ l.getD k 0 < 256 :=
  h _ (by rw [List.getD_eq_getElem?_getD, List.getElem?_eq_getElem hk]; simp)

/-- Bytes that came in. -/
theorem reads_of_row {w : World} {a : Option Addr} {len cap : Nat} {zs : List Int} (h : (a = none ∧ len = 0 ∧ cap = 0 ∧ zs = []) ∨
    ∃ x, a = some x ∧ len ≤ cap ∧ cap ≤ maxLen ∧ zs.length = cap ∧ (∀ i, i < zs.length → w.cell? (x.add i) = some (.int .u8 (zs.getD i 0))) ∧ ∀ n ∈ zs, (Lit.int .u8 n).wf = true) :
    ∃ l, l.length = len ∧ Bytes l ∧ Reads w (.slice a len cap) l ∧ cap ≤ maxLen ∧ l = zs.take len := by
  rcases h with ⟨rfl, rfl, rfl, rfl⟩ | ⟨x, rfl, h1, h2, h3, h4, h5⟩
  · exact ⟨[], rfl, fun x hx => (by cases hx), ⟨none, 0, rfl, ⟨fun _ => rfl, Nat.le_refl _⟩, fun j u hu => by simp [nums] at hu⟩, Nat.zero_le _, rfl⟩
  · have hl : (zs.take len).length = len := by simp; omega
    refine ⟨zs.take len, hl, fun y hy => ?_, ⟨some x, cap, by rw [hl], ⟨fun e => (by cases e), by rw [hl]; exact h1⟩, fun j u hu => ⟨x, rfl, ?_⟩⟩, h2, rfl⟩
    · have := bounds_u8 (h5 y (List.mem_of_mem_take hy))
      omega
    · have hj : j < (zs.take len).length := by
        have := (List.getElem?_eq_some_iff.1 hu).1
        simpa [nums] using this
      rw [nums_get .u8 _ j hj] at hu
      injection hu with hu
      rw [← hu, h4 j (by omega)]
      rw [hl] at hj
      simp [List.getD_eq_getElem?_getD, List.getElem?_take, hj]

/-! ### a list of the call's own that grows -/
structure OwnStep (k : IntKind) (E B : Nat) (v : Value) (w : World) (v' : Value) (l' : List Int) (w' : World) : Prop where
  own : w'.ownsRow B E 1 v' l'.length (nums k l')
  moved : Moved v w v'
  kept : Kept (fun i => v.ownBlock = some i) w w'
theorem OwnStep.refl {k : IntKind} {E B : Nat} {v : Value} {w : World} {l : List Int} (h : w.ownsRow B E 1 v l.length (nums k l)) : OwnStep k E B v w v l w := ⟨h, .refl _ _, .refl _ _⟩
theorem OwnStep.trans {k : IntKind} {E B : Nat} {v v1 v2 : Value} {w w1 w2 : World} {l1 l2 : List Int} (h : OwnStep k E B v w v1 l1 w1) (j : OwnStep k E B v1 w1 v2 l2 w2) : OwnStep k E B v w v2 l2 w2 :=
  ⟨j.own, h.moved.trans j.moved h.kept.size, h.kept.trans j.kept (fun _ _ e => e) fun i hi e => by
    rcases h.moved with m | m
    · exact m ▸ e
    · exact absurd (m i e) (by omega)⟩
/-- A step that makes memory alone stands ahead. -/
theorem OwnStep.behind {k : IntKind} {E B : Nat} {v v2 : Value} {w w1 w2 : World} {l2 : List Int} (h : Kept (fun _ => False) w w1) (j : OwnStep k E B v w1 v2 l2 w2) : OwnStep k E B v w v2 l2 w2 :=
  ⟨j.own, (Moved.refl v w).trans j.moved h.size, h.trans j.kept (fun _ _ e => e.elim) fun _ _ e => e⟩
theorem OwnStep.ahead {k : IntKind} {E B : Nat} {v v1 : Value} {w w1 w2 : World} {l1 : List Int} (h : OwnStep k E B v w v1 l1 w1) (j : Kept (fun _ => False) w1 w2) : OwnStep k E B v w v1 l1 w2 :=
  ⟨own_kept h.own j (fun _ _ => id), h.moved, h.kept.trans j (fun _ _ e => e) fun _ _ e => e.elim⟩
/-- Memory older than the list is as it was. -/
theorem OwnStep.old {k : IntKind} {E B : Nat} {v v1 : Value} {w0 w w1 : World} {l1 : List Int} (h : OwnStep k E B v w v1 l1 w1) (h0 : Kept (fun _ => False) w0 w) (hv : ∀ i, v.ownBlock = some i → w0.heap.size ≤ i) : Kept (fun _ => False) w0 w1 :=
  h0.trans h.kept (fun _ _ e => e) fun i hi e => by have := hv i e; omega
theorem OwnStep.lo {k : IntKind} {E B : Nat} {v v1 : Value} {w w1 : World} {l1 : List Int} (h : OwnStep k E B v w v1 l1 w1) : ∀ i, v1.ownBlock = some i → B ≤ i := fun i hi => (h.own.lt i hi).1
theorem OwnStep.reads {E B : Nat} {v v1 : Value} {w w1 : World} {l1 : List Int} (h : OwnStep .u8 E B v w v1 l1 w1) : Reads w1 v1 l1 := (Lies.of_own h.own).reads
theorem OwnStep.append {k : IntKind} {E B : Nat} {v v' : Value} {w w1 : World} {l' : List Int} (o : Obj) (hown : w1.ownsRow B E 1 v' l'.length (nums k l'))
    (hg : (w.alloc o).grownBy w1 v.ownBlock) (hat : v'.ownBlock = v.ownBlock ∨ v'.ownBlock = some (w.alloc o).heap.size) : OwnStep k E B v w v' l' w1 := by
  have hs : (w.alloc o).heap.size = w.heap.size + 1 := by simp
  refine ⟨hown, ?_, (Kept.alloc _ w o).trans (Kept.of_grown hg fun k e => e) (fun _ _ e => e) fun _ _ e => e⟩
  rcases hat with e | e
  · exact .inl e
  · exact .inr fun k hk => by rw [e, hs] at hk; injection hk with hk; omega
theorem OwnStep.append0 {k : IntKind} {E B : Nat} {v v' : Value} {w w1 : World} {l' : List Int} (hown : w1.ownsRow B E 1 v' l'.length (nums k l'))
    (hg : w.grownBy w1 v.ownBlock) (hat : v'.ownBlock = v.ownBlock ∨ v'.ownBlock = some w.heap.size) : OwnStep k E B v w v' l' w1 := by
  refine ⟨hown, ?_, Kept.of_grown hg fun k e => e⟩
  rcases hat with e | e
  · exact .inl e
  · exact .inr fun k hk => by rw [e] at hk; injection hk with hk; omega
theorem own_congr {w : World} {B E : Nat} {v : Value} {n m : Nat} {xs ys : List Value} (h : w.ownsRow B E 1 v n xs) (hx : xs = ys) (hn : n = m) : w.ownsRow B E 1 v m ys := by subst hx hn; exact h
theorem byte_ones (l : List Int) (k : IntKind) : ∀ u ∈ nums k l, u.oneCell' = true := by simp [nums, Value.oneCell']

/-! ### append, as an arm of the walk -/
section
variable {P : Program} {w : World} {ops : Array Oper} {rest : List Oper} {o : Oper} {a : Act} {Q : Exit → Act → World → Prop}
/-- 'append(s, x..)' of what was just laid. -/
theorem wpList_append_new (hgd : o.guard = none) (s x : Operand) (t : TypeId) (ho : o.op = .call { callee := .builtin .append, args := #[s, x], argTypes := #[t, t] })
    (B : Nat) (e : TypeId) (i : TypeInfo) (z : Value) (bytes : Nat) (ht : P.underlying t = some (.slice e)) (hi : P.info? e = some i) (hz : i.zero = some z) (hsize : i.size = 1) (hby : i.bytes = bytes) (hzs : z.cells.size = 1)
    (k : IntKind) (v : Value) (l p : List Int) (cs : Array Value) (m c : Nat) (hs : a.eval s = v) (hx : a.eval x = .slice (some ⟨w.heap.size, 0, none⟩) m c)
    (hcs : cs.toList = nums k p) (hm : m = p.length)
    (hown : w.ownsRow B e 1 v l.length (nums k l)) (h63 : l.length + p.length ≤ maxLen) (hbytes : (l.length + p.length) * bytes ≤ 140737488355328) (hB : B ≤ w.heap.size)
    (h : ∀ v' w', OwnStep k e B v w v' (l ++ p) w' → wpList P ops Q rest (a.put o.dst v') w') : wpList P ops Q (o :: rest) a (w.alloc (.cells cs e)) := by
  subst hm
  refine wpList_append_own_at (w.alloc (.cells cs e)) hgd s x t ho B e i z 1 bytes ht hi hz hsize hby hzs (by decide) v l.length (nums k l) hs (hown.alloc _) ⟨w.heap.size, 0, none⟩ p.length c (nums k p) hx (by simp [nums]) ?_ (byte_ones _ _) h63 hbytes (by simp; omega) ?_
  · intro j u hu
    have hadd : (⟨w.heap.size, 0, none⟩ : Addr).add j = ⟨w.heap.size, j, none⟩ := by unfold Addr.add; split <;> simp_all
    rw [hadd, blk_cell (heap_alloc_new w _), ← hu, ← hcs, Array.getElem?_toList]
  · intro v' w' hown' hg _ hat
    refine h v' w' (OwnStep.append (.cells cs e) (own_congr hown' (by rw [nums_append]) (by simp)) hg hat)
/-- 'append(s, x...)' of bytes that lie somewhere. -/
theorem wpList_append_reads (hgd : o.guard = none) (s x : Operand) (t : TypeId) (ho : o.op = .call { callee := .builtin .append, args := #[s, x], argTypes := #[t, t] })
    (B : Nat) (e : TypeId) (i : TypeInfo) (z : Value) (bytes : Nat) (ht : P.underlying t = some (.slice e)) (hi : P.info? e = some i) (hz : i.zero = some z) (hsize : i.size = 1) (hby : i.bytes = bytes) (hzs : z.cells.size = 1)
    (v y : Value) (l p : List Int) (hs : a.eval s = v) (hx : a.eval x = y) (hr : Reads w y p)
    (hown : w.ownsRow B e 1 v l.length (nums .u8 l)) (h63 : l.length + p.length ≤ maxLen) (hbytes : (l.length + p.length) * bytes ≤ 140737488355328) (hB : B ≤ w.heap.size)
    (h : ∀ v' w', OwnStep .u8 e B v w v' (l ++ p) w' → wpList P ops Q rest (a.put o.dst v') w') : wpList P ops Q (o :: rest) a w := by
  obtain ⟨A, c, rfl, h0, hc⟩ := hr
  cases A with
  | none =>
    obtain rfl := h0.1 rfl
    obtain rfl : p = [] := by
      rcases Nat.eq_zero_or_pos p.length with hp | hp
      · exact List.eq_nil_of_length_eq_zero hp
      · obtain ⟨ad, he, -⟩ := hc 0 _ (nums_get .u8 p 0 hp)
        cases he
    refine wpList_append_own_none hgd s x t ho B e i 1 ht hi v _ _ hs hown hx ?_
    exact h v w (by rw [List.append_nil]; exact .refl hown)
  | some ad =>
    refine wpList_append_own_at w hgd s x t ho B e i z 1 bytes ht hi hz hsize hby hzs (by decide) v l.length (nums .u8 l) hs hown ad p.length c (nums .u8 p) hx (by simp [nums]) ?_ (byte_ones _ _) h63 hbytes hB ?_
    · intro j u hu
      obtain ⟨ad', he, hcell⟩ := hc j u hu
      injection he with he
      subst he
      exact hcell
    · intro v' w' hown' hg _ hat
      exact h v' w' (OwnStep.append0 (own_congr hown' (by rw [nums_append]) (by simp)) hg hat)
end

/-! ### a region that draws its order, whose calls may make memory: walked once -/
structure Later (w : World) where
  w' : World
  kept : Kept (fun _ => False) w w'
instance (w : World) : Inhabited (Later w) := ⟨⟨w, Kept.refl _ _⟩⟩
theorem Later.old {w0 w : World} (p : Later w) (h : Kept (fun _ => False) w0 w) : Kept (fun _ => False) w0 p.w' := h.trans p.kept (fun _ _ e => e) (fun _ _ e => e)
theorem Later.cell {w : World} (p : Later w) {a : Addr} {v : Value} (h : w.cell? a = some v) : p.w'.cell? a = some v :=
  (World.cell?_of_block (p.kept.block _ (World.block_lt_of_cell? w a h) id)).trans h
theorem wp_region_later {P : Program} {id : Nat} {Q : Exit → Act → World → Prop} {a : Act} {w : World} {l : List Oper} (hm : P.follows .mixedOrders = true) (hB : Region.lexB .any l.toArray = true)
    (h : wpQuiet P l.toArray (fun w1 => ∃ p : Later w, w1 = p.w') (fun a' => ∀ p : Later w, Q .normal a' p.w') l a) : (Code.region id l.toArray true).wp P Q a w := by
  refine wp_region_quiet (C := fun w1 => ∃ p : Later w, w1 = p.w') hm hB ⟨⟨w.drew, Kept.drew _ w⟩, rfl⟩ ?_
  have hQ : (fun a' => ∀ w1, (∃ p : Later w, w1 = p.w') → Q .normal a' w1) = (fun a' => ∀ p : Later w, Q .normal a' p.w') := by
    funext a'
    exact propext ⟨fun h p => h _ ⟨p, rfl⟩, fun h w1 ⟨p, e⟩ => e ▸ h p⟩
  rw [hQ]
  simpa using h
theorem Calls.later_of {P : Program} {f : FuncId} {args : Array Value} {w : World} {p : Later w} {v : Value}
    (h : Calls P f args p.w' fun e w1 => e = .returned v ∧ Kept (fun _ => False) p.w' w1) : Calls P f args p.w' fun e w2 => e = .returned v ∧ ∃ q : Later w, w2 = q.w' :=
  h.mono fun _ w1 ⟨he, hk⟩ => ⟨he, ⟨w1, p.kept.trans hk (fun _ _ e => e) (fun _ _ e => e)⟩, rfl⟩

/-! ### the row's end, where old memory is as it was -/
section
open Go.WideShapes Go.ChangeShapes
theorem post_below {H : Type} {enc : TypeId × Value → H} {P : Program} {f : Func} {s : ChangeSpec} {ap fr ho ag : Bool} {W W' : World} {args : Array Value} {v : Value} {ds gs : List (DataW H)} {seen pa pv : List MemPlace}
    (hW : DataW.Whole enc P f.params.toList s.vars ap W args.toList ds gs seen) (hb : Below W.heap.size W W') (hps : seen = pa ++ pv)
    (hres : ∀ (b : Nat) (sp : Nat → Bool) (hd : Bool), DataW.TrodAll enc P W' b sp hd f.resultTypes.toList (v.resultList f.resultTypes.size) (s.fn H (ds ++ gs)).results [])
    (hargs : ∀ sp : Nat → Bool, (∀ p ∈ seen, sp p.block = true) → DataW.TrodAll enc P W' 0 sp true f.params.toList args.toList (s.fn H (ds ++ gs)).args pa)
    (hvars : ∀ sp : Nat → Bool, (∀ p ∈ seen, sp p.block = true) → DataW.TrodVars enc P W' sp s.vars (s.fn H (ds ++ gs)).vars pv)
    (hok : ∀ (j : Nat) (t : TypeId) (r : Value), f.resultTypes[j]? = some t → (v.resultList f.resultTypes.size)[j]? = some r → Value.okWide P W' .any 0 t r) :
    s.post enc P f ap fr ho ag W args v W' := by
  have low : ∀ p ∈ seen, p.block < W.heap.size := fun p => hW.lt p
  have low' : ∀ p ∈ seen, (fun b => decide (b < W.heap.size)) p.block = true := fun p h => decide_eq_true (low p h)
  have two : ([] ++ pa) ++ pv = seen := by rw [hps, List.nil_append]
  obtain ⟨-, -, -, -, -, hz, hn⟩ := id hW
  refine ⟨ds, gs, seen, [], pa, pv, hW, hres _ _ _, hargs _ low', hvars _ low', World.keptBut_mono (fun p h => ⟨h, .inr (List.mem_append.1 (hps ▸ h))⟩) (hb.frame (· ∈ seen)), fun _ => ?_⟩
  refine ⟨hok, _, _, ([] ++ pa) ++ pv, ⟨[] ++ pa, pv, trodAll_append (hargs _ fun _ _ => rfl) (hres _ _ _), hvars _ fun _ _ => rfl, rfl, ?_, ?_⟩, ?_⟩
  · rw [two]
    exact fun b off h => (hb.frozen (low _ h)).trans (hz b off h)
  · rw [two]
    exact hn
  · rw [two]
    exact fun p h _ => h
end
end Go.Proofs.Ytgohjgeplageeaa
