/- Small words on memory: what stays, what a writer's bytes are. -/
import Derived.WalkKit
import Derived.Below
import Derived.OwnWalk
import Derived.Maps.AppendAt
import Derived.Laws.BitsLemmas
import Derived.IntWalk
import Derived.Deep.Draws
import Derived.Laws.BytesArg
import Derived.ChangeSame
import Derived.ProofKit
import Derived.OpenShut
namespace Go.Proofs.Ytkefehceakcgoaa
open Go.RowKit

/-- Every block that was there, but for those of S, is as it was. -/
structure Kept (S : Nat → Prop) (w w' : World) : Prop where
  os : w'.os = w.os
  tape : w'.tape = w.tape
  output : w'.output = w.output
  size : w.heap.size ≤ w'.heap.size
  block : ∀ k, k < w.heap.size → ¬ S k → w'.heap[k]? = w.heap[k]?
theorem Kept.refl (S : Nat → Prop) (w : World) : Kept S w w := ⟨rfl, rfl, rfl, Nat.le_refl _, fun _ _ _ => rfl⟩
theorem Kept.trans {S T U : Nat → Prop} {a b c : World} (h : Kept S a b) (k : Kept T b c) (hS : ∀ i, i < a.heap.size → S i → U i) (hT : ∀ i, i < a.heap.size → T i → U i) : Kept U a c :=
  ⟨k.os.trans h.os, k.tape.trans h.tape, k.output.trans h.output, Nat.le_trans h.size k.size, fun i hi hn =>
    (k.block i (Nat.lt_of_lt_of_le hi h.size) (fun e => hn (hT i hi e))).trans (h.block i hi (fun e => hn (hS i hi e)))⟩
theorem Kept.mono {S U : Nat → Prop} {a b : World} (h : Kept S a b) (hS : ∀ i, i < a.heap.size → S i → U i) : Kept U a b :=
  ⟨h.os, h.tape, h.output, h.size, fun i hi hn => h.block i hi (fun e => hn (hS i hi e))⟩
theorem Kept.alloc (S : Nat → Prop) (w : World) (o : Obj) : Kept S w (w.alloc o) :=
  ⟨rfl, rfl, rfl, by simp, fun k hk _ => Below.heap_alloc w o k hk⟩
theorem Kept.drewN (S : Nat → Prop) (w : World) (n : Nat) : Kept S w (w.drewN n) := ⟨rfl, rfl, rfl, Nat.le_refl _, fun _ _ _ => rfl⟩
theorem Kept.drew (S : Nat → Prop) (w : World) : Kept S w w.drew := ⟨rfl, rfl, rfl, Nat.le_refl _, fun _ _ _ => rfl⟩
theorem Kept.setCell {S : Nat → Prop} (w : World) (a : Addr) (u : Value) (h : S a.block) : Kept S w (w.setCell a u) :=
  ⟨rfl, rfl, rfl, by simp [World.setCell], fun k _ hn => Below.heap_setCell w a u k (fun e => hn (e ▸ h))⟩
theorem Kept.of_grown {S : Nat → Prop} {w w' : World} {row : Option Nat} (h : w.grownBy w' row) (hS : ∀ k, row = some k → S k) : Kept S w w' :=
  ⟨h.os, h.tape, h.output, h.size, fun k hk hn => h.block k hk (fun e => hn (hS k e.symm))⟩
theorem Kept.of_below {w w' : World} (h : Below w.heap.size w w') (S : Nat → Prop) : Kept S w w' := ⟨h.os, h.tape, h.output, h.size, fun k hk _ => h.block k hk⟩
theorem Kept.below {S : Nat → Prop} {w w' : World} {B : Nat} (h : Kept S w w') (hB : B ≤ w.heap.size) (hS : ∀ k, k < B → ¬ S k) : Below B w w' :=
  ⟨h.os, h.tape, h.output, h.size, fun k hk => h.block k (by omega) (hS k hk)⟩

def nums (k : IntKind) (xs : List Int) : List Value := xs.map fun x => .int k x
theorem nums_length (k : IntKind) (xs : List Int) : (nums k xs).length = xs.length := by simp [nums]
theorem nums_append (k : IntKind) (xs ys : List Int) : nums k (xs ++ ys) = nums k xs ++ nums k ys := by simp [nums]

theorem blk_lt {W : World} {g : Nat} {o : Obj} (h : W.heap[g]? = some o) : g < W.heap.size := (Array.getElem?_eq_some_iff.1 h).1
theorem blk_cell {W : World} {g : Nat} {cs : Array Value} {t : TypeId} {fr : Nat × Nat} (h : W.heap[g]? = some (.cells cs t fr)) (i : Nat) : W.cell? ⟨g, i, none⟩ = cs[i]? := by
  simp [World.cell?, h]
theorem blk_frozen {W : World} {g : Nat} {cs : Array Value} {t : TypeId} (h : W.heap[g]? = some (.cells cs t (0, 0))) (i : Nat) : W.frozen? ⟨g, i, none⟩ = false := by
  simp [World.frozen?, h]
theorem blk_set {W : World} {g : Nat} {cs : Array Value} {t : TypeId} {fr : Nat × Nat} (h : W.heap[g]? = some (.cells cs t fr)) (i : Nat) (u : Value) :
    (W.setCell ⟨g, i, none⟩ u).heap[g]? = some (.cells (cs.setIfInBounds i u) t fr) := by
  simp [World.setCell, Array.getElem?_modify, h]

theorem own_slice {w : World} {base n : Nat} {e : TypeId} {size : Nat} {v : Value} {xs : List Value} (h : w.ownsRow base e size v n xs) : ∃ A c, v = .slice A n c := by
  rcases h.2 with ⟨rfl, rfl⟩ | ⟨g, cap, cur, rfl, _⟩
  · exact ⟨none, 0, rfl⟩
  · exact ⟨_, cap, rfl⟩
theorem own_lt {w : World} {base : Nat} {e : TypeId} {size n : Nat} {v : Value} {xs : List Value} (h : w.ownsRow base e size v n xs) (k : Nat) (hk : v.ownBlock = some k) : k < w.heap.size := (h.lt k hk).2
/-- A block of another element type is not the row's. -/
theorem own_ne {w : World} {base : Nat} {e : TypeId} {size n : Nat} {v : Value} {xs : List Value} (h : w.ownsRow base e size v n xs) {g : Nat} {cs : Array Value} {t : TypeId} {fr : Nat × Nat}
    (hb : w.heap[g]? = some (.cells cs t fr)) (ht : t ≠ e) : v.ownBlock ≠ some g := by
  intro hk
  rcases h.2 with ⟨rfl, _⟩ | ⟨g', cap, cur, rfl, _, hh, _⟩
  · simp [Value.ownBlock] at hk
  · have : g' = g := by simpa [Value.ownBlock] using hk
    subst this
    rw [hb] at hh
    injection hh with hh
    injection hh with _ h2
    exact ht h2
theorem own_kept {S : Nat → Prop} {w w' : World} {base : Nat} {e : TypeId} {size n : Nat} {v : Value} {xs : List Value} (h : w.ownsRow base e size v n xs) (hk : Kept S w w') (hS : ∀ k, v.ownBlock = some k → ¬ S k) : w'.ownsRow base e size v n xs := by
  refine ⟨h.1, ?_⟩
  rcases h.2 with hn | ⟨g, cap, cur, rfl, hb, hgg, rest⟩
  · exact .inl hn
  · exact .inr ⟨g, cap, cur, rfl, hb, by rw [hk.block g (blk_lt hgg) (hS g rfl)]; exact hgg, rest⟩
theorem blk_kept {S : Nat → Prop} {w w' : World} (hk : Kept S w w') {g : Nat} {o : Obj} (h : w.heap[g]? = some o) (hS : ¬ S g) : w'.heap[g]? = some o := by
  rw [hk.block g (blk_lt h) hS]; exact h

/-- Where a row lies that was v's, or is new. -/
def Moved (v : Value) (w : World) (v' : Value) : Prop := v'.ownBlock = v.ownBlock ∨ ∀ k, v'.ownBlock = some k → w.heap.size ≤ k
theorem Moved.refl (v : Value) (w : World) : Moved v w v := .inl rfl
theorem Moved.trans {v v1 v2 : Value} {w w1 : World} (h : Moved v w v1) (k : Moved v1 w1 v2) (hs : w.heap.size ≤ w1.heap.size) : Moved v w v2 := by
  rcases k with k | k
  · rcases h with h | h
    · exact .inl (k.trans h)
    · exact .inr fun i hi => h i (k ▸ hi)
  · exact .inr fun i hi => Nat.le_trans hs (k i hi)

/-- A struct of one field at block g, type T, whose field is a list of bytes of its own. -/
structure WrAt (T E B : Nat) (W : World) (g : Nat) (v : Value) (l : List Int) : Prop where
  blk : W.heap[g]? = some (.cells #[v] T (0, 0))
  base : B ≤ g
  own : W.ownsRow B E 1 v l.length (nums .u8 l)
structure WrStep (T E B g : Nat) (v : Value) (w : World) (v' : Value) (l' : List Int) (w' : World) : Prop where
  at_ : WrAt T E B w' g v' l'
  moved : Moved v w v'
  kept : Kept (fun k => k = g ∨ v.ownBlock = some k) w w'
theorem WrStep.refl {T E B g : Nat} {v : Value} {w : World} {l : List Int} (h : WrAt T E B w g v l) : WrStep T E B g v w v l w := ⟨h, .refl _ _, .refl _ _⟩
theorem WrStep.trans {T E B g : Nat} {v v1 v2 : Value} {w w1 w2 : World} {l1 l2 : List Int} (h : WrStep T E B g v w v1 l1 w1) (k : WrStep T E B g v1 w1 v2 l2 w2) : WrStep T E B g v w v2 l2 w2 :=
  ⟨k.at_, h.moved.trans k.moved h.kept.size, h.kept.trans k.kept (fun _ _ e => e) fun i hi e => by
    rcases e with e | e
    · exact .inl e
    · rcases h.moved with m | m
      · exact .inr (m ▸ e)
      · exact absurd (m i e) (by omega)⟩
/-- What an append and the store behind it leave. -/
theorem WrAt.append {T E B g : Nat} {v v' : Value} {w w1 : World} {l : List Int} (h : WrAt T E B w g v l) (hTE : T ≠ E) (o : Obj) (l' : List Int) (hown : w1.ownsRow B E 1 v' l'.length (nums .u8 l'))
    (hg : (w.alloc o).grownBy w1 v.ownBlock) (hat : v'.ownBlock = v.ownBlock ∨ v'.ownBlock = some (w.alloc o).heap.size) :
    w1.cell? ⟨g, 0, none⟩ = some v ∧ w1.frozen? ⟨g, 0, none⟩ = false ∧ WrStep T E B g v w v' l' (w1.setCell ⟨g, 0, none⟩ v') := by
  have hne : v.ownBlock ≠ some g := own_ne h.own h.blk hTE
  have hs : (w.alloc o).heap.size = w.heap.size + 1 := by simp
  have hlt := blk_lt h.blk
  have k1 : Kept (fun k => v.ownBlock = some k) w w1 := (Kept.alloc _ w o).trans (Kept.of_grown hg fun k e => e) (fun _ _ e => e) fun _ _ e => e
  have hb1 : w1.heap[g]? = some (.cells #[v] T (0, 0)) := blk_kept k1 h.blk hne
  have k2 : Kept (fun k => k = g) w1 (w1.setCell ⟨g, 0, none⟩ v') := Kept.setCell _ _ _ rfl
  have hne' : v'.ownBlock ≠ some g := own_ne hown hb1 hTE
  refine ⟨blk_cell hb1 0, blk_frozen hb1 0, ⟨?_, h.base, own_kept hown k2 fun k e e2 => hne' (e2 ▸ e)⟩, ?_, k1.trans k2 (fun _ _ e => .inr e) fun _ _ e => .inl e⟩
  · rw [blk_set hb1]; rfl
  · rcases hat with e | e
    · exact .inl e
    · exact .inr fun k hk => by rw [e, hs] at hk; injection hk with hk; omega

/-! ### a number's bytes -/
def venc (n : Nat) : List Int := if h : n < 128 then [(n : Int)] else ((n % 128 + 128 : Nat) : Int) :: venc (n / 128)
termination_by n
theorem venc_lt {n : Nat} (h : n < 128) : venc n = [(n : Int)] := by rw [venc, dif_pos h]
theorem venc_ge {n : Nat} (h : ¬ n < 128) : venc n = ((n % 128 + 128 : Nat) : Int) :: venc (n / 128) := by rw [venc, dif_neg h]
theorem venc_len (k : Nat) : ∀ n, n < 128 ^ (k + 1) → (venc n).length ≤ k + 1 := by
  induction k with
  | zero => intro n h; rw [venc_lt (by simpa using h)]; simp
  | succ k ih =>
    intro n h
    by_cases h1 : n < 128
    · rw [venc_lt h1]; simp
    · rw [venc_ge h1]
      have := ih (n / 128) (by rw [Nat.pow_succ] at h; exact Nat.div_lt_of_lt_mul (by rw [Nat.mul_comm]; exact h))
      simp; omega
theorem venc_len10 {n : Nat} (h : n < 18446744073709551616) : (venc n).length ≤ 10 := venc_len 9 n (by
  refine Nat.lt_of_lt_of_le h ?_; decide)
theorem venc_pos (n : Nat) : 0 < (venc n).length := by
  by_cases h : n < 128
  · rw [venc_lt h]; simp
  · rw [venc_ge h]; simp
theorem or128 : ∀ a : Fin 256, bits .or .u8 (a.val : Int) 128 = ((a.val % 128 + 128 : Nat) : Int) := by decide +kernel
theorem u8_or128' (n : Nat) : bits .or .u8 ((n : Int) % 256) 128 = ((n % 128 + 128 : Nat) : Int) := by
  have h := or128 ⟨n % 256, Nat.mod_lt _ (by decide)⟩
  simp only at h
  rw [show ((n : Int) % 256) = ((n % 256 : Nat) : Int) by omega, h]
  congr 1
  omega
/-! ### bytes in memory -/
/-- v's elements are l; they lie at the head of a block from B on (nil: none). -/
def Lies (E B : Nat) (w : World) (v : Value) (l : List Int) : Prop :=
  (l = [] ∧ v = .slice none 0 0) ∨ ∃ g c cur, v = .slice (some ⟨g, 0, none⟩) l.length c ∧ B ≤ g ∧ w.heap[g]? = some (.cells cur E (0, 0)) ∧ l.length ≤ c ∧ c ≤ cur.size ∧ c ≤ maxLen ∧ cur.toList.take l.length = nums .u8 l
theorem Lies.of_own {E B : Nat} {w : World} {v : Value} {l : List Int} (h : w.ownsRow B E 1 v l.length (nums .u8 l)) : Lies E B w v l := by
  rcases h.2 with ⟨rfl, h0⟩ | ⟨g, cap, cur, rfl, hb, hh, h1, h2, h3, h4⟩
  · exact .inl ⟨List.eq_nil_of_length_eq_zero h0, rfl⟩
  · exact .inr ⟨g, cap, cur, rfl, hb, hh, h1, by omega, h2, by simpa using h4⟩
theorem Lies.lt {E B : Nat} {w : World} {v : Value} {l : List Int} (h : Lies E B w v l) (k : Nat) (hk : v.ownBlock = some k) : B ≤ k ∧ k < w.heap.size := by
  rcases h with ⟨_, rfl⟩ | ⟨g, c, cur, rfl, hb, hh, _⟩
  · simp [Value.ownBlock] at hk
  · simp [Value.ownBlock] at hk; subst hk; exact ⟨hb, blk_lt hh⟩
theorem Lies.kept {S : Nat → Prop} {w w' : World} {E B : Nat} {v : Value} {l : List Int} (h : Lies E B w v l) (hk : Kept S w w') (hS : ∀ k, v.ownBlock = some k → ¬ S k) : Lies E B w' v l := by
  rcases h with h | ⟨g, c, cur, rfl, hb, hh, rest⟩
  · exact .inl h
  · exact .inr ⟨g, c, cur, rfl, hb, by rw [hk.block g (blk_lt hh) (hS g rfl)]; exact hh, rest⟩
theorem Lies.mono {E B B' : Nat} {w : World} {v : Value} {l : List Int} (h : Lies E B w v l) (hB : B' ≤ B) : Lies E B' w v l := by
  rcases h with h | ⟨g, c, cur, rfl, hb, rest⟩
  · exact .inl h
  · exact .inr ⟨g, c, cur, rfl, by omega, rest⟩
theorem Lies.slice {E B : Nat} {w : World} {v : Value} {l : List Int} (h : Lies E B w v l) : ∃ A c, v = .slice A l.length c := by
  rcases h with ⟨rfl, rfl⟩ | ⟨g, c, cur, rfl, _⟩
  · exact ⟨none, 0, rfl⟩
  · exact ⟨_, c, rfl⟩
theorem Lies.cell {E B : Nat} {w : World} {v : Value} {l : List Int} (h : Lies E B w v l) {A : Addr} {n c : Nat} (hv : v = .slice (some A) n c) (j : Nat) (u : Value) (hu : (nums .u8 l)[j]? = some u) : w.cell? (A.add j) = some u := by
  rcases h with ⟨_, rfl⟩ | ⟨g, c', cur, rfl, _, hh, h1, h2, h3, h4⟩
  · cases hv
  · injection hv with hA hn hc
    injection hA with hA
    subst hA
    have hadd : (⟨g, 0, none⟩ : Addr).add j = ⟨g, j, none⟩ := by unfold Addr.add; split <;> simp_all
    rw [hadd, blk_cell hh]
    rw [← h4, List.getElem?_take] at hu
    split at hu
    · simpa using hu
    · cases hu
theorem nums_get (k : IntKind) (l : List Int) (j : Nat) (h : j < l.length) : (nums k l)[j]? = some (.int k (l.getD j 0)) := by
  simp [nums, List.getElem?_eq_getElem h, List.getD_eq_getElem?_getD]
theorem Lies.at_ {E B : Nat} {w : World} {A : Addr} {n c : Nat} {l : List Int} (h : Lies E B w (.slice (some A) n c) l) (j : Nat) (hj : j < l.length) : w.cell? (A.add j) = some (.int .u8 (l.getD j 0)) :=
  h.cell rfl j _ (nums_get _ _ _ hj)
theorem Lies.string {P : Program} {w : World} {E B : Nat} {src dst e : TypeId} {v : Value} {l : List Int} (hs : P.underlying src = some (.slice e)) (he : P.underlying e = some (.int .u8)) (hd : P.underlying dst = some .string)
    (h : Lies E B w v l) : (convert src dst v).run P w = .ok (.string (strOfNums l)) w := by
  rcases h with ⟨rfl, rfl⟩ | ⟨g, c, cur, rfl, hb, hh, h1, h2, h3, h4⟩
  · exact run_convert_bytes_nil w src e hs he 0 0 dst hd
  · refine run_convert_bytes_arg w src e hs he g 0 _ c l rfl (fun i hi => ?_) dst hd
    rw [Nat.zero_add, blk_cell hh]
    have hu := nums_get .u8 l i hi
    rw [← h4, List.getElem?_take, if_pos hi] at hu
    simpa using hu

/-! ### the row's end, where old memory is as it was -/
section
open Go.WideShapes Go.ChangeShapes
theorem post_below {H : Type} {enc : TypeId × Value → H} {P : Program} {f : Func} {s : ChangeSpec} {ap fr ho ag : Bool} {W W' : World} {args : Array Value} {v : Value} {ds gs : List (DataW H)} {seen pa pv : List MemPlace}
    (hW : DataW.Whole enc P f.params.toList s.vars ap W args.toList ds gs seen) (hb : Below W.heap.size W W') (hps : seen = pa ++ pv)
    (hres : ∀ (b : Nat) (sp : Nat → Bool) (hd : Bool), DataW.TrodAll enc P W' b sp hd f.resultTypes.toList (v.resultList f.resultTypes.size) (s.fn H (ds ++ gs)).results [])
    (hargs : ∀ sp : Nat → Bool, (∀ p ∈ seen, sp p.block = true) → DataW.TrodAll enc P W' 0 sp true f.params.toList args.toList (s.fn H (ds ++ gs)).args pa)
    (hvars : ∀ sp : Nat → Bool, (∀ p ∈ seen, sp p.block = true) → DataW.TrodVars enc P W' sp s.vars (s.fn H (ds ++ gs)).vars pv)
    (hok : ∀ (j : Nat) (t : TypeId) (r : Value), f.resultTypes[j]? = some t → (v.resultList f.resultTypes.size)[j]? = some r → Value.okWide P W' .any 0 t r) :
    s.post enc P f ap fr ho ag W args v W' := by
  have low : ∀ p ∈ seen, p.block < W.heap.size := fun p => hW.lt p
  have low' : ∀ p ∈ seen, (fun b => decide (b < W.heap.size)) p.block = true := fun p h => decide_eq_true (low p h)
  have two : ([] ++ pa) ++ pv = seen := by rw [hps, List.nil_append]
  obtain ⟨-, -, -, -, -, hz, hn⟩ := id hW
  refine ⟨ds, gs, seen, [], pa, pv, hW, hres _ _ _, hargs _ low', hvars _ low', World.keptBut_mono (fun p h => ⟨h, .inr (List.mem_append.1 (hps ▸ h))⟩) (hb.frame (· ∈ seen)), fun _ => ?_⟩
  refine ⟨hok, _, _, ([] ++ pa) ++ pv, ⟨[] ++ pa, pv, trodAll_append (hargs _ fun _ _ => rfl) (hres _ _ _), hvars _ fun _ _ => rfl, rfl, ?_, ?_⟩, ?_⟩
  · rw [two]
    exact fun b off h => (hb.frozen (low _ h)).trans (hz b off h)
  · rw [two]
    exact hn
  · rw [two]
    exact fun p h _ => h
end
end Go.Proofs.Ytkefehceakcgoaa
