import Derived.Test.YtlcbgklealipoaaGreatDoorZA
import Derived.Test.YtlcbgklealipoaaGreatDoorLib
import Derived.StillTailTactics
import Derived.Deep.Quiet
import Derived.BigQuiet
import Derived.Deep.MidRow
import Derived.Laws.Rows
import Derived.Laws.ResultCell
section
/- cmp.Compare at numbers, cmp.Or (the walks). -/
namespace Go.Proofs.YtlcbgklealipoaaGreatDoor
open Go.RowKit
set_option linter.unusedVariables false
set_option linter.unusedSimpArgs false

theorem cmp26 (x y : Int) (w : World) : Calls Tryz.prog 140 #[.int .i64 x, .int .i64 y] w fun e w' => e = .returned (.int .i64 (Lib.compareInt x y)) ∧ w' = w := by
  have hx : (x != x) = false := by simp
  have hy : (y != y) = false := by simp
  by_cases h : x < y
  · have e : Lib.compareInt x y = -1 := by unfold Lib.compareInt; rw [if_pos h]
    rw [e]
    go_enter Tryz.func140, Tryz.ntmps140
    go_wp2
    go_ret
    exact ⟨rfl, rfl⟩
  · by_cases h2 : y < x
    · have e : Lib.compareInt x y = 1 := by unfold Lib.compareInt; rw [if_neg h, if_pos h2]
      rw [e]
      have h3 : ¬ x < y := h
      go_enter Tryz.func140, Tryz.ntmps140
      go_wp2
      go_ret
      exact ⟨rfl, rfl⟩
    · have e : Lib.compareInt x y = 0 := by unfold Lib.compareInt; rw [if_neg h, if_neg h2]
      rw [e]
      go_enter Tryz.func140, Tryz.ntmps140
      go_wp2
      go_ret
      exact ⟨rfl, rfl⟩
theorem orFirst_zero_head {x : Int} {r : List Int} (h : x = 0) : orFirst (x :: r) = orFirst r := by
  show (if x = 0 then orFirst r else x) = _
  rw [if_pos h]
/-- cmp.Or: the first that is not 0. -/
def NReads (w : World) (v : Value) (l : List Int) : Prop :=
  ∃ A c, v = .slice A l.length c ∧ (0 < l.length → ∃ b off, A = some ⟨b, off, none⟩ ∧ ∀ (i : Nat) x, l[i]? = some x → w.cell? ⟨b, off + i, none⟩ = some (.int .i64 x))
theorem or_any (l : List Int) (v : Value) (w : World) (hr : NReads w v l) (hl : l.length ≤ 1000000) : Calls Tryz.prog 139 #[v] w fun e w' => e = .returned (.int .i64 (orFirst l)) ∧ w' = w := by
  obtain ⟨A, c, rfl, hc⟩ := hr
  have HC := Lib.hid hc
  clear hc
  go_enter Tryz.func139, Tryz.ntmps139
  go_wp2_with fail
  go_loopw [8] (fun i wr => ∃ k : Nat, i = .int .i64 k ∧ k ≤ l.length ∧ orFirst l = orFirst (l.drop k) ∧ wr = w) (fun i _ => l.length - (intOf i).toNat)
  case atStart => exact ⟨0, rfl, by omega, by simp, rfl⟩
  case round =>
    obtain ⟨k, rfl, hk, ho, rfl⟩ := hrel
    have k0 : (0 : Int) ≤ k := by omega
    by_cases h : k < l.length
    · obtain ⟨x, hx⟩ : ∃ x, l[k]? = some x := ⟨_, List.getElem?_eq_getElem h⟩
      obtain ⟨b, off, rfl, hcs⟩ := HC.out (by omega)
      have hcell := hcs k x hx
      have hd : l.drop k = x :: l.drop (k + 1) := by
        have := (List.getElem?_eq_some_iff.1 hx).2
        rw [← this, ← List.drop_eq_getElem_cons h]
      have k1 : (k : Int) < l.length := by omega
      rw [hd] at ho
      have HO := Lib.hid ho
      by_cases hx0 : x = 0
      · have hb : (x != 0) = false := by simp [hx0]
        have HX := Lib.hid hx0
        clear ho hd hx hx0 hcs h
        go_wp2_with fail
        exact ⟨⟨k + 1, by congr 1, by omega, by rw [HO.out]; exact orFirst_zero_head HX.out, trivial⟩, by simp [intOf]; omega⟩
      · have hb : (x != 0) = true := by simp [hx0]
        have HE : Hid (orFirst l = x) := Lib.hid (by rw [ho]; unfold orFirst; rw [if_neg hx0])
        clear ho hd hx hx0 hcs h
        go_wp2_with fail
        go_ret
        exact ⟨by rw [HE.out]; rfl, rfl⟩
    · have k1 : ¬ (k : Int) < l.length := by omega
      have HE : Hid (orFirst l = 0) := Lib.hid (by rw [ho, List.drop_eq_nil_of_le (by omega)]; rfl)
      clear ho h
      go_wp2_with fail
      go_ret
      exact ⟨by rw [HE.out]; rfl, rfl⟩
end Go.Proofs.YtlcbgklealipoaaGreatDoor
end

section
/- A region that draws its order: reads, and calls that may make memory, ahead of a tail whose order is forced: walked once. -/
namespace Go.Proofs.YtlcbgklealipoaaGreatDoor
open Go.RowKit
set_option linter.unusedVariables false
set_option linter.unusedSimpArgs false

section
variable {P : Program} {ops : Array Oper} {md : Region.Mode} {C : World → Prop}
/-- Whatever order is picked, up to the tail. -/
def anyLQ (P : Program) (md : Region.Mode) (ops : Array Oper) (C : World → Prop) (n : Nat) (L : Array Bool → Act → Prop) : Nat → Array Bool → Act → Prop
  | 0, listed, a => L listed a
  | f + 1, listed, a =>
    Region.ready md ops listed ≠ [] ∧ ∀ i ∈ Region.ready md ops listed, i < n ∧ qOp P ops C i (anyLQ P md ops C n L f (listed.setIfInBounds i true)) a
theorem any_of_headQ {n g : Nat} {L : Array Bool → Act → Prop} {Q' : Exit → Act → World → Prop} (hL : ∀ listed a w, C w → L listed a → wpAny P md ops Q' g listed a w) :
    ∀ (f : Nat) (listed : Array Bool) (a : Act) (w : World), C w → anyLQ P md ops C n L f listed a → wpAny P md ops Q' (f + g) listed a w
  | 0, listed, a, w, hw, h => by rw [Nat.zero_add]; exact hL _ _ _ hw h
  | f + 1, listed, a, w, hw, h => by
    rw [show f + 1 + g = (f + g) + 1 by omega]
    exact ⟨fun h0 => absurd h0 h.1, fun i hi => wpOp_of_qOp hw (fun a' w' hw' h' => any_of_headQ hL f _ a' w' hw' h') (h.2 i hi).2⟩
theorem anyLQ_first {n i : Nat} {oi : Oper} {v : Value} {L : Array Bool → Act → Prop} (hi : ops[i]? = some oi) (hsel : ∀ (j : Nat) (o : Oper) cs b, ops[j]? = some o → o.op ≠ .select cs b)
    (hs : Region.sinkB md ops n = true) (hc : Region.chainB md ops n = true) (hn : n < ops.size) (hin : i < n)
    (hdone : ∀ listed a, L listed a → ∀ j ∈ Region.ready md ops listed, n ≤ j) :
    ∀ (f : Nat) (listed : Array Bool) (a : Act), HeadInv md ops n listed →
      (∀ j oj, ops[j]? = some oj → j ≠ i → listed.getD j true = false → (∀ e ∈ oj.after, Region.binds md e = true → e.on ≠ i) → oi.apart ops oj = true) →
      i ∈ Region.ready md ops listed → YieldsIn P ops C oi v a →
      anyLQ P md ops C n L f (listed.setIfInBounds i true) (a.put oi.dst v) → anyLQ P md ops C n L (f + 1) listed a := by
  intro f
  induction f with
  | zero =>
    intro listed a inv _ hr hy H
    have hun := (mem_ready.1 hr).1
    refine ⟨fun h => (by rw [h] at hr; cases hr), fun j hj => ?_⟩
    have hjn : j < n := by
      rcases Nat.lt_or_ge j n with h | h
      · exact h
      · exact absurd hj (tail_waits hs hc hn inv _ i rfl hin hun j h)
    refine ⟨hjn, ?_⟩
    by_cases hji : j = i
    · subst hji; exact hy.qOp hi H
    · have := hdone _ _ H j (ready_mono hj hji)
      omega
  | succ f ih =>
    intro listed a inv hfree hr hy H
    have hun := (mem_ready.1 hr).1
    refine ⟨fun h => (by rw [h] at hr; cases hr), fun j hj => ?_⟩
    have hjn : j < n := by
      rcases Nat.lt_or_ge j n with h | h
      · exact h
      · exact absurd hj (tail_waits hs hc hn inv _ i rfl hin hun j h)
    refine ⟨hjn, ?_⟩
    by_cases hji : j = i
    · subst hji; exact hy.qOp hi H
    · have h1 := (H.2 j (ready_mono hj hji)).2
      obtain ⟨hjun, oj, hoj, hall⟩ := mem_ready.1 hj
      have hnot : ∀ e ∈ oj.after, Region.binds md e = true → e.on ≠ i := fun e he hb heq => by
        have h1 := hall e he hb
        rw [heq, getD_both hun] at h1
        cases h1
      have h2 := qOp_put hoj (hfree j oj hoj hji hjun hnot) (fun cs b => hsel i oi cs b hi) (fun cs b => hsel j oj cs b hoj) hy h1
      have hfree' : ∀ k ok, ops[k]? = some ok → k ≠ i → (listed.setIfInBounds j true).getD k true = false →
          (∀ e ∈ ok.after, Region.binds md e = true → e.on ≠ i) → oi.apart ops ok = true := fun k ok hk hki hun hno => by
        refine hfree k ok hk hki ?_ hno
        by_cases hjk : j = k
        · subst hjk; exact hjun
        · rw [getD_set_ne true hjk] at hun; exact hun
      refine qOp_mono (fun a' h3 => ih (listed.setIfInBounds j true) a' (inv.set hj hjn) hfree' (ready_mono hr (Ne.symm hji)) h3.1 ?_) h2
      rw [Array.setIfInBounds_comm _ _ hji]
      exact h3.2
theorem anyLQ_lex {n g : Nat} {Lq : Act → Prop} (hsel : Region.noSelect ops = true) (hs : Region.sinkB md ops n = true) (hc : Region.chainB md ops n = true) (hn : n < ops.size) :
    ∀ (l : List Oper) (k : Nat) (listed : Array Bool) (a : Act), (∀ j, j < l.length → l[j]? = ops[k + j]?) → k + l.length = n → HeadInv md ops n listed →
    Region.lexHead md ops g l.length k listed = true → wpQuiet P ops C Lq l a →
    anyLQ P md ops C n (fun listed' a' => Region.seqB md ops g n listed' = true ∧ Lq a') l.length listed a
  | [], k, listed, a, _, hk, _, hB, h => by
    have : k = n := by simpa using hk
    subst this
    exact ⟨by simpa [Region.lexHead] using hB, h⟩
  | o :: l, k, listed, a, hl, hk, inv, hB, h => by
    have h0 : ops[k]? = some o := by simpa using (hl 0 (by simp)).symm
    simp only [List.length_cons, Region.lexHead, Bool.and_eq_true] at hB
    obtain ⟨⟨hr, hf⟩, hB'⟩ := hB
    have hkn : k < n := by simp only [List.length_cons] at hk; omega
    have hr' : k ∈ Region.ready md ops listed := by simpa using hr
    have hst : qOp P ops C k (wpQuiet P ops C Lq l) a := by unfold qOp; simp only [h0]; exact h
    obtain ⟨v, hy, hK⟩ := yieldsIn_of_qOp h0 hst
    exact anyLQ_first h0 (Region.noSelect_spec hsel) hs hc hn hkn (fun listed' a' hL => seqB_ready hL.1) l.length listed a inv (Region.free_spec h0 hf) hr' hy
      (anyLQ_lex hsel hs hc hn l (k + 1) _ _ (fun j hj => by have := hl (j + 1) (by simp; omega); simpa [Nat.add_assoc, Nat.add_comm 1 j] using this) (by simp only [List.length_cons] at hk; omega) (inv.set hr' hkn) hB' hK)
theorem wp_region_quiet_tail {id : Nat} {Q : Exit → Act → World → Prop} {a : Act} {w : World} {l : List Oper} (n : Nat) (hm : P.follows .mixedOrders = true) (hB : Region.lexTailB .any l.toArray n = true) (hC : C { w with drawn := w.drawn + 1 })
    (h : wpQuiet P l.toArray C (fun a' => ∀ w', C w' → wpList P l.toArray Q (l.drop n) a' w') (l.take n) a) : (Code.region id l.toArray true).wp P Q a w := by
  simp only [Region.lexTailB, Bool.and_eq_true, decide_eq_true_eq] at hB
  obtain ⟨⟨⟨⟨hsel, hn⟩, hs⟩, hc⟩, hlex⟩ := hB
  have hn' : n < l.length := by simpa using hn
  have htl : (l.take n).length = n := by simp; omega
  have hdl : (l.drop n).length = l.toArray.size - n := by simp
  have inv0 : HeadInv .any l.toArray n (Array.replicate l.toArray.size false) :=
    ⟨by simp, fun j oj _ hl => (by rw [getD_replicate_false] at hl; cases hl), fun t _ ht => getD_in (by simpa using ht) (getD_replicate_false _ _)⟩
  have H := anyLQ_lex (md := .any) (g := l.toArray.size - n) hsel hs hc hn (l.take n) 0 _ a (fun j hj => by
    have hj' : j < n := by rw [htl] at hj; exact hj
    simp [hj']) (by simpa using htl) inv0 (by rw [htl]; exact hlex) h
  refine wp_region_any hm ?_
  have := any_of_headQ (Q' := Q) (g := l.toArray.size - n) (fun listed a' w' hw' hL => by
    have := wpAny_of_seq (md := .any) (Q' := Q) (l.drop n) n listed a' w' (fun j => by simp [List.getElem?_drop]) (by rw [hdl]; exact hL.1) (hL.2 w' hw')
    rwa [hdl] at this) _ _ _ _ hC H
  rw [htl, show n + (l.toArray.size - n) = l.toArray.size by omega] at this
  exact this
end
/-- The same, where the calls may make memory. -/
theorem wp_region_later_tail {P : Program} {id : Nat} {Q : Exit → Act → World → Prop} {a : Act} {w : World} {l : List Oper} (n : Nat) (hm : P.follows .mixedOrders = true) (hB : Region.lexTailB .any l.toArray n = true)
    (h : wpQuiet P l.toArray (fun w1 => ∃ p : Later w, w1 = p.w') (fun a' => ∀ p : Later w, wpList P l.toArray Q (l.drop n) a' p.w') (l.take n) a) : (Code.region id l.toArray true).wp P Q a w := by
  refine wp_region_quiet_tail (C := fun w1 => ∃ p : Later w, w1 = p.w') n hm hB ⟨⟨w.drew, Kept.drew _ w⟩, rfl⟩ ?_
  have hQ : (fun a' => ∀ w1, (∃ p : Later w, w1 = p.w') → wpList P l.toArray Q (l.drop n) a' w1) = (fun a' => ∀ p : Later w, wpList P l.toArray Q (l.drop n) a' p.w') := by
    funext a'
    exact propext ⟨fun h p => h _ ⟨p, rfl⟩, fun h w1 ⟨p, e⟩ => e ▸ h p⟩
  rw [hQ]
  exact h
end Go.Proofs.YtlcbgklealipoaaGreatDoor
end

section
/- attrs and events: the orders of what stands in lists (the walks). -/
namespace Go.Proofs.YtlcbgklealipoaaGreatDoor
open Go.RowKit
set_option linter.unusedVariables false
set_option linter.unusedSimpArgs false

def Atr.cells (a : Atr) : List Value := [.string a.key, .int .i64 a.k, .string a.t, .int .i64 a.i]
def Evt.cells (e : Evt) : List Value := [.int .i64 e.at_, .string e.n]
def IntPost (x : Int) (w : World) (e : Ending) (w' : World) : Prop := e = .returned (.int .i64 x) ∧ Kept (fun _ => False) w w'
theorem NReads.new {w : World} (l : List Int) {c : Nat} : NReads (w.alloc (.cells (nums .i64 l).toArray 3)) (.slice (some ⟨w.heap.size, 0, none⟩) l.length c) l := by
  refine ⟨_, _, rfl, fun _ => ⟨_, _, rfl, fun i x hx => ?_⟩⟩
  rw [Nat.zero_add, blk_cell (heap_alloc_new w _)]
  simp [nums, hx]
theorem same_kept {P : Program} {f : FuncId} {args : Array Value} {w : World} {v : Value} (h : Calls P f args w fun e w' => e = .returned v ∧ w' = w) : Calls P f args w fun e w' => e = .returned v ∧ Kept (fun _ => False) w w' :=
  h.mono fun _ _ ⟨e, h⟩ => ⟨e, by rw [h]; exact .refl _ _⟩
/-- Two blocks more. -/
theorem box2 (w : World) (a b : Obj) : Kept (fun _ => False) w ((w.alloc a).alloc b) ∧ ((w.alloc a).alloc b).heap[w.heap.size]? = some a ∧ ((w.alloc a).alloc b).heap[w.heap.size + 1]? = some b := by
  have hs : (w.alloc a).heap.size = w.heap.size + 1 := by simp
  refine ⟨(Kept.alloc _ w a).trans (.alloc _ _ b) (fun _ _ e => e) (fun _ _ e => e), ?_, ?_⟩
  · exact blk_kept (Kept.alloc (fun _ => False) (w.alloc a) b) (heap_alloc_new w a) (fun e => e)
  · rw [← hs]; exact heap_alloc_new (w.alloc a) b
set_option maxHeartbeats 4000000 in
set_option maxRecDepth 100000 in
theorem events_any (a b : Evt) (w : World) : Calls Tryz.prog 124 #[.agg a.cells.toArray, .agg b.cells.toArray] w (IntPost (evtC a b) w) := by
  obtain ⟨W, hW⟩ : ∃ W, W = (w.alloc (.cells a.cells.toArray 134)).alloc (.cells b.cells.toArray 134) := ⟨_, rfl⟩
  obtain ⟨hk, ha, hb⟩ := box2 w (.cells a.cells.toArray 134) (.cells b.cells.toArray 134)
  rw [← hW] at hk ha hb
  have hW2 := hW.symm
  have HK := Lib.hid hk
  clear hW hk
  have a0 := fun p : Later W => p.cell ((blk_cell ha 0).trans rfl : W.cell? ⟨w.heap.size, 0, none⟩ = some (.int .i64 a.at_))
  have a1 := fun p : Later W => p.cell ((blk_cell ha 1).trans rfl : W.cell? ⟨w.heap.size, 1, none⟩ = some (.string a.n))
  have b0 := fun p : Later W => p.cell ((blk_cell hb 0).trans rfl : W.cell? ⟨w.heap.size + 1, 0, none⟩ = some (.int .i64 b.at_))
  have b1 := fun p : Later W => p.cell ((blk_cell hb 1).trans rfl : W.cell? ⟨w.heap.size + 1, 1, none⟩ = some (.string b.n))
  clear ha hb
  go_enter Tryz.func124, Tryz.ntmps124
  go_wp2_with fail
  refine wp_region_later_tail 10 (by kernel_rfl) (by kernel_rfl) ?_
  simp only [List.take_succ_cons, List.take_zero, List.drop_succ_cons, List.drop_zero]
  repeat (go_big_quiet_step (first | exact Calls.later_of (same_kept (Tryz.strings_Compare _ _ _)) | exact Calls.later_of (same_kept (cmp26 _ _ _))))
  refine wpQuiet_nil ?_
  intro p
  go_wp2_with fail
  refine (or_any [Lib.compareInt a.at_ b.at_, Lib.compareBytes a.n.data.toList b.n.data.toList] _ _ (NReads.new _) (by simp)).mono ?_
  rintro e w' ⟨rfl, rfl⟩
  go_wp2_with fail
  go_ret
  exact ⟨rfl, (p.old HK.out).trans (.alloc _ _ _) (fun _ _ e => e) (fun _ _ e => e)⟩
end Go.Proofs.YtlcbgklealipoaaGreatDoor
end

section
/- Lists against lists (the walks). -/
namespace Go.Proofs.YtlcbgklealipoaaGreatDoor
open Go.RowKit
set_option linter.unusedVariables false
set_option linter.unusedSimpArgs false

/-- Links that lie somewhere. -/
def LReads (w : World) (v : Value) (l : List Nat) : Prop :=
  ∃ A c, v = .slice A l.length c ∧ (0 < l.length → ∃ b off, A = some ⟨b, off, none⟩ ∧ ∀ (i : Nat) x, l[i]? = some x → w.cell? ⟨b, off + i, none⟩ = some (.int .u64 x))
def TReads (w : World) (v : Value) (l : List Atr) : Prop :=
  ∃ A c, v = .slice A l.length c ∧ (0 < l.length → ∃ b off, A = some ⟨b, off, none⟩ ∧ ∀ (i : Nat) x, l[i]? = some x → w.cell? ⟨b, off + i * 4, none⟩ = some (.string x.key) ∧ w.cell? ⟨b, off + i * 4 + 1, none⟩ = some (.int .i64 x.k) ∧ w.cell? ⟨b, off + i * 4 + 2, none⟩ = some (.string x.t) ∧ w.cell? ⟨b, off + i * 4 + 3, none⟩ = some (.int .i64 x.i))
def EReads (w : World) (v : Value) (l : List Evt) : Prop :=
  ∃ A c, v = .slice A l.length c ∧ (0 < l.length → ∃ b off, A = some ⟨b, off, none⟩ ∧ ∀ (i : Nat) x, l[i]? = some x → w.cell? ⟨b, off + i * 2, none⟩ = some (.int .i64 x.at_) ∧ w.cell? ⟨b, off + i * 2 + 1, none⟩ = some (.string x.n))
theorem LReads.kept {w w' : World} {v : Value} {l : List Nat} (h : LReads w v l) (hk : Kept (fun _ => False) w w') : LReads w' v l := by
  obtain ⟨A, c, rfl, hc⟩ := h
  refine ⟨A, c, rfl, fun h0 => ?_⟩
  obtain ⟨b, off, rfl, hq⟩ := hc h0
  exact ⟨b, off, rfl, fun i x hi => cell_kept hk (hq i x hi)⟩
theorem TReads.kept {w w' : World} {v : Value} {l : List Atr} (h : TReads w v l) (hk : Kept (fun _ => False) w w') : TReads w' v l := by
  obtain ⟨A, c, rfl, hc⟩ := h
  refine ⟨A, c, rfl, fun h0 => ?_⟩
  obtain ⟨b, off, rfl, hq⟩ := hc h0
  exact ⟨b, off, rfl, fun i x hi => have h := hq i x hi; ⟨cell_kept hk h.1, cell_kept hk h.2.1, cell_kept hk h.2.2.1, cell_kept hk h.2.2.2⟩⟩
theorem EReads.kept {w w' : World} {v : Value} {l : List Evt} (h : EReads w v l) (hk : Kept (fun _ => False) w w') : EReads w' v l := by
  obtain ⟨A, c, rfl, hc⟩ := h
  refine ⟨A, c, rfl, fun h0 => ?_⟩
  obtain ⟨b, off, rfl, hq⟩ := hc h0
  exact ⟨b, off, rfl, fun i x hi => have h := hq i x hi; ⟨cell_kept hk h.1, cell_kept hk h.2⟩⟩
theorem drop_get {α : Type} {l : List α} {k : Nat} {x : α} (h : l[k]? = some x) : l.drop k = x :: l.drop (k + 1) := by
  have h1 := (List.getElem?_eq_some_iff.1 h).1
  have h2 := (List.getElem?_eq_some_iff.1 h).2
  rw [← h2, ← List.drop_eq_getElem_cons h1]
theorem listC_step {α : Type} {c : α → α → Int} {l m : List α} {k : Nat} {x y : α} (hx : l[k]? = some x) (hy : m[k]? = some y) : listC c (l.drop k) (m.drop k) = if c x y = 0 then listC c (l.drop (k + 1)) (m.drop (k + 1)) else c x y := by
  rw [drop_get hx, drop_get hy]; rfl
theorem listC_more {α : Type} {c : α → α → Int} {l m : List α} {k : Nat} {x : α} (hx : l[k]? = some x) (hm : m.length ≤ k) : listC c (l.drop k) (m.drop k) = 1 := by
  rw [drop_get hx, List.drop_eq_nil_of_le hm]; rfl
theorem listC_end {α : Type} {c : α → α → Int} {l m : List α} {k : Nat} (hk : l.length ≤ k) : listC c (l.drop k) (m.drop k) = if k < m.length then -1 else 0 := by
  rw [List.drop_eq_nil_of_le hk]
  split
  · rename_i h
    rw [drop_get (List.getElem?_eq_getElem h)]; rfl
  · rw [List.drop_eq_nil_of_le (by omega)]; rfl
end Go.Proofs.YtlcbgklealipoaaGreatDoor
end

section
/- A span against a span (the walks). -/
namespace Go.Proofs.YtlcbgklealipoaaGreatDoor
open Go.RowKit
set_option linter.unusedVariables false
set_option linter.unusedSimpArgs false

/-- A span's cells; its lists lie where they lie. -/
def Spn.cells (s : Spn) (lv av ev : Value) : Array Value := #[.int .u64 s.hi, .int .u64 s.lo, .int .u64 s.id, .int .u64 s.par, lv, .string s.svc, .string s.op, .int .i64 s.kind, .int .i64 s.st, .int .i64 s.start, .int .i64 s.fin, av, ev]
/-- A span that lies in memory: its lists. -/
structure SReads (w : World) (s : Spn) (lv av ev : Value) : Prop where
  links : LReads w lv s.links
  ats : TReads w av s.ats
  evs : EReads w ev s.evs
  l0 : s.links.length ≤ 9223372036854775807
  a0 : s.ats.length ≤ 9223372036854775807
  e0 : s.evs.length ≤ 9223372036854775807
theorem SReads.kept {w w' : World} {s : Spn} {lv av ev : Value} (h : SReads w s lv av ev) (hk : Kept (fun _ => False) w w') : SReads w' s lv av ev := ⟨h.links.kept hk, h.ats.kept hk, h.evs.kept hk, h.l0, h.a0, h.e0⟩end Go.Proofs.YtlcbgklealipoaaGreatDoor
end

section
/- A whole struct out of a block, and into one (arms of the walk). -/
namespace Go.Proofs.YtlcbgklealipoaaGreatDoor
open Go.RowKit
set_option linter.unusedVariables false
set_option linter.unusedSimpArgs false

theorem setCells_blk (g : Nat) (T : TypeId) : ∀ (vs : List Value) (o : Nat) (w : World) (cs : Array Value), w.heap[g]? = some (.cells cs T (0, 0)) → o + vs.length ≤ cs.size →
    ∃ cs', (w.setCells g o vs).heap[g]? = some (.cells cs' T (0, 0)) ∧ cs'.toList = cs.toList.take o ++ vs ++ cs.toList.drop (o + vs.length) ∧ Kept (fun k => k = g) w (w.setCells g o vs)
  | [], o, w, cs, h, _ => ⟨cs, h, by simp, .refl _ _⟩
  | v :: r, o, w, cs, h, hl => by
    have h1 := blk_set h o v
    obtain ⟨cs', e1, e2, e3⟩ := setCells_blk g T r (o + 1) _ _ h1 (by simp only [List.length_cons] at hl; rw [Array.size_setIfInBounds]; omega)
    refine ⟨cs', e1, ?_, (Kept.setCell (S := fun k => k = g) _ _ _ rfl).trans e3 (fun _ _ e => e) (fun _ _ e => e)⟩
    have ho : o < cs.toList.length := by simp only [List.length_cons, Array.length_toList] at hl ⊢; omega
    rw [e2, Array.toList_setIfInBounds, List.take_add_one, List.take_set_of_le (Nat.le_refl _), List.getElem?_set_self ho, Option.toList_some, List.drop_set_of_lt (by omega), List.append_assoc, List.append_assoc, List.append_assoc]
    simp only [List.length_cons]
    rw [show o + 1 + r.length = o + (r.length + 1) by omega]
    rfl
theorem rangeAt_blk {w : World} {g : Nat} {cs : Array Value} {T : TypeId} {fr : Nat × Nat} (h : w.heap[g]? = some (.cells cs T fr)) : w.rangeAt g 0 cs.toList := fun j v hv => by
  rw [Nat.zero_add, blk_cell h, ← hv, Array.getElem?_toList]
theorem there_blk {w : World} {g : Nat} {cs : Array Value} {T : TypeId} (h : w.heap[g]? = some (.cells cs T (0, 0))) : w.there g 0 cs.size := fun j hj => by
  rw [Nat.zero_add]
  exact ⟨by rw [blk_cell h, Array.getElem?_eq_getElem hj]; rfl, blk_frozen h j⟩
section
variable {P : Program} {w : World} {ops : Array Oper} {rest : List Oper} {op : Oper} {a : Act} {Q : Exit → Act → World → Prop}
theorem wpList_load_blk (hgd : op.guard = none) (ty : TypeId) (x : Operand) (ho : op.op = .load ty x) (d : TypeDesc) (hu : P.underlying ty = some d) (hd : d.isRow = true) (n : Nat) (hi : (P.info? ty).map (·.size) = some n)
    (g : Nat) (cs : Array Value) {T : TypeId} {fr : Nat × Nat} (hx : a.eval x = .pointer (some ⟨g, 0, none⟩)) (hb : w.heap[g]? = some (.cells cs T fr)) (hn : cs.size = n)
    (h : wpList P ops Q rest (a.put op.dst (.agg cs)) w) : wpList P ops Q (op :: rest) a w :=
  wpList_load_mid hgd ty x ho g 0 hx cs.toList d (rangeAt_blk hb) hu hd (by rw [hi, ← hn, Array.length_toList]) (by simpa using h)
theorem wpList_store_blk (hgd : op.guard = none) (ty : TypeId) (x y : Operand) (ho : op.op = .store ty x y) (n : Nat) (hi : (P.info? ty).map (·.size) = some n)
    (g : Nat) (cs0 cs : Array Value) {T : TypeId} (hx : a.eval x = .pointer (some ⟨g, 0, none⟩)) (hy : a.eval y = .agg cs) (hb : w.heap[g]? = some (.cells cs0 T (0, 0))) (hn : cs.size = n) (hn0 : cs0.size = n) (h1 : cs.all (·.oneCell') = true)
    (h : ∀ w', w'.heap[g]? = some (.cells cs T (0, 0)) → Kept (fun k => k = g) w w' → wpList P ops Q rest (a.put op.dst undef) w') : wpList P ops Q (op :: rest) a w := by
  refine wpList_store_mid hgd ty x y ho g 0 cs hx hy (by rw [hn, ← hn0]; exact there_blk hb) (by rw [hi, hn]) h1 ?_
  obtain ⟨cs', e1, e2, e3⟩ := setCells_blk g T cs.toList 0 w cs0 hb (by rw [Array.length_toList]; omega)
  have : cs' = cs := by
    apply Array.toList_inj.1
    rw [e2, List.take_zero, List.nil_append, List.drop_eq_nil_of_le (by simp only [Array.length_toList]; omega), List.append_nil]
  subst this
  exact h _ e1 e3
end
theorem Tryz.size76 : (Tryz.prog.info? 76).map (·.size) = some 13 := by kernel_rfl
section
variable {w : World} {ops : Array Oper} {rest : List Oper} {op : Oper} {a : Act} {Q : Exit → Act → World → Prop}
/-- A span is loaded. -/
theorem wpList_load76 (hgd : op.guard = none) (x : Operand) (ho : op.op = .load 76 x)
    (g : Nat) (cs : Array Value) {T : TypeId} {fr : Nat × Nat} (hx : a.eval x = .pointer (some ⟨g, 0, none⟩)) (hb : w.heap[g]? = some (.cells cs T fr)) (hn : cs.size = 13)
    (h : wpList Tryz.prog ops Q rest (a.put op.dst (.agg cs)) w) : wpList Tryz.prog ops Q (op :: rest) a w :=
  wpList_load_blk hgd 76 x ho _ Tryz.underlying76 rfl 13 Tryz.size76 g cs hx hb hn h
/-- A span is stored. -/
theorem wpList_store76 (hgd : op.guard = none) (x y : Operand) (ho : op.op = .store 76 x y)
    (g : Nat) (cs0 cs : Array Value) {T : TypeId} (hx : a.eval x = .pointer (some ⟨g, 0, none⟩)) (hy : a.eval y = .agg cs) (hb : w.heap[g]? = some (.cells cs0 T (0, 0))) (hn : cs.size = 13) (hn0 : cs0.size = 13) (h1 : cs.all (·.oneCell') = true)
    (h : ∀ w', w'.heap[g]? = some (.cells cs T (0, 0)) → Kept (fun k => k = g) w w' → wpList Tryz.prog ops Q rest (a.put op.dst undef) w') : wpList Tryz.prog ops Q (op :: rest) a w :=
  wpList_store_blk hgd 76 x y ho 13 Tryz.size76 g cs0 cs hx hy hb hn hn0 h1 h
/-- What a function hands back whose first result is a span in a cell. -/
theorem ret76 {fn : Func} {R : Ending → World → Prop} {W : World} {p : Tmp} (h : fn.results = #[.cell p 76]) (g : Nat) (cs : Array Value) {T : TypeId} {fr : Nat × Nat} (hd : a.defers = [])
    (hp : a.tmps.getD p undef = .pointer (some ⟨g, 0, none⟩)) (hb : W.heap[g]? = some (.cells cs T fr)) (hn : cs.size = 13) (hR : R (.returned (.agg cs)) W) : bodyPost Tryz.prog fn R .ret a W :=
  bodyPost_ret_by (results_cell_row h a.tmps W g T cs fr _ hp hb Tryz.underlying76 rfl (by rw [Tryz.size76, hn])) hd hR
theorem ret76e {fn : Func} {R : Ending → World → Prop} {W : World} {p u : Tmp} (h : fn.results = #[.cell p 76, .tmp u]) (g : Nat) (cs : Array Value) (err : Value) {T : TypeId} {fr : Nat × Nat} (hd : a.defers = [])
    (hp : a.tmps.getD p undef = .pointer (some ⟨g, 0, none⟩)) (he : a.tmps.getD u undef = err) (hb : W.heap[g]? = some (.cells cs T fr)) (hn : cs.size = 13) (hR : R (.returned (.tuple #[.agg cs, err])) W) : bodyPost Tryz.prog fn R .ret a W := by
  refine bodyPost_ret_by (v := .tuple #[.agg cs, err]) ?_ hd hR
  rw [results_cell_tmp h, hp]
  have hl := run_loadVar_row W g T 76 cs fr _ hb Tryz.underlying76 rfl (by rw [Tryz.size76, hn])
  simp only [asAddr, Sem.run_pure, Result.andThen_ok, hl, he]
end
/-- Thirteen cells that were stored one by one. -/
theorem stored13 {w : World} {g : Nat} {cs : Array Value} {T : TypeId} (hb : w.heap[g]? = some (.cells cs T (0, 0))) (hn : cs.size = 13) (v0 v1 v2 v3 v4 v5 v6 v7 v8 v9 v10 v11 v12 : Value) :
    ∃ W, W = ((((((((((((w.setCell ⟨g, 0, none⟩ v0).setCell ⟨g, 1, none⟩ v1).setCell ⟨g, 2, none⟩ v2).setCell ⟨g, 3, none⟩ v3).setCell ⟨g, 4, none⟩ v4).setCell ⟨g, 5, none⟩ v5).setCell ⟨g, 6, none⟩ v6).setCell ⟨g, 7, none⟩ v7).setCell ⟨g, 8, none⟩ v8).setCell ⟨g, 9, none⟩ v9).setCell ⟨g, 10, none⟩ v10).setCell ⟨g, 11, none⟩ v11).setCell ⟨g, 12, none⟩ v12 ∧
      W.heap[g]? = some (.cells #[v0, v1, v2, v3, v4, v5, v6, v7, v8, v9, v10, v11, v12] T (0, 0)) ∧ Kept (fun k => k = g) w W := by
  obtain ⟨cs', e1, e2, e3⟩ := setCells_blk g T [v0, v1, v2, v3, v4, v5, v6, v7, v8, v9, v10, v11, v12] 0 w cs hb (by rw [hn]; simp)
  have : cs' = #[v0, v1, v2, v3, v4, v5, v6, v7, v8, v9, v10, v11, v12] := by
    apply Array.toList_inj.1
    rw [e2, List.take_zero, List.nil_append, List.drop_eq_nil_of_le (by simp [hn]), List.append_nil]
  subst this
  exact ⟨_, rfl, e1, e3⟩
end Go.Proofs.YtlcbgklealipoaaGreatDoor
end

