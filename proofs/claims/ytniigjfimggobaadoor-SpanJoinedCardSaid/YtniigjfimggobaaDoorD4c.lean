/- What Decode reads: lists and sizes (plain). -/
import Derived.Test.YtniigjfimggobaaDoorD4b
import Derived.Test.YtniigjfimggobaaDoorU3
namespace Go.Proofs.YtniigjfimggobaaDoor
open Go.RowKit
set_option linter.unusedVariables false
set_option linter.unusedSimpArgs false

theorem numP_lt (L : List Int) (st : DSt) : (numP L st).1 < 18446744073709551616 := by
  cases st with
  | bad a no => show (0 : Nat) < _; omega
  | ok n =>
    simp only [numP]
    cases h : numR (L.drop n) 0 0 with
    | ok x k => exact numR_lt _ _ _ _ _ h
    | form => show (0 : Nat) < _; omega
    | fin => show (0 : Nat) < _; omega
theorem iterP_len {α : Type} (f : DSt → α × DSt) : ∀ (k : Nat) (st : DSt), (iterP f k st).1.length = k
  | 0, _ => rfl
  | k + 1, st => by simp [iterP, iterP_len f k st]
theorem iterP_mem {α : Type} (f : DSt → α × DSt) : ∀ (k : Nat) (st : DSt) (x : α), x ∈ (iterP f k st).1 → ∃ s, x = (f s).1
  | 0, _, x, h => by cases h
  | k + 1, st, x, h => by
    simp only [iterP, List.mem_append, List.mem_singleton] at h
    rcases h with h | h
    · exact iterP_mem f k st x h
    · exact ⟨_, h⟩
theorem manyP_le (L : List Int) (most : Nat) (e : Int) (st : DSt) : (manyP L most e st).1 ≤ most := by
  cases st with
  | bad a no => exact Nat.zero_le _
  | ok n =>
    simp only [manyP]
    cases h : numP L (.ok n) with
    | mk x s =>
      cases s with
      | ok m => simp only; split <;> simp <;> omega
      | bad a no => exact Nat.zero_le _
theorem numR_nil : numR [] 0 0 = .fin := by simp [numR]
theorem txtP_len (L : List Int) (hb : Bytes L) (most : Int) (st : DSt) : (txtP L most st).1.length ≤ L.length := by
  cases st with
  | bad a no => exact Nat.zero_le _
  | ok n =>
    simp only [txtP]
    cases h : textR L n most with
    | err a no => exact Nat.zero_le _
    | ok q m =>
      by_cases hn : n ≤ L.length
      · have := (textR_ok hb hn h).2.2.2.1
        show q.length ≤ _
        omega
      · exfalso
        have : L.drop n = [] := List.drop_eq_nil_of_le (by omega)
        unfold textR at h
        rw [this, numR_nil] at h
        unfold textQ at h
        split at h <;> simp_all
/-- What Decode hands back. -/
def DecPost (L : List Int) (w : World) (e : Ending) (w' : World) : Prop :=
  match decS L with
  | .ok s => ∃ lv av ev, e = .returned (.tuple #[.agg (s.cells lv av ev), .nilIface]) ∧ SReads w' s lv av ev ∧ Kept (fun _ => False) w w'
  | .err a no => ∃ g, e = .returned (.tuple #[.agg zcells, .iface 102 (.pointer (some ⟨g, 0, none⟩))]) ∧ w'.heap[g]? = some (.cells #[.int .i64 a, .int .i64 no] 104 (0, 0)) ∧ Kept (fun _ => False) w w'
theorem spnP_of (L : List Int) (p1 p2 p3 p4 p5 : Nat × DSt) (l5 : List Nat × DSt) (p6 p7 : List Int × DSt) (p8 p9 p10 p11 p12 : Nat × DSt) (l12 : List Atr × DSt) (p13 : Nat × DSt) (l13 : List Evt × DSt)
    (h1 : p1 = eightP L (.ok 0)) (h2 : p2 = eightP L p1.2) (h3 : p3 = eightP L p2.2) (h4 : p4 = eightP L p3.2) (h5 : p5 = manyP L 16 45 p4.2) (k5 : l5 = iterP (eightP L) p5.1 p5.2) (h6 : p6 = txtP L 60 l5.2) (h7 : p7 = txtP L 100 p6.2)
    (h8 : p8 = numP L p7.2) (h9 : p9 = numP L p8.2) (h10 : p10 = numP L p9.2) (h11 : p11 = numP L p10.2) (h12 : p12 = manyP L 32 46 p11.2) (k12 : l12 = iterP (atrP L) p12.1 p12.2) (h13 : p13 = manyP L 32 47 l12.2) (k13 : l13 = iterP (evtP L) p13.1 p13.2) :
    spnP L = (⟨p1.1, p2.1, p3.1, p4.1, l5.1, strOfNums p6.1, strOfNums p7.1, smallN p8.1, smallN p9.1, momentN p10.1, momentN p11.1, l12.1, l13.1⟩, l13.2) := by
  subst h1 h2 h3 h4 h5 k5 h6 h7 h8 h9 h10 h11 h12 k12 h13 k13
  rfl
theorem decS_bad {L : List Int} {S : Spn} {a no : Int} (h : spnP L = (S, .bad a no)) : decS L = .err a no := by unfold decS; rw [h]
theorem decS_rest {L : List Int} {S : Spn} {n : Nat} (h : spnP L = (S, .ok n)) (hn : n < L.length) : decS L = .err n 15 := by unfold decS; rw [h]; exact if_pos hn
theorem decS_ok {L : List Int} {S : Spn} {n : Nat} (h : spnP L = (S, .ok n)) (hn : ¬ n < L.length) (hc : checkS S = 0) : decS L = .ok S := by unfold decS; rw [h]; exact (if_neg hn).trans (if_pos hc)
theorem decS_chk {L : List Int} {S : Spn} {n : Nat} (h : spnP L = (S, .ok n)) (hn : ¬ n < L.length) (hc : ¬ checkS S = 0) : decS L = .err 0 (checkS S) := by unfold decS; rw [h]; exact (if_neg hn).trans (if_neg hc)
section
variable {B q r : Nat} {v : Value} {L : List Int} {sb rb : Nat} {w0 w : World} {s : Spn} {lv av ev : Value} {st : DSt}
theorem DecAt.reads (h : DecAt B q r v L sb rb w0 w s lv av ev st) (h1 : s.links.length ≤ 1000) (h2 : s.ats.length ≤ 1000) (h3 : s.evs.length ≤ 1000) : SReads w s lv av ev := by
  obtain ⟨_, _, _, _, _, r1⟩ := LReads.of_own h.ll
  obtain ⟨_, _, _, _, _, r2⟩ := TReads.of_own h.la
  obtain ⟨_, _, _, _, _, r3⟩ := EReads.of_own h.le
  exact ⟨r1, r2, r3, by omega, by omega, by omega⟩
theorem DecAt.final {w1 w2 : World} (h : DecAt B q r v L sb rb w0 w s lv av ev st) (hk1 : Kept (fun _ => False) w w1) (hk2 : Kept (fun k => k = rb) w1 w2) (h1 : s.links.length ≤ 1000) (h2 : s.ats.length ≤ 1000) (h3 : s.evs.length ≤ 1000) :
    SReads w2 s lv av ev ∧ Kept (fun _ => False) w0 w2 := by
  have hr1 := blk_kept hk1 h.res (fun h => h)
  have ty : ∀ k, k = rb → ∀ cs (t : Nat) fr, w1.heap[k]? = some (.cells cs t fr) → t = 33 := by
    rintro k rfl cs t fr hb
    exact typ_of hr1 hb
  obtain ⟨_, _, _, _, _, r1⟩ := LReads.of_own (own_keptT (own_keptT h.ll hk1 (fun _ h => h.elim)) hk2 (fun k hk cs t fr hb => by have := ty k hk cs t fr hb; omega))
  obtain ⟨_, _, _, _, _, r2⟩ := TReads.of_own (own_keptT (own_keptT h.la hk1 (fun _ h => h.elim)) hk2 (fun k hk cs t fr hb => by have := ty k hk cs t fr hb; omega))
  obtain ⟨_, _, _, _, _, r3⟩ := EReads.of_own (own_keptT (own_keptT h.le hk1 (fun _ h => h.elim)) hk2 (fun k hk cs t fr hb => by have := ty k hk cs t fr hb; omega))
  exact ⟨⟨r1, r2, r3, by omega, by omega, by omega⟩, (h.kept.trans hk1 (fun _ _ e => e) (fun _ _ e => e)).trans hk2 (fun _ _ e => e) (fun i hi e => by have := h.ge; omega)⟩
end
end Go.Proofs.YtniigjfimggobaaDoor
