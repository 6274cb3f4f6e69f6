/- find: a name's file; done: a move on names. -/
import Derived.Test.YtgohjgeplageeaaE2
import Derived.Deep.DeepMust
namespace Go.Proofs.Ytgohjgeplageeaa
open Go Go.RowKit
set_option linter.unusedVariables false
set_option linter.unusedSimpArgs false

theorem named_le {s : ByteArray} (h : named s = true) : s.size ≤ 40 ∧ 0 < s.size := by
  unfold named at h
  simp only [Bool.and_eq_true, decide_eq_true_eq] at h
  exact ⟨h.2, h.1.2⟩
theorem maxLen_ge {n : Nat} (h : n ≤ 40) : n ≤ maxLen := by simp only [maxLen]; omega
/-- What find answers. -/
def Dsk.found (S : Dsk) (s : ByteArray) : Option Nat := if S.err s = 0 then S.see s else none
def FindPost (S : Dsk) (s : ByteArray) (ad : Nat → Nat) (w : World) (e : Ending) (w' : World) : Prop :=
  e = .returned (.tuple #[ptrV ad (S.found s), .int .i64 (S.err s)]) ∧ w' = w
theorem find_any (S : Dsk) (s : ByteArray) (ad : Nat → Nat) (N : Nat) (w : World) (d ml ms : Nat) (vm vd : Value) (hd : DBlk w d ml ms vm vd S.off S.arm S.how S.uni) (hn : NmAt w ms N ad S.see) (hs : s.size ≤ 9223372036854775807) :
    Calls Try.prog 28 #[.pointer (some ⟨d, 0, none⟩), .string s] w (FindPost S s ad w) := by
  have q4 := hd.c4; have q2 := hd.c2
  cases c0 : S.off with
  | true =>
    have X := Lib.hid (show S.err s = 75 ∧ S.found s = none by simp [Dsk.err, Dsk.found, c0])
    rw [c0] at q4
    clear hd hn q2
    go_enter Try.func28, Try.ntmps28
    go_wp2_with fail
    go_ret2
    obtain ⟨e1, e2⟩ := X.out
    unfold FindPost
    rw [e1, e2]
    exact ⟨rfl, rfl⟩
  | false =>
    rw [c0] at q4
    cases c1 : named s with
    | false =>
      have X := Lib.hid (show S.err s = 71 ∧ S.found s = none by simp [Dsk.err, Dsk.found, c0, c1])
      clear hd hn q2
      go_enter Try.func28, Try.ntmps28
      go_wp2_with (go_at_call 48; refine (named_any s _ hs).mono ?_; rintro e w' ⟨rfl, rfl⟩; rw [c1])
      go_ret2
      obtain ⟨e1, e2⟩ := X.out
      unfold FindPost
      rw [e1, e2]
      exact ⟨rfl, rfl⟩
    | true =>
      have hlk := hn.look (maxLen_ge (named_le c1).1)
      cases c2 : S.see s with
      | none =>
        have X := Lib.hid (show S.err s = 72 ∧ S.found s = none by simp [Dsk.err, Dsk.found, c0, c1, c2])
        rw [c2] at hlk
        simp only [ptrV, Option.map_none] at hlk
        clear hd hn c2
        go_enter Try.func28, Try.ntmps28
        go_wp2_with (go_at_call 48; refine (named_any s _ hs).mono ?_; rintro e w' ⟨rfl, rfl⟩; rw [c1])
        go_ret2
        obtain ⟨e1, e2⟩ := X.out
        unfold FindPost
        rw [e1, e2]
        exact ⟨rfl, rfl⟩
      | some i =>
        have X := Lib.hid (show S.err s = 0 ∧ S.found s = some i by simp [Dsk.err, Dsk.found, c0, c1, c2])
        rw [c2] at hlk
        simp only [ptrV, Option.map_some] at hlk
        clear hd hn c2
        go_enter Try.func28, Try.ntmps28
        go_wp2_with (go_at_call 48; refine (named_any s _ hs).mono ?_; rintro e w' ⟨rfl, rfl⟩; rw [c1])
        go_ret2
        obtain ⟨e1, e2⟩ := X.out
        unfold FindPost
        rw [e1, e2]
        exact ⟨rfl, rfl⟩
theorem empty_no {s : ByteArray} (h : s ≠ noStr) : s.toList.isEmpty = false := by
  rw [empty_toList]
  simp only [decide_eq_false_iff_not]
  intro e
  apply h
  cases s with
  | mk l =>
    simp only [ByteArray.size] at e
    rw [Array.eq_empty_of_size_eq_zero e]
    rfl
theorem empty_yes {s : ByteArray} (h : s = noStr) : s.toList.isEmpty = true := by
  subst h; rw [empty_toList]; rfl
/-- A move, as it is handed in. -/
def mvV (ad : Nat → Nat) (m : Mv) : Value := .agg #[.string m.fr, .string m.to, ptrV ad m.f]
def DonePost (m : Mv) (b N : Nat) (ad : Nat → Nat) (f : Nm) (w : World) (e : Ending) (w' : World) : Prop :=
  e = .returned (.tuple #[]) ∧ NmAt w' b (N + 1) ad (m.done f) ∧ Kept (fun k => k = b) w w'
set_option maxRecDepth 100000 in
theorem done_any (m : Mv) (b N : Nat) (ad : Nat → Nat) (f : Nm) (w : World) (h : NmAt w b N ad f) (hm : m.ok f) (h40 : m.fr.size ≤ 40 ∧ m.to.size ≤ 40) (hN : N < maxLen) :
    Calls Try.prog 35 #[mvV ad m, .map (some b)] w (DonePost m b N ad f w) := by
  have hlt := h.lt
  have kb : ∀ w', (w.alloc (.cells #[.string m.fr, .string m.to, ptrV ad m.f] 74)).grownBy w' (some b) → Kept (fun k => k = b) w w' := fun w' hg =>
    (Kept.alloc (fun k => k = b) w _).trans (Kept.of_grown hg fun k e => by injection e with e; exact e.symm) (fun _ _ e => e) fun _ _ e => e
  have h1 := h.kept (Kept.alloc (fun _ => False) w (.cells #[.string m.fr, .string m.to, ptrV ad m.f] 74)) (fun e => e)
  have hb := heap_alloc_new w (.cells #[.string m.fr, .string m.to, ptrV ad m.f] 74)
  have q0 := (blk_cell hb 0).trans (show _ = some (.string m.fr) from rfl)
  have q1 := (blk_cell hb 1).trans (show _ = some (.string m.to) from rfl)
  have q2 := (blk_cell hb 2).trans (show _ = some (ptrV ad m.f) from rfl)
  by_cases c0 : m.fr = noStr
  · obtain ⟨i, hi⟩ := Option.isSome_iff_exists.1 (hm.1 c0)
    have hdn : m.done f = f.put m.to i := by simp [Mv.done, c0, hi]
    have e0 := empty_yes c0
    unfold mvV
    rw [hi] at q2 hb h1 kb ⊢
    simp only [ptrV, Option.map_some] at q2 hb h1 kb ⊢
    have H := Lib.hid h1
    have X := Lib.hid (And.intro hdn kb)
    clear h hm h1 kb hdn hb hi c0
    go_enter Try.func35, Try.ntmps35
    go_wp2_with (at_mapUpdate; refine wpList_put rfl _ _ _ rfl b N ad f m.to i rfl rfl rfl H.out (maxLen_ge h40.2) hN ?_; intro w1 r1 r2 r3)
    go_end0
    obtain ⟨e1, e2⟩ := X.out
    exact ⟨rfl, by rw [e1]; exact r1, e2 _ r2⟩
  · have e0 := empty_no c0
    by_cases c1 : m.to = noStr
    · have hdn : m.done f = f.del m.fr := by simp [Mv.done, c0, c1]
      have e1 := empty_yes c1
      obtain ⟨w1, hdl, r1, r2, r3⟩ := h1.del (s := m.fr) (maxLen_ge h40.1) 0
      have X := Lib.hid (And.intro hdn (And.intro r1 (kb _ r2)))
      unfold mvV
      clear h hm h1 kb hdn hb c0 c1 r1 r2 r3
      go_enter Try.func35, Try.ntmps35
      go_wp2_with fail
      go_end0
      obtain ⟨e1, e2, e3⟩ := X.out
      exact ⟨rfl, by rw [e1]; exact e2.mono (Nat.le_succ _), e3⟩
    · have e1 := empty_no c1
      obtain ⟨i, hi⟩ := Option.isSome_iff_exists.1 (hm.2 c0 c1)
      have hdn : m.done f = (f.put m.to i).del m.fr := by simp [Mv.done, c0, c1, hi]
      have hlk := (h1.look (maxLen_ge h40.1)).trans (show _ = Result.ok (.pointer (some ⟨ad i, 0, none⟩)) _ by rw [hi]; rfl)
      obtain ⟨w1, hup, r1, r2, r3⟩ := h1.put (s := m.to) (maxLen_ge h40.2) hN i
      have hne : b ≠ (w.alloc (.cells #[.string m.fr, .string m.to, ptrV ad m.f] 74)).heap.size - 1 := by simp; omega
      have hb1 := (r2.block w.heap.size (by simp) (by simp; omega)).trans hb
      have p0 := (blk_cell hb1 0).trans (show _ = some (.string m.fr) from rfl)
      obtain ⟨w2, hdl, t1, t2, t3⟩ := r1.del (s := m.fr) (maxLen_ge h40.1) 0
      have k1 := kb _ r2
      have k2 := k1.trans (Kept.of_grown (S := fun k => k = b) t2 fun k e => by injection e with e; exact e.symm) (U := fun k => k = b) (fun _ _ e => e) fun _ _ e => e
      have X := Lib.hid (And.intro hdn (And.intro t1 k2))
      unfold mvV
      clear h hm h1 kb hdn hb hb1 c0 c1 hi r1 r2 r3 t1 t2 t3 k1 k2 hne
      go_enter Try.func35, Try.ntmps35
      go_wp2_with fail
      go_end0
      obtain ⟨e1, e2, e3⟩ := X.out
      exact ⟨rfl, by rw [e1]; exact e2, e3⟩
end Go.Proofs.Ytgohjgeplageeaa
