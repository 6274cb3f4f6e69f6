/- Read. -/
import Derived.Test.YtgohjgeplageeaaG4
namespace Go.Proofs.Ytgohjgeplageeaa
open Go Go.RowKit
set_option linter.unusedVariables false
set_option linter.unusedSimpArgs false

def Dsk.readB (S : Dsk) (s : ByteArray) (at_ n : Int) : Prop := at_ < 0 ∨ n < 0 ∨ ((S.file s).see.length : Int) < at_ ∨ ((S.file s).see.length : Int) - at_ < n
instance (S : Dsk) (s : ByteArray) (at_ n : Int) : Decidable (S.readB s at_ n) := by unfold Dsk.readB; infer_instance
def Dsk.readE (S : Dsk) (s : ByteArray) (at_ n : Int) : Int := if S.err s = 0 then (if S.readB s at_ n then 74 else 0) else S.err s
def Dsk.readL (S : Dsk) (s : ByteArray) (at_ n : Int) : List Int := if S.err s = 0 then (if S.readB s at_ n then [] else ((S.file s).see.drop at_.toNat).take n.toNat) else []
/-- Bytes that are new. -/
def NewB (w w' : World) (v : Value) (l : List Int) : Prop := Reads w' v l ∧ ∀ A n c, v = .slice (some A) n c → w.heap.size ≤ A.block
def ReadPost (l : List Int) (er : Int) (w : World) (e : Ending) (w' : World) : Prop :=
  ∃ v, e = .returned (.tuple #[v, .int .i64 er]) ∧ NewB w w' v l ∧ Kept (fun _ => False) w w'
theorem NewB.nil (w w' : World) : NewB w w' (.slice none 0 0) [] := ⟨⟨none, 0, rfl, ⟨fun _ => rfl, Nat.le_refl _⟩, fun j u hu => by simp [nums] at hu⟩, fun A n c e => by injection e with e; cases e⟩
theorem clip_any (w : World) (v : Value) (l : List Int) (hr : Reads w v l) (hl : l.length ≤ 140737488355328) : Calls Try.prog 39 #[v] w fun e w' => w' = w ∧ ∃ A c, v = .slice A l.length c ∧ e = .returned (.slice A l.length l.length) := by
  obtain ⟨A, c, rfl, hz, hc⟩ := hr
  have hcap := hz.2
  cases A with
  | none =>
    obtain rfl := hz.1 rfl
    obtain rfl : l = [] := List.eq_nil_of_length_eq_zero (by omega)
    clear hc hz hcap
    simp only [List.length_nil, Int.natCast_zero]
    go_enter Try.func39, Try.ntmps39
    go_wp2_with fail
    go_ret
    exact ⟨rfl, none, 0, rfl, rfl⟩
  | some A =>
    clear hc hz
    go_enter Try.func39, Try.ntmps39
    go_wp2_with fail
    go_ret
    exact ⟨rfl, some A, c, rfl, by simp⟩
theorem Reads.sub {w : World} {g c : Nat} {l : List Int} (h : Reads w (.slice (some ⟨g, 0, none⟩) l.length c) l) {a n : Nat} (hn : a + n ≤ l.length) : Reads w (.slice (some ⟨g, a, none⟩) n (c - a)) ((l.drop a).take n) := by
  obtain ⟨A, c', e, h0, hc⟩ := h
  injection e with e1 e2 e3
  subst e1 e3
  have hl : ((l.drop a).take n).length = n := by rw [List.length_take, List.length_drop]; omega
  have h02 := h0.2
  refine ⟨some ⟨g, a, none⟩, c - a, by rw [hl], ⟨(fun e => by cases e), by rw [hl]; omega⟩, fun j u hu => ?_⟩
  unfold nums at hu
  rw [List.getElem?_map, List.getElem?_take] at hu
  split at hu
  · rw [List.getElem?_drop] at hu
    obtain ⟨ad, e, hcell⟩ := hc (a + j) u (by unfold nums; rw [List.getElem?_map]; exact hu)
    injection e with e
    subst e
    refine ⟨_, rfl, ?_⟩
    rw [Addr.add_lit, Nat.zero_add] at hcell
    rw [Addr.add_lit]
    exact hcell
  · cases hu
theorem read_end {w w1 : World} {l : List Int} {A : Option Addr} {c : Nat} (r1 : w1.ownsRow w.heap.size 5 1 (.slice A l.length c) l.length (nums .u8 l)) (r2 : Kept (fun _ => False) w w1) : ReadPost l 0 w (.returned (.tuple #[.slice A l.length l.length, .int .i64 0])) w1 := by
  obtain ⟨A', c', e, h0, hc⟩ := (Lies.of_own r1).reads
  injection e with e1 e2 e3
  subst e1 e3
  refine ⟨_, rfl, ⟨⟨A, l.length, rfl, ⟨?_, Nat.le_refl _⟩, hc⟩, ?_⟩, r2⟩
  · intro e
    have := h0.1 e
    have := h0.2
    omega
  · intro A' n' c' e
    injection e with e1 e2 e3
    subst e1
    have := (r1.lt A'.block (by simp [Value.ownBlock])).1
    exact this
set_option maxRecDepth 100000 in
theorem read_any {w : World} {C : Col} {δ d N : Nat} {S : Dsk} (h : DskAt w C δ d N S) (s : ByteArray) (hs : s.size ≤ 9223372036854775807) (at_ n : Int) (hN : N ≤ 1000000000000) :
    Calls Try.prog 18 #[.pointer (some ⟨d, 0, none⟩), .string s, .int .i64 at_, .int .i64 n] w (ReadPost (S.readL s at_ n) (S.readE s at_ n) w) := by
  obtain ⟨h0, ml, ms, vm, vd, ad, h⟩ := h
  have H := Lib.hid h
  by_cases c : S.err s = 0
  · obtain ⟨i, hi⟩ := Option.isSome_iff_exists.1 (err0 c).2.2
    obtain ⟨F, vl, vp, vs, us, f1, f2, f3⟩ := h.found h0 hi
    have hF : S.file s = F := by simp [Dsk.file, hi, f1]
    have X := Lib.hid (show S.err s = 0 ∧ S.found s = some i by simp [Dsk.found, c, hi])
    have hle := h0.see_le f1
    obtain ⟨A, k, rfl⟩ := f3.see.slice
    have q2 := (show FBlk w (ad i) vl vp _ from f3.blk).c2
    by_cases c3 : S.readB s at_ n
    · have Y := Lib.hid (show S.readE s at_ n = 74 ∧ S.readL s at_ n = [] by simp only [Dsk.readE, Dsk.readL, c, c3, if_true]; simp)
      have hend : Hid (ReadPost (S.readL s at_ n) (S.readE s at_ n) w (.returned (.tuple #[.slice none 0 0, .int .i64 74])) w) := Lib.hid (by rw [Y.out.1, Y.out.2]; exact ⟨_, rfl, NewB.nil w w, .refl _ _⟩)
      unfold Dsk.readB at c3
      rw [hF] at c3
      clear h h0 c f1 f2 f3 hi hF
      have cases4 : at_ < 0 ∨ (¬ at_ < 0 ∧ n < 0) ∨ (¬ at_ < 0 ∧ ¬ n < 0 ∧ (F.see.length : Int) < at_) ∨ (¬ at_ < 0 ∧ ¬ n < 0 ∧ ¬ (F.see.length : Int) < at_ ∧ (F.see.length : Int) - at_ < n) := by omega
      clear c3
      rcases cases4 with c4 | ⟨c4, c5⟩ | ⟨c4, c5, c6⟩ | ⟨c4, c5, c6, c7⟩
      all_goals
        go_enter Try.func18, Try.ntmps18
        go_wp2_with (go_at_call 28; refine (find_any S s ad N w d ml ms vm vd H.out.blk H.out.see hs).mono ?_; rintro e w' ⟨rfl, rfl⟩; rw [X.out.1, X.out.2]; simp only [ptrV, Option.map_some])
        go_ret2
        exact hend.out
    · have Y := Lib.hid (show S.readE s at_ n = 0 ∧ S.readL s at_ n = (F.see.drop at_.toNat).take n.toNat by simp only [Dsk.readE, Dsk.readL, c, c3, hF, if_true, if_false]; simp)
      unfold Dsk.readB at c3
      rw [hF] at c3
      have c4 : ¬ at_ < 0 := fun e => c3 (.inl e)
      have c5 : ¬ n < 0 := fun e => c3 (.inr (.inl e))
      obtain ⟨p, rfl⟩ : ∃ p : Nat, at_ = p := ⟨at_.toNat, by omega⟩
      obtain ⟨q, rfl⟩ : ∃ q : Nat, n = q := ⟨n.toNat, by omega⟩
      have hpq : p + q ≤ F.see.length := by omega
      have c6 : ¬ (F.see.length : Int) < p := by omega
      have c7 : ¬ (F.see.length : Int) - p < q := by omega
      obtain ⟨l', hl'⟩ : ∃ l', l' = (F.see.drop p).take q := ⟨_, rfl⟩
      have hq : l'.length = q := by rw [hl', List.length_take, List.length_drop]; omega
      have hll : l'.length ≤ 140737488355328 := by omega
      rcases f3.see.own.2 with ⟨e, e2⟩ | ⟨g, cap, cur, e, r1, r2, r3, r4, r5, r6⟩
      · injection e with e1 e2' e3
        subst e1 e3
        obtain rfl : p = 0 := by omega
        obtain rfl : q = 0 := by omega
        rw [e2] at q2
        have hR : Hid (Reads w (.slice none 0 0) []) := Lib.hid (NewB.nil w w).1
        have Y2 : Hid (S.readE s 0 0 = 0 ∧ S.readL s 0 0 = []) := Lib.hid ⟨Y.out.1, by have := Y.out.2; simpa using this⟩
        simp only [Int.natCast_zero]
        clear h h0 c f1 f2 f3 hi hF c3 c4 c5 c6 c7 hl' hq e2 e2' Y hll hpq
        go_enter Try.func18, Try.ntmps18
        go_wp2_with (first
          | (go_at_call 28; refine (find_any S s ad N w d ml ms vm vd H.out.blk H.out.see hs).mono ?_; rintro e w' ⟨rfl, rfl⟩; rw [X.out.1, X.out.2]; simp only [ptrV, Option.map_some])
          | (go_at_call 31; refine (clone_nil _).mono ?_; rintro e w2 ⟨rfl, rfl⟩)
          | (go_at_call 39; refine (clip_any _ _ [] hR.out (by decide)).mono ?_; rintro e w2 ⟨rfl, A, c, e, rfl⟩; injection e with e1 e2 e3; subst e1 e3; clear e2))
        go_ret2
        rw [Y2.out.1, Y2.out.2]
        exact ⟨_, rfl, NewB.nil _ _, .refl _ _⟩
      · injection e with e1 e2' e3
        subst e1 e3
        have hR : Hid (Reads w (.slice (if k = p then some ⟨g, 0, none⟩ else some ⟨g, p, none⟩) q (k - p)) l') := Lib.hid (by
          split
          · have h1 := f3.see.reads.sub hpq
            obtain ⟨A1, c1, e, h2, h3⟩ := h1
            obtain rfl : q = 0 := by omega
            obtain rfl : l' = [] := List.eq_nil_of_length_eq_zero hq
            exact ⟨_, _, rfl, ⟨(fun e => by cases e), Nat.zero_le _⟩, fun j u hu => by simp [nums] at hu⟩
          · rw [hl']; exact f3.see.reads.sub hpq)
        have HL := Lib.hid (And.intro hl' hq)
        have hpk : p + q ≤ k := by omega
        have hk1 : k ≤ k := Nat.le_refl _
        clear h h0 c f1 f2 f3 hi hF c3 hl' hq r1 r2 r3 r4 r5 r6 e2'
        go_enter Try.func18, Try.ntmps18
        go_wp2_with (first
          | (go_at_call 28; refine (find_any S s ad N w d ml ms vm vd H.out.blk H.out.see hs).mono ?_; rintro e w' ⟨rfl, rfl⟩; rw [X.out.1, X.out.2]; simp only [ptrV, Option.map_some])
          | (go_at_call 31; refine (clone_any _ _ l' hR.out hll).mono ?_; rintro e w2 ⟨v2, rfl, r1, r2⟩; obtain ⟨A2, n2, rfl⟩ := own_slice r1; have R2 := Lib.hid (And.intro r1 r2); clear r1 r2)
          | (go_at_call 39; refine (clip_any _ _ l' (Lies.of_own R2.out.1).reads hll).mono ?_; rintro e w3 ⟨rfl, A3, n3, e, rfl⟩; injection e with e1 e2 e3; subst e1 e3))
        all_goals
          go_ret2
          rw [Y.out.1, Y.out.2]
          have hE := read_end R2.out.1 R2.out.2
          have e : l' = List.take (q : Int).toNat (List.drop (p : Int).toNat F.see) := HL.out.1
          rw [← e]
          exact hE
  · have X := Lib.hid (show S.readE s at_ n = S.err s ∧ S.readL s at_ n = [] ∧ S.found s = none by simp [Dsk.readE, Dsk.readL, Dsk.found, c])
    obtain ⟨x, hx⟩ : ∃ x, x = S.err s := ⟨_, rfl⟩
    have HX := Lib.hid hx
    rw [← hx] at c
    have hb : (x != 0) = true := by simp [c]
    clear h h0 hx
    go_enter Try.func18, Try.ntmps18
    go_wp2_with (go_at_call 28; refine (find_any S s ad N w d ml ms vm vd H.out.blk H.out.see hs).mono ?_; rintro e w' ⟨rfl, rfl⟩; rw [← HX.out, X.out.2.2]; simp only [ptrV, Option.map_none])
    go_ret2
    rw [X.out.1, X.out.2.1, ← HX.out]
    exact ⟨_, rfl, NewB.nil _ _, .refl _ _⟩
end Go.Proofs.Ytgohjgeplageeaa
