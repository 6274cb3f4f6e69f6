/- New, Off, Size, Arm. -/
import Derived.Test.YtgohjgeplageeaaF6
namespace Go.Proofs.Ytgohjgeplageeaa
open Go Go.RowKit
set_option linter.unusedVariables false
set_option linter.unusedSimpArgs false

/-- What a call on a disk leaves. -/
def OpPost (C : Col) (δ d N : Nat) (S' : Dsk) (r : Value) (w : World) (e : Ending) (w' : World) : Prop :=
  e = .returned r ∧ Kept (fun b => (C b).1 = δ) w w' ∧ ∃ C', Agr w C C' ∧ DskAt w' C' δ d N S'
/-- What a call that only looks leaves. -/
def SeePost (r : Value) (w : World) (e : Ending) (w' : World) : Prop := e = .returned r ∧ Kept (fun _ => False) w w'
def NewPost (C : Col) (δ : Nat) (w : World) (e : Ending) (w' : World) : Prop :=
  ∃ d C', e = .returned (.pointer (some ⟨d, 0, none⟩)) ∧ Kept (fun _ => False) w w' ∧ Agr w C C' ∧ DskAt w' C' δ d 0 Dsk.new
theorem Dsk.new_ok : Dsk.new.Ok 0 :=
  ⟨rfl, rfl, trivial, (fun s i h => by cases h), (fun s i h => by cases h), (fun m i h => by cases h), (fun m h => by cases h), (fun F h => by cases h), Nat.le_refl _, Nat.le_refl _, (fun F h => by cases h), (by decide), (by decide), .inl rfl, (fun m h => by cases h)⟩
theorem Dsk.Ok.mono {S : Dsk} {N N' : Nat} (h : S.Ok N) (hN : N ≤ N') : S.Ok N' :=
  { h with nfs := Nat.le_trans h.nfs hN, nmv := Nat.le_trans h.nmv hN, nby := fun F hF => ⟨Nat.le_trans (h.nby F hF).1 hN, Nat.le_trans (h.nby F hF).2 hN⟩ }
theorem DAt.mono {w : World} {C : Col} {δ d N N' ml ms : Nat} {vm vd : Value} {ad : Nat → Nat} {S : Dsk} (h : DAt w C δ d N ml ms vm vd ad S) (hN : N ≤ N') : DAt w C δ d N' ml ms vm vd ad S :=
  { h with las := h.las.mono (Nat.sub_le_sub_right hN _), see := h.see.mono hN }
theorem DskAt.mono {w : World} {C : Col} {δ d N N' : Nat} {S : Dsk} (h : DskAt w C δ d N S) (hN : N ≤ N') : DskAt w C δ d N' S := by
  obtain ⟨h0, ml, ms, vm, vd, ad, h⟩ := h
  exact ⟨h0.mono hN, ml, ms, vm, vd, ad, h.mono hN⟩
theorem new_at (w : World) (C : Col) (δ : Nat) : ∃ C', Agr w C C' ∧ DskAt (((w.alloc (.map #[] 0)).alloc (.map #[] 0)).alloc (.cells #[.map (some w.heap.size), .slice none 0 0, .map (some (w.heap.size + 1)), .slice none 0 0, .bool false, .int .i64 0, .int .i64 0, .int .i64 0] 65)) C' δ (w.heap.size + 2) 0 Dsk.new := by
  refine ⟨fun b => if b < w.heap.size then C b else if b = w.heap.size then (δ, 0, 1) else if b = w.heap.size + 1 then (δ, 0, 2) else (δ, 0, 0), fun b hb => by simp [hb], Dsk.new_ok, w.heap.size, w.heap.size + 1, .slice none 0 0, .slice none 0 0, fun _ => 0, ?_⟩
  have h1 : NmAt (w.alloc (.map #[] 0)) w.heap.size 0 (fun _ => 0) Dsk.new.las := NmAt.new w _
  have h2 : NmAt ((w.alloc (.map #[] 0)).alloc (.map #[] 0)) (w.heap.size + 1) 0 (fun _ => 0) Dsk.new.see := by
    have := NmAt.new (w.alloc (.map #[] 0)) (fun _ => 0)
    have e : (w.alloc (.map #[] 0)).heap.size = w.heap.size + 1 := by simp
    rw [e] at this
    exact this
  have hb := heap_alloc_new ((w.alloc (.map #[] 0)).alloc (.map #[] 0)) (.cells #[.map (some w.heap.size), .slice none 0 0, .map (some (w.heap.size + 1)), .slice none 0 0, .bool false, .int .i64 0, .int .i64 0, .int .i64 0] 65)
  refine ⟨?_, (by simp; omega), (by simp), (by simp; omega), ?_, ?_, World.ownsRow_nil _ _ _ _, (fun b hb => by cases hb), World.ownsRow_nil _ _ _ _, (fun b hb => by cases hb), (fun i F hi => by cases hi)⟩
  · have e : ((w.alloc (.map #[] 0)).alloc (.map #[] 0)).heap.size = w.heap.size + 2 := by simp
    rw [e] at hb
    exact hb
  · exact (h1.kept (.alloc (fun _ => False) _ _) (fun e => e)).kept (.alloc (fun _ => False) _ _) (fun e => e)
  · exact h2.kept (.alloc (fun _ => False) _ _) (fun e => e)
theorem new_any (w : World) (C : Col) (δ : Nat) : Calls Try.prog 8 #[] w (NewPost C δ w) := by
  have H := Lib.hid (new_at w C δ)
  have K := Lib.hid (kept0 (kept0 (Kept.alloc _ w (.map #[] 0)) (Kept.alloc _ _ (.map #[] 0))) (Kept.alloc _ _ (.cells #[.map (some w.heap.size), .slice none 0 0, .map (some (w.heap.size + 1)), .slice none 0 0, .bool false, .int .i64 0, .int .i64 0, .int .i64 0] 65)))
  have hmk := fun (t : TypeId) (W : World) => run_makeMap (P := Try.prog) t W
  go_enter Try.func8, Try.ntmps8
  go_wp2_with fail
  go_ret
  obtain ⟨C', h1, h2⟩ := H.out
  exact ⟨w.heap.size + 2, C', by simp, K.out, h1, h2⟩
theorem DskAt.dblk {w : World} {C : Col} {δ d N : Nat} {S : Dsk} (h : DskAt w C δ d N S) : ∃ ml ms vm vd, DBlk w d ml ms vm vd S.off S.arm S.how S.uni := by
  obtain ⟨h0, ml, ms, vm, vd, ad, h⟩ := h
  exact ⟨ml, ms, vm, vd, h.blk⟩
theorem off_any {w : World} {C : Col} {δ d N : Nat} {S : Dsk} (h : DskAt w C δ d N S) : Calls Try.prog 22 #[.pointer (some ⟨d, 0, none⟩)] w (SeePost (.bool S.off) w) := by
  obtain ⟨ml, ms, vm, vd, hb⟩ := h.dblk
  have q4 := hb.c4
  clear h hb
  go_enter Try.func22, Try.ntmps22
  go_wp2_with fail
  go_ret
  exact ⟨rfl, .refl _ _⟩
/-- A file that is found. -/
theorem DAt.found {w : World} {C : Col} {δ d N ml ms : Nat} {vm vd : Value} {ad : Nat → Nat} {S : Dsk} (h : DAt w C δ d N ml ms vm vd ad S) (h0 : S.Ok N) {s : ByteArray} {i : Nat} (hi : S.see s = some i) : ∃ F vl vp vs us, S.fs[i]? = some F ∧ S.made.getD i false = true ∧ FAt w C δ (i + 1) (ad i) vl vp vs us F := by
  have hm := h0.rs s i hi
  have hlt : i < S.fs.length := by
    rw [← h0.len]
    apply Decidable.byContradiction
    intro hn
    rw [List.getD_eq_getElem?_getD, List.getElem?_eq_none (by omega)] at hm
    cases hm
  obtain ⟨vl, vp, vs, us, hF⟩ := h.fl i _ (List.getElem?_eq_getElem hlt) hm
  exact ⟨_, vl, vp, vs, us, List.getElem?_eq_getElem hlt, hm, hF⟩
def Dsk.file (S : Dsk) (s : ByteArray) : Fil := ((S.see s).bind fun i => S.fs[i]?).getD ⟨[], [], []⟩
theorem err0 {S : Dsk} {s : ByteArray} (h : S.err s = 0) : S.off = false ∧ named s = true ∧ (S.see s).isSome = true := by
  unfold Dsk.err at h
  split at h
  · cases h
  · split at h
    · split at h
      · rename_i h1 h2 h3; exact ⟨by simpa using h1, h2, h3⟩
      · cases h
    · cases h
theorem err_cases (S : Dsk) (s : ByteArray) : S.err s = 0 ∨ S.err s = 71 ∨ S.err s = 72 ∨ S.err s = 75 := by
  unfold Dsk.err
  split
  · simp
  · split
    · split <;> simp
    · simp
def Dsk.size (S : Dsk) (s : ByteArray) : Int := if S.err s = 0 then ((S.file s).see.length : Int) else 0
theorem size_any {w : World} {C : Col} {δ d N : Nat} {S : Dsk} (h : DskAt w C δ d N S) (s : ByteArray) (hs : s.size ≤ 9223372036854775807) :
    Calls Try.prog 17 #[.pointer (some ⟨d, 0, none⟩), .string s] w (SeePost (.tuple #[.int .i64 (S.size s), .int .i64 (S.err s)]) w) := by
  obtain ⟨h0, ml, ms, vm, vd, ad, h⟩ := h
  by_cases c : S.err s = 0
  · obtain ⟨i, hi⟩ := Option.isSome_iff_exists.1 (err0 c).2.2
    obtain ⟨F, vl, vp, vs, us, f1, f2, f3⟩ := h.found h0 hi
    have X := Lib.hid (show S.size s = (F.see.length : Int) ∧ S.err s = 0 ∧ S.found s = some i by simp [Dsk.size, Dsk.found, Dsk.file, c, hi, f1])
    have H := Lib.hid h
    obtain ⟨A, n, rfl⟩ := f3.see.slice
    have q2 := (show FBlk w (ad i) vl vp _ from f3.blk).c2
    clear h h0 c f1 f2 f3 hi
    go_enter Try.func17, Try.ntmps17
    go_wp2_with (go_at_call 28; refine (find_any S s ad N w d ml ms vm vd H.out.blk H.out.see hs).mono ?_; rintro e w' ⟨rfl, rfl⟩; rw [X.out.2.1, X.out.2.2]; simp only [ptrV, Option.map_some])
    go_ret2
    obtain ⟨e1, e2, e3⟩ := X.out
    unfold SeePost
    rw [e1, e2]
    exact ⟨rfl, .refl _ _⟩
  · have X := Lib.hid (show S.size s = 0 ∧ S.found s = none by simp [Dsk.size, Dsk.found, c])
    have H := Lib.hid h
    obtain ⟨x, hx⟩ : ∃ x, x = S.err s := ⟨_, rfl⟩
    have HX := Lib.hid hx
    rw [← hx] at c
    have hb := ne_b c
    clear h h0 hx
    go_enter Try.func17, Try.ntmps17
    go_wp2_with (go_at_call 28; refine (find_any S s ad N w d ml ms vm vd H.out.blk H.out.see hs).mono ?_; rintro e w' ⟨rfl, rfl⟩; rw [← HX.out, X.out.2]; simp only [ptrV, Option.map_none])
    go_ret2
    obtain ⟨e1, e2⟩ := X.out
    unfold SeePost
    rw [e1, ← HX.out]
    exact ⟨rfl, .refl _ _⟩
def Dsk.armE (S : Dsk) (n how u : Int) : Int := if S.off = true then 75 else if n < 0 ∨ u < 0 ∨ (how ≠ 0 ∧ how ≠ 1) then 1 else 0
def Dsk.armD (S : Dsk) (n how u : Int) : Dsk := if S.armE n how u = 0 then { S with arm := n, how := how, uni := u } else S
/-- The disk's own cells turn. -/
theorem DAt.turned {w w' : World} {C : Col} {δ d N ml ms : Nat} {vm vd : Value} {ad : Nat → Nat} {S : Dsk} (h : DAt w C δ d N ml ms vm vd ad S) (hk : Kept (fun b => b = d) w w') {off : Bool} {arm how uni : Int} (hb : DBlk w' d ml ms vm vd off arm how uni) :
    DAt w' C δ d N ml ms vm vd ad { S with off := off, arm := arm, how := how, uni := uni } := by
  have hT : ∀ j m b, (j, m) ≠ (0, 0) → C b = (δ, j, m) → ¬ b = d := by
    rintro j m b hne e rfl
    rw [h.cd] at e
    simp only [Prod.mk.injEq, true_and] at e
    exact hne (by rw [← e.1, ← e.2])
  refine ⟨hb, h.cd, h.cl, h.cs, h.las.kept hk (hT _ _ _ (by decide) h.cl), h.see.kept hk (hT _ _ _ (by decide) h.cs), own_kept h.mv hk fun b hb => hT _ _ b (by decide) (h.cm b hb), h.cm, own_kept h.md hk fun b hb => hT _ _ b (by decide) (h.ck b hb), h.ck, ?_⟩
  intro i F hi hm
  obtain ⟨vl, vp, vs, us, hF⟩ := h.fl i F hi hm
  exact ⟨vl, vp, vs, us, hF.kept hk (fun b e1 e2 e => by subst e; rw [h.cd] at e2; cases e2) (Agr.refl _ _)⟩
theorem kept_self {C : Col} {δ d : Nat} {w w' : World} (hc : C d = (δ, 0, 0)) (hk : Kept (fun b => b = d) w w') : Kept (fun b => (C b).1 = δ) w w' :=
  hk.trans (.refl _ _) (U := fun b => (C b).1 = δ) (fun b _ e => by subst e; rw [hc]) (fun b _ e => e)
theorem arm_any {w : World} {C : Col} {δ d N : Nat} {S : Dsk} (h : DskAt w C δ d N S) (n how u : Int) (hn : n < 9223372036854775808) (hu : u < 9223372036854775808) :
    Calls Try.prog 26 #[.pointer (some ⟨d, 0, none⟩), .int .i64 n, .int .i64 how, .int .i64 u] w (OpPost C δ d N (S.armD n how u) (.int .i64 (S.armE n how u)) w) := by
  obtain ⟨h0, ml, ms, vm, vd, ad, h⟩ := h
  have hb : DBlk w d ml ms vm vd S.off S.arm S.how S.uni := h.blk
  have q4 := hb.c4
  have same : ∀ r, OpPost C δ d N S r w (.returned r) w := fun r => ⟨rfl, .refl _ _, C, .refl _ _, h0, ml, ms, vm, vd, ad, h⟩
  by_cases c0 : S.off = true
  · have X := Lib.hid (show S.armE n how u = 75 ∧ S.armD n how u = S by simp [Dsk.armE, Dsk.armD, c0])
    have HS := Lib.hid same
    rw [c0] at q4
    clear h h0 hb same
    go_enter Try.func26, Try.ntmps26
    go_wp2_with fail
    go_ret
    rw [X.out.1, X.out.2]
    exact HS.out _
  · have c0' : S.off = false := by simpa using c0
    rw [c0'] at q4
    by_cases c1 : n < 0 ∨ u < 0 ∨ (how ≠ 0 ∧ how ≠ 1)
    · have X := Lib.hid (show S.armE n how u = 1 ∧ S.armD n how u = S by simp only [Dsk.armE, Dsk.armD, c0, c1, if_true, if_false]; simp)
      have HS := Lib.hid same
      clear h h0 hb same
      rcases c1 with c1 | c1 | ⟨c1, c2⟩
      · go_enter Try.func26, Try.ntmps26
        go_wp2_with fail
        go_ret
        rw [X.out.1, X.out.2]
        exact HS.out _
      · by_cases c2 : n < 0
        all_goals
          go_enter Try.func26, Try.ntmps26
          go_wp2_with fail
          go_ret
          rw [X.out.1, X.out.2]
          exact HS.out _
      · have b1 : (how != 0) = true := by simp [c1]
        have b2 : (how != 1) = true := by simp [c2]
        by_cases c3 : n < 0
        · go_enter Try.func26, Try.ntmps26
          go_wp2_with fail
          go_ret
          rw [X.out.1, X.out.2]
          exact HS.out _
        · by_cases c4 : u < 0
          all_goals
            go_enter Try.func26, Try.ntmps26
            go_wp2_with fail
            go_ret
            rw [X.out.1, X.out.2]
            exact HS.out _
    · have X := Lib.hid (show S.armE n how u = 0 ∧ S.armD n how u = { S with arm := n, how := how, uni := u } by simp only [Dsk.armE, Dsk.armD, c0, c1, if_false]; simp)
      have c2 : ¬ n < 0 := fun e => c1 (.inl e)
      have c3 : ¬ u < 0 := fun e => c1 (.inr (.inl e))
      have c4 : how = 0 ∨ how = 1 := by omega
      have f5 := hb.fr 5
      have q5 := hb.c5
      have b5 := hb.s5 n
      have f6 := b5.fr 6
      have q6 := b5.c6
      have b6 := b5.s6 how
      have f7 := b6.fr 7
      have q7 := b6.c7
      have b7 := b6.s7 u
      have k : Kept (fun b => b = d) w (((w.setCell ⟨d, 5, none⟩ (.int .i64 n)).setCell ⟨d, 6, none⟩ (.int .i64 how)).setCell ⟨d, 7, none⟩ (.int .i64 u)) :=
        ((Kept.setCell (S := fun k => k = d) _ _ _ rfl).trans (Kept.setCell (S := fun k => k = d) _ _ _ rfl) (U := fun k => k = d) (fun _ _ e => e) fun _ _ e => e).trans (Kept.setCell (S := fun k => k = d) _ _ _ rfl) (fun _ _ e => e) fun _ _ e => e
      have hok : ({ S with arm := n, how := how, uni := u } : Dsk).Ok N := { h0 with arm := ⟨Int.not_lt.1 c2, hn⟩, uni := ⟨Int.not_lt.1 c3, hu⟩, how := c4 }
      have hat := h.turned k (off := S.off) b7
      have Y := Lib.hid (show OpPost C δ d N { S with arm := n, how := how, uni := u } (.int .i64 0) w (.returned (.int .i64 0)) _ from ⟨rfl, kept_self h.cd k, C, .refl _ _, hok, ml, ms, vm, vd, ad, hat⟩)
      clear h h0 hb same b5 b6 b7 k hok hat
      rcases c4 with rfl | rfl
      all_goals
        go_enter Try.func26, Try.ntmps26
        go_wp2_with fail
        go_ret
        rw [X.out.1, X.out.2]
        exact Y.out
end Go.Proofs.Ytgohjgeplageeaa
