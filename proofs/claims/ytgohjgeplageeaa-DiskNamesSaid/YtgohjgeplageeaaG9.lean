/- Create, walked. -/
import Derived.Test.YtgohjgeplageeaaG8
namespace Go.Proofs.Ytgohjgeplageeaa
open Go Go.RowKit
set_option linter.unusedVariables false
set_option linter.unusedSimpArgs false

theorem Try.info66 : (Try.prog.info? 66).map (fun i => (i.zero, i.size, i.bytes)) = some (some (.pointer none), 1, 8) := by kernel_rfl
theorem Try.info74 : (Try.prog.info? 74).map (fun i => (i.zero, i.size, i.bytes)) = some (some (.agg #[.string ⟨#[]⟩, .string ⟨#[]⟩, .pointer none]), 3, 40) := by kernel_rfl
theorem made_snoc (ad : Nat → Nat) (l : List Bool) (n a : Nat) (ad' : Nat → Nat) (hn : n = l.length) (h1 : ad' n = a) (h2 : ∀ i, i ≠ n → ad' i = ad i) : mdC ad l ++ [.pointer (some ⟨a, 0, none⟩)] = mdC ad' (l ++ [true]) := by
  unfold mdC
  rw [List.mapIdx_append]
  congr 1
  · apply List.ext_getElem?
    intro i
    rw [List.getElem?_mapIdx, List.getElem?_mapIdx]
    cases e : l[i]? with
    | none => rfl
    | some b =>
      have := (List.getElem?_eq_some_iff.1 e).1
      simp only [Option.map_some, mdV, ptrV]
      rw [show ∀ x, (if b = true then some i else none : Option Nat).map x = if b = true then some (x i) else none by intro x; split <;> rfl]
      cases b
      · rfl
      · simp [h2 i (by omega)]
  · simp [mdV, ptrV, ← hn, h1]
theorem mvs_snoc (ad ad' : Nat → Nat) (l : List Mv) (m : Mv) (h : ∀ x i, x ∈ l → x.f = some i → ad' i = ad i) : l.flatMap (mvC ad) ++ mvC ad' m = (l ++ [m]).flatMap (mvC ad') := by
  rw [List.flatMap_append]
  congr 1
  · induction l with
    | nil => rfl
    | cons x r ih =>
      rw [List.flatMap_cons, List.flatMap_cons, ih (fun y i hy => h y i (by simp [hy]))]
      congr 1
      unfold mvC ptrV
      cases e : x.f with
      | none => rfl
      | some i => simp [h x i (by simp) e]
/-- All of a file's creation, put together. -/
theorem create_end {w w1 W3 W4 W5 : World} {C : Col} {δ d N ml ms : Nat} {vm vd vm' vd' : Value} {ad ad' : Nat → Nat} {S : Dsk} {s : ByteArray} (h0 : S.Ok N) (h : DAt w1 C δ d N ml ms vm vd ad S) (hs : s.size ≤ 40 ∧ 0 < s.size) (hkw : Kept (fun b => (C b).1 = δ) w w1)
    (a1 : ad' S.fs.length = w1.heap.size) (a2 : ∀ i, i ≠ S.fs.length → ad' i = ad i)
    (m3 : W3.ownsRow 0 66 1 vd' (S.made.length + 1) (mdC ad S.made ++ [.pointer (some ⟨w1.heap.size, 0, none⟩)])) (k3 : Kept (fun b => b = d ∨ vd.ownBlock = some b) (w1.alloc (.cells #[.slice none 0 0, .slice none 0 0, .slice none 0 0] 72)) W3) (t3 : vd'.ownBlock = vd.ownBlock ∨ ∀ b, vd'.ownBlock = some b → (w1.alloc (.cells #[.slice none 0 0, .slice none 0 0, .slice none 0 0] 72)).heap.size ≤ b)
    (b3 : DBlk W3 d ml ms vm vd' S.off S.arm S.how S.uni) (n4 : NmAt W4 ms (N + 1) ad' (S.see.put s S.fs.length)) (k4 : W3.grownBy W4 (some ms))
    (b5 : DBlk W5 d ml ms vm' vd' S.off S.arm S.how S.uni) (m5 : W5.ownsRow 0 74 3 vm' (S.mvs.length + 1) (S.mvs.flatMap (mvC ad) ++ [.string noStr, .string s, .pointer (some ⟨w1.heap.size, 0, none⟩)])) (k5 : Kept (fun b => b = d ∨ vm.ownBlock = some b) W4 W5) (t5 : vm'.ownBlock = vm.ownBlock ∨ ∀ b, vm'.ownBlock = some b → W4.heap.size ≤ b) (r : Value) :
    OpPost C δ d (N + 1) (S.newFile s) r w (.returned r) W5 := by
  have k2 := Kept.alloc (fun _ => False) w1 (.cells #[.slice none 0 0, .slice none 0 0, .slice none 0 0] 72)
  have k4' : Kept (fun b => b = ms) W3 W4 := Kept.of_grown k4 fun k e => by injection e with e; exact e.symm
  have hsz3 := k3.size
  have hsz4 := k4'.size
  have hsz2 : (w1.alloc (.cells #[.slice none 0 0, .slice none 0 0, .slice none 0 0] 72)).heap.size = w1.heap.size + 1 := by simp
  have hdlt := blk_lt h.blk
  -- all that turned
  have kA : Kept (fun b => b = d ∨ vd.ownBlock = some b ∨ b = ms ∨ vm.ownBlock = some b) w1 W5 :=
    ((k2.trans k3 (U := fun b => b = d ∨ vd.ownBlock = some b ∨ b = ms ∨ vm.ownBlock = some b) (fun _ _ e => e.elim) (fun b _ e => e.elim .inl (fun e => .inr (.inl e)))).trans k4' (fun _ _ e => e) (fun b _ e => .inr (.inr (.inl e)))).trans k5 (fun _ _ e => e) (fun b _ e => e.elim .inl (fun e => .inr (.inr (.inr e))))
  have kC : Kept (fun b => (C b).1 = δ ∧ (C b).2.1 = 0) w1 W5 := kA.mono fun b _ e => by
    rcases e with rfl | e | rfl | e
    · rw [h.cd]; exact ⟨rfl, rfl⟩
    · rw [h.ck b e]; exact ⟨rfl, rfl⟩
    · rw [h.cs]; exact ⟨rfl, rfl⟩
    · rw [h.cm b e]; exact ⟨rfl, rfl⟩
  have noA : ∀ j m b, (j ≠ 0 ∨ m = 1) → C b = (δ, j, m) → ¬ (b = d ∨ vd.ownBlock = some b ∨ b = ms ∨ vm.ownBlock = some b) := by
    rintro j m b hj e (rfl | e2 | rfl | e2)
    · rw [h.cd] at e; simp only [Prod.mk.injEq, true_and] at e; omega
    · rw [h.ck b e2] at e; simp only [Prod.mk.injEq, true_and] at e; omega
    · rw [h.cs] at e; simp only [Prod.mk.injEq, true_and] at e; omega
    · rw [h.cm b e2] at e; simp only [Prod.mk.injEq, true_and] at e; omega
  -- the new file's block
  have f2 := heap_alloc_new w1 (.cells #[.slice none 0 0, .slice none 0 0, .slice none 0 0] 72)
  have f3 := blk_kept k3 f2 (by rintro (e | e); · omega
                                · exact absurd (own_lt h.md _ e) (by omega))
  have f4 := blk_kept k4' f3 (fun e => by have := h.see.lt; omega)
  have f5 := blk_kept k5 f4 (by rintro (e | e); · omega
                                · exact absurd (own_lt h.mv _ e) (by omega))
  -- the row of what was made
  have m4 := own_kept m3 k4' (fun b hb e => by
    subst e
    have q : NmAt W3 b N ad S.see := (h.see.kept k2 (fun e => e)).kept k3 (by
      rintro (e | e)
      · exact h.see.ne_blk h.blk e
      · exact h.see.ne_own h.md e)
    exact q.ne_own m3 hb)
  have q4 : W4.ownsRow 0 74 3 vm S.mvs.length (S.mvs.flatMap (mvC ad)) := own_kept (own_kept (own_kept h.mv k2 (fun _ _ e => e)) k3 (fun b hb e => by
      rcases e with rfl | e
      · exact own_ne h.mv h.blk (by decide) hb
      · exact row_apart' h.mv h.md (by decide) b hb e)) k4' (fun b hb e => by subst e; exact h.see.ne_own h.mv hb)
  have b4 : DBlk W4 d ml ms vm vd' S.off S.arm S.how S.uni := b3.kept k4' (fun e => h.see.ne_blk h.blk e.symm)
  have m5' := own_kept m4 k5 (fun b hb e => by
    rcases e with rfl | e
    · exact own_ne m4 b4 (by decide) hb
    · exact row_apart' m4 q4 (by decide) b hb e)
  have hmade : ∀ i, S.made.getD i false = true → ad' i = ad i := fun i hi => a2 i (by have := getD_lt hi; have := h0.len; omega)
  have hagr : Agr w1 C (fun b => if b < w1.heap.size then C b else if b = w1.heap.size then (δ, S.fs.length + 1, 0) else if vd'.ownBlock = some b then (δ, 0, 4) else (δ, 0, 3)) := fun b hb => by simp [hb]
  refine ⟨rfl, hkw.trans kC (fun _ _ e => e) (fun _ _ e => e.1), fun b => if b < w1.heap.size then C b else if b = w1.heap.size then (δ, S.fs.length + 1, 0) else if vd'.ownBlock = some b then (δ, 0, 4) else (δ, 0, 3), fun b hb => hagr b (Nat.lt_of_lt_of_le hb hkw.size), h0.newFile hs, ml, ms, vm', vd', ad', ?_⟩
  refine ⟨b5, (hagr d hdlt).trans h.cd, (hagr ml h.las.lt).trans h.cl, (hagr ms h.see.lt).trans h.cs, ?_, ?_, ?_, ?_, ?_, ?_, ?_⟩
  · refine ((h.las.kept kA (noA 0 1 _ (.inr rfl) h.cl)).congr (fun t i hi => hmade i (h0.rl t i hi))).mono ?_
    show N - S.mvs.length ≤ N + 1 - (S.mvs ++ [_]).length
    rw [List.length_append]
    simp only [List.length_cons, List.length_nil]
    omega
  · exact n4.kept k5 (by
      rintro (e | e)
      · exact n4.ne_blk b4 e
      · exact n4.ne_own q4 e)
  · have e := mvs_snoc ad ad' S.mvs ⟨noStr, s, some S.fs.length⟩ (fun x i hx hi => hmade i (h0.rm x i hx hi))
    have e2 : mvC ad' ⟨noStr, s, some S.fs.length⟩ = [.string noStr, .string s, .pointer (some ⟨w1.heap.size, 0, none⟩)] := by simp [mvC, ptrV, a1]
    rw [e2] at e
    rw [e] at m5
    show W5.ownsRow 0 74 3 vm' (S.mvs ++ [_]).length _
    rw [List.length_append]
    exact m5
  · intro b hb
    rcases t5 with e | e
    · rw [e] at hb
      exact (hagr b (own_lt h.mv b hb)).trans (h.cm b hb)
    · have h1 := e b hb
      have h2 : vd'.ownBlock ≠ some b := fun e => by have := own_lt m4 b e; omega
      simp [show ¬ b < w1.heap.size by omega, show b ≠ w1.heap.size by omega, h2]
  · have e := made_snoc ad S.made S.fs.length w1.heap.size ad' h0.len.symm a1 a2
    rw [e] at m5'
    show W5.ownsRow 0 66 1 vd' (S.made ++ [true]).length _
    rw [List.length_append]
    exact m5'
  · intro b hb
    rcases t3 with e | e
    · rw [e] at hb
      exact (hagr b (own_lt h.md b hb)).trans (h.ck b hb)
    · have h1 := e b hb
      simp [show ¬ b < w1.heap.size by omega, show b ≠ w1.heap.size by omega, hb]
  · intro i F hi hm
    have hi' : (S.fs ++ [⟨[], [], []⟩])[i]? = some F := hi
    rw [List.getElem?_append] at hi'
    by_cases hlt : i < S.fs.length
    · rw [if_pos hlt] at hi'
      have hm' : S.made.getD i false = true := by
        have hm2 : (S.made ++ [true]).getD i false = true := hm
        rw [List.getD_eq_getElem?_getD, List.getElem?_append, if_pos (by rw [h0.len]; exact hlt)] at hm2
        rw [List.getD_eq_getElem?_getD]; exact hm2
      obtain ⟨vl, vp, vs, us, hF⟩ := h.fl i F hi' hm'
      rw [hmade i hm']
      exact ⟨vl, vp, vs, us, hF.kept kA (fun b e1 e2 => noA (i + 1) (C b).2.2 b (.inl (by omega)) (by rw [← e1, ← e2])) hagr⟩
    · rw [if_neg hlt] at hi'
      have hi0 : i = S.fs.length := by
        have := (List.getElem?_eq_some_iff.1 hi').1
        simp at this
        omega
      subst hi0
      simp at hi'
      subst hi'
      rw [a1]
      exact ⟨_, _, _, [], ⟨f5, by simp, BAt.nil _ _ _, World.ownsRow_nil _ _ _ _, (fun b hb => by cases hb), (fun j s hj => by simp at hj), BAt.nil _ _ _⟩⟩
theorem err72 {S : Dsk} {s : ByteArray} (h : S.err s = 72) : S.off = false ∧ named s = true ∧ S.see s = none := by
  unfold Dsk.err at h
  split at h
  · cases h
  · split at h
    · split at h
      · cases h
      · rename_i h1 h2 h3; exact ⟨by simpa using h1, h2, by simpa using h3⟩
    · cases h
set_option maxRecDepth 100000 in
theorem create_any {w : World} {C : Col} {δ d N : Nat} {S : Dsk} (h : DskAt w C δ d N S) (s : ByteArray) (hs : s.size ≤ 9223372036854775807) (hN : N + 1 ≤ 1000000000000) :
    Calls Try.prog 10 #[.pointer (some ⟨d, 0, none⟩), .string s] w (OpPost C δ d (N + 1) (S.creD s) (.int .i64 (S.creE s)) w) := by
  have hD := Lib.hid h
  obtain ⟨h0, ml, ms, vm, vd, ad, h⟩ := h
  have H := Lib.hid h
  by_cases c : S.err s = 72
  · have hn := (err72 c).2.1
    have X := Lib.hid (show S.err s = 72 ∧ S.found s = none by simp [Dsk.found, c])
    have HE : Hid (S.creE s = S.chgE) := Lib.hid (by simp [Dsk.creE, c])
    by_cases c1 : S.chgN = 0
    · have HD : Hid (S.creD s = S.chgD) := Lib.hid (by simp [Dsk.creD, c, c1])
      have b1 : (S.chgN != 0) = false := by simp [c1]
      have H0 := Lib.hid h0
      clear h h0 c c1 hn
      go_enter Try.func10, Try.ntmps10
      go_wp2_with (first
        | (go_at_call 28; refine (find_any S s ad N w d ml ms vm vd H.out.blk H.out.see hs).mono ?_; rintro e w' ⟨rfl, rfl⟩; rw [X.out.1, X.out.2]; simp only [ptrV, Option.map_none])
        | (go_at_call 29; refine (change_any S _ d ml ms vm vd H.out.blk H0.out.arm).mono ?_; rintro e w1 hp; have HP := Lib.hid (chg_op H0.out H.out hp (show N ≤ N + 1 by omega) (.int .i64 S.chgE)); obtain ⟨rfl, hp2, hp3⟩ := hp; clear hp2 hp3))
      go_ret
      rw [HE.out, HD.out]
      exact HP.out
    · have HD : Hid (S.creD s = S.chgD.newFile s) := Lib.hid (by simp [Dsk.creD, c, c1])
      have b1 : (S.chgN != 0) = true := by simp [c1]
      obtain ⟨hn40, hn0⟩ := named_le hn
      have hml := maxLen_ge hn40
      have hN1 : N < maxLen := by simp only [maxLen]; omega
      have hl1 : S.made.length ≤ 1000000000000 := by have := h0.len; have := h0.nfs; omega
      have hl2 : S.mvs.length ≤ 1000000000000 := by have := h0.nmv; omega
      obtain ⟨A1, c1', rfl⟩ := own_slice h.mv
      obtain ⟨A2, c2', rfl⟩ := own_slice h.md
      obtain ⟨i66, hi66, hz66, h661, h662⟩ := info_parts Try.info66
      obtain ⟨i74, hi74, hz74, h741, h742⟩ := info_parts Try.info74
      have H0 := Lib.hid (And.intro h0 (And.intro hn40 hn0))
      clear h h0 c c1 hn hn40 hn0
      go_enter Try.func10, Try.ntmps10
      go_upto_region 10 with (first
        | (go_at_call 28; refine (find_any S s ad N w d ml ms _ _ H.out.blk H.out.see hs).mono ?_; rintro e w' ⟨rfl, rfl⟩; rw [X.out.1, X.out.2]; simp only [ptrV, Option.map_none])
        | (go_at_call 29; refine (change_any S _ d ml ms _ _ H.out.blk H0.out.1.arm).mono ?_; rintro e w1 hp; have HP := Lib.hid (H.out.chg hp); have HK1 := Lib.hid (kept_self H.out.cd hp.2.2); obtain ⟨rfl, hp2, hp3⟩ := hp; clear hp2 hp3))
      obtain ⟨ad', a1, a2⟩ : ∃ ad' : Nat → Nat, ad' S.fs.length = w1.heap.size ∧ ∀ i, i ≠ S.fs.length → ad' i = ad i := ⟨fun i => if i = S.fs.length then w1.heap.size else ad i, by simp, fun i hi => by simp [hi]⟩
      have HA := Lib.hid (And.intro a1 a2)
      have hf := chgD_fs S
      have HF := Lib.hid hf
      have B2 := DBlk.kept (show DBlk w1 d ml ms _ _ _ _ _ _ from HP.out.blk) (Kept.alloc (fun _ => False) w1 (.cells #[.slice none 0 0, .slice none 0 0, .slice none 0 0] 72)) (fun e => e)
      have M2 := own_kept (show w1.ownsRow 0 66 1 (.slice A2 S.made.length c2') S.made.length (mdC ad S.made) by have := HP.out.md; rw [hf.2.1] at this; exact this) (Kept.alloc (fun _ => False) w1 (.cells #[.slice none 0 0, .slice none 0 0, .slice none 0 0] 72)) (fun _ _ e => e)
      obtain ⟨W2, hW⟩ : ∃ W2, W2 = w1.alloc (.cells #[.slice none 0 0, .slice none 0 0, .slice none 0 0] 72) := ⟨_, rfl⟩
      obtain ⟨ax, hax⟩ : ∃ ax, ax = w1.heap.size := ⟨_, rfl⟩
      have HW := Lib.hid (And.intro hW hax)
      rw [← hW] at B2 M2 ⊢
      rw [← hax]
      have q3 := B2.c3
      have G2 := Lib.hid (And.intro B2 M2)
      clear B2 M2 a1 a2 hf hW hax
      have hone : ∀ z ∈ (#[Value.pointer (some ⟨ax, 0, none⟩)]).toList, z.oneCell' = true := by simp [Value.oneCell']
      have hone2 : ∀ z ∈ (#[Value.string noStr, .string s, Value.pointer (some ⟨ax, 0, none⟩)]).toList, z.oneCell' = true := by simp [Value.oneCell']
      go_upto_region 11 with (at_builtin; refine wpList_append_long rfl _ _ 63 rfl 0 66 i66 (.pointer none) 1 8 Try.underlying63 hi66 hz66 h661 h662 rfl (by decide) (.slice A2 S.made.length c2') S.made.length (mdC ad S.made) #[.pointer (some ⟨ax, 0, none⟩)] 1 rfl rfl rfl hone G2.out.2 hl1 (by decide) (Nat.zero_le _) ?_; intro A3 c3 W3 r1 r2 r3; obtain ⟨y1, y2, y3⟩ := st_made G2.out.1 G2.out.2 r1 r2; have T3 := Lib.hid (row_moved r3); have G3 := Lib.hid y3; clear y3 r1 r2 r3)
      obtain ⟨W3', hW3⟩ : ∃ W3', W3' = W3.setCell ⟨d, 3, none⟩ (.slice A3 (S.made.length + 1) c3) := ⟨_, rfl⟩
      rw [← hW3] at G3 ⊢
      clear hW3 y1 y2 q3 hone
      have q2 := G3.out.1.c2
      have NM3 : Hid (NmAt W3' ms N ad' S.see) := Lib.hid (by
        have h1 : NmAt W2 ms N ad S.see := by
          have := HP.out.see.kept (Kept.alloc (fun _ => False) w1 (.cells #[.slice none 0 0, .slice none 0 0, .slice none 0 0] 72)) (fun e => e)
          rw [HF.out.2.2.1, ← HW.out.1] at this
          exact this
        refine (h1.kept G3.out.2.2 ?_).congr fun t i hi => HA.out.2 i ?_
        · rintro (e | e)
          · exact h1.ne_blk G2.out.1 e
          · exact h1.ne_own G2.out.2 e
        · have := getD_lt (H0.out.1.rs t i hi)
          have := H0.out.1.len
          omega)
      go_upto_region 12 with (at_mapUpdate; refine wpList_put rfl _ _ _ rfl ms N ad' S.see s S.fs.length rfl rfl (by rw [HA.out.1, ← HW.out.2]; rfl) NM3.out hml hN1 ?_; intro W4 r1 r2 r3; have G4 := Lib.hid (And.intro r1 r2); clear r1 r2 r3)
      clear q2
      have G5 : Hid (DBlk W4 d ml ms (.slice A1 S.mvs.length c1') (.slice A3 (S.made.length + 1) c3) S.chgD.off S.chgD.arm S.chgD.how S.chgD.uni ∧ W4.ownsRow 0 74 3 (.slice A1 S.mvs.length c1') S.mvs.length (S.mvs.flatMap (mvC ad))) := Lib.hid (by
        have k4 : Kept (fun b => b = ms) W3' W4 := Kept.of_grown G4.out.2 fun k e => by injection e with e; exact e.symm
        refine ⟨G3.out.1.kept k4 (NM3.out.ne_blk G3.out.1).symm, ?_⟩
        have h1 : W2.ownsRow 0 74 3 (.slice A1 S.mvs.length c1') S.mvs.length (S.mvs.flatMap (mvC ad)) := by
          have := own_kept HP.out.mv (Kept.alloc (fun _ => False) w1 (.cells #[.slice none 0 0, .slice none 0 0, .slice none 0 0] 72)) (fun _ _ e => e)
          rw [HF.out.2.2.2.2, ← HW.out.1] at this
          exact this
        have h2 := own_kept h1 G3.out.2.2 (fun b hb e => by
          rcases e with rfl | e
          · exact own_ne h1 G2.out.1 (by decide) hb
          · exact row_apart' h1 G2.out.2 (by decide) b hb e)
        exact own_kept h2 k4 (fun b hb e => by subst e; exact NM3.out.ne_own h2 hb))
      have q1 := G5.out.1.c1
      go_wp2_with (at_builtin; refine wpList_append_long rfl _ _ 62 rfl 0 74 i74 (.agg #[.string ⟨#[]⟩, .string ⟨#[]⟩, .pointer none]) 3 40 Try.underlying62 hi74 hz74 h741 h742 rfl (by decide) (.slice A1 S.mvs.length c1') S.mvs.length (S.mvs.flatMap (mvC ad)) #[.string noStr, .string s, .pointer (some ⟨ax, 0, none⟩)] 1 rfl rfl rfl hone2 G5.out.2 hl2 (by decide) (Nat.zero_le _) ?_; intro A5 c5 W5 r1 r2 r3; obtain ⟨y1, y2, y3⟩ := st_moves G5.out.1 G5.out.2 r1 r2; have T5 := Lib.hid (row_moved r3); have G6 := Lib.hid y3; clear y3 r1 r2 r3)
      go_ret
      rw [HE.out, HD.out]
      have hf := HF.out
      have hw := HW.out
      refine create_end (vm := .slice A1 S.mvs.length c1') (vd := .slice A2 S.made.length c2') (vm' := .slice A5 (S.mvs.length + 1) c5) (vd' := .slice A3 (S.made.length + 1) c3) (ad := ad) (ad' := ad') (w1 := w1) (W3 := W3') (W4 := W4) (chgD_ok H0.out.1) HP.out H0.out.2 HK1.out ?_ ?_ ?_ ?_ ?_ G3.out.1 ?_ G4.out.2 G6.out.1 ?_ G6.out.2.2 T5.out _
      · rw [hf.1]; exact HA.out.1
      · rw [hf.1]; exact HA.out.2
      · rw [hf.2.1, ← hw.2]; exact G3.out.2.1
      · rw [← hw.1]; exact G3.out.2.2
      · rw [← hw.1]; exact T3.out
      · rw [hf.2.2.1, hf.1]; exact G4.out.1
      · rw [hf.2.2.2.2, ← hw.2]; exact G6.out.2.1
  · by_cases c2 : S.err s = 0
    · have X := Lib.hid (show S.creE s = 73 ∧ S.creD s = S by simp [Dsk.creE, Dsk.creD, c2])
      obtain ⟨i, hi⟩ := Option.isSome_iff_exists.1 (err0 c2).2.2
      have Y := Lib.hid (show S.err s = 0 ∧ S.found s = some i by simp [Dsk.found, c2, hi])
      clear h h0 c c2 hi
      go_enter Try.func10, Try.ntmps10
      go_wp2_with (go_at_call 28; refine (find_any S s ad N w d ml ms vm vd H.out.blk H.out.see hs).mono ?_; rintro e w' ⟨rfl, rfl⟩; rw [Y.out.1, Y.out.2]; simp only [ptrV, Option.map_some])
      go_ret
      rw [X.out.1, X.out.2]
      exact same_op hD.out (by omega) _
    · have X := Lib.hid (show S.creE s = S.err s ∧ S.creD s = S ∧ S.found s = none by simp [Dsk.creE, Dsk.creD, Dsk.found, c, c2])
      obtain ⟨x, hx⟩ : ∃ x, x = S.err s := ⟨_, rfl⟩
      have HX := Lib.hid hx
      rw [← hx] at c c2
      have b1 := ne_b c
      have b2 := ne_b c2
      clear h h0 hx
      go_enter Try.func10, Try.ntmps10
      go_wp2_with (go_at_call 28; refine (find_any S s ad N w d ml ms vm vd H.out.blk H.out.see hs).mono ?_; rintro e w' ⟨rfl, rfl⟩; rw [← HX.out, X.out.2.2]; simp only [ptrV, Option.map_none])
      go_ret
      rw [X.out.1, X.out.2.1, ← HX.out]
      exact same_op hD.out (by omega) _
end Go.Proofs.Ytgohjgeplageeaa
