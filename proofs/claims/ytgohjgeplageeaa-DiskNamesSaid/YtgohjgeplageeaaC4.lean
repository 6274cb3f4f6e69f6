/- Copy, walked. -/
import Derived.Test.YtgohjgeplageeaaC3
namespace Go.Proofs.Ytgohjgeplageeaa
open Go Go.RowKit
set_option linter.unusedVariables false
set_option linter.unusedSimpArgs false
attribute [local go_sem ↓] Go.wp_at_zero Go.wp_at_succ

def CopyPost (C : Col) (δ N : Nat) (S : Dsk) (w : World) (e : Ending) (w' : World) : Prop :=
  ∃ cb C', e = .returned (.pointer (some ⟨cb, 0, none⟩)) ∧ Kept (fun _ => False) w w' ∧ Agr w C C' ∧ DskAt w' C' δ cb N S
theorem put_left {f : Nm} {L : ByteArray → Bool} {s : ByteArray} {i : Nat} (hi : f s = some i) : Nm.put (fun t => if L t = true then none else f t) s i = fun t => if (L t && decide (t ≠ s)) = true then none else f t := by
  funext t
  unfold Nm.put
  by_cases e : t = s
  · subst e; simp [hi]
  · simp [e]
theorem all_left {f : Nm} {L : ByteArray → Bool} (h : ∀ t, L t = false) : (fun t => if L t = true then none else f t) = f := by
  funext t; simp [h t]
theorem none_left {f : Nm} : (fun t => if (f t).isSome = true then none else f t) = fun _ => none := by
  funext t
  cases e : f t <;> simp
section
variable {w0 w w' : World} {C0 C C' : Col} {S : Dsk} {ad : Nat → Nat} {δ tc tb cb l s k1 k2 : Nat} {T T' : Nat → Option Nat} {vm vd : Value} {f1 f2 : Nm} {mv : List Mv} {md : List Bool}
theorem CpAll.monoL (h : CpAll w0 C0 S ad δ tc tb cb l s k1 k2 T C w vm vd f1 f2 mv md) {k1' : Nat} (hk : k1 ≤ k1') : CpAll w0 C0 S ad δ tc tb cb l s k1' k2 T C w vm vd f1 f2 mv md := { h with las := h.las.mono hk }
theorem CpAll.monoS (h : CpAll w0 C0 S ad δ tc tb cb l s k1 k2 T C w vm vd f1 f2 mv md) {k2' : Nat} (hk : k2 ≤ k2') : CpAll w0 C0 S ad δ tc tb cb l s k1 k2' T C w vm vd f1 f2 mv md := { h with see := h.see.mono hk }
theorem CpAll.ne_map (h : CpAll w0 C0 S ad δ tc tb cb l s k1 k2 T C w vm vd f1 f2 mv md) {r : Nat} (hr : ∃ a b c d, w.heap[r]? = some (.mapIter a b c d)) : r ≠ tb ∧ r ≠ tc ∧ r ≠ l ∧ r ≠ s := by
  obtain ⟨a1, a2, a3, a4, hr⟩ := hr
  refine ⟨?_, ?_, ?_, ?_⟩
  · rintro rfl
    obtain ⟨K, ⟨es, c, hb, _⟩, _⟩ := h.st.tw
    rw [hb] at hr; cases hr
  · rintro rfl
    rw [h.st.cell] at hr; cases hr
  · rintro rfl
    obtain ⟨n, D, _, ⟨es, c, hb, _⟩, _⟩ := h.las
    rw [hb] at hr; cases hr
  · rintro rfl
    obtain ⟨n, D, _, ⟨es, c, hb, _⟩, _⟩ := h.see
    rw [hb] at hr; cases hr
/-- An iterator goes on. -/
theorem CpAll.step (h : CpAll w0 C0 S ad δ tc tb cb l s k1 k2 T C w vm vd f1 f2 mv md) {r : Nat} (hr : ∃ a b c d, w.heap[r]? = some (.mapIter a b c d)) (hrw : w0.heap.size ≤ r) (hcr : (C r).1 ≠ δ) (hg : w.grownBy w' (some r)) : CpAll w0 C0 S ad δ tc tb cb l s k1 k2 T C w' vm vd f1 f2 mv md := by
  have hk : Kept (fun b => b = r) w w' := Kept.of_grown hg fun k e => by injection e with e; exact e.symm
  obtain ⟨n1, n2, n3, n4⟩ := h.ne_map hr
  exact h.later hk (Agr.refl _ _) (fun b e e2 => hcr (by rw [← e2]; exact e)) (fun e => n1 e.symm) (fun e => n2 e.symm) (fun b e => by omega)
/-- Nothing of what was there turns. -/
theorem CpAll.quiet (h : CpAll w0 C0 S ad δ tc tb cb l s k1 k2 T C w vm vd f1 f2 mv md) (hk : Kept (fun _ => False) w w') (hC : Agr w C C') : CpAll w0 C0 S ad δ tc tb cb l s k1 k2 T C' w' vm vd f1 f2 mv md :=
  h.later hk hC (fun _ _ e => e) (fun e => e) (fun e => e) (fun _ e => e.elim)
end
theorem cp_start (w : World) (C : Col) (S : Dsk) (ad : Nat → Nat) (δ : Nat) :
    ∃ C1, CpAll w C S ad δ (w.heap.size + 1) w.heap.size (w.heap.size + 2) (w.heap.size + 3) (w.heap.size + 4) 0 0 (fun _ => none) C1 (((((w.alloc (.map #[] 0)).alloc (.cells #[.map (some w.heap.size)] 87)).alloc (.cells #[.map (some (w.heap.size + 3)), .slice none 0 0, .map (some (w.heap.size + 4)), .slice none 0 0, .bool S.off, .int .i64 S.arm, .int .i64 S.how, .int .i64 S.uni] 65)).alloc (.map #[] 0)).alloc (.map #[] 0)) (.slice none 0 0) (.slice none 0 0) (fun _ => none) (fun _ => none) [] [] ∧
      ∀ b, w.heap.size + 5 ≤ b → (C1 b).1 ≠ δ := by
  refine ⟨fun b => if b < w.heap.size then C b else if b = w.heap.size + 2 then (δ, 0, 0) else if b = w.heap.size + 3 then (δ, 0, 1) else if b = w.heap.size + 4 then (δ, 0, 2) else (δ + 1, 0, 0), ?_, ?_⟩
  · have hA : Agr w C (fun b => if b < w.heap.size then C b else if b = w.heap.size + 2 then (δ, 0, 0) else if b = w.heap.size + 3 then (δ, 0, 1) else if b = w.heap.size + 4 then (δ, 0, 2) else (δ + 1, 0, 0)) := fun b hb => by simp [hb]
    obtain ⟨W1, hW1⟩ : ∃ W1, W1 = w.alloc (.map #[] 0) := ⟨_, rfl⟩
    have s1 : W1.heap.size = w.heap.size + 1 := by rw [hW1]; simp
    have kk1 : Kept (fun _ => False) w W1 := by rw [hW1]; exact Kept.alloc _ _ _
    have t1 : TwAt W1 w.heap.size ad fun _ => none := by rw [hW1]; exact TwAt.new w ad
    obtain ⟨W2, hW2⟩ : ∃ W2, W2 = W1.alloc (.cells #[.map (some w.heap.size)] 87) := ⟨_, rfl⟩
    have s2 : W2.heap.size = w.heap.size + 2 := by rw [hW2]; simp; omega
    have kk2 : Kept (fun _ => False) W1 W2 := by rw [hW2]; exact Kept.alloc _ _ _
    have t2 : W2.heap[w.heap.size + 1]? = some (.cells #[.map (some w.heap.size)] 87 (0, 0)) := by have := heap_alloc_new W1 (.cells #[.map (some w.heap.size)] 87); rw [← hW2, s1] at this; exact this
    obtain ⟨W3, hW3⟩ : ∃ W3, W3 = W2.alloc (.cells #[.map (some (w.heap.size + 3)), .slice none 0 0, .map (some (w.heap.size + 4)), .slice none 0 0, .bool S.off, .int .i64 S.arm, .int .i64 S.how, .int .i64 S.uni] 65) := ⟨_, rfl⟩
    have s3 : W3.heap.size = w.heap.size + 3 := by rw [hW3]; simp; omega
    have kk3 : Kept (fun _ => False) W2 W3 := by rw [hW3]; exact Kept.alloc _ _ _
    have t3 : DBlk W3 (w.heap.size + 2) (w.heap.size + 3) (w.heap.size + 4) (.slice none 0 0) (.slice none 0 0) S.off S.arm S.how S.uni := by have := heap_alloc_new W2 (.cells #[.map (some (w.heap.size + 3)), .slice none 0 0, .map (some (w.heap.size + 4)), .slice none 0 0, .bool S.off, .int .i64 S.arm, .int .i64 S.how, .int .i64 S.uni] 65); rw [← hW3, s2] at this; exact this
    obtain ⟨W4, hW4⟩ : ∃ W4, W4 = W3.alloc (.map #[] 0) := ⟨_, rfl⟩
    have s4 : W4.heap.size = w.heap.size + 4 := by rw [hW4]; simp; omega
    have kk4 : Kept (fun _ => False) W3 W4 := by rw [hW4]; exact Kept.alloc _ _ _
    have t4 : NmAt W4 (w.heap.size + 3) 0 (adT fun _ => none) (fun _ => none) := by have := NmAt.new W3 (adT fun _ => none); rw [← hW4, s3] at this; exact this
    obtain ⟨W5, hW5⟩ : ∃ W5, W5 = W4.alloc (.map #[] 0) := ⟨_, rfl⟩
    have s5 : W5.heap.size = w.heap.size + 5 := by rw [hW5]; simp; omega
    have kk5 : Kept (fun _ => False) W4 W5 := by rw [hW5]; exact Kept.alloc _ _ _
    have t5 : NmAt W5 (w.heap.size + 4) 0 (adT fun _ => none) (fun _ => none) := by have := NmAt.new W4 (adT fun _ => none); rw [← hW5, s4] at this; exact this
    rw [← hW1, ← hW2, ← hW3, ← hW4, ← hW5]
    have k35 := kept0 (kept0 kk3 kk4) kk5
    have k25 := kept0 kk2 k35
    have k15 := kept0 kk1 k25
    refine ⟨⟨k15, hA, t1.kept k25 (fun e => e), blk_kept k35 t2 (fun e => e), by simp, Nat.le_refl _, by omega, (fun i t hi => by cases hi)⟩, t3.kept (kept0 kk4 kk5) (fun e => e), (by simp; omega), (by simp; omega), (by simp; omega), t4.kept kk5 (fun e => e), t5, World.ownsRow_nil _ _ _ _, (fun b hb => by cases hb), World.ownsRow_nil _ _ _ _, (fun b hb => by cases hb), (fun t i hi => by cases hi), (fun t i hi => by cases hi), (fun m i hm => by cases hm), (fun i hi => by cases hi), by omega, by omega, by omega, (fun b hb => by cases hb), (fun b hb => by cases hb)⟩
  · intro b hb
    simp [show ¬ b < w.heap.size by omega, show b ≠ w.heap.size + 2 by omega, show b ≠ w.heap.size + 3 by omega, show b ≠ w.heap.size + 4 by omega]
set_option maxHeartbeats 8000000 in
set_option maxRecDepth 100000 in
theorem copy_any {w : World} {C : Col} {δ d N : Nat} {S : Dsk} (h : DskAt w C δ d N S) (δ' : Nat) (hN : N ≤ 1000000000000) :
    Calls Try.prog 21 #[.pointer (some ⟨d, 0, none⟩)] w (CopyPost C δ' N S w) := by
  obtain ⟨h0, ml, ms, vm, vd, ad, h⟩ := h
  obtain ⟨Am, cm, rfl⟩ := own_slice h.mv
  obtain ⟨Ad, cd, rfl⟩ := own_slice h.md
  have hB : ∀ o o', DBlk ((w.alloc o).alloc o') d ml ms (.slice Am S.mvs.length cm) (.slice Ad S.made.length cd) S.off S.arm S.how S.uni := fun o o' => DBlk.kept (DBlk.kept h.blk (Kept.alloc (fun _ => False) w o) (fun e => e)) (Kept.alloc (fun _ => False) _ o') (fun e => e)
  have q0 := fun o o' => (hB o o').c0
  have q1 := fun o o' => (hB o o').c1
  have q2 := fun o o' => (hB o o').c2
  have q3 := fun o o' => (hB o o').c3
  have q4 := fun o o' => (hB o o').c4
  have q5 := fun o o' => (hB o o').c5
  have q6 := fun o o' => (hB o o').c6
  have q7 := fun o o' => (hB o o').c7
  have hmk := fun (t : TypeId) (W : World) => run_makeMap (P := Try.prog) t W
  have hmf : ∀ (fn : Fn) (first cap : Array Value) (w : World), (Instr.makeFunc fn first cap).run Try.prog w = .ok (.func fn first cap) w := fun _ _ _ _ => rfl
  have H := Lib.hid (And.intro h0 h)
  have hlas := h.las.lt
  have hsee := h.see.lt
  have hnm : N - S.mvs.length ≤ N := Nat.sub_le _ _
  obtain ⟨C1, hst, hcn⟩ := cp_start w C S ad δ'
  have HS := Lib.hid (And.intro hst hcn)
  clear h0 h hB hst hcn
  go_enter Try.func21, Try.ntmps21
  go_upto_region 5 with fail
  obtain ⟨W5, hW5⟩ : ∃ W5, W5 = (((((w.alloc (.map #[] 0)).alloc (.cells #[.map (some w.heap.size)] 87)).alloc (.cells #[.map (some (w.heap.size + 1 + 1 + 1)), .slice none 0 0, .map (some (w.heap.size + 1 + 1 + 1 + 1)), .slice none 0 0, .bool S.off, .int .i64 S.arm, .int .i64 S.how, .int .i64 S.uni] 65)).alloc (.map #[] 0)).alloc (.map #[] 0)) := ⟨_, rfl⟩
  rw [← hW5]
  have hs5 : W5.heap.size = w.heap.size + 5 := by rw [hW5]; simp
  have HS2 : CpAll w C S ad δ' (w.heap.size + 1) w.heap.size (w.heap.size + 1 + 1) (w.heap.size + 1 + 1 + 1) (w.heap.size + 1 + 1 + 1 + 1) 0 0 (fun _ => none) C1 W5 (.slice none 0 0) (.slice none 0 0) (fun _ => none) (fun _ => none) [] [] := by rw [hW5]; exact HS.out.1
  have hcn := HS.out.2
  obtain ⟨tb, htb⟩ : ∃ tb, tb = w.heap.size := ⟨_, rfl⟩
  obtain ⟨s, hs⟩ : ∃ s, s = w.heap.size + 1 + 1 + 1 + 1 := ⟨_, rfl⟩
  obtain ⟨l, hl⟩ : ∃ l, l = w.heap.size + 1 + 1 + 1 := ⟨_, rfl⟩
  obtain ⟨cb, hcb⟩ : ∃ cb, cb = w.heap.size + 1 + 1 := ⟨_, rfl⟩
  obtain ⟨tc, htc⟩ : ∃ tc, tc = w.heap.size + 1 := ⟨_, rfl⟩
  rw [← hs, ← hl, ← hcb, ← htc] at HS2 ⊢
  have HH : Hid (CpAll w C S ad δ' tc tb cb l s 0 0 (fun _ => none) C1 W5 (.slice none 0 0) (.slice none 0 0) (fun _ => none) (fun _ => none) [] [] ∧ (∀ b, w.heap.size + 5 ≤ b → (C1 b).1 ≠ δ') ∧ W5.heap.size = w.heap.size + 5) := Lib.hid ⟨by rw [htb]; exact HS2, hcn, hs5⟩
  have hwl : w.heap.size ≤ l := by omega
  have hws : w.heap.size ≤ s := by omega
  have hlls : ml ≠ l ∧ ml ≠ s ∧ ml ≠ tb ∧ ms ≠ l ∧ ms ≠ s ∧ ms ≠ tb := by omega
  clear q0 q1 q2 q3 q4 q5 q6 q7 HS HS2 hcn hW5 hs5 htb htc hcb hl hs hmk hmf
  have q0 := (DBlk.kept H.out.2.blk HH.out.1.st.kept (fun e => e)).c0
  go_wp2_with (first | (at_range; refine wpList_range_names rfl _ rfl ml (N - S.mvs.length) ad S.las rfl (H.out.2.las.kept HH.out.1.st.kept (fun e => e)) ?_; intro W6 c1 r1 r2 r3; have G1 := Lib.hid (And.intro r1 (And.intro r2 r3)); clear r1 r2 r3) | go_in)
  obtain ⟨r1, hr1⟩ : ∃ r, r = W5.heap.size := ⟨_, rfl⟩
  rw [← hr1] at G1 ⊢
  have HR1 := Lib.hid hr1
  clear hr1 q0
  have hrw1 : w.heap.size ≤ r1 := by rw [HR1.out]; have := HH.out.2.2; omega
  have hit0 := G1.out.1.iter
  have hcm1 := G1.out.1.cnt_le
  go_loopw [] (fun wv => ∃ L c T C', NmRg wv ml r1 (N - S.mvs.length) ad S.las L c ∧ CpAll w C S ad δ' tc tb cb l s (c1 - c) (0) T C' wv (.slice none 0 0) (.slice none 0 0) (fun t => if L t = true then none else S.las t) (fun _ => none) [] [] ∧ c ≤ c1 ∧ (C' r1).1 ≠ δ') (fun wv => wv.rangeLeft ml r1)
  case atStart =>
    refine ⟨_, c1, fun _ => none, C1, G1.out.1, ?_, Nat.le_refl _, HH.out.2.1 r1 (by rw [HR1.out, HH.out.2.2]; exact Nat.le_refl _)⟩
    rw [none_left, Nat.sub_self]
    exact HH.out.1.quiet (grown_none G1.out.2.1) (Agr.refl _ _)
  case round =>
    obtain ⟨L, c, T, C', hrg, hcp, hcc, hcr⟩ := hrel
    have hleft := hrg.left_eq
    have hit := hrg.iter
    have x2 := (DBlk.kept H.out.2.blk hcp.st.kept (fun e => e)).c2
    have E1 := Lib.hid (And.intro hrg (And.intro hcp (And.intro hcc (And.intro hcr (And.intro hleft hit)))))
    clear hrg hcp hcc hcr hleft hit hit0
    go_wp2_with (first
      | (at_next; refine wpList_next_names rfl _ rfl ml r1 (N - S.mvs.length) ad S.las L c rfl E1.out.1 ?_ ?_; all_goals (first | (intro hc0 hl0; have HL1 : Hid (∀ t, L t = false) := Lib.hid hl0; have HC1 := Lib.hid hc0; clear hc0 hl0) | (intro t i w4 c4 hi hL hsz hrg4 hlt4 hg4 hs4 hen; have E4 := Lib.hid (And.intro hi (And.intro hL (And.intro hsz (And.intro hrg4 (And.intro hlt4 hg4))))); have hcp4 := E1.out.2.1.step E1.out.2.2.2.2.2 hrw1 E1.out.2.2.2.1 hg4; have y0 := hcp4.blk.c0; have HCP4 := Lib.hid hcp4; clear hi hL hsz hrg4 hlt4 hg4 hs4 hcp4)))
      | (at_range; refine wpList_range_names rfl _ rfl ms N ad S.see rfl (H.out.2.see.kept E1.out.2.1.st.kept (fun e => e)) ?_; intro W7 c2 p1 p2 p3; have G2 := Lib.hid (And.intro p1 (And.intro p2 p3)); clear p1 p2 p3))
    rotate_left
    · have y0d : w4.drew.cell? _ = _ := y0
      go_region_law (go_simp; go_at_call 40; refine (of_any H.out.1 H.out.2 hN (HCP4.out.quiet (Kept.drew _ _) (Agr.refl _ _)).st i (H.out.1.rl t i E4.out.1)).mono ?_; rintro e w5 ⟨u, T', C'', rfl, g1, g2, g3, g4, g5⟩; have hcp5 := (HCP4.out.quiet (Kept.drew _ _) (Agr.refl _ _)).more g2 g3 g4 g5; obtain ⟨w6, hup, p1, p2, p3⟩ := hcp5.las.put (s := t) E4.out.2.2.1 (show c1 - c < maxLen by simp only [maxLen]; omega) i; have hu : adT T' i = u := by simp [adT, g1]
                     rw [hu] at hup; have y5 := hcp5.blk.c0; have HQ := Lib.hid (And.intro hcp5 (And.intro p1 (And.intro p2 (And.intro g1 (And.intro g4 g5))))); clear hcp5 p1 p2 p3 g1 g2 g3 g4 g5 hu)
      all_goals
        clear y0 y0d x2 hup y5 hen
        go_wp2_with fail
        obtain ⟨hcp5, p1, p2, g1, g4, g5⟩ := HQ.out
        obtain ⟨hi, hL, hsz, hrg4, hlt4, hg4⟩ := E4.out
        have hcc := E1.out.2.2.1
        obtain ⟨z1, z2, z3, z4⟩ := HCP4.out.ne_map hrg4.iter
        have k6 : Kept (fun b => b = l) w5 w6 := Kept.of_grown p2 fun k e => by injection e with e; exact e.symm
        have hrg6 := ((hrg4.kept (Kept.drew (fun _ => False) _) (fun e => e) (fun e => e)).kept g5 (by omega) z1).kept k6 (by omega) z3
        have hcp6 := hcp5.putL (by rw [g1]; rfl) p1 p2
        rw [put_left hi] at hcp6
        refine ⟨⟨_, c4, T', C'', hrg6, hcp6.monoL (by omega), by omega, ?_⟩, ?_⟩
        · rw [g4 r1 hrg4.lt]; exact E1.out.2.2.2.1
        · rw [hrg6.left_eq, E1.out.2.2.2.2.1]; exact hlt4
    · go_frame
      obtain ⟨r2, hr2⟩ : ∃ r, r = wr.heap.size := ⟨_, rfl⟩
      have hsw := E1.out.2.1.st.kept.size
      have B2 : Hid (CpAll w C S ad δ' tc tb cb l s (N - S.mvs.length) 0 T (C'.new wr.heap.size (δ' + 1, 0, 0)) wr (.slice none 0 0) (.slice none 0 0) S.las (fun _ => none) [] [] ∧ ((C'.new wr.heap.size (δ' + 1, 0, 0)) wr.heap.size).1 ≠ δ') := Lib.hid ⟨by
        have h1 := E1.out.2.1
        rw [all_left HL1.out] at h1
        exact (h1.monoL (by omega)).quiet (.refl _ _) (Agr.new _ _ _), by rw [Col.new_ge (Nat.le_refl _)]; exact Nat.succ_ne_self δ'⟩
      rw [← hr2] at B2 G2 ⊢
      have hrw2 : w.heap.size ≤ r2 := by omega
      clear hr2 hsw E1 HL1 HC1 G1 HR1 hcm1 hrw1

      have hit0 := G2.out.1.iter
      have hcm2 := G2.out.1.cnt_le
      go_loopw [] (fun wv => ∃ L c T C', NmRg wv ms r2 (N) ad S.see L c ∧ CpAll w C S ad δ' tc tb cb l s (N - S.mvs.length) (c2 - c) T C' wv (.slice none 0 0) (.slice none 0 0) (S.las) (fun t => if L t = true then none else S.see t) [] [] ∧ c ≤ c2 ∧ (C' r2).1 ≠ δ') (fun wv => wv.rangeLeft ms r2)
      case atStart =>
        refine ⟨_, c2, T, _, G2.out.1, ?_, Nat.le_refl _, B2.out.2⟩
        rw [none_left, Nat.sub_self]
        exact B2.out.1.quiet (grown_none G2.out.2.1) (Agr.refl _ _)
      case round =>
        obtain ⟨L, c, T, C', hrg, hcp, hcc, hcr⟩ := hrel
        have hleft := hrg.left_eq
        have hit := hrg.iter
        have x2 := (DBlk.kept H.out.2.blk hcp.st.kept (fun e => e)).c1
        have E2 := Lib.hid (And.intro hrg (And.intro hcp (And.intro hcc (And.intro hcr (And.intro hleft hit)))))
        clear hrg hcp hcc hcr hleft hit hit0
        go_wp2_with (first
          | (at_next; refine wpList_next_names rfl _ rfl ms r2 (N) ad S.see L c rfl E2.out.1 ?_ ?_; all_goals (first | (intro hc0 hl0; have HL2 : Hid (∀ t, L t = false) := Lib.hid hl0; have HC2 := Lib.hid hc0; clear hc0 hl0) | (intro t i w4 c4 hi hL hsz hrg4 hlt4 hg4 hs4 hen; have E4 := Lib.hid (And.intro hi (And.intro hL (And.intro hsz (And.intro hrg4 (And.intro hlt4 hg4))))); have hcp4 := E2.out.2.1.step E2.out.2.2.2.2.2 hrw2 E2.out.2.2.2.1 hg4; have y0 := hcp4.blk.c2; have HCP4 := Lib.hid hcp4; clear hi hL hsz hrg4 hlt4 hg4 hs4 hcp4))))
        rotate_left
        · have y0d : w4.drew.cell? _ = _ := y0
          go_region_law (go_simp; go_at_call 40; refine (of_any H.out.1 H.out.2 hN (HCP4.out.quiet (Kept.drew _ _) (Agr.refl _ _)).st i (H.out.1.rs t i E4.out.1)).mono ?_; rintro e w5 ⟨u, T', C'', rfl, g1, g2, g3, g4, g5⟩; have hcp5 := (HCP4.out.quiet (Kept.drew _ _) (Agr.refl _ _)).more g2 g3 g4 g5; obtain ⟨w6, hup, p1, p2, p3⟩ := hcp5.see.put (s := t) E4.out.2.2.1 (show c2 - c < maxLen by simp only [maxLen]; omega) i; have hu : adT T' i = u := by simp [adT, g1]
                         rw [hu] at hup; have y5 := hcp5.blk.c2; have HQ := Lib.hid (And.intro hcp5 (And.intro p1 (And.intro p2 (And.intro g1 (And.intro g4 g5))))); clear hcp5 p1 p2 p3 g1 g2 g3 g4 g5 hu)
          all_goals
            clear y0 y0d x2 hup y5 hen
            go_wp2_with fail
            obtain ⟨hcp5, p1, p2, g1, g4, g5⟩ := HQ.out
            obtain ⟨hi, hL, hsz, hrg4, hlt4, hg4⟩ := E4.out
            have hcc := E2.out.2.2.1
            obtain ⟨z1, z2, z3, z4⟩ := HCP4.out.ne_map hrg4.iter
            have k6 : Kept (fun b => b = s) w5 w6 := Kept.of_grown p2 fun k e => by injection e with e; exact e.symm
            have hrg6 := ((hrg4.kept (Kept.drew (fun _ => False) _) (fun e => e) (fun e => e)).kept g5 (by omega) z1).kept k6 (by omega) z4
            have hcp6 := hcp5.putS (by rw [g1]; rfl) p1 p2
            rw [put_left hi] at hcp6
            refine ⟨⟨_, c4, T', C'', hrg6, hcp6.monoS (by omega), by omega, ?_⟩, ?_⟩
            · rw [g4 r2 hrg4.lt]; exact E2.out.2.2.2.1
            · rw [hrg6.left_eq, E2.out.2.2.2.2.1]; exact hlt4
        · have hsee2 : Hid (CpAll w C S ad δ' tc tb cb l s (N - S.mvs.length) N T C' wr (.slice none 0 0) (.slice none 0 0) S.las S.see [] []) := Lib.hid (by
            have h1 := E2.out.2.1
            rw [all_left HL2.out] at h1
            exact h1.monoS (by omega))
          obtain ⟨i74, hi74, hz74, h741, h742⟩ := info_parts Try.info74
          have hlm : S.mvs.length ≤ 1000000000000 := by have := H.out.1.nmv; omega
          clear E2 HL2 HC2 G2 hcm2 hrw2 x2 B2
          go_loopw [62] (fun i wv => ∃ (j : Nat) (T : Nat → Option Nat) (C' : Col) (vm' : Value), i = .int .i64 j ∧ j ≤ S.mvs.length ∧ CpAll w C S ad δ' tc tb cb l s (N - S.mvs.length) N T C' wv vm' (.slice none 0 0) S.las S.see (S.mvs.take j) []) (fun i _ => S.mvs.length - (intOf i).toNat)
          case atStart => exact ⟨0, T, C', _, rfl, Nat.zero_le _, hsee2.out⟩
          case round =>
            obtain ⟨j, T, C', vm', rfl, hj, hcp⟩ := hrel
            by_cases hlt : j < S.mvs.length
            · have j1 : (j : Int) < S.mvs.length := by omega
              have j0 : (0 : Int) ≤ j := by omega
              obtain ⟨m, hm⟩ : ∃ m, S.mvs[j]? = some m := ⟨_, List.getElem?_eq_getElem hlt⟩
              obtain ⟨gm, cm', eA⟩ := own_some H.out.2.mv (by omega)
              injection eA with eA1 eA2 eA3
              subst eA1 eA3
              have hrow := own_kept H.out.2.mv hcp.st.kept (fun _ _ e => e)
              have m0 := (hrow.cellAt (j * 3) (by omega)).trans ((mv_cell ad hm 0 (by omega)).trans (show _ = some (.string m.fr) from rfl))
              have m1 := (hrow.cellAt (j * 3 + 1) (by omega)).trans ((mv_cell ad hm 1 (by omega)).trans (show _ = some (.string m.to) from rfl))
              obtain ⟨P, hP⟩ : ∃ P, P = S.mvs.take j := ⟨_, rfl⟩
              have hjl : P.length = j := by rw [hP, List.length_take]; omega
              have hTk : P ++ [m] = S.mvs.take (j + 1) := by rw [hP, take_snoc hm]
              have hPl : P.length ≤ 1000000000000 := by omega
              rw [← hP] at hcp
              obtain ⟨Aq, cq, rfl⟩ := own_slice hcp.mov
              clear hP eA2
              cases hmf : m.f with
              | some i =>
                have m2 := (hrow.cellAt (j * 3 + 2) (by omega)).trans ((mv_cell ad hm 2 (by omega)).trans (show _ = some (.pointer (some ⟨ad i, 0, none⟩)) from (by simp [mvC, ptrV, hmf])))
                obtain ⟨x, hx⟩ : ∃ x, x = wr.heap.size := ⟨_, rfl⟩
                obtain ⟨Wa, hWa⟩ : ∃ Wa, Wa = wr.alloc (.cells #[.string m.fr, .string m.to, .pointer (some ⟨ad i, 0, none⟩)] 74) := ⟨_, rfl⟩
                have hxa : Wa.heap[x]? = some (.cells #[.string m.fr, .string m.to, .pointer (some ⟨ad i, 0, none⟩)] 74 (0, 0)) := by rw [hx, hWa]; exact heap_alloc_new wr _
                have ka : Kept (fun _ => False) wr Wa := by rw [hWa]; exact Kept.alloc _ _ _
                have hcpa := hcp.quiet ka (Agr.new wr C' (δ' + 1, 0, 0))
                have hxc : ((C'.new wr.heap.size (δ' + 1, 0, 0)) x).1 ≠ δ' := by rw [Col.new_ge (by omega)]; exact Nat.succ_ne_self δ'
                have HX : Hid (x ≠ tb ∧ x ≠ tc ∧ w.heap.size ≤ x) := Lib.hid ⟨by have := hcp.st.tw.lt; omega, by have := blk_lt hcp.st.cell; omega, by have := hcp.st.kept.size; omega⟩
                have HA := Lib.hid (And.intro hcpa (And.intro hxa (And.intro hxc (And.intro HX.out.1 (blk_lt hxa)))))
                have HWX := Lib.hid (And.intro hx hWa)
                have n2 := (blk_cell hxa 2).trans (show _ = some (.pointer (some ⟨ad i, 0, none⟩)) from rfl)
                have EM := Lib.hid (And.intro hm (And.intro hjl (And.intro hTk hmf)))
                clear hcp hrow hm hjl hTk hmf hxa ka hcpa hxc hx hWa
                go_upto_region 16 with fail
                rw [← HWX.out.1]
                rw [← HWX.out.2]
                clear m0 m1 m2
                go_upto_region 17 with (go_at_call 40; refine (of_any H.out.1 H.out.2 hN HA.out.1.st i (H.out.1.rm m i (List.mem_of_getElem? EM.out.1) EM.out.2.2.2)).mono ?_; rintro e w5 ⟨u, T', C'', rfl, g1, g2, g3, g4, g5⟩; have hcp5 := HA.out.1.more g2 g3 g4 g5; have hx5 := blk_kept g5 HA.out.2.1 HA.out.2.2.2.1; have hcx : (C'' x).1 ≠ δ' := (by rw [g4 x HA.out.2.2.2.2]; exact HA.out.2.2.1); have HU := Lib.hid (And.intro g1 g2); have z2 := (blk_cell hx5 2).trans (show _ = some (.pointer (some ⟨ad i, 0, none⟩)) from rfl); have f2 := blk_frozen hx5 2; have hx6 : (w5.setCell ⟨x, 2, none⟩ (.pointer (some ⟨u, 0, none⟩))).heap[x]? = some (.cells #[.string m.fr, .string m.to, .pointer (some ⟨u, 0, none⟩)] 74 (0, 0)) := (blk_set hx5 2 (.pointer (some ⟨u, 0, none⟩))); have hcp6 := hcp5.later (Kept.setCell (S := fun k => k = x) w5 ⟨x, 2, none⟩ (.pointer (some ⟨u, 0, none⟩)) rfl) (Agr.refl _ _) (fun b e e2 => hcx (by rw [← e2]; exact e)) (fun e => HX.out.1 e.symm) (fun e => HX.out.2.1 e.symm) (fun b e => by have := HX.out.2.2; omega); obtain ⟨W6, hW6⟩ : ∃ W6, W6 = w5.setCell ⟨x, 2, none⟩ (.pointer (some ⟨u, 0, none⟩)) := ⟨_, rfl⟩; have HW6 := Lib.hid hW6; rw [← hW6] at hx6 hcp6; have a0 := (blk_cell hx6 0).trans (show _ = some (.string m.fr) from rfl); have a1 := (blk_cell hx6 1).trans (show _ = some (.string m.to) from rfl); have a2 := (blk_cell hx6 2).trans (show _ = some (.pointer (some ⟨u, 0, none⟩)) from rfl); have b1 := hcp6.blk.c1; have HCP6 := Lib.hid hcp6; clear hW6 hx6 hcp6 hcp5 hx5 hcx g1 g2 g3 g4 g5)
                rw [← HW6.out]
                go_wp2_with (at_builtin; refine wpList_append_long rfl _ _ 62 rfl 0 74 i74 (.agg #[.string ⟨#[]⟩, .string ⟨#[]⟩, .pointer none]) 3 40 Try.underlying62 hi74 hz74 h741 h742 rfl (by decide) (.slice Aq P.length cq) P.length (P.flatMap (mvC (adT T'))) #[.string m.fr, .string m.to, .pointer (some ⟨u, 0, none⟩)] 1 rfl rfl rfl (by simp [Value.oneCell']) HCP6.out.mov hPl (by decide) (Nat.zero_le _) ?_; intro A7 c7 W7 r1 r2 r3; have hmc : mvC (adT T') m = [.string m.fr, .string m.to, .pointer (some ⟨u, 0, none⟩)] := (by simp [mvC, ptrV, EM.out.2.2.2, adT, HU.out.1]); obtain ⟨y1, y2, y3⟩ := HCP6.out.pushM (m := m) (fun i2 hi2 => by rw [EM.out.2.2.2] at hi2; rw [← Option.some.inj hi2, HU.out.1]; rfl) (by rw [hmc]; exact r1) r2 r3; have HQ := Lib.hid y3; clear y3 r1 r2 r3 hmc)
                have hQ := HQ.out
                rw [EM.out.2.2.1] at hQ
                exact ⟨⟨j + 1, _, _, _, by congr 1, by omega, hQ⟩, by simp [intOf]; omega⟩
              | none =>
                have m2 := (hrow.cellAt (j * 3 + 2) (by omega)).trans ((mv_cell ad hm 2 (by omega)).trans (show _ = some (.pointer none) from (by simp [mvC, ptrV, hmf])))
                obtain ⟨x, hx⟩ : ∃ x, x = wr.heap.size := ⟨_, rfl⟩
                obtain ⟨Wa, hWa⟩ : ∃ Wa, Wa = wr.alloc (.cells #[.string m.fr, .string m.to, .pointer none] 74) := ⟨_, rfl⟩
                have hxa : Wa.heap[x]? = some (.cells #[.string m.fr, .string m.to, .pointer none] 74 (0, 0)) := by rw [hx, hWa]; exact heap_alloc_new wr _
                have ka : Kept (fun _ => False) wr Wa := by rw [hWa]; exact Kept.alloc _ _ _
                have hcpa := hcp.quiet ka (Agr.new wr C' (δ' + 1, 0, 0))
                have hxc : ((C'.new wr.heap.size (δ' + 1, 0, 0)) x).1 ≠ δ' := by rw [Col.new_ge (by omega)]; exact Nat.succ_ne_self δ'
                have HX : Hid (x ≠ tb ∧ x ≠ tc ∧ w.heap.size ≤ x) := Lib.hid ⟨by have := hcp.st.tw.lt; omega, by have := blk_lt hcp.st.cell; omega, by have := hcp.st.kept.size; omega⟩
                have HA := Lib.hid (And.intro hcpa (And.intro hxa (And.intro hxc (And.intro HX.out.1 (blk_lt hxa)))))
                have HWX := Lib.hid (And.intro hx hWa)
                have n2 := (blk_cell hxa 2).trans (show _ = some (.pointer none) from rfl)
                have EM := Lib.hid (And.intro hm (And.intro hjl (And.intro hTk hmf)))
                clear hcp hrow hm hjl hTk hmf hxa ka hcpa hxc hx hWa
                go_upto_region 16 with fail
                rw [← HWX.out.1]
                rw [← HWX.out.2]
                clear m0 m1 m2
                go_upto_region 17 with (go_at_call 40; refine (of_nil _ _).mono ?_; rintro e w5 ⟨rfl, rfl⟩; have hcp5 := HA.out.1; have hx5 := HA.out.2.1; have hcx := HA.out.2.2.1; have z2 := (blk_cell hx5 2).trans (show _ = some (.pointer none) from rfl); have f2 := blk_frozen hx5 2; have hx6 : (w5.setCell ⟨x, 2, none⟩ (.pointer none)).heap[x]? = some (.cells #[.string m.fr, .string m.to, .pointer none] 74 (0, 0)) := (blk_set hx5 2 (.pointer none)); have hcp6 := hcp5.later (Kept.setCell (S := fun k => k = x) w5 ⟨x, 2, none⟩ (.pointer none) rfl) (Agr.refl _ _) (fun b e e2 => hcx (by rw [← e2]; exact e)) (fun e => HX.out.1 e.symm) (fun e => HX.out.2.1 e.symm) (fun b e => by have := HX.out.2.2; omega); obtain ⟨W6, hW6⟩ : ∃ W6, W6 = w5.setCell ⟨x, 2, none⟩ (.pointer none) := ⟨_, rfl⟩; have HW6 := Lib.hid hW6; rw [← hW6] at hx6 hcp6; have a0 := (blk_cell hx6 0).trans (show _ = some (.string m.fr) from rfl); have a1 := (blk_cell hx6 1).trans (show _ = some (.string m.to) from rfl); have a2 := (blk_cell hx6 2).trans (show _ = some (.pointer none) from rfl); have b1 := hcp6.blk.c1; have HCP6 := Lib.hid hcp6; clear hW6 hx6 hcp6 hcp5 hx5 hcx)
                rw [← HW6.out]
                go_wp2_with (at_builtin; refine wpList_append_long rfl _ _ 62 rfl 0 74 i74 (.agg #[.string ⟨#[]⟩, .string ⟨#[]⟩, .pointer none]) 3 40 Try.underlying62 hi74 hz74 h741 h742 rfl (by decide) (.slice Aq P.length cq) P.length (P.flatMap (mvC (adT T))) #[.string m.fr, .string m.to, .pointer none] 1 rfl rfl rfl (by simp [Value.oneCell']) HCP6.out.mov hPl (by decide) (Nat.zero_le _) ?_; intro A7 c7 W7 r1 r2 r3; have hmc : mvC (adT T) m = [.string m.fr, .string m.to, .pointer none] := (by simp [mvC, ptrV, EM.out.2.2.2]); obtain ⟨y1, y2, y3⟩ := HCP6.out.pushM (m := m) (fun i2 hi2 => by rw [EM.out.2.2.2] at hi2; cases hi2) (by rw [hmc]; exact r1) r2 r3; have HQ := Lib.hid y3; clear y3 r1 r2 r3 hmc)
                have hQ := HQ.out
                rw [EM.out.2.2.1] at hQ
                exact ⟨⟨j + 1, _, _, _, by congr 1, by omega, hQ⟩, by simp [intOf]; omega⟩
            · have j1 : ¬ (j : Int) < S.mvs.length := by omega
              obtain rfl : j = S.mvs.length := by omega
              rw [List.take_length] at hcp
              have x3 := (DBlk.kept H.out.2.blk hcp.st.kept (fun e => e)).c3
              have E3 := Lib.hid hcp
              clear hcp hsee2
              go_wp2_with fail
              obtain ⟨i66, hi66, hz66, h661, h662⟩ := info_parts Try.info66
              have hlen : S.made.length ≤ 1000000000000 := by have := H.out.1.nfs; have := H.out.1.len; omega
              clear hi74 hz74 h741 h742 hlt hj
              go_loopw [83] (fun i wv => ∃ (j : Nat) (T : Nat → Option Nat) (C' : Col) (vd' : Value), i = .int .i64 j ∧ j ≤ S.made.length ∧ CpAll w C S ad δ' tc tb cb l s (N - S.mvs.length) N T C' wv vm' vd' S.las S.see S.mvs (S.made.take j)) (fun i _ => S.made.length - (intOf i).toNat)
              case atStart => exact ⟨0, T, C', _, rfl, Nat.zero_le _, E3.out⟩
              case round =>
                clear E3 x3
                obtain ⟨j, T, C', vd', rfl, hj, hcp⟩ := hrel
                by_cases hlt : j < S.made.length
                · have j1 : (j : Int) < S.made.length := by omega
                  have j0 : (0 : Int) ≤ j := by omega
                  obtain ⟨b, hb⟩ : ∃ b, S.made[j]? = some b := ⟨_, List.getElem?_eq_getElem hlt⟩
                  obtain ⟨gd, cd', eA⟩ := own_some H.out.2.md (by omega)
                  injection eA with eA1 eA2 eA3
                  subst eA1 eA3
                  have hrow := own_kept H.out.2.md hcp.st.kept (fun _ _ e => e)
                  have hcl : wr.cell? ⟨gd, j, none⟩ = some (mdV ad j b) := (hrow.cellAt j (by omega)).trans (by unfold mdC; rw [List.getElem?_mapIdx, hb]; rfl)
                  obtain ⟨P, hP⟩ : ∃ P, P = S.made.take j := ⟨_, rfl⟩
                  have hjl : P.length = j := by rw [hP, List.length_take]; omega
                  have hTk : P ++ [b] = S.made.take (j + 1) := by rw [hP, take_snoc hb]
                  have hPl : P.length ≤ 1000000000000 := by omega
                  rw [← hP] at hcp
                  obtain ⟨Aq, cq, rfl⟩ := own_slice hcp.mad
                  have y0 := hcp.blk.c3
                  have y0d : wr.drew.cell? ⟨cb, 3, none⟩ = _ := y0
                  have y0a := fun o => (DBlk.kept hcp.blk (Kept.alloc (fun _ => False) wr o) (fun e => e)).c3
                  have EM := Lib.hid (And.intro hb (And.intro hjl (And.intro hTk hcp)))
                  clear hP eA2 hrow hb hjl hTk hcp
                  cases b with
                  | false =>
                    replace hcl : wr.cell? ⟨gd, j, none⟩ = some (.pointer none) := hcl
                    go_upto_region 22 with fail
                    go_region_law (first
                      | (go_simp; go_at_call 40; refine (of_nil _ _).mono ?_; rintro e w5 ⟨rfl, rfl⟩; have HCP5 := Lib.hid (EM.out.2.2.2.quiet (Kept.drew _ _) (Agr.refl _ _)))
                      | (refine step_append_long rfl _ _ 63 rfl 0 66 i66 (.pointer none) 1 8 Try.underlying63 hi66 hz66 h661 h662 rfl (by decide) (.slice Aq P.length cq) P.length (mdC (adT T) P) #[.pointer none] 1 rfl rfl rfl (by simp [Value.oneCell']) HCP5.out.mad hPl (by decide) (Nat.zero_le _) ?_; intro A7 c7 W7 r1 r2 r3; obtain ⟨y1, y2, y3⟩ := HCP5.out.pushD (b0 := false) (fun e => by cases e) r1 r2 r3; have HQ := Lib.hid y3; clear y3 r1 r2 r3))
                    all_goals
                      go_wp2_with fail
                      have hQ := HQ.out
                      rw [EM.out.2.2.1] at hQ
                      exact ⟨⟨j + 1, _, _, _, by congr 1, by omega, hQ⟩, by simp [intOf]; omega⟩
                  | true =>
                    replace hcl : wr.cell? ⟨gd, j, none⟩ = some (.pointer (some ⟨ad j, 0, none⟩)) := hcl
                    go_upto_region 22 with fail
                    go_region_law (first
                      | (go_simp; go_at_call 40; refine (of_any H.out.1 H.out.2 hN (EM.out.2.2.2.quiet (Kept.drew _ _) (Agr.refl _ _)).st j (by rw [List.getD_eq_getElem?_getD, EM.out.1]; rfl)).mono ?_; rintro e w5 ⟨u, T', C'', rfl, g1, g2, g3, g4, g5⟩; have hcp5 := (EM.out.2.2.2.quiet (Kept.drew _ _) (Agr.refl _ _)).more g2 g3 g4 g5; have y5 := hcp5.blk.c3; have y5a := fun o => (DBlk.kept hcp5.blk (Kept.alloc (fun _ => False) w5 o) (fun e => e)).c3; have HCP5 := Lib.hid (And.intro hcp5 g1); clear hcp5 g1 g2 g3 g4 g5)
                      | (refine step_append_long rfl _ _ 63 rfl 0 66 i66 (.pointer none) 1 8 Try.underlying63 hi66 hz66 h661 h662 rfl (by decide) (.slice Aq P.length cq) P.length (mdC (adT T') P) #[.pointer (some ⟨u, 0, none⟩)] 1 rfl rfl rfl (by simp [Value.oneCell']) HCP5.out.1.mad hPl (by decide) (Nat.zero_le _) ?_; intro A7 c7 W7 r1 r2 r3; have hmd : mdV (adT T') P.length true = .pointer (some ⟨u, 0, none⟩) := (by rw [EM.out.2.1]; simp [mdV, ptrV, adT, HCP5.out.2]); obtain ⟨y1, y2, y3⟩ := HCP5.out.1.pushD (b0 := true) (fun _ => by rw [EM.out.2.1, HCP5.out.2]; rfl) (by rw [hmd]; exact r1) r2 r3; have HQ := Lib.hid y3; clear y3 r1 r2 r3 hmd))
                    all_goals
                      go_wp2_with fail
                      have hQ := HQ.out
                      rw [EM.out.2.2.1] at hQ
                      exact ⟨⟨j + 1, _, _, _, by congr 1, by omega, hQ⟩, by simp [intOf]; omega⟩
                · have j1 : ¬ (j : Int) < S.made.length := by omega
                  obtain rfl : j = S.made.length := by omega
                  rw [List.take_length] at hcp
                  have E4 := Lib.hid hcp
                  clear hcp
                  go_wp2_with fail
                  go_ret
                  exact ⟨cb, C', rfl, E4.out.st.kept, E4.out.st.agr, E4.out.done H.out.1⟩
end Go.Proofs.Ytgohjgeplageeaa
