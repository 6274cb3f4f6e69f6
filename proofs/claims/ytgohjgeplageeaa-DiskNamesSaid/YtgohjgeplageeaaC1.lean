/- copied: a file in new memory. -/
import Derived.Test.YtgohjgeplageeaaG4
import Derived.StillTailTactics
namespace Go.Proofs.Ytgohjgeplageeaa
open Go Go.RowKit
set_option linter.unusedVariables false
set_option linter.unusedSimpArgs false
attribute [local go_sem] Try.is80 Try.no80
attribute [local go_sem ↓] Go.wp_at_zero Go.wp_at_succ

/-- A step is pending besides: the file without what is seen of it. -/
theorem MidAdd.file {w : World} {C : Col} {δ k a : Nat} {vl vp vs vp' : Value} {us : List Value} {u : Value} {F : Fil} {s : Stp} {W : World} (h : MidAdd w C δ k a vl vp vs vp' us u F s W) :
    FAt W (C.new w.heap.size (δ, k, 2)) δ k a vl vp' vs (us ++ [u]) ⟨F.las, F.pen ++ [s], F.see⟩ := by
  have hA := Agr.new w C (δ, k, 2)
  refine ⟨h.blk, (hA a h.h.lt).trans h.h.ca, ?_, ?_, ?_, ?_, ?_⟩
  · exact ⟨(h.h.las.kept h.kept (h.no (by omega) (by omega)) (Agr.refl _ _)).own, fun b hb => (hA b (own_lt h.h.las.own b hb)).trans (h.h.las.col b hb)⟩
  · show W.ownsRow 0 102 1 vp' (F.pen ++ [s]).length _
    rw [List.length_append]; exact h.pen
  · intro b hb
    by_cases hlt : b < w.heap.size
    · rw [hA b hlt]
      rcases h.pb with e | e
      · exact h.h.cp b (e ▸ hb)
      · have := e b hb; omega
    · exact Col.new_ge (Nat.le_of_not_lt hlt)
  · intro j s' hj
    have hj' : (F.pen ++ [s])[j]? = some s' := hj
    rw [List.getElem?_append] at hj'
    have hus : us.length = F.pen.length := by have := h.h.pen.1; omega
    have hk : ∀ m u' s', 4 ≤ m → SAt w C (δ, k, m) u' s' → SAt W (C.new w.heap.size (δ, k, 2)) (δ, k, m) u' s' := fun m u' s' hm hs => hs.kept h.kept (h.no (by omega) (by omega)) hA
    by_cases hlt : j < F.pen.length
    · rw [if_pos hlt] at hj'
      obtain ⟨u', hu', hs'⟩ := h.h.st j s' hj'
      exact ⟨u', by rw [List.getElem?_append, if_pos (by omega)]; exact hu', hk _ _ _ (by omega) hs'⟩
    · rw [if_neg hlt] at hj'
      have hj0 : j = F.pen.length := by
        have := (List.getElem?_eq_some_iff.1 hj').1
        simp at this
        omega
      subst hj0
      simp at hj'
      subst hj'
      exact ⟨u, by rw [List.getElem?_append, if_neg (by omega), hus]; simp, hk _ _ _ (by omega) h.st⟩
  · exact ⟨(h.h.see.kept h.kept (h.no (by omega) (by omega)) (Agr.refl _ _)).own, fun b hb => (hA b (own_lt h.h.see.own b hb)).trans (h.h.see.col b hb)⟩
def CopPost (C : Col) (δ k : Nat) (F : Fil) (w : World) (e : Ending) (w' : World) : Prop :=
  ∃ a C' vl vp vs us, e = .returned (.pointer (some ⟨a, 0, none⟩)) ∧ w.heap.size ≤ a ∧ Agr w C C' ∧ FAt w' C' δ k a vl vp vs us F ∧ Kept (fun _ => False) w w'
/-- The new file ahead of its steps. -/
theorem cop_start {w w2 : World} (C : Col) (δ k : Nat) {v1 v2 : Value} {l1 l2 : List Int} (h1 : w2.ownsRow w.heap.size 5 1 v1 l1.length (nums .u8 l1)) (h2 : w2.ownsRow w.heap.size 5 1 v2 l2.length (nums .u8 l2)) (hne : ∀ b, v1.ownBlock = some b → v2.ownBlock ≠ some b) (k2 : Kept (fun _ => False) w w2) :
    ∃ C', Agr w C C' ∧ FAt (w2.alloc (.cells #[v1, .slice none 0 0, v2] 72)) C' δ k w2.heap.size v1 (.slice none 0 0) v2 [] ⟨l1, [], l2⟩ := by
  have hsz := k2.size
  refine ⟨fun b => if b < w.heap.size then C b else if b = w2.heap.size then (δ, k, 0) else if v1.ownBlock = some b then (δ, k, 1) else (δ, k, 3), fun b hb => by simp [hb], ?_⟩
  have ka := Kept.alloc (fun _ => False) w2 (.cells #[v1, .slice none 0 0, v2] 72)
  refine ⟨heap_alloc_new w2 _, by simp [show ¬ w2.heap.size < w.heap.size by omega], ⟨own_kept0 (own_base h1 (Nat.zero_le _)) ka, fun b hb => ?_⟩, World.ownsRow_nil _ _ _ _, (fun b hb => by cases hb), (fun j s hj => by simp at hj), ⟨own_kept0 (own_base h2 (Nat.zero_le _)) ka, fun b hb => ?_⟩⟩
  · have := h1.lt b hb
    simp [show ¬ b < w.heap.size by omega, show b ≠ w2.heap.size by omega, hb]
  · have h3 := h2.lt b hb
    have h4 : v1.ownBlock ≠ some b := fun e => hne b e hb
    simp [show ¬ b < w.heap.size by omega, show b ≠ w2.heap.size by omega, h4]
set_option maxHeartbeats 4000000 in
set_option maxRecDepth 100000 in
theorem copied_any {w : World} {C : Col} {δ k a : Nat} {vl vp vs : Value} {us : List Value} {F : Fil} (h : FAt w C δ k a vl vp vs us F) (δ' k' : Nat) (hn1 : F.las.length ≤ 140737488355328) (hn2 : F.see.length ≤ 140737488355328) (hn3 : F.pen.length ≤ 1000000000000) (hn4 : allL F.pen ≤ 140737488355328) :
    Calls Try.prog 41 #[.pointer (some ⟨a, 0, none⟩)] w (CopPost C δ' k' F w) := by
  obtain ⟨i0, hi, hz0, hz1, hz2⟩ := info_parts Try.info102
  obtain ⟨A, c, rfl, hc, hcell⟩ := own_at1 h.pen
  obtain ⟨A1, c1, rfl⟩ := h.las.slice
  obtain ⟨A2, c2, rfl⟩ := h.see.slice
  have q0 := (show FBlk w a (.slice A1 F.las.length c1) (.slice A F.pen.length c) (.slice A2 F.see.length c2) from h.blk).c0
  have q2 := (show FBlk w a (.slice A1 F.las.length c1) (.slice A F.pen.length c) (.slice A2 F.see.length c2) from h.blk).c2
  have H := Lib.hid (And.intro h hcell)
  clear h hcell
  go_enter Try.func41, Try.ntmps41
  go_upto_region 1 with fail
  go_cut [3] (fun g wx => ∃ a' C' vl' vs', g = .pointer (some ⟨a', 0, none⟩) ∧ w.heap.size ≤ a' ∧ Agr w C C' ∧ FAt wx C' δ' k' a' vl' (.slice none 0 0) vs' [] ⟨F.las, [], F.see⟩ ∧ Kept (fun _ => False) w wx)
  case first =>
    have q0d : w.drew.cell? ⟨a, 0, none⟩ = _ := q0
    have q2d : w.drew.cell? ⟨a, 2, none⟩ = _ := q2
    go_region_law (first
      | (go_simp; go_at_call 31; refine (clone_any _ (.slice A1 F.las.length c1) F.las (H.out.1.las.reads.kept (Kept.drew _ _)) hn1).mono ?_; rintro e w1 ⟨v1, rfl, r1, r2⟩; obtain ⟨A3, c3, rfl⟩ := own_slice r1; have y2 := FBlk.c2 (FBlk.kept H.out.1.blk (kept0 (Kept.drew _ _) r2) (fun e => e)); have R1 := Lib.hid (And.intro r1 (kept0 (Kept.drew _ _) r2)); clear r1 r2)
      | (go_simp; go_at_call 31; refine (clone_any _ (.slice A2 F.see.length c2) F.see (H.out.1.see.reads.kept R1.out.2) hn2).mono ?_; rintro e w2 ⟨v2, rfl, r1, r2⟩; obtain ⟨A4, c4, rfl⟩ := own_slice r1; have R2 := Lib.hid (And.intro r1 r2); clear r1 r2))
    all_goals
      go_wp2_with fail
      go_meet
      have h1 : w2.ownsRow w.heap.size 5 1 (.slice A3 F.las.length c3) F.las.length (nums .u8 F.las) := own_kept0 R1.out.1 R2.out.2
      obtain ⟨C', g1, g2⟩ := cop_start C δ' k' h1 (own_base R2.out.1 R1.out.2.size) (fun b hb e => by have := own_lt R1.out.1 b hb; have := (R2.out.1.lt b e).1; omega) (kept0 R1.out.2 R2.out.2)
      exact ⟨_, C', _, _, rfl, (kept0 R1.out.2 R2.out.2).size, g1, g2, kept0 (kept0 R1.out.2 R2.out.2) (Kept.alloc _ _ _)⟩
  case rest =>
    obtain ⟨a', C1, vl', vs', rfl, ha', hA1, hF1, hk1⟩ := hcut
    have q1 := FBlk.c1 (FBlk.kept H.out.1.blk hk1 (fun e => e))
    have G := Lib.hid (And.intro ha' (And.intro hA1 (And.intro hF1 hk1)))
    clear q0 q2 ha' hA1 hF1 hk1
    go_wp2_with fail
    go_loopw [25] (fun i wr => ∃ (j : Nat) (C' : Col) (vp' : Value) (us' : List Value), i = .int .i64 j ∧ j ≤ F.pen.length ∧ Agr w C C' ∧ FAt wr C' δ' k' a' vl' vp' vs' us' ⟨F.las, F.pen.take j, F.see⟩ ∧ Kept (fun _ => False) w wr ∧ (∀ b, vp'.ownBlock = some b → w.heap.size ≤ b)) (fun i _ => F.pen.length - (intOf i).toNat)
    case atStart => exact ⟨0, C1, _, _, rfl, Nat.zero_le _, G.out.2.1, G.out.2.2.1, G.out.2.2.2, fun b hb => by cases hb⟩
    case round =>
      obtain ⟨j, C', vp', us', rfl, hj, hA, hF, hk, hvp⟩ := hrel
      by_cases hlt : j < F.pen.length
      · have j1 : (j : Int) < F.pen.length := by omega
        have j0 : (0 : Int) ≤ j := by omega
        obtain ⟨s, hs⟩ : ∃ s, F.pen[j]? = some s := ⟨_, List.getElem?_eq_getElem hlt⟩
        obtain ⟨uv, huv, hst⟩ := H.out.1.st j s hs
        obtain ⟨ad, rfl, hcl⟩ := H.out.2 j uv huv
        obtain ⟨P, hP⟩ : ∃ P, P = F.pen.take j := ⟨_, rfl⟩
        rw [← hP] at hF
        obtain ⟨Ap, cp, rfl⟩ := own_slice hF.pen
        have hPl : P.length = j := by rw [hP, List.length_take]; omega
        have hPs : P ++ [s] = F.pen.take (j + 1) := by rw [hP, take_snoc hs]
        have b1 := (show FBlk wr a' vl' (.slice Ap P.length cp) vs' from hF.blk).c1
        have hP2 : P.length ≤ 1000000000000 := by omega
        have HPS := Lib.hid (And.intro hP (And.intro hPl (And.intro hPs hvp)))
        have hone : ∀ x y, ∀ z ∈ (#[Value.iface x y]).toList, z.oneCell' = true := fun x y => by simp [Value.oneCell']
        cases s with
        | app l =>
          obtain ⟨b, rfl, hb⟩ := hst
          obtain ⟨A', c', rfl⟩ := own_slice hb.own
          have q2 : wr.cell? (ad.add j) = some (.iface 80 (.agg #[.slice A' l.length c'])) := kept_cell hk hcl (fun e => e)
          obtain ⟨Wa, hWa⟩ : ∃ Wa, Wa = wr.alloc (.cells #[.slice A' l.length c'] 80) := ⟨_, rfl⟩
          have ka : Kept (fun _ => False) wr Wa := by rw [hWa]; exact Kept.alloc _ _ _
          have x0 : (wr.alloc (.cells #[.slice A' l.length c'] 80)).cell? ⟨wr.heap.size, 0, none⟩ = some (.slice A' l.length c') := (blk_cell (heap_alloc_new wr _) 0).trans rfl
          have hrd : Reads Wa (.slice A' l.length c') l := (hb.reads.kept hk).kept ka
          have hll : l.length ≤ 140737488355328 := by
            have h1 := allL_take_succ hs
            have h2 := allL_take_le F.pen (j + 1)
            simp only [Stp.units] at h1
            omega
          have E := Lib.hid (And.intro hF (And.intro hk (And.intro hA (And.intro ka (And.intro hrd hWa)))))
          rw [← hWa] at x0
          clear hF hk hA ka hrd hWa hs huv hcl hb hP hPl hPs hvp
          go_upto_region 7 with fail
          rw [← E.out.2.2.2.2.2]
          go_wp2_with (first
            | (go_at_call 31; refine (clone_any _ _ l E.out.2.2.2.2.1 hll).mono ?_; rintro e w2 ⟨v2, rfl, r1, r2⟩; obtain ⟨A5, c5, rfl⟩ := own_slice r1; have T := app_in (E.out.1.kept E.out.2.2.2.1 (fun _ _ _ e => e) (Agr.refl _ _)) r1 r2; have y1 := (show FBlk w2 a' vl' (.slice Ap P.length cp) vs' from T.1.blk).c1; have HT := Lib.hid (And.intro T r2); clear T r1 r2)
            | (at_builtin; refine wpList_append_long rfl _ _ 70 rfl 0 102 i0 .nilIface 1 16 Try.underlying70 hi hz0 hz1 hz2 rfl (by decide) (.slice Ap P.length cp) P.length us' #[.iface 80 (.agg #[.slice A5 l.length c5])] 1 rfl rfl rfl (hone _ _) HT.out.1.1.pen hP2 (by decide) (Nat.zero_le _) ?_; intro A6 c6 w6 r1 r2 r3; obtain ⟨y2, y3, ym⟩ := add_mid HT.out.1.1 HT.out.1.2 r1 r2 r3; have HM := Lib.hid (And.intro ym r3); clear ym r1 r2 r3))
          obtain ⟨ym, r3⟩ := HM.out
          obtain ⟨hP, hPl, hPs, hvp⟩ := HPS.out
          obtain ⟨hF, hk, hA, ka, -, -⟩ := E.out
          have hkt := kept0 hk (kept0 ka HT.out.2)
          have hF' := ym.file
          rw [show (⟨(⟨F.las, P, F.see⟩ : Fil).las, (⟨F.las, P, F.see⟩ : Fil).pen ++ [Stp.app l], (⟨F.las, P, F.see⟩ : Fil).see⟩ : Fil) = ⟨F.las, F.pen.take (j + 1), F.see⟩ by rw [← hPs]] at hF'
          refine ⟨⟨j + 1, _, _, _, by congr 1, by omega, (hA.trans (Agr.new Wa C' _) (Nat.le_trans hk.size ka.size)).trans (Agr.new w2 _ _) hkt.size, hF', hkt.trans ym.kept (fun _ _ e => e) (fun b hb e => ?_), fun b hb => ?_⟩, by simp [intOf]; omega⟩
          · rcases e with rfl | e
            · have := G.out.1; omega
            · have := hvp b e; omega
          · rcases r3 with e | e
            · rw [e] at hb; exact hvp b hb
            · rw [e] at hb
              injection hb with hb
              rw [← hb]
              have := hkt.size
              simp
              omega
        | cut n =>
          obtain rfl := hst
          have q2 : wr.cell? (ad.add j) = some (.iface 107 (.agg #[.int .i64 n])) := kept_cell hk hcl (fun e => e)
          obtain ⟨Wa, hWa⟩ : ∃ Wa, Wa = wr.alloc (.cells #[.slice none 0 0] 80) := ⟨_, rfl⟩
          have ka : Kept (fun _ => False) wr Wa := by rw [hWa]; exact Kept.alloc _ _ _
          have hFa := hF.kept ka (fun _ _ _ e => e) (Agr.refl _ _)
          have y1 := (show FBlk Wa a' vl' (.slice Ap P.length cp) vs' from hFa.blk).c1
          have HT := Lib.hid (And.intro (And.intro hFa (show SAt Wa C' (δ', k', 4 + P.length) (.iface 107 (.agg #[.int .i64 n])) (.cut n) from rfl)) ka)
          have E := Lib.hid (And.intro hF (And.intro hk (And.intro hA (And.intro ka hWa))))
          clear hF hk hA ka hWa hs huv hcl hP hPl hPs hvp hFa
          go_upto_region 8 with fail
          rw [← E.out.2.2.2.2]
          go_wp2_with (at_builtin; refine wpList_append_long rfl _ _ 70 rfl 0 102 i0 .nilIface 1 16 Try.underlying70 hi hz0 hz1 hz2 rfl (by decide) (.slice Ap P.length cp) P.length us' #[.iface 107 (.agg #[.int .i64 n])] 1 rfl rfl rfl (hone _ _) HT.out.1.1.pen hP2 (by decide) (Nat.zero_le _) ?_; intro A6 c6 w6 r1 r2 r3; obtain ⟨y2, y3, ym⟩ := add_mid HT.out.1.1 HT.out.1.2 r1 r2 r3; have HM := Lib.hid (And.intro ym r3); clear ym r1 r2 r3)
          obtain ⟨ym, r3⟩ := HM.out
          obtain ⟨hP, hPl, hPs, hvp⟩ := HPS.out
          obtain ⟨hF, hk, hA, ka, -⟩ := E.out
          have hkt := kept0 hk ka
          have hF' := ym.file
          rw [show (⟨(⟨F.las, P, F.see⟩ : Fil).las, (⟨F.las, P, F.see⟩ : Fil).pen ++ [Stp.cut n], (⟨F.las, P, F.see⟩ : Fil).see⟩ : Fil) = ⟨F.las, F.pen.take (j + 1), F.see⟩ by rw [← hPs]] at hF'
          refine ⟨⟨j + 1, _, _, _, by congr 1, by omega, hA.trans (Agr.new Wa C' _) hkt.size, hF', hkt.trans ym.kept (fun _ _ e => e) (fun b hb e => ?_), fun b hb => ?_⟩, by simp [intOf]; omega⟩
          · rcases e with rfl | e
            · have := G.out.1; omega
            · have := hvp b e; omega
          · rcases r3 with e | e
            · rw [e] at hb; exact hvp b hb
            · rw [e] at hb
              injection hb with hb
              rw [← hb]
              have := hkt.size
              simp
              omega
      · have j1 : ¬ (j : Int) < F.pen.length := by omega
        obtain rfl : j = F.pen.length := by omega
        rw [List.take_length] at hF
        have E := Lib.hid (And.intro hF (And.intro hk hA))
        clear hF hk hA hvp
        go_wp2_with fail
        go_ret
        obtain ⟨hF, hk, hA⟩ := E.out
        exact ⟨a', C', vl', vp', vs', us', rfl, G.out.1, hA, hF, hk⟩
end Go.Proofs.Ytgohjgeplageeaa
