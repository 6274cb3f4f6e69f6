/- sweep, walked. -/
import Derived.Test.YtgohjgeplageeaaM2
import Derived.Test.YtgohjgeplageeaaE3
namespace Go.Proofs.Ytgohjgeplageeaa
open Go Go.RowKit
set_option linter.unusedVariables false
set_option linter.unusedSimpArgs false

def SweepPost (C : Col) (δ d N ml ms : Nat) (vm vd : Value) (ad : Nat → Nat) (S : Dsk) (w : World) (e : Ending) (w' : World) : Prop :=
  e = .returned (.tuple #[]) ∧ DAt w' C δ d N ml ms vm vd ad S.sweep ∧ Kept (fun b => vd.ownBlock = some b) w w'
theorem grown_none {w w' : World} (h : w.grownBy w' none) : Kept (fun _ => False) w w' := Kept.of_grown h fun k e => by cases e
theorem grown_new {w0 w w' : World} {b : Nat} (hk : Kept (fun _ => False) w0 w) (hb : w0.heap.size ≤ b) (h : w.grownBy w' (some b)) : Kept (fun _ => False) w0 w' :=
  hk.trans (Kept.of_grown (S := fun k => k = b) h fun k e => by injection e with e; exact e.symm) (fun _ _ e => e) fun i hi e => by omega
theorem mv_cell (ad : Nat → Nat) : ∀ {l : List Mv} {n : Nat} {m : Mv}, l[n]? = some m → ∀ j, j < 3 → (l.flatMap (mvC ad))[n * 3 + j]? = (mvC ad m)[j]?
  | [], n, m, h, j, hj => by cases h
  | x :: r, 0, m, h, j, hj => by
    have e : x = m := by simpa using h
    subst e
    rw [List.flatMap_cons, Nat.zero_mul, Nat.zero_add, List.getElem?_append, if_pos (by simp [mvC]; omega)]
  | x :: r, n + 1, m, h, j, hj => by
    have h' : r[n]? = some m := by simpa using h
    have hl : (mvC ad x).length = 3 := rfl
    rw [List.flatMap_cons, List.getElem?_append, if_neg (by omega), hl, show (n + 1) * 3 + j - 3 = n * 3 + j by omega]
    exact mv_cell ad h' j hj
theorem own_some {w : World} {B e sz n : Nat} {v : Value} {xs : List Value} (h : w.ownsRow B e sz v n xs) (hn : 0 < n) : ∃ g c, v = .slice (some ⟨g, 0, none⟩) n c := by
  obtain ⟨-, ⟨rfl, e⟩ | ⟨g, c, cur, rfl, -⟩⟩ := h
  · omega
  · exact ⟨g, c, rfl⟩
theorem more_iff {fn : Nm} {L : ByteArray → Bool} {A : Nat → Prop} {s : ByteArray} {i : Nat} (hi : fn s = some i) (k : Nat) :
    ((A k ∨ ∃ s, fn s = some k ∧ L s = false) ∨ k = i) ↔ (A k ∨ ∃ t, fn t = some k ∧ (L t && decide (t ≠ s)) = false) := by
  constructor
  · rintro ((h | ⟨t, h1, h2⟩) | rfl)
    · exact .inl h
    · exact .inr ⟨t, h1, by rw [h2]; rfl⟩
    · exact .inr ⟨s, hi, by simp⟩
  · rintro (h | ⟨t, h1, h2⟩)
    · exact .inl (.inl h)
    · by_cases e : t = s
      · subst e
        rw [hi] at h1
        exact .inr (Option.some.inj h1).symm
      · refine .inl (.inr ⟨t, h1, ?_⟩)
        simpa [e] using h2
theorem done_iff {fn : Nm} {L : ByteArray → Bool} {A : Nat → Prop} (hL : ∀ s, L s = false) (k : Nat) : (A k ∨ ∃ s, fn s = some k ∧ L s = false) ↔ (A k ∨ ∃ s, fn s = some k) :=
  ⟨fun h => h.elim .inl fun ⟨s, h1, _⟩ => .inr ⟨s, h1⟩, fun h => h.elim .inl fun ⟨s, h1⟩ => .inr ⟨s, h1, hL s⟩⟩
theorem mdC_set (ad : Nat → Nat) (l : List Bool) (j : Nat) (x : Bool) : mdC ad (l.set j x) = (mdC ad l).set j (mdV ad j x) := by
  unfold mdC
  apply List.ext_getElem?
  intro i
  rw [List.getElem?_mapIdx, List.getElem?_set, List.getElem?_set, List.length_mapIdx, List.getElem?_mapIdx]
  by_cases e : j = i
  · subst e
    simp only [if_true]
    split
    · rfl
    · rfl
  · simp [e]
theorem sw_set {P Q : List Bool} {j : Nat} {x : Bool} (hP : P[j]? = some x) (hl : P.length = Q.length) : (P.take j ++ Q.drop j).set j x = P.take (j + 1) ++ Q.drop (j + 1) := by
  have h1 := (List.getElem?_eq_some_iff.1 hP).1
  have hlt : (P.take j).length = j := by rw [List.length_take]; omega
  rw [take_snoc hP, List.set_append_right _ _ (by omega), hlt, Nat.sub_self]
  obtain ⟨y, hy⟩ : ∃ y, Q[j]? = some y := ⟨_, List.getElem?_eq_getElem (by omega)⟩
  rw [drop_get' hy, List.set_cons_zero, List.append_assoc]
  rfl
theorem sw_get {P Q : List Bool} {j : Nat} (hl : P.length = Q.length) (hj : j < Q.length) : (P.take j ++ Q.drop j)[j]? = Q[j]? := by
  have hlt : (P.take j).length = j := by rw [List.length_take]; omega
  rw [List.getElem?_append, if_neg (by omega), hlt, Nat.sub_self, List.getElem?_drop, Nat.add_zero]
theorem set_same {α : Type} {l : List α} {j : Nat} {x : α} (h : l[j]? = some x) : l.set j x = l := by
  apply List.ext_getElem?
  intro i
  rw [List.getElem?_set]
  by_cases e : j = i
  · subst e
    simp only [if_true]
    split
    · exact h.symm
    · rename_i hn
      exact absurd (List.getElem?_eq_some_iff.1 h).1 hn
  · simp [e]
theorem sweep_end {w wv : World} {C : Col} {δ d N ml ms : Nat} {vm vd : Value} {ad : Nat → Nat} {S : Dsk} (h : DAt w C δ d N ml ms vm vd ad S) (hr : wv.ownsRow 0 66 1 vd S.made.length (mdC ad (sweepL S S.made))) (hk : Kept (fun b => vd.ownBlock = some b) w wv) : DAt wv C δ d N ml ms vm vd ad S.sweep := by
  refine ⟨blk_kept hk h.blk (fun e => own_ne h.md h.blk (by decide) e), h.cd, h.cl, h.cs, h.las.kept hk (fun e => h.las.ne_own h.md e), h.see.kept hk (fun e => h.see.ne_own h.md e), own_kept h.mv hk (fun b hb e => row_apart' h.mv h.md (by decide) b hb e), h.cm, ?_, h.ck, ?_⟩
  · show wv.ownsRow 0 66 1 vd (sweepL S S.made).length _
    rw [sweepL_len]; exact hr
  · intro i F hi hm
    obtain ⟨vl, vp, vs, us, hF⟩ := h.fl i F hi (sweep_getD hm).1
    exact ⟨vl, vp, vs, us, hF.kept hk (fun b e1 e2 e => by rw [h.ck b e] at e2; cases e2) (Agr.refl _ _)⟩
set_option maxHeartbeats 4000000 in
set_option maxRecDepth 100000 in
theorem sweep_any {w : World} {C : Col} {δ d N ml ms : Nat} {vm vd : Value} {ad : Nat → Nat} {S : Dsk} (h0 : S.Ok N) (h : DAt w C δ d N ml ms vm vd ad S) (hN : N ≤ 1000000000000) :
    Calls Try.prog 33 #[.pointer (some ⟨d, 0, none⟩)] w (SweepPost C δ d N ml ms vm vd ad S w) := by
  obtain ⟨Am, cm, rfl⟩ := own_slice h.mv
  obtain ⟨Ad, cd, rfl⟩ := own_slice h.md
  have hlen : S.made.length ≤ 1000000000000 := by have := h0.nfs; have := h0.len; omega
  have hlm : S.mvs.length ≤ 1000000000000 := by have := h0.nmv; omega
  have hmk := fun (t : TypeId) (W : World) => run_makeMap (P := Try.prog) t W
  have H := Lib.hid (And.intro h0 h)
  have HB1 := Lib.hid (show DBlk (w.alloc (.map #[] 0)) d ml ms (.slice Am S.mvs.length cm) (.slice Ad S.made.length cd) S.off S.arm S.how S.uni from DBlk.kept h.blk (Kept.alloc (fun _ => False) w _) (fun e => e))
  have HP1 := Lib.hid (PsAt.new w ad)
  have q0 := HB1.out.c0
  clear h0 h
  go_enter Try.func33, Try.ntmps33
  go_upto_region 2 with (go_at_call 32; refine (clone_nm ml N ad S.las _ ((H.out.2.las.mono (Nat.sub_le _ _)).kept (Kept.alloc (fun _ => False) w _) (fun e => e))).mono ?_; rintro e w2 ⟨rfl, r1, r2, r3⟩; have G2 := Lib.hid (And.intro r1 (And.intro r2 r3)); clear r1 r2 r3)
  have hsz : (w.alloc (.map #[] 0)).heap.size = w.heap.size + 1 := by simp
  obtain ⟨b0, hb0⟩ : ∃ b0, b0 = w.heap.size := ⟨_, rfl⟩
  obtain ⟨b1, hb1⟩ : ∃ b1, b1 = w.heap.size + 1 := ⟨_, rfl⟩
  have G : Hid (NmAt w2 b1 N ad S.las ∧ PsAt w2 b0 ad (fun _ => False) ∧ Kept (fun _ => False) w w2 ∧ b0 = w.heap.size ∧ b1 = w.heap.size + 1) := Lib.hid (by
    obtain ⟨g1, g2, g3⟩ := G2.out
    rw [hsz, ← hb1] at g1
    refine ⟨g1, ?_, kept0 (Kept.alloc _ _ _) g2, hb0, hb1⟩
    rw [hb0]
    exact HP1.out.kept g2 (fun e => e))
  rw [← hb1, ← hb0]
  clear G2 HP1 HB1 q0 hsz hb0 hb1 hmk
  go_wp2_with fail
  go_loopw [4] (fun i wr => ∃ n : Nat, i = .int .i64 n ∧ n ≤ S.mvs.length ∧ NmAt wr b1 (N + n) ad (playM (S.mvs.take n) S.las) ∧ PsAt wr b0 ad (S.alv n) ∧ Kept (fun _ => False) w wr) (fun i _ => S.mvs.length - (intOf i).toNat)
  case atStart =>
    exact ⟨0, rfl, Nat.zero_le _, G.out.1, G.out.2.1.congr (fun i => ⟨fun e => e.elim, fun ⟨j, hj, _⟩ => absurd hj (Nat.not_lt_zero _)⟩), G.out.2.2.1⟩
  case round =>
    obtain ⟨n, rfl, hn, hnm, hps, hk⟩ := hrel
    have E := Lib.hid (And.intro hnm (And.intro hps hk))
    clear hnm hps hk
    go_wp2_with (first | (at_range; refine wpList_range_names rfl _ rfl b1 (N + n) ad (playM (S.mvs.take n) S.las) rfl E.out.1 ?_; intro w3 cnt r1 r2 r3; have G3 := Lib.hid (And.intro r1 (And.intro r2 r3)); clear r1 r2 r3) | go_in)
    go_frame
    obtain ⟨fn, hfn⟩ : ∃ fn, fn = playM (S.mvs.take n) S.las := ⟨_, rfl⟩
    rw [← hfn] at G3 E
    obtain ⟨r, hr⟩ : ∃ r, r = wr.heap.size := ⟨_, rfl⟩
    have HR := Lib.hid (And.intro hr hfn)
    rw [← hr] at G3 ⊢
    clear hr hfn
    go_loopw [] (fun wv => ∃ L c, NmRg wv b1 r (N + n) ad fn L c ∧ PsAt wv b0 ad (fun k => S.alv n k ∨ ∃ s, fn s = some k ∧ L s = false) ∧ Kept (fun _ => False) w wv) (fun wv => wv.rangeLeft b1 r)
    case atStart =>
      obtain ⟨e1, e2, e3⟩ := E.out
      have k3 := grown_none G3.out.2.1
      refine ⟨_, cnt, G3.out.1, (e2.kept k3 (fun e => e)).congr (fun k => ⟨.inl, fun h => h.elim id (fun ⟨s, h1, h2⟩ => by rw [h1] at h2; cases h2)⟩), kept0 e3 k3⟩
    case round =>
      obtain ⟨L, c, hrg, hps, hk⟩ := hrel
      have hleft := hrg.left_eq
      have hb0r : b0 ≠ r := by have := E.out.2.1.lt; have := HR.out.1; omega
      have hb1r : b1 ≠ r := by have := E.out.1.lt; have := HR.out.1; omega
      have hb01 : b0 ≠ b1 := by have := G.out.2.2.2; omega
      have hb0w : w.heap.size ≤ b0 := by have := G.out.2.2.2; omega
      have hb1w : w.heap.size ≤ b1 := by have := G.out.2.2.2; omega
      have hrw : w.heap.size ≤ r := by have := E.out.1.lt; have := HR.out.1; omega
      have hmd : ∀ k, (S.alv n k ∨ ∃ s, fn s = some k) → S.made.getD k false = true := fun k hk => hk.elim (H.out.1.alv_made) (fun ⟨s, hs⟩ => H.out.1.made_at n s k (by rw [← HR.out.2]; exact hs))
      have hB : DBlk wr d ml ms (.slice Am S.mvs.length cm) (.slice Ad S.made.length cd) S.off S.arm S.how S.uni := DBlk.kept H.out.2.blk hk (fun e => e)
      have q1 := hB.c1
      have q3 := hB.c3
      have E2 := Lib.hid (And.intro hrg (And.intro hps (And.intro hk hleft)))
      have HMD := Lib.hid hmd
      clear hrg hps hk hleft hB hmd
      by_cases hnl : n = S.mvs.length
      · have hb : ((n : Int) == (S.mvs.length : Int)) = true := by simp [hnl]
        have HN := Lib.hid hnl
        clear hnl
        go_wp2_with (first
          | (at_next; refine wpList_next_names rfl _ rfl b1 r (N + n) ad fn L c rfl E2.out.1 ?_ ?_; all_goals (first | (intro hc0 hl0; have HL0 : Hid (∀ s, L s = false) := Lib.hid hl0; clear hc0 hl0) | (intro s i w4 c4 hi hL hsz hrg4 hlt4 hg4 hs4 hen; have E4 := Lib.hid (And.intro hi (And.intro hL (And.intro hrg4 (And.intro hlt4 hg4)))); clear hi hL hsz hrg4 hlt4 hg4 hs4)))
          | (at_mapUpdate; have k4 := grown_new E2.out.2.2.1 hrw E4.out.2.2.2.2; refine wpList_ps_put rfl _ _ _ rfl b0 ad _ i rfl rfl rfl (E2.out.2.1.kept (Kept.of_grown (S := fun k => k = r) E4.out.2.2.2.2 fun k e => by injection e with e; exact e.symm) hb0r) (fun k hk => (H.out.2.solid H.out.1 (HMD.out k (hk.elim .inl (fun ⟨s, h1, _⟩ => .inr ⟨s, h1⟩)))).kept k4 (fun e => e)) ((H.out.2.solid H.out.1 (HMD.out i (.inr ⟨s, E4.out.1⟩))).kept k4 (fun e => e)) ?_; intro w5 r1 r2 r3; have E5 := Lib.hid (And.intro r1 (And.intro r2 k4)); clear r1 r2 r3 k4))
        rotate_left
        · have k5 : Kept (fun k => k = b0) w4 w5 := Kept.of_grown E5.out.2.1 fun k e => by injection e with e; exact e.symm
          have rg5 := E4.out.2.2.1.kept k5 (fun e => hb01 e.symm) (fun e => hb0r e.symm)
          refine ⟨⟨_, _, _, _, _, _, _, _, ⟨_, c4, rg5, E5.out.1.congr (more_iff E4.out.1), grown_new E5.out.2.2 hb0w E5.out.2.1⟩, rfl⟩, ?_⟩
          rw [rg5.left_eq, E2.out.2.2.2]
          exact E4.out.2.2.2.1
        · have hal := PsAt.congr (Y := S.alive) (E2.out.2.1.congr (done_iff HL0.out)) (fun k => by rw [HR.out.2, ← S.alv_succ n k, HN.out]; exact S.alv_all k)
          have E7 := Lib.hid (And.intro hal E2.out.2.2.1)
          clear hal hb
          go_loopw [49] (fun i wv => ∃ j : Nat, i = .int .i64 j ∧ j ≤ S.made.length ∧ wv.ownsRow 0 66 1 (.slice Ad S.made.length cd) S.made.length (mdC ad ((sweepL S S.made).take j ++ S.made.drop j)) ∧ PsAt wv b0 ad S.alive ∧ Kept (fun b => (Value.slice Ad S.made.length cd).ownBlock = some b) w wv) (fun i _ => S.made.length - (intOf i).toNat)
          case atStart => exact ⟨0, rfl, Nat.zero_le _, own_kept0 H.out.2.md E7.out.2, E7.out.1, E7.out.2.mono (fun _ _ e => e.elim)⟩
          case round =>
            obtain ⟨j, rfl, hj, hrow, hps, hk⟩ := hrel
            have hB : DBlk wr d ml ms (.slice Am S.mvs.length cm) (.slice Ad S.made.length cd) S.off S.arm S.how S.uni := DBlk.kept H.out.2.blk hk (fun e => own_ne H.out.2.md H.out.2.blk (by decide) e)
            have p3 := hB.c3
            clear q1 q3 hB
            by_cases hlt : j < S.made.length
            · have j1 : (j : Int) < S.made.length := by omega
              have j0 : (0 : Int) ≤ j := by omega
              obtain ⟨g, cd', eA⟩ := own_some hrow (by omega)
              injection eA with eA1 eA2 eA3
              subst eA1 eA3
              obtain ⟨b, hb⟩ : ∃ b, S.made[j]? = some b := ⟨_, List.getElem?_eq_getElem hlt⟩
              have hsw := sweepL_get S S.made j
              have hPQ : (sweepL S S.made).length = S.made.length := sweepL_len S S.made
              have hget := sw_get hPQ hlt
              rw [hb] at hget hsw
              have hcl : wr.cell? ⟨g, j, none⟩ = some (mdV ad j b) := (hrow.cellAt j (by omega)).trans (by unfold mdC; rw [List.getElem?_mapIdx, hget]; rfl)
              have hfr := hrow.frozenAt j
              have hst : ∀ x, (sweepL S S.made)[j]? = some x → mdC ad ((sweepL S S.made).take (j + 1) ++ S.made.drop (j + 1)) = (mdC ad ((sweepL S S.made).take j ++ S.made.drop j)).set j (mdV ad j x) := fun x hx => by rw [← sw_set hx hPQ, mdC_set]
              have hsm : (sweepL S S.made)[j]? = some b → mdC ad ((sweepL S S.made).take (j + 1) ++ S.made.drop (j + 1)) = mdC ad ((sweepL S S.made).take j ++ S.made.drop j) := fun hx => by rw [← sw_set hx hPQ, set_same hget]
              cases b with
              | false =>
                replace hcl : wr.cell? ⟨g, j, none⟩ = some (.pointer none) := hcl
                have hlk := hps.look_nil
                have F1 := Lib.hid (And.intro (hsm (by rw [hsw]; rfl)) (And.intro hrow (And.intro hps hk)))
                clear hsm hst hrow hps hk hget hsw hfr hPQ hb
                go_wp2_with fail
                obtain ⟨e1, hrow, hps, hk⟩ := F1.out
                have ka := Kept.alloc (fun _ => False) wr (.cells #[] 99)
                exact ⟨⟨j + 1, by congr 1, by omega, by rw [e1]; exact own_kept0 hrow ka, hps.kept ka (fun e => e), hk.trans ka (fun _ _ e => e) (fun _ _ e => e.elim)⟩, by simp [intOf]; omega⟩
              | true =>
                replace hcl : wr.cell? ⟨g, j, none⟩ = some (.pointer (some ⟨ad j, 0, none⟩)) := hcl
                have hmj : S.made.getD j false = true := by rw [List.getD_eq_getElem?_getD, hb]; rfl
                have hmk2 : ∀ k, S.alive k → S.made.getD k false = true := fun k hk => H.out.1.alv_made ((S.alv_all k).2 hk)
                have hsol : ∀ k, S.made.getD k false = true → Solid wr (ad k) := fun k hk2 => (H.out.2.solid H.out.1 hk2).kept hk (fun e => by
                  obtain ⟨cs, T, hc⟩ := H.out.2.solid H.out.1 hk2
                  have hlt2 : k < S.fs.length := by have := getD_lt hk2; have := H.out.1.len; omega
                  obtain ⟨vl, vp, vs, us, hF⟩ := H.out.2.fl k _ (List.getElem?_eq_getElem hlt2) hk2
                  have h1 := hF.ca
                  rw [H.out.2.ck _ e] at h1
                  cases h1)
                have hinj : ∀ k, S.alive k → ad k = ad j → k = j := fun k hk2 e => H.out.2.inj H.out.1 (hmk2 k hk2) hmj e
                by_cases hal : S.alive j
                · have hlk := hps.look (i := j) (x := true) (fun k hk2 => hsol k (hmk2 k hk2)) (hsol j hmj) hinj ⟨fun _ => hal, fun _ => rfl⟩
                  have F1 := Lib.hid (And.intro (hsm (by rw [hsw]; simp [hal])) (And.intro hrow (And.intro hps hk)))
                  clear hsm hst hrow hps hk hget hsw hfr hPQ hb hmj hmk2 hsol hinj hal
                  go_wp2_with fail
                  obtain ⟨e1, hrow, hps, hk⟩ := F1.out
                  have ka := Kept.alloc (fun _ => False) wr (.cells #[] 99)
                  exact ⟨⟨j + 1, by congr 1, by omega, by rw [e1]; exact own_kept0 hrow ka, hps.kept ka (fun e => e), hk.trans ka (fun _ _ e => e) (fun _ _ e => e.elim)⟩, by simp [intOf]; omega⟩
                · have hlk := hps.look (i := j) (x := false) (fun k hk2 => hsol k (hmk2 k hk2)) (hsol j hmj) hinj ⟨fun e => (by cases e), fun e => absurd e hal⟩
                  have ka := Kept.alloc (fun _ => False) wr (.cells #[] 99)
                  have hrow2 := own_kept0 hrow ka
                  have p3a : (wr.alloc (.cells #[] 99)).cell? ⟨d, 3, none⟩ = some (.slice (some ⟨g, 0, none⟩) S.made.length cd) := kept_cell ka p3 (fun e => e)
                  have g3 : (wr.alloc (.cells #[] 99)).cell? ⟨g, j, none⟩ = some (.pointer (some ⟨ad j, 0, none⟩)) := kept_cell ka hcl (fun e => e)
                  have hfr2 := hrow2.frozenAt j
                  obtain ⟨r1, r2⟩ := hrow2.stored j (.pointer none)
                  have hst1 := hst false (by rw [hsw]; simp [hal])
                  rw [show mdV ad j false = .pointer none from rfl] at hst1
                  rw [← hst1] at r1
                  have F1 := Lib.hid (And.intro r1 (And.intro r2 (And.intro hps (And.intro hk (own_kept0 hrow ka)))))
                  clear hsm hst hrow hps hk hget hsw hfr hPQ hb hmj hmk2 hsol hinj hal r1 r2 hrow2 hst1 ka
                  go_wp2_with fail
                  obtain ⟨r1, r2, hps, hk, hrow2⟩ := F1.out
                  have ka := Kept.alloc (fun _ => False) wr (.cells #[] 99)
                  have kb := Kept.setCell (S := fun k => k = g) (wr.alloc (.cells #[] 99)) ⟨g, j, none⟩ (.pointer none) rfl
                  have hb0g : b0 ≠ g := by
                    rintro rfl
                    obtain ⟨K, ⟨es, c, hbb, _⟩, _⟩ := hps
                    rcases hrow2.2 with ⟨e, _⟩ | ⟨g', cap', cur, e, _, hg, _⟩
                    · cases e
                    · injection e with e1 e2 e3
                      injection e1 with e1
                      injection e1 with e1
                      subst e1
                      rw [blk_kept ka hbb (fun e => e)] at hg
                      cases hg
                  exact ⟨⟨j + 1, by congr 1, by omega, r1, (hps.kept ka (fun e => e)).kept kb hb0g, (hk.trans ka (U := fun b => (Value.slice (some ⟨g, 0, none⟩) S.made.length cd).ownBlock = some b) (fun _ _ e => e) (fun _ _ e => e.elim)).trans kb (fun _ _ e => e) (fun b _ e => by subst e; rfl)⟩, by simp [intOf]; omega⟩
            · have j1 : ¬ (j : Int) < S.made.length := by omega
              obtain rfl : j = S.made.length := by omega
              have e1 : (sweepL S S.made).take S.made.length ++ S.made.drop S.made.length = sweepL S S.made := by
                rw [List.drop_length, List.append_nil]
                exact List.take_of_length_le (by rw [sweepL_len]; exact Nat.le_refl _)
              rw [e1] at hrow
              have F1 := Lib.hid (And.intro hrow hk)
              clear hrow hk e1 hps
              go_wp2_with fail
              go_end0
              exact ⟨rfl, sweep_end H.out.2 F1.out.1 F1.out.2, F1.out.2⟩
      · have hb : ((n : Int) == (S.mvs.length : Int)) = false := by simp; omega
        have hlt : n < S.mvs.length := by omega
        have n1 : (n : Int) < S.mvs.length := by omega
        have n0 : (0 : Int) ≤ n := by omega
        obtain ⟨m, hm⟩ : ∃ m, S.mvs[n]? = some m := ⟨_, List.getElem?_eq_getElem hlt⟩
        obtain ⟨gm, cm', eA⟩ := own_some H.out.2.mv (by omega)
        injection eA with eA1 eA2 eA3
        subst eA1 eA3
        have hrow := own_kept H.out.2.mv E2.out.2.2.1 (fun _ _ e => e)
        have m0 := (hrow.cellAt (n * 3) (by omega)).trans ((mv_cell ad hm 0 (by omega)).trans (show _ = some (.string m.fr) from rfl))
        have m1 := (hrow.cellAt (n * 3 + 1) (by omega)).trans ((mv_cell ad hm 1 (by omega)).trans (show _ = some (.string m.to) from rfl))
        have m2 := (hrow.cellAt (n * 3 + 2) (by omega)).trans ((mv_cell ad hm 2 (by omega)).trans (show _ = some (ptrV ad m.f) from rfl))
        have HN := Lib.hid (And.intro hnl hm)
        clear hnl hm hrow eA2 hlt
        go_wp2_with (first
          | (at_next; refine wpList_next_names rfl _ rfl b1 r (N + n) ad fn L c rfl E2.out.1 ?_ ?_; all_goals (first | (intro hc0 hl0; have HL0 : Hid (∀ s, L s = false) := Lib.hid hl0; clear hc0 hl0) | (intro s i w4 c4 hi hL hsz hrg4 hlt4 hg4 hs4 hen; have E4 := Lib.hid (And.intro hi (And.intro hL (And.intro hrg4 (And.intro hlt4 hg4)))); clear hi hL hsz hrg4 hlt4 hg4 hs4)))
          | (at_mapUpdate; have k4 := grown_new E2.out.2.2.1 hrw E4.out.2.2.2.2; refine wpList_ps_put rfl _ _ _ rfl b0 ad _ i rfl rfl rfl (E2.out.2.1.kept (Kept.of_grown (S := fun k => k = r) E4.out.2.2.2.2 fun k e => by injection e with e; exact e.symm) hb0r) (fun k hk => (H.out.2.solid H.out.1 (HMD.out k (hk.elim .inl (fun ⟨s, h1, _⟩ => .inr ⟨s, h1⟩)))).kept k4 (fun e => e)) ((H.out.2.solid H.out.1 (HMD.out i (.inr ⟨s, E4.out.1⟩))).kept k4 (fun e => e)) ?_; intro w5 r1 r2 r3; have E5 := Lib.hid (And.intro r1 (And.intro r2 k4)); clear r1 r2 r3 k4)
          | (go_at_call 35; refine (done_any m b1 (N + n) ad fn wr E2.out.1.at_ (by rw [HR.out.2]; exact okM_take H.out.1.okm HN.out.2) (H.out.1.nm m (List.mem_of_getElem? HN.out.2)) (show N + n < maxLen by simp only [maxLen]; omega)).mono ?_; rintro e w6 ⟨rfl, r1, r2⟩; have E6 := Lib.hid (And.intro r1 r2); clear r1 r2))
        rotate_left
        · have k5 : Kept (fun k => k = b0) w4 w5 := Kept.of_grown E5.out.2.1 fun k e => by injection e with e; exact e.symm
          have rg5 := E4.out.2.2.1.kept k5 (fun e => hb01 e.symm) (fun e => hb0r e.symm)
          refine ⟨⟨_, _, _, _, _, _, _, _, ⟨_, c4, rg5, E5.out.1.congr (more_iff E4.out.1), grown_new E5.out.2.2 hb0w E5.out.2.1⟩, rfl⟩, ?_⟩
          rw [rg5.left_eq, E2.out.2.2.2]
          exact E4.out.2.2.2.1
        · obtain ⟨r1, r2⟩ := E6.out
          rw [HR.out.2, ← playM_take_succ HN.out.2] at r1
          have hps := PsAt.congr (Y := S.alv (n + 1)) ((E2.out.2.1.kept r2 hb01).congr (done_iff HL0.out)) (fun k => by rw [HR.out.2]; exact (S.alv_succ n k).symm)
          exact ⟨⟨n + 1, by congr 1, by omega, r1, hps, E2.out.2.2.1.trans r2 (fun _ _ e => e) (fun b hb e => by omega)⟩, by simp [intOf]; omega⟩
end Go.Proofs.Ytgohjgeplageeaa
