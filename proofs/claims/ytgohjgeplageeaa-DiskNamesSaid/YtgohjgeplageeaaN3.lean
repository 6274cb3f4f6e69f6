/- Restart, walked. -/
import Derived.Test.YtgohjgeplageeaaN2
import Derived.StillTailTactics
namespace Go.Proofs.Ytgohjgeplageeaa
open Go Go.RowKit
set_option linter.unusedVariables false
set_option linter.unusedSimpArgs false

/-- A row that is read. -/
def RowR (w : World) (v : Value) (xs : List Value) : Prop := ∃ A c, v = .slice A xs.length c ∧ (A = none → c = 0) ∧ xs.length ≤ c ∧ ∀ j u, xs[j]? = some u → ∃ ad, A = some ad ∧ w.cell? (ad.add j) = some u
theorem RowR.kept {w w' : World} {v : Value} {xs : List Value} {S : Nat → Prop} (h : RowR w v xs) (hk : Kept S w w') (hS : ∀ A n c, v = .slice (some A) n c → ¬ S A.block) : RowR w' v xs := by
  obtain ⟨A, c, rfl, h0, h1, hc⟩ := h
  refine ⟨A, c, rfl, h0, h1, fun j u hu => ?_⟩
  obtain ⟨ad, rfl, hcell⟩ := hc j u hu
  exact ⟨ad, rfl, kept_cell hk hcell (by rw [Addr.add_block]; exact hS ad _ _ rfl)⟩
theorem slice_mv {w : World} {A : Option Addr} {c n : Nat} {xs : List Value} (h : w.ownsRow 0 74 3 (.slice A n c) n xs) {m : Nat} (hm : m ≤ n) (hn : n ≤ 1000000000000) (W : World) : (Instr.slice 62 (.slice A n c) none (some (.int .i64 m)) none).run Try.prog W = .ok (.slice A m c) W := by
  have hc : n ≤ c := by
    rcases h.2 with ⟨e, e2⟩ | ⟨g, cap, cur, e, r1, r2, r3, r4⟩
    · injection e with _ _ e3; omega
    · injection e with _ _ e3; omega
  have h63 : c ≤ 9223372036854775807 := by
    rcases h.2 with ⟨e, e2⟩ | ⟨g, cap, cur, e, r1, r2, r3, r4, r5⟩
    · injection e with _ _ e3; omega
    · injection e with _ _ e3; simp only [maxLen] at r4; omega
  have m0 : (0 : Int) ≤ m := by omega
  have m1 : (m : Int) ≤ c := by omega
  cases A with
  | none =>
    obtain ⟨rfl, rfl⟩ : n = 0 ∧ c = 0 := by
      rcases h.2 with ⟨e, e2⟩ | ⟨g, cap, cur, e, _⟩
      · injection e with _ _ e3; omega
      · cases e
    obtain rfl : m = 0 := by omega
    have hu := Try.underlying62
    go_simp
  | some A =>
    have hu := Try.underlying62
    go_simp
theorem reF_step {w wr w1 w2 : World} {C C' : Col} {δ d N ml b1 kb i U : Nat} {vm vd : Value} {ad : Nat → Nat} {S : Dsk} {kd : List Int} {F : Fil} {vl vp vs v : Value} {us : List Value} {o : Obj} {e : Ending} (hd : DAt wr C' δ d N ml b1 vm vd ad (S.reFs kd i)) (hA : Agr w C C') (hk : Kept (fun b => (C b).1 = δ) w wr) (hkb : wr.heap[kb]? = some o) (hckb : (C' kb).1 ≠ δ)
    (hFA : FAt wr C' δ (i + 1) (ad i) vl vp vs us F) (hU : U = (kd.getD i 0).toNat) (hF' : (S.reFs kd i).fs[i]? = some F) (r1 : w1.ownsRow wr.heap.size 5 1 v (F.kept U).length (nums .u8 (F.kept U))) (r2 : Kept (fun _ => False) wr w1) (hp : SettlePost (ad i) v (F.kept U) w1 e w2) :
    ∃ C'', DAt w2 C'' δ d N ml b1 vm vd ad (S.reFs kd (i + 1)) ∧ Agr w C C'' ∧ Kept (fun b => (C b).1 = δ) w w2 ∧ w2.heap[kb]? = some o ∧ (C'' kb).1 ≠ δ := by
  obtain ⟨v', C'', g1, g2, g3⟩ := hFA.settled r1 r2 hp
  have hkk : Kept (fun b => (C' b).1 = δ ∧ (C' b).2.1 = i + 1) wr w2 := g3.mono fun b _ e => by subst e; rw [hFA.ca]; exact ⟨rfl, rfl⟩
  refine ⟨C'', ?_, hA.trans g1 hk.size, hk.trans hkk (fun _ _ e => e) (fun b hb e => by rw [← hA b hb]; exact e.1), blk_kept g3 hkb (fun e => hckb (by rw [e, hFA.ca])), by rw [g1 kb (blk_lt hkb)]; exact hckb⟩
  rw [← reFs_succ]
  refine hd.turnFile (g := reF kd i) hF' hkk g1 (vl := v) (vp := .slice none 0 0) (vs := v') (us := []) ?_
  unfold reF
  rw [← hU]
  exact g2
theorem OpPost.recol {w w' : World} {C C0 : Col} {δ d N : Nat} {S : Dsk} {r : Value} {e : Ending} (hA : Agr w C C0) (h : OpPost C0 δ d N S r w e w') : OpPost C δ d N S r w e w' := by
  obtain ⟨h1, h2, C', h3, h4⟩ := h
  exact ⟨h1, h2.mono (fun b hb e => by rw [← hA b hb]; exact e), C', fun b hb => (h3 b hb).trans (hA b hb), h4⟩
set_option maxHeartbeats 4000000 in
set_option maxRecDepth 100000 in
theorem restart_any' {w : World} {C : Col} {δ d N : Nat} {S : Dsk} (h : DskAt w C δ d N S) (kn : Int) (kd : List Int) (vk : Value) (hN : N ≤ 1000000000000) (hr : RowR w vk (nums .i64 kd)) (hv : ∀ A n c, vk = .slice (some A) n c → (C A.block).1 ≠ δ) (hkd : ∀ x ∈ kd, x < 9223372036854775808) (hkl : kd.length ≤ 9223372036854775807) (hcol : ∀ b, w.heap.size ≤ b → (C b).1 ≠ δ) :
    Calls Try.prog 15 #[.pointer (some ⟨d, 0, none⟩), .agg #[.int .i64 kn, vk]] w (OpPost C δ d N (S.rest kn kd) (.tuple #[]) w) := by
  obtain ⟨h0, ml, ms, vm, vd, ad, h⟩ := h
  obtain ⟨Am, cm, rfl⟩ := own_slice h.mv
  obtain ⟨Ad, cd, rfl⟩ := own_slice h.md
  obtain ⟨Ak, ck, rfl, hk0, hk1, hkc⟩ := hr
  have hll : (nums .i64 kd).length = kd.length := by simp [nums]
  rw [hll] at hk1 hv ⊢
  have hlen : S.made.length ≤ 1000000000000 := by have := h0.nfs; have := h0.len; omega
  have hlm : S.mvs.length ≤ 1000000000000 := by have := h0.nmv; omega
  have hM := mvN_le S kn
  obtain ⟨M, hMM⟩ : ∃ M, M = S.mvN kn := ⟨_, rfl⟩
  rw [← hMM] at hM
  have hmx : max 0 (min kn (S.mvs.length : Int)) = (M : Int) := by rw [hMM]; unfold Dsk.mvN; omega
  have hsl := slice_mv h.mv hM hlm
  have H := Lib.hid (And.intro h0 h)
  have HMM := Lib.hid hMM
  have hb := heap_alloc_new w (.cells #[.int .i64 kn, .slice Ak kd.length ck] 26)
  have B0 : DBlk (w.alloc (.cells #[.int .i64 kn, .slice Ak kd.length ck] 26)) d ml ms (.slice Am S.mvs.length cm) (.slice Ad S.made.length cd) S.off S.arm S.how S.uni := DBlk.kept h.blk (Kept.alloc (fun _ => False) w _) (fun e => e)
  have HB0 := Lib.hid (And.intro hb B0)
  clear h h0 hMM hb B0
  go_enter Try.func15, Try.ntmps15
  go_upto_region 1 with fail
  obtain ⟨W, hW⟩ : ∃ W, W = w.alloc (.cells #[.int .i64 kn, .slice Ak kd.length ck] 26) := ⟨_, rfl⟩
  have HW := Lib.hid hW
  rw [← hW] at HB0 ⊢
  obtain ⟨kb, hkb⟩ : ∃ kb, kb = w.heap.size := ⟨_, rfl⟩
  have HKB := Lib.hid hkb
  rw [← hkb] at HB0 ⊢
  clear hW hkb
  have q1 := HB0.out.2.c1
  have r0 := (blk_cell HB0.out.1 0).trans (show _ = some (.int .i64 kn) from rfl)
  go_still (by kernel_rfl)
  change Exit.then _ _ _ _ W.drew
  have hsW : w.heap.size ≤ kb := by rw [HKB.out]; exact Nat.le_refl _
  have N0 : Hid (NmAt W.drew ml (N - S.mvs.length + 0) ad (playM (S.mvs.take 0) S.las) ∧ Kept (fun b => b = ml) w W.drew ∧ W.heap[kb]? = some (.cells #[.int .i64 kn, .slice Ak kd.length ck] 26 (0, 0)) ∧ W.heap.size = w.heap.size + 1) := Lib.hid (by
    have k : Kept (fun _ => False) w W.drew := kept0 (by rw [HW.out]; exact Kept.alloc _ _ _) (Kept.drew _ _)
    exact ⟨H.out.2.las.kept k (fun e => e), k.mono (fun _ _ e => e.elim), HB0.out.1, by rw [HW.out]; simp⟩)
  clear q1 r0 hmx hsl
  go_wp2_with fail
  go_loopw [24] (fun i wr => ∃ j : Nat, i = .int .i64 j ∧ j ≤ M ∧ NmAt wr ml (N - S.mvs.length + j) ad (playM (S.mvs.take j) S.las) ∧ Kept (fun b => b = ml) W wr) (fun i _ => M - (intOf i).toNat)
  case atStart => exact ⟨0, rfl, Nat.zero_le _, N0.out.1, Kept.drew _ _⟩
  case round =>
    obtain ⟨j, rfl, hj, hnm, hk⟩ := hrel
    have hk0' : Kept (fun b => b = ml) w wr := (show Kept (fun _ => False) w W by rw [HW.out]; exact Kept.alloc _ _ _).trans hk (fun _ _ e => e.elim) (fun _ _ e => e)
    have hB := DBlk.kept H.out.2.blk hk0' (H.out.2.las.ne_blk H.out.2.blk).symm
    have hrow := own_kept H.out.2.mv hk0' (fun b hb e => by subst e; exact H.out.2.las.ne_own H.out.2.mv hb)
    by_cases hlt : j < M
    · have j1 : (j : Int) < M := by omega
      have j0 : (0 : Int) ≤ j := by omega
      have hltm : j < S.mvs.length := by omega
      obtain ⟨m, hm⟩ : ∃ m, S.mvs[j]? = some m := ⟨_, List.getElem?_eq_getElem hltm⟩
      obtain ⟨gm, cm', eA⟩ := own_some H.out.2.mv (by omega)
      injection eA with eA1 eA2 eA3
      subst eA1 eA3
      have m0 := (hrow.cellAt (j * 3) (by omega)).trans ((mv_cell ad hm 0 (by omega)).trans (show _ = some (.string m.fr) from rfl))
      have m1 := (hrow.cellAt (j * 3 + 1) (by omega)).trans ((mv_cell ad hm 1 (by omega)).trans (show _ = some (.string m.to) from rfl))
      obtain ⟨p, hp⟩ : ∃ p, ptrV ad m.f = .pointer p := ⟨_, rfl⟩
      have m2 := (hrow.cellAt (j * 3 + 2) (by omega)).trans ((mv_cell ad hm 2 (by omega)).trans (show _ = some (.pointer p) from congrArg some hp))
      have HP := Lib.hid hp
      have E := Lib.hid (And.intro hnm (And.intro hk (And.intro hB hm)))
      clear hnm hk hB hrow hm hk0' eA2 hp
      go_upto_region 4 with fail
      obtain ⟨Wa, hWa⟩ : ∃ Wa, Wa = wr.alloc (.cells #[.string m.fr, .string m.to, .pointer p] 74) := ⟨_, rfl⟩
      obtain ⟨pa, hpa⟩ : ∃ pa, pa = wr.heap.size := ⟨_, rfl⟩
      have hbl : Wa.heap[pa]? = some (.cells #[.string m.fr, .string m.to, .pointer p] 74 (0, 0)) := by rw [hWa, hpa]; exact heap_alloc_new wr _
      have ka : Kept (fun _ => False) wr Wa := by rw [hWa]; exact Kept.alloc _ _ _
      rw [← hWa, ← hpa]
      have q0 := (DBlk.kept E.out.2.2.1 ka (fun e => e)).c0
      have hd := done_any m ml (N - S.mvs.length + j) ad _ _ (E.out.1.kept (kept0 ka (Kept.drew _ _)) (fun e => e)) (okM_take H.out.1.okm E.out.2.2.2) (H.out.1.nm m (List.mem_of_getElem? E.out.2.2.2)) (show N - S.mvs.length + j < maxLen by simp only [maxLen]; omega)
      unfold mvV at hd
      rw [HP.out] at hd
      have n0 := (blk_cell hbl 0).trans (show _ = some (.string m.fr) from rfl)
      have n1 := (blk_cell hbl 1).trans (show _ = some (.string m.to) from rfl)
      have n2 := (blk_cell hbl 2).trans (show _ = some (.pointer p) from rfl)
      have KA := Lib.hid ka
      clear m0 m1 m2 hbl ka hWa hpa
      go_still_tail 5, (by kernel_rfl)
      change wpList _ _ _ _ _ Wa.drew
      go_wp2_with (go_at_call 35; refine hd.mono ?_; rintro e w6 ⟨rfl, r1, r2⟩; have E6 := Lib.hid (And.intro r1 r2); clear r1 r2)
      obtain ⟨r1, r2⟩ := E6.out
      rw [← playM_take_succ E.out.2.2.2] at r1
      exact ⟨⟨j + 1, by congr 1, by omega, r1, (E.out.2.1.trans (kept0 KA.out (Kept.drew _ _)) (U := fun b => b = ml) (fun _ _ e => e) (fun _ _ e => e.elim)).trans r2 (fun _ _ e => e) (fun _ _ e => e)⟩, by simp [intOf]; omega⟩
    · have j1 : ¬ (j : Int) < M := by omega
      obtain rfl : j = M := by omega
      have c0 := hB.c0
      have E := Lib.hid (And.intro hnm (And.intro hk (And.intro hk0' hB)))
      clear hnm hk hk0' hB hrow
      have hNM : N - S.mvs.length + j ≤ N := by have := H.out.1.nmv; omega
      go_wp2_with (go_at_call 32; refine (clone_nm ml N ad _ _ (E.out.1.mono hNM)).mono ?_; rintro e w2 ⟨rfl, r1, r2, r3⟩; obtain ⟨t1, t2, t3⟩ := H.out.2.renamed E.out.2.2.1 ((E.out.1.mono hNM).kept r2 (fun e => e)) r1 r2; have y1 := t1.c1; have z1 := t1.fr 1; have t1' := t1.s1 (.slice none 0 0); have y2 := t1'.c2; have z2 := t1'.fr 2; have q3 := (t1'.s2 wr.heap.size).c3; have HT := Lib.hid (And.intro t2 (And.intro t3 r2)); clear r1 r2 r3 t1 t1' t2 t3)
      obtain ⟨C1, hC1⟩ : ∃ C1, C1 = C.new wr.heap.size (δ, 0, 2) := ⟨_, rfl⟩
      obtain ⟨b1, hb1⟩ : ∃ b1, b1 = wr.heap.size := ⟨_, rfl⟩
      obtain ⟨W3, hW3⟩ : ∃ W3, W3 = (w2.setCell ⟨d, 1, none⟩ (.slice none 0 0)).setCell ⟨d, 2, none⟩ (.map (some wr.heap.size)) := ⟨_, rfl⟩
      have hS1 : ({ S with las := playM (S.mvs.take j) S.las, see := playM (S.mvs.take j) S.las, mvs := [] } : Dsk) = S.reN kn := by unfold Dsk.reN Dsk.reNm; rw [HMM.out]
      have G3 : Hid (DAt W3 C1 δ d N ml b1 (.slice none 0 0) (.slice Ad S.made.length cd) ad (S.reN kn) ∧ Agr w C C1 ∧ Kept (fun b => (C b).1 = δ) w W3 ∧ W3.heap[kb]? = some (.cells #[.int .i64 kn, .slice Ak kd.length ck] 26 (0, 0)) ∧ (C1 kb).1 ≠ δ) := Lib.hid (by
        obtain ⟨t1, t2, t3⟩ := HT.out
        have hdlt : d < w.heap.size := blk_lt H.out.2.blk
        have hmlt := H.out.2.las.lt
        have hkW : kb < wr.heap.size := by have := E.out.2.1.size; have := N0.out.2.2.2; have := HKB.out; omega
        refine ⟨?_, ?_, ?_, ?_, ?_⟩
        · rw [hW3, hC1, hb1, ← hS1]; exact t1
        · rw [hC1]; exact fun b hb => Agr.new wr C (δ, 0, 2) b (Nat.lt_of_lt_of_le hb E.out.2.2.1.size)
        · rw [hW3]; exact t2.mono (fun b _ e => by rcases e with rfl | rfl; · rw [H.out.2.cd]
                                                   · rw [H.out.2.cl])
        · have k1 := blk_kept E.out.2.1 N0.out.2.2.1 (by omega)
          have k2 := blk_kept t3 k1 (fun e => e)
          have ks : Kept (fun b => b = d) w2 W3 := by
            rw [hW3]
            exact (Kept.setCell (S := fun k => k = d) _ _ _ rfl).trans (Kept.setCell (S := fun k => k = d) _ _ _ rfl) (fun _ _ e => e) fun _ _ e => e
          exact blk_kept ks k2 (by omega)
        · rw [hC1]; unfold Col.new; rw [if_pos hkW]; exact hcol kb hsW)
      rw [← hW3] at q3
      rw [← hW3, ← hb1]
      clear HT y1 z1 y2 z2 hW3 hb1 hC1 hS1 c0 E
      go_loopw [51] (fun i wv => ∃ j : Nat, ∃ C' : Col, i = .int .i64 j ∧ j ≤ S.made.length ∧ DAt wv C' δ d N ml b1 (.slice none 0 0) (.slice Ad S.made.length cd) ad ((S.reN kn).reFs kd j) ∧ Agr w C C' ∧ Kept (fun b => (C b).1 = δ) w wv ∧ wv.heap[kb]? = some (.cells #[.int .i64 kn, .slice Ak kd.length ck] 26 (0, 0)) ∧ (C' kb).1 ≠ δ) (fun i _ => S.made.length - (intOf i).toNat)
      case atStart => exact ⟨0, C1, rfl, Nat.zero_le _, by rw [reFs_zero]; exact G3.out.1, G3.out.2⟩
      case round =>
        obtain ⟨i, C', rfl, hi, hd, hA, hk, hkb, hckb⟩ := hrel
        clear q3
        have q3 := (show DBlk wr d ml b1 (.slice none 0 0) (.slice Ad S.made.length cd) S.off S.arm S.how S.uni from hd.blk).c3
        by_cases hlt : i < S.made.length
        · have i1 : (i : Int) < S.made.length := by omega
          have i0 : (0 : Int) ≤ i := by omega
          obtain ⟨b, hb⟩ : ∃ b, S.made[i]? = some b := ⟨_, List.getElem?_eq_getElem hlt⟩
          obtain ⟨gd, cd', eA⟩ := own_some (show wr.ownsRow 0 66 1 (.slice Ad S.made.length cd) S.made.length (mdC ad S.made) from hd.md) (by omega)
          injection eA with eA1 eA2 eA3
          subst eA1 eA3
          have hrow : wr.ownsRow 0 66 1 (.slice (some ⟨gd, 0, none⟩) S.made.length cd) S.made.length (mdC ad S.made) := hd.md
          have hcl : wr.cell? ⟨gd, i, none⟩ = some (mdV ad i b) := (hrow.cellAt i (by omega)).trans (by unfold mdC; rw [List.getElem?_mapIdx, hb]; rfl)
          cases b with
          | false =>
            replace hcl : wr.cell? ⟨gd, i, none⟩ = some (.pointer none) := hcl
            have F1 := Lib.hid (And.intro (hd.skip (show S.made.getD i false = false by rw [List.getD_eq_getElem?_getD, hb]; rfl)) (And.intro hA (And.intro hk (And.intro hkb hckb))))
            clear hd hA hk hkb hckb hrow hb eA2
            go_wp2_with fail
            exact ⟨⟨i + 1, C', by congr 1, by omega, F1.out⟩, by simp [intOf]; omega⟩
          | true =>
            replace hcl : wr.cell? ⟨gd, i, none⟩ = some (.pointer (some ⟨ad i, 0, none⟩)) := hcl
            have hmi : S.made.getD i false = true := by rw [List.getD_eq_getElem?_getD, hb]; rfl
            have hlf : i < S.fs.length := by have := H.out.1.len; omega
            obtain ⟨F, hF⟩ : ∃ F, S.fs[i]? = some F := ⟨_, List.getElem?_eq_getElem hlf⟩
            have hF' : ((S.reN kn).reFs kd i).fs[i]? = some F := by rw [reFs_get]; show (S.fs[i]?).map _ = _; rw [hF]; simp
            obtain ⟨vl, vp, vs, us, hFA⟩ := hd.fl i F hF' hmi
            have hnb := H.out.1.nby F (List.mem_of_getElem? hF)
            have hok := (H.out.1.file F (List.mem_of_getElem? hF)).1
            obtain ⟨U, hU⟩ : ∃ U, U = (kd.getD i 0).toNat := ⟨_, rfl⟩
            have hUlt : U < 9223372036854775808 := by
              rw [hU, List.getD_eq_getElem?_getD]
              cases e : kd[i]? with
              | none => simp
              | some x => have := hkd x (List.mem_of_getElem? e); simp; omega
            have hn1 : F.las.length + allL F.pen ≤ 140737488355328 := by omega
            have hn2 : F.pen.length ≤ 140737488355328 := by omega
            have hkl2 : (F.kept U).length ≤ 140737488355328 := by have := kept_len (u := U) hnb.1; omega
            have p1 := (blk_cell hkb 1).trans (show _ = some (.slice Ak kd.length ck) from rfl)
            have F1 := Lib.hid (And.intro hd (And.intro hA (And.intro hk (And.intro hkb (And.intro hckb (And.intro hFA (And.intro hok (And.intro hU hF'))))))))
            by_cases hik : i < kd.length
            · have i2 : (i : Int) < kd.length := by omega
              have hx : kd[i]? = some (kd[i]'hik) := List.getElem?_eq_getElem hik
              obtain ⟨x, hxx⟩ : ∃ x, x = kd[i]'hik := ⟨_, rfl⟩
              rw [← hxx] at hx
              obtain ⟨adk, rfl, hck⟩ := hkc i (.int .i64 x) (by unfold nums; rw [List.getElem?_map, hx]; rfl)
              have hck := kept_cell hk hck (by rw [Addr.add_block]; exact hv adk _ _ rfl)
              have hmx : max 0 x = (U : Int) := by rw [hU, List.getD_eq_getElem?_getD, hx]; simp; omega
              clear hd hA hk hkb hckb hFA hok hrow hb eA2 hmi hF hF' hnb hU hx hxx
              go_wp2_with (first
                | (go_at_call 36; refine (kept_any F1.out.2.2.2.2.2.1 F1.out.2.2.2.2.2.2.1 hn1 hn2 U hUlt).mono ?_; rintro e w4 ⟨v4, rfl, r1, r2⟩; obtain ⟨A4, n4, rfl⟩ := own_slice r1; have R4 := Lib.hid (And.intro r1 r2); clear r1 r2)
                | (go_at_call 30; refine (settle_any (ad i) vl vp vs _ (F.kept U) _ (FBlk.kept F1.out.2.2.2.2.2.1.blk R4.out.2 (fun e => e)) (Lies.of_own R4.out.1).reads hkl2).mono ?_; rintro e w5 hp; have HQ := Lib.hid (reF_step F1.out.1 F1.out.2.1 F1.out.2.2.1 F1.out.2.2.2.1 F1.out.2.2.2.2.1 F1.out.2.2.2.2.2.1 F1.out.2.2.2.2.2.2.2.1 F1.out.2.2.2.2.2.2.2.2 R4.out.1 R4.out.2 hp); obtain ⟨v3, rfl, -⟩ := hp))
              obtain ⟨C'', hQ⟩ := HQ.out
              exact ⟨⟨i + 1, C'', by congr 1, by omega, hQ⟩, by simp [intOf]; omega⟩
            · have i2 : ¬ (i : Int) < kd.length := by omega
              have hU0 : U = 0 := by rw [hU, List.getD_eq_getElem?_getD, List.getElem?_eq_none (by omega)]; rfl
              subst hU0
              clear hd hA hk hkb hckb hFA hok hrow hb hmi hF hF' hnb hU
              go_wp2_with (first
                | (go_at_call 36; refine (kept_any F1.out.2.2.2.2.2.1 F1.out.2.2.2.2.2.2.1 hn1 hn2 0 hUlt).mono ?_; rintro e w4 ⟨v4, rfl, r1, r2⟩; obtain ⟨A4, n4, rfl⟩ := own_slice r1; have R4 := Lib.hid (And.intro r1 r2); clear r1 r2)
                | (go_at_call 30; refine (settle_any (ad i) vl vp vs _ (F.kept 0) _ (FBlk.kept F1.out.2.2.2.2.2.1.blk R4.out.2 (fun e => e)) (Lies.of_own R4.out.1).reads hkl2).mono ?_; rintro e w5 hp; have HQ := Lib.hid (reF_step F1.out.1 F1.out.2.1 F1.out.2.2.1 F1.out.2.2.2.1 F1.out.2.2.2.2.1 F1.out.2.2.2.2.2.1 F1.out.2.2.2.2.2.2.2.1 F1.out.2.2.2.2.2.2.2.2 R4.out.1 R4.out.2 hp); obtain ⟨v3, rfl, -⟩ := hp))
              obtain ⟨C'', hQ⟩ := HQ.out
              exact ⟨⟨i + 1, C'', by congr 1, by omega, hQ⟩, by simp [intOf]; omega⟩
        · have i1 : ¬ (i : Int) < S.made.length := by omega
          obtain rfl : i = S.made.length := by omega
          have hdd : DAt wr C' δ d N ml b1 (.slice none 0 0) (.slice Ad S.made.length cd) ad ((S.reN kn).reFs kd S.fs.length) := by rw [← H.out.1.len]; exact hd
          have F1 := Lib.hid (And.intro hdd (And.intro hA hk))
          clear hd hdd hA hk hkb hckb
          go_wp2_with (go_at_call 33; refine (sweep_any ((H.out.1.reN kn).reFs kd S.fs.length) F1.out.1 hN).mono ?_; rintro e w5 hp; have s4 := (show DBlk w5 d ml b1 _ _ S.off S.arm S.how S.uni from hp.2.1.blk); have y4 := s4.c4; have f4 := s4.fr 4; have s5 := s4.s4 false; have y5 := s5.c5; have f5 := s5.fr 5; have HQ := Lib.hid (And.intro hp (s5.s5 0)); obtain ⟨rfl, -⟩ := hp; clear s4 s5)
          go_end0
          obtain ⟨hp, hb5⟩ := HQ.out
          have k5 : Kept (fun b => b = d) w5 ((w5.setCell ⟨d, 4, none⟩ (.bool false)).setCell ⟨d, 5, none⟩ (.int .i64 0)) :=
            (Kept.setCell (S := fun k => k = d) _ _ _ rfl).trans (Kept.setCell (S := fun k => k = d) _ _ _ rfl) (fun _ _ e => e) fun _ _ e => e
          have hfin := hp.2.1.turned k5 (off := false) (arm := 0) (how := S.how) (uni := S.uni) hb5
          refine ⟨rfl, (F1.out.2.2.trans hp.2.2 (U := fun b => (C b).1 = δ) (fun _ _ e => e) (fun b hb e => by rw [← F1.out.2.1 b hb, F1.out.1.ck b e])).trans k5 (fun _ _ e => e) (fun b hb e => by subst e; rw [← F1.out.2.1 b hb, F1.out.1.cd]), C', F1.out.2.1, H.out.1.rest kn kd, ml, b1, _, _, ad, hfin⟩
theorem restart_any {w : World} {C : Col} {δ d N : Nat} {S : Dsk} (h : DskAt w C δ d N S) (kn : Int) (kd : List Int) (vk : Value) (hN : N ≤ 1000000000000) (hr : RowR w vk (nums .i64 kd)) (hv : ∀ A n c, vk = .slice (some A) n c → (C A.block).1 ≠ δ) (hkd : ∀ x ∈ kd, x < 9223372036854775808) (hkl : kd.length ≤ 9223372036854775807) :
    Calls Try.prog 15 #[.pointer (some ⟨d, 0, none⟩), .agg #[.int .i64 kn, vk]] w (OpPost C δ d N (S.rest kn kd) (.tuple #[]) w) := by
  have hA := Agr.new w C (δ + 1, 0, 0)
  by_cases hlt : ∃ A n c, vk = .slice (some A) n c ∧ ¬ A.block < w.heap.size
  · obtain ⟨A, n, c, rfl, hA2⟩ := hlt
    have hv2 : ∀ A' n' c', Value.slice (some A) n c = .slice (some A') n' c' → ((C.new w.heap.size (δ + 1, 0, 0)) A'.block).1 ≠ δ := by
      intro A' n' c' e
      injection e with e1
      injection e1 with e1
      subst e1
      unfold Col.new
      rw [if_neg hA2]
      exact Nat.succ_ne_self δ
    exact (restart_any' (h.kept (.refl (fun _ => False) w) (fun _ _ e => e) hA) kn kd _ hN hr hv2 hkd hkl (fun b hb => by rw [Col.new_ge hb]; exact Nat.succ_ne_self δ)).mono fun e w' hp => hp.recol hA
  · have hv2 : ∀ A' n' c', vk = .slice (some A') n' c' → ((C.new w.heap.size (δ + 1, 0, 0)) A'.block).1 ≠ δ := by
      intro A' n' c' e
      have hA2 : A'.block < w.heap.size := Decidable.byContradiction fun hn => hlt ⟨A', n', c', e, hn⟩
      rw [hA A'.block hA2]
      exact hv A' n' c' e
    exact (restart_any' (h.kept (.refl (fun _ => False) w) (fun _ _ e => e) hA) kn kd _ hN hr hv2 hkd hkl (fun b hb => by rw [Col.new_ge hb]; exact Nat.succ_ne_self δ)).mono fun e w' hp => hp.recol hA
end Go.Proofs.Ytgohjgeplageeaa
