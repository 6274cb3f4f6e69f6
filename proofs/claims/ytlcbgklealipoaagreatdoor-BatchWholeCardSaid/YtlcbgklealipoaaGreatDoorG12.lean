/- The reader: the tables (the walk; printed by gen_g12.py). -/
import Derived.Test.YtlcbgklealipoaaGreatDoorZJ
import Derived.Test.YtlcbgklealipoaaGreatDoorZI
import Derived.StillTailTactics
import Derived.Deep.RegionLaw
import Derived.Test.YtlcbgklealipoaaGreatDoorZH
namespace Go.Proofs.YtlcbgklealipoaaGreatDoor
open Go Go.RowKit
set_option linter.unusedVariables false
set_option linter.unusedSimpArgs false

def tv0 : TV := ⟨.slice none 0 0, .slice none 0 0, .slice none 0 0, .slice none 0 0⟩
def TabPost (rb r : Nat) (w0 : World) (L : List Int) (res : BRes (TT × RR)) (w : World) (e : Ending) (w' : World) : Prop :=
  match res with
  | .ok p s' => ∃ tv, e = .returned (.tuple #[]) ∧ QAt rb r w0 L p.1 p.2 tv s' w' ∧ Aside w w' ∧ (∀ t ∈ p.1.map Prod.fst, t.size ≤ 200) ∧ p.1.length ≤ 65536 ∧ p.2.length ≤ 65536
  | .err a no => Stop a no w0 e w'
theorem plain_int {n : Nat} (h : n ≤ 1000000) : plainElem (H := Unit) Tryz.prog 3 (.int .i64 n) = some (.lit (.int .i64 n), []) := plainElem_int Tryz.underlying3 (by
  show decide _ = true
  rw [decide_eq_true_eq]
  have e1 : (IntKind.i64.max : Int) = 9223372036854775807 := rfl
  have e2 : (IntKind.i64.min : Int) = -9223372036854775808 := rfl
  omega)
theorem Tryz.info3 : (Tryz.prog.info? 3).map (fun i => (i.zero, i.size, i.bytes)) = some (some (.int .i64 0), 1, 8) := by kernel_rfl
theorem cell_keptS {S : Nat → Prop} {w w' : World} {a : Addr} {u : Value} (hk : Kept S w w') (h : w.cell? a = some u) (hn : ¬ S a.block) : w'.cell? a = some u := (World.cell?_of_block (hk.block _ (World.block_lt_of_cell? w _ h) hn)).trans h
theorem GAt.other {rb r : Nat} {w0 w wE w1 : World} {L : List Int} {T : TT} {R : RR} {tv : TV} {s : BSt} {qb : Nat} {cs : Array Value} {t : TypeId} {fr : Nat × Nat} (h : GAt rb r w0 L T R tv wE s w) (hq : w.heap[qb]? = some (.cells cs t fr)) (hk : Kept (fun k => k = qb) w w1) (ht : t ≠ 110 ∧ t ≠ 171 ∧ t ≠ 5 ∧ t ≠ 9 ∧ t ≠ 3) (h6 : tv.rl.ownBlock ≠ some qb) (hge : wE.heap.size ≤ qb) (hge0 : w0.heap.size ≤ qb) : GAt rb r w0 L T R tv wE s w1 := by
  obtain ⟨h1, h2, h3, h4, h5⟩ := ht
  exact ⟨h.at_.other hq hk h1 h2 h3 h4 h5 h6 hge0, h.keptE.trans hk (fun _ _ e => e) (fun i hi e => by omega), h.newE⟩
theorem keyStr {x : ByteArray} (h : x.size ≤ 200) : keyOf Tryz.prog 9 (.string x) = some (strKey x) := Go.WideMaps.keyOf_string_mk (P := Tryz.prog) Tryz.underlying9 (by unfold maxLen; omega)
section
variable {rb r : Nat} {w0 w : World} {L : List Int} {s : BSt}
set_option maxHeartbeats 32000000 in
set_option maxRecDepth 100000 in
theorem qtables (h : QAt rb r w0 L [] [] tv0 s w) (hl : L.length ≤ 65536) (hb : Bytes L) (hU : Lib.Utf8Tabs 1 2 w0) :
    Calls Tryz.prog 43 #[.pointer (some ⟨rb, 0, none⟩)] w (TabPost rb r w0 L (tabsR L s) w) := by
  have HE := Lib.hid h
  have HUT := Lib.hid hU
  have hmk := fun (t : TypeId) (W : World) => run_makeMap (P := Tryz.prog) t W
  obtain ⟨W1, hW1⟩ : ∃ W, W = w.alloc (.map #[] 0) := ⟨_, rfl⟩
  have hW1' := hW1.symm
  have H1 : Hid (QAt rb r w0 L [] [] tv0 s W1) := Lib.hid (by rw [hW1]; exact h.alloc _)
  have HK1 : Hid (Kept (fun _ => False) w W1) := Lib.hid (by rw [hW1]; exact .alloc _ _ _)
  obtain ⟨mb, hmb⟩ : ∃ m, m = w.heap.size := ⟨_, rfl⟩
  have HM1 : Hid (W1.ownsMap Tryz.prog 9 (plainElem Tryz.prog 3) mb 0 (.map [] : DataW Unit)) := Lib.hid (by rw [hW1, hmb]; exact World.ownsMap_made w _ _ _)
  have HGE : Hid (w.heap.size ≤ mb ∧ w0.heap.size ≤ mb) := Lib.hid (by have := h.kept.size; omega)
  clear h hU hW1
  cases hu : uintR L s with
  | err a no =>
    have HRES : Hid (tabsR L s = .err a no) := Lib.hid (bind_err hu)
    have HU := Lib.hid hu
    clear hu
    go_enter Tryz.func43, Tryz.ntmps43
    go_wp2_with (go_at_call 45; (with_reducible refine (quintK H1.out hl hb).mono ?_); rintro e wx hp; unfold QPostK at hp; rw [HU.out] at hp; obtain ⟨q1, f1, rfl, hs⟩ := hp; have HS := Lib.hid hs; clear hs)
    refine ⟨rfl, ?_⟩
    unfold TabPost
    rw [HRES.out]
    exact ⟨q1, f1, rfl, HS.out⟩
  | ok nt s1 =>
  have hnt := uintR_lt hu
  have HU := Lib.hid hu
  have HF1 : Hid (tabsR L s = ((Rdr.loop textsR nt []).bind fun T => uintR.bind fun nr => (Rdr.loop tracesR nr []).map fun R => (T, R)) L s1) := Lib.hid (bind_ok hu)
  clear hu
  go_enter Tryz.func43, Tryz.ntmps43
  go_upto_region 2 with (go_at_call 45; (with_reducible refine (quintK H1.out hl hb).mono ?_); rintro e wx hp; unfold QPostK at hp; rw [HU.out] at hp; obtain ⟨vx, rfl, rfl, hx1, ax1⟩ := hp; have H2 := Lib.hid (And.intro hx1 ax1); clear hx1 ax1)
  have hg : GAt rb r w0 L [] [] tv0 w s1 wx := ⟨H2.out.1, HK1.out.trans H2.out.2 (fun _ _ e => e.elim) (fun _ _ e => .inr e), fun k e => by rcases e with e | e | e | e <;> simp [tv0, Value.ownBlock] at e⟩
  have hsn : SeenT mb [] wx := by
    obtain ⟨v, hv⟩ := H1.out.rd
    exact ⟨_, map_kept HM1.out H2.out.2 (map_no HM1.out hv.blk), .new⟩
  have HG0 := Lib.hid (And.intro hg hsn)
  rw [← hmb]
  clear hg hsn hmb H1 HK1 HM1 H2 hW1' HU
  go_loopw [3] (fun i wr => ∃ (m k : Nat) (T : TT) (sk : BSt) (tv : TV), i = .int .u64 m ∧ m + k = nt ∧ Rdr.loop textsR k [] L s1 = .ok T sk ∧ GAt rb r w0 L T [] tv w sk wr ∧ SeenT mb T wr ∧ (∀ t ∈ T.map Prod.fst, t.size ≤ 200) ∧ T.length ≤ sk.n) (fun i _ => (intOf i).toNat)
  case atStart => exact ⟨nt, 0, [], s1, tv0, rfl, rfl, rfl, HG0.out.1, HG0.out.2, (fun t h => by cases h), Nat.zero_le _⟩
  obtain ⟨m, k, T, sk, tv, rfl, hmn, hloop, hg, hsn, hts, htl⟩ := hrel
  clear HG0
  by_cases hm0 : 0 < m
  · obtain ⟨m', rfl⟩ : ∃ m', m = m' + 1 := ⟨m - 1, by omega⟩
    have hkn : k < nt := by omega
    have m1 : ((0 : Int) < ((m' + 1 : Nat) : Int)) = True := eq_true (by omega)
    have m2 : (0 < m' + 1) = True := eq_true (by omega)
    have hwr : IntKind.u64.wrap (((m' + 1 : Nat) : Int) - 1) = (m' : Int) := by rw [IntKind.wrap_u64]; omega
    obtain ⟨mi, hmi⟩ : ∃ z : Int, z = ((m' + 1 : Nat) : Int) := ⟨_, rfl⟩
    rw [← hmi] at m1 hwr ⊢
    obtain ⟨D, hown, hD⟩ := hsn
    have hle := hg.at_.le
    have hsk : sk.n ≤ 65536 := by omega
    have HG := Lib.hid hg
    have c0 := hg.at_.c0
    have HOWN := Lib.hid hown
    have HD := Lib.hid hD
    have HLP := Lib.hid hloop
    have HTS := Lib.hid hts
    have HMI := Lib.hid hmi
    clear hg hown hD hloop hts hm0 hmi m2
    cases ht : textRd 200 L sk with
    | err a no =>
      have HRES : Hid (tabsR L s = .err a no) := Lib.hid (HF1.out.trans (bind_err (loop_bad HLP.out (texts_err ht) nt hkn)))
      have HU := Lib.hid ht
      clear ht
      go_wp2_with (first
        | (go_at_call 44; (with_reducible refine (qat HG.out.at_ hl).mono ?_); rintro e w' ⟨rfl, hw⟩; subst w')
        | (go_at_call 85; (with_reducible refine (qtxt HG.out.at_ hl hb HUT.out).mono ?_); rintro e wx hp; unfold TxtPost at hp; rw [HU.out] at hp; obtain ⟨f, rfl, hf, hk⟩ := hp; have HX := Lib.hid (And.intro hk hf); clear hf hk)
        | (go_at_call 48; (with_reducible refine (stop_err (a := a) (no := no) (w0 := w0) HX.out.1 HX.out.2).mono ?_); rintro e w' ⟨q1, f1, rfl, hs⟩; have HS := Lib.hid hs; clear hs))
      refine ⟨rfl, ?_⟩
      unfold TabPost
      rw [HRES.out]
      exact ⟨q1, f1, rfl, HS.out⟩
    | ok x s2 =>
    obtain ⟨hx200, hlt, hle2, hs2⟩ := text_got hb HG.out.at_.le ht
    have HU := Lib.hid ht
    have hkey := keyStr hx200
    by_cases hd : x ∈ T.map Prod.fst
    · have hhas : Go.Maps.has D (strKey x) = true := by rw [HD.out.has x trivial]; exact hasIn_iff.2 hd
      have HRES : Hid (tabsR L s = .err sk.n 54) := Lib.hid (HF1.out.trans (bind_err (loop_bad HLP.out (texts_dup ht hd) nt hkn)))
      clear ht hd
      go_wp2_with (first
        | (go_at_call 44; (with_reducible refine (qat HG.out.at_ hl).mono ?_); rintro e w' ⟨rfl, hw⟩; subst w')
        | (go_at_call 85; (with_reducible refine (qtxt HG.out.at_ hl hb HUT.out).mono ?_); rintro e wx hp; unfold TxtPost at hp; rw [HU.out] at hp; obtain ⟨rfl, hx1, hk⟩ := hp; have HX := Lib.hid (HG.out.moved hx1 hk); have hown := HG.out.map_moved HOWN.out hk; clear hx1 hk)
        | (go_at_call 48; (with_reducible refine (stop_nil _).mono ?_); rintro e w' ⟨rfl, hw⟩; subst w')
        | (at_lookup; refine wpList_lookup_own_ok_int _ rfl _ _ 82 rfl 9 3 .i64 (Go.Maps.string_keyed Tryz.underlying9) Tryz.underlying82 Tryz.underlying3 (Tryz.zeroValue3 _) mb T.length D rfl hown _ _ rfl hkey ?_; intro c hat hwc; rw [hhas])
        | (go_at_call 46; (with_reducible refine (wrong_yes (w0 := w0) sk.n 54 HX.out.at_.kept).mono ?_); rintro e w' ⟨q1, f1, rfl, hs⟩; have HS := Lib.hid hs; clear hs))
      refine ⟨rfl, ?_⟩
      unfold TabPost
      rw [HRES.out]
      exact ⟨q1, f1, rfl, HS.out⟩
    · have hhas : Go.Maps.has D (strKey x) = false := by rw [HD.out.has x trivial]; exact hasIn_not.2 hd
      have HLK := Lib.hid (texts_ok (l := T) ht hd)
      have hval := plain_int (n := sk.n) (by omega)
      have k1 : T.length < maxLen := by unfold maxLen; omega
      have k2 : T.length ≤ 1000000000 := by omega
      obtain ⟨A1, p1, e1⟩ := own_slice HG.out.at_.rows.r1
      obtain ⟨A2, p2, e2⟩ := own_slice HG.out.at_.rows.r2
      have HE1 := Lib.hid e1
      have HE2 := Lib.hid e2
      obtain ⟨i9, hi9, hz90, hz91, hz92⟩ := info_parts Tryz.info9
      obtain ⟨i3, hi3, hz30, hz31, hz32⟩ := info_parts Tryz.info3
      clear ht hd e1 e2
      go_upto_region 10 with (first
        | (go_at_call 44; (with_reducible refine (qat HG.out.at_ hl).mono ?_); rintro e w' ⟨rfl, hw⟩; subst w')
        | (go_at_call 85; (with_reducible refine (qtxt HG.out.at_ hl hb HUT.out).mono ?_); rintro e wx hp; unfold TxtPost at hp; rw [HU.out] at hp; obtain ⟨rfl, hx1, hk⟩ := hp; have HX := Lib.hid (HG.out.moved hx1 hk); have hown := HG.out.map_moved HOWN.out hk; clear hx1 hk)
        | (go_at_call 48; (with_reducible refine (stop_nil _).mono ?_); rintro e w' ⟨rfl, hw⟩; subst w')
        | (at_lookup; refine wpList_lookup_own_ok_int _ rfl _ _ 82 rfl 9 3 .i64 (Go.Maps.string_keyed Tryz.underlying9) Tryz.underlying82 Tryz.underlying3 (Tryz.zeroValue3 _) mb T.length D rfl hown _ _ rfl hkey ?_; intro c hat hwc; rw [hhas]; clear hat hwc)
        | (go_at_call 46; (with_reducible refine (wrong_no _ _ _).mono ?_); rintro e w' ⟨rfl, hw9⟩; subst w')
        | (at_mapUpdate; refine wpList_mapUpdate_own _ rfl _ _ _ 82 rfl 9 3 (Go.Maps.string_keyed Tryz.underlying9) Tryz.underlying82 (plainElem Tryz.prog 3) mb T.length D rfl hown k1 _ _ _ rfl rfl hkey _ [] hval ?_; intro w1 hown1 hg1))
      obtain ⟨es, ck, hmm, _⟩ := id hown
      have hgr := HX.out.rows.mapped hmm hg1 HGE.out.1 HGE.out.2
      have y1 : w1.cell? ⟨rb, 1, none⟩ = some (.slice A1 T.length p1) := by rw [← HE1.out]; exact (hgr.q.cell 1).trans rfl
      have r1 := hgr.q.r1
      have r2 := hgr.q.r2
      rw [HE1.out] at r1
      rw [HE2.out] at r2
      have b1 := hgr.q.kept.size
      have HGR := Lib.hid hgr
      have HOWN1 := Lib.hid hown1
      have HADD := Lib.hid (HD.out.add strKey_inj strKey_lit (x := x) trivial (.lit (.int .i64 sk.n)))
      clear hgr hown1 hg1 hmm hown c0 hkey hval hhas
      go_upto_region 11 with (at_builtin; refine wpList_append_long rfl _ _ 83 rfl w0.heap.size 9 i9 (.string ⟨#[]⟩) 1 16 Tryz.underlying83 hi9 hz90 hz91 hz92 rfl (by decide) (.slice A1 T.length p1) T.length (tCells T) #[.string x] 1 rfl rfl rfl (by simp [Value.oneCell']) r1 k2 (by decide) b1 ?_; intro A' c' w2 hown2 hg2 hat2; have hpp := HGR.out.push1 hown2 (by rw [HE1.out]; exact hg2) (by rw [HE1.out]; exact hat2); have y5 := hpp.1; rw [HE1.out] at y5; have z5 := hpp.2.1; have HPP := Lib.hid hpp.2.2; clear hpp hown2 hg2 hat2)
      obtain ⟨W3, hW3⟩ : ∃ W, W = w2.setCell ⟨rb, 1, none⟩ (.slice A' (T.length + 1) c') := ⟨_, rfl⟩
      have hpp := HPP.out
      rw [← hW3] at hpp ⊢
      obtain ⟨hgr2, hkm⟩ := hpp
      have HOWN2 := Lib.hid (hkm HOWN1.out)
      have y6 : W3.cell? ⟨rb, 2, none⟩ = some (.slice A2 T.length p2) := by rw [← HE2.out]; exact (hgr2.q.cell 2).trans rfl
      have r3 := hgr2.q.r2
      simp only [HE2.out] at r3
      have b3 := hgr2.q.kept.size
      have HGR2 := Lib.hid hgr2
      clear hW3 HPP hgr2 hkm y1 y5 z5 r1 r2 b1 HGR HOWN1
      go_upto_region 3 with (at_builtin; refine wpList_append_long rfl _ _ 104 rfl w0.heap.size 3 i3 (.int .i64 0) 1 8 Tryz.underlying104 hi3 hz30 hz31 hz32 rfl (by decide) (.slice A2 T.length p2) T.length (atCells T) #[.int .i64 sk.n] 1 rfl rfl rfl (by simp [Value.oneCell']) r3 k2 (by decide) b3 ?_; intro A'' c'' w4 hown4 hg4 hat4; have hpp := HGR2.out.push2 hown4 (by simp only [HE2.out]; exact hg4) (by simp only [HE2.out]; exact hat4); have y7 := hpp.1; simp only [HE2.out] at y7; have z7 := hpp.2.1; have HPP := Lib.hid hpp.2.2; clear hpp hown4 hg4 hat4)
      obtain ⟨W5, hW5⟩ : ∃ W, W = w4.setCell ⟨rb, 2, none⟩ (.slice A'' (T.length + 1) c'') := ⟨_, rfl⟩
      have hpp := HPP.out
      rw [← hW5] at hpp ⊢
      obtain ⟨hgr3, hkm⟩ := hpp
      have hown5 := hkm HOWN2.out
      obtain ⟨v5, hv5⟩ : ∃ v, v = (Value.slice A' (T.length + 1) c') := ⟨_, rfl⟩
      obtain ⟨v6, hv6⟩ : ∃ v, v = (Value.slice A'' (T.length + 1) c'') := ⟨_, rfl⟩
      rw [← hv5, ← hv6] at hgr3
      have HEND : Hid (∃ (k : Nat) (T' : TT) (sk' : BSt) (tv' : TV), m' + k = nt ∧ Rdr.loop textsR k [] L s1 = .ok T' sk' ∧ GAt rb r w0 L T' [] tv' w sk' W5 ∧ SeenT mb T' W5 ∧ (∀ t ∈ T'.map Prod.fst, t.size ≤ 200) ∧ T'.length ≤ sk'.n) := by
        refine Lib.hid ⟨k + 1, T ++ [(x, sk.n)], s2, { tv with tl := v5, ta := v6 }, by omega, loop_succ HLP.out HLK.out, ⟨QRow.at_ ?_ ?_ ?_, hgr3.keptE, hgr3.newE⟩, ?_, ?_, ?_⟩
        · have := hgr3.q
          rw [← tcells_snoc T x sk.n, ← acells_snoc T x sk.n] at this
          rw [List.length_append]
          exact this
        · have := HX.out.at_.tu; rw [List.length_append]; exact Nat.le_trans this (Nat.le_add_right _ _)
        · exact HX.out.at_.ru
        · have e1 : T.length + 1 = (T ++ [(x, sk.n)]).length := by simp
          have e2 : T.map Prod.fst ++ [x] = (T ++ [(x, sk.n)]).map Prod.fst := by simp
          have h5 := hown5
          have h6 := HADD.out
          rw [e1] at h5
          rw [e2] at h6
          exact ⟨_, h5, h6⟩
        · intro t ht
          rw [List.map_append] at ht
          rcases List.mem_append.1 ht with ht | ht
          · exact HTS.out t ht
          · simp at ht; rw [ht]; exact hx200
        · rw [List.length_append]; show T.length + 1 ≤ s2.n; omega
      clear hW5 HPP hgr3 hkm hown5 hv5 hv6 y6 y7 z7 r3 b3 HGR2 HOWN2 HADD
      go_wp2_with fail
      obtain ⟨k', T', sk', tv', g1, g2, g3, g4, g5, g6⟩ := HEND.out
      exact ⟨⟨m', k', T', sk', tv', rfl, g1, g2, g3, g4, g5, g6⟩, by rw [HMI.out]; simp [intOf]⟩
  have hm00 : m = 0 := by omega
  have m1 : ((0 : Int) < (m : Int)) = False := eq_false (by omega)
  have m2 : (0 < m) = False := eq_false hm0
  have hkn : k = nt := by omega
  rw [hkn] at hloop
  have HF2 : Hid (tabsR L s = (uintR.bind fun nr => (Rdr.loop tracesR nr []).map fun R => (T, R)) L sk) := Lib.hid (HF1.out.trans (bind_ok hloop))
  have HG := Lib.hid hg
  have hle := hg.at_.le
  have HT65 := Lib.hid (show T.length ≤ 65536 by omega)
  have HTS := Lib.hid hts
  clear hg hsn hloop hm00 hmn hkn hts htl hm0 HF1 HGE hnt hle
  obtain ⟨W2, hW2⟩ : ∃ W, W = wr.alloc (.map #[] 0) := ⟨_, rfl⟩
  have hW2' := hW2.symm
  have H1 : Hid (GAt rb r w0 L T [] tv w sk W2) := Lib.hid (by rw [hW2]; exact HG.out.later (.alloc _ _ _))
  obtain ⟨mr, hmr⟩ : ∃ m, m = wr.heap.size := ⟨_, rfl⟩
  have HM1 : Hid (W2.ownsMap Tryz.prog 68 (plainElem Tryz.prog 3) mr 0 (.map [] : DataW Unit)) := Lib.hid (by rw [hW2, hmr]; exact World.ownsMap_made wr _ _ _)
  have HGE : Hid (w.heap.size ≤ mr ∧ w0.heap.size ≤ mr) := Lib.hid (by have := HG.out.keptE.size; have := HG.out.at_.kept.size; omega)
  clear hW2
  cases hu : uintR L sk with
  | err a no =>
    have HRES : Hid (tabsR L s = .err a no) := Lib.hid (HF2.out.trans (bind_err hu))
    have HU := Lib.hid hu
    clear hu
    go_wp2_with (go_at_call 45; (with_reducible refine (quintK H1.out.at_ hl hb).mono ?_); rintro e wx hp; unfold QPostK at hp; rw [HU.out] at hp; obtain ⟨q1, f1, rfl, hs⟩ := hp; have HS := Lib.hid hs; clear hs)
    refine ⟨rfl, ?_⟩
    unfold TabPost
    rw [HRES.out]
    exact ⟨q1, f1, rfl, HS.out⟩
  | ok nr s5 =>
  have hnr := uintR_lt hu
  have HU := Lib.hid hu
  have HF3 : Hid (tabsR L s = ((Rdr.loop tracesR nr []).map fun R => (T, R)) L s5) := Lib.hid (HF2.out.trans (bind_ok hu))
  clear hu
  go_upto_region 14 with (go_at_call 45; (with_reducible refine (quintK H1.out.at_ hl hb).mono ?_); rintro e wx hp; unfold QPostK at hp; rw [HU.out] at hp; obtain ⟨vx, rfl, rfl, hx1, ax1⟩ := hp; have H2 := Lib.hid (And.intro hx1 ax1); clear hx1 ax1)
  have hg : GAt rb r w0 L T [] tv w s5 wx := H1.out.moved H2.out.1 H2.out.2
  have hsn : SeenR mr [] wx := ⟨_, H1.out.map_moved HM1.out H2.out.2, .new⟩
  have HG0 := Lib.hid (And.intro hg hsn)
  rw [← hmr]
  clear hg hsn hmr H1 HM1 H2 hW2' HU HG HF2 m1 m2
  obtain ⟨tv1, htv1⟩ : ∃ x, x = tv := ⟨_, rfl⟩
  rw [← htv1] at HG0
  clear htv1
  go_loopw [10] (fun i wr => ∃ (m k : Nat) (R : RR) (sk : BSt) (tv : TV), i = .int .u64 m ∧ m + k = nr ∧ Rdr.loop tracesR k [] L s5 = .ok R sk ∧ GAt rb r w0 L T R tv w sk wr ∧ SeenR mr R wr ∧ R.length ≤ sk.n) (fun i _ => (intOf i).toNat)
  case atStart => exact ⟨nr, 0, [], s5, tv1, rfl, rfl, rfl, HG0.out.1, HG0.out.2, Nat.zero_le _⟩
  obtain ⟨m, k, R, sk, tv, rfl, hmn, hloop, hg, hsn, htl⟩ := hrel
  clear HG0
  by_cases hm0 : 0 < m
  · obtain ⟨m', rfl⟩ : ∃ m', m = m' + 1 := ⟨m - 1, by omega⟩
    have hkn : k < nr := by omega
    have m1 : ((0 : Int) < ((m' + 1 : Nat) : Int)) = True := eq_true (by omega)
    have m2 : (0 < m' + 1) = True := eq_true (by omega)
    have hwr : IntKind.u64.wrap (((m' + 1 : Nat) : Int) - 1) = (m' : Int) := by rw [IntKind.wrap_u64]; omega
    obtain ⟨mi, hmi⟩ : ∃ z : Int, z = ((m' + 1 : Nat) : Int) := ⟨_, rfl⟩
    rw [← hmi] at m1 hwr ⊢
    obtain ⟨D, hown, hD⟩ := hsn
    have hle := hg.at_.le
    have hsk : sk.n ≤ 65536 := by omega
    have HG := Lib.hid hg
    have c0 := hg.at_.c0
    have HOWN := Lib.hid hown
    have HD := Lib.hid hD
    have HLP := Lib.hid hloop
    have HMI := Lib.hid hmi
    clear hg hown hD hloop hm0 hmi m2
    go_upto_region 18 with (first
      | (go_at_call 44; (with_reducible refine (qat HG.out.at_ hl).mono ?_); rintro e w' ⟨rfl, hw⟩; subst w')
      | (refine wpList_tr_new rfl _ _ rfl (0, 0) _ rfl rfl rfl ?_; intro w7 hb7 hk7; have H7 := Lib.hid (And.intro hb7 hk7); clear hb7 hk7))
    obtain ⟨q, hq⟩ : ∃ q, q = wr.heap.size := ⟨_, rfl⟩
    have hb7 := H7.out.1
    rw [← hq] at hb7 ⊢
    have HB7 := Lib.hid hb7
    have HQGE : Hid (w.heap.size ≤ q ∧ w0.heap.size ≤ q) := Lib.hid (by have := HG.out.keptE.size; have := HG.out.at_.kept.size; omega)
    have hg7 := HG.out.later H7.out.2
    have HRLQ : Hid (tv.rl.ownBlock ≠ some q) := Lib.hid (fun e => by have := own_lt HG.out.at_.blk.2.2.2.1 _ e; omega)
    have HOWN7 := Lib.hid (map_kept HOWN.out H7.out.2 (fun h => h))
    have HG7 := Lib.hid hg7
    have hraw : Calls Tryz.prog 42 #[.pointer (some ⟨rb, 0, none⟩), .int .i64 16] w7 (QPostK rb r w0 L T R tv (bytesR 16 L sk) (fun q v w' => w'.ownsRow w0.heap.size 5 1 v q.length (nums .u8 q)) w7) := qrawK hg7.at_ hl 16 (by omega)
    have HRAW := Lib.hid hraw
    clear hraw hg7 hb7 hq c0 H7 HOWN HG
    cases ht : bytesR 16 L sk with
    | err a no =>
      have HRES : Hid (tabsR L s = .err a no) := Lib.hid (HF3.out.trans (map_err (loop_bad HLP.out (traces_err ht) nr hkn)))
      have HU := Lib.hid ht
      clear ht
      go_wp2_with (go_at_call 42; (with_reducible refine HRAW.out.mono ?_); rintro e wx hp; unfold QPostK at hp; rw [HU.out] at hp; obtain ⟨q1, f1, rfl, hs⟩ := hp; have HS := Lib.hid hs; clear hs)
      refine ⟨rfl, ?_⟩
      unfold TabPost
      rw [HRES.out]
      exact ⟨q1, f1, rfl, HS.out⟩
    | ok p s6 =>
    obtain ⟨g1, g2⟩ := bytesR_ok HG7.out.at_.le ht
    obtain ⟨hs6, hs6n⟩ := raw_got ht
    have hbp : Bytes p := fun x hx => hb x (g2 x hx)
    have HBP := Lib.hid hbp
    have HLEN := Lib.hid g1
    have HU := Lib.hid ht
    clear ht g2 hbp
    go_upto_region 19 with (go_at_call 42; (with_reducible refine HRAW.out.mono ?_); rintro e w8 hp; unfold QPostK at hp; rw [HU.out] at hp; obtain ⟨vx, rfl, hv1, hx1, ax1⟩ := hp; obtain ⟨gx, cx, rfl, hc⟩ := row_at hv1 (by rw [g1]; omega); have HV8 := Lib.hid (And.intro hv1 (And.intro hx1 ax1)); have HC := Lib.hid hc; clear hc hv1 hx1 ax1)
    try rw [HLEN.out]
    have hv8 := HV8.out.1
    have HG8 := Lib.hid (HG7.out.moved HV8.out.2.1 HV8.out.2.2)
    have HOWN8 := Lib.hid (HG7.out.map_moved HOWN7.out HV8.out.2.2)
    have hb8 : w8.heap[q]? = some (.cells (trA (0, 0)) 68 (0, 0)) := by
      obtain ⟨v, hv⟩ := HG7.out.at_.rd
      exact blk_kept HV8.out.2.2 HB7.out (by rintro rfl; have := typ_of hv.blk HB7.out; cases this)
    have HB8 := Lib.hid hb8
    have HGXQ : Hid (gx ≠ q) := Lib.hid (fun e => own_ne hv8 hb8 (by decide) (by rw [e]; rfl))
    clear hv8 hb8 HB7 HG7 HOWN7 HV8 HRAW g1
    go_upto_region 20 with fail
    go_loopw [90] (fun i wr => ∃ j : Nat, i = .int .i64 j ∧ j ≤ 8 ∧ wr.heap[q]? = some (.cells (trA (of8 ((p.take 8).take j), of8 ((p.drop 8).take j))) 68 (0, 0)) ∧ Kept (fun k => k = q) w8 wr) (fun i _ => 8 - (intOf i).toNat)
    case atStart => exact ⟨0, rfl, by omega, HB8.out, .refl _ _⟩
    obtain ⟨j, rfl, hj, hbj, hkj⟩ := hrel
    have j0 : (0 : Int) ≤ j := by omega
    by_cases hj8 : j < 8
    · have j1 : (j : Int) < 8 := by omega
      obtain ⟨x, hx⟩ : ∃ x, p[j]? = some x := ⟨_, List.getElem?_eq_getElem (by rw [HLEN.out]; omega)⟩
      obtain ⟨xn, rfl⟩ : ∃ n : Nat, x = n := ⟨x.toNat, by have := HBP.out x (List.mem_of_getElem? hx); omega⟩
      have hxb : xn < 256 := by have := HBP.out xn (List.mem_of_getElem? hx); omega
      obtain ⟨t8, ht8⟩ : ∃ t, t = 8 + j := ⟨_, rfl⟩
      obtain ⟨y, hy⟩ : ∃ y, p[t8]? = some y := ⟨_, List.getElem?_eq_getElem (by rw [HLEN.out]; omega)⟩
      obtain ⟨yn, rfl⟩ : ∃ n : Nat, y = n := ⟨y.toNat, by have := HBP.out y (List.mem_of_getElem? hy); omega⟩
      have hyb : yn < 256 := by have := HBP.out yn (List.mem_of_getElem? hy); omega
      have hcx := cell_keptS hkj (HC.out j xn hx) HGXQ.out
      have hcy := cell_keptS hkj (HC.out t8 yn hy) HGXQ.out
      have HYY := Lib.hid hy
      have hnx := of8_take (p := p.take 8) (k := j) (c := xn) (by rw [List.getElem?_take, if_pos hj8]; exact hx)
      have hny := of8_take (p := p.drop 8) (k := j) (c := yn) (by rw [List.getElem?_drop, ← ht8]; exact hy)
      obtain ⟨a, ha⟩ : ∃ a, a = of8 ((p.take 8).take j) := ⟨_, rfl⟩
      obtain ⟨b, hb'⟩ : ∃ b, b = of8 ((p.drop 8).take j) := ⟨_, rfl⟩
      have hal : a < 256 ^ 7 := by
        rw [ha]
        have h1 := of8_lt ((p.take 8).take j) (fun x hx => HBP.out x (List.mem_of_mem_take (List.mem_of_mem_take hx)))
        have h2 : ((p.take 8).take j).length ≤ 7 := by rw [List.length_take]; omega
        exact Nat.lt_of_lt_of_le h1 (Nat.pow_le_pow_right (by omega) h2)
      have hbl : b < 256 ^ 7 := by
        rw [hb']
        have h1 := of8_lt ((p.drop 8).take j) (fun x hx => HBP.out x (List.mem_of_mem_drop (List.mem_of_mem_take hx)))
        have h2 : ((p.drop 8).take j).length ≤ 7 := by rw [List.length_take]; omega
        exact Nat.lt_of_lt_of_le h1 (Nat.pow_le_pow_right (by omega) h2)
      rw [← ha, ← hb'] at hbj
      rw [← ha] at hnx
      rw [← hb'] at hny
      have HNX := Lib.hid (And.intro hnx hny)
      have y0 : wr.cell? ⟨q, 0, none⟩ = some (.int .u64 a) := (blk_cell hbj 0).trans rfl
      have y1 : wr.cell? ⟨q, 1, none⟩ = some (.int .u64 b) := (blk_cell hbj 1).trans rfl
      have z0 := blk_frozen hbj 0
      have z1 := blk_frozen hbj 1
      have HBJ := Lib.hid (And.intro hbj hkj)
      have a1 : (a : Int) * 256 < 18446744073709551616 := by omega
      have a0 : (0 : Int) ≤ a := by omega
      have b1 : (b : Int) * 256 < 18446744073709551616 := by omega
      have b0 : (0 : Int) ≤ b := by omega
      have n1 := HGXQ.out
      have j16 : (j : Int) < 16 := by omega
      have j17 : j < 16 := by omega
      have j18 : (t8 : Int) < 16 := by omega
      have j19 : t8 < 16 := by omega
      have e8 : (8 + (j : Int)) = (t8 : Int) := by omega
      have e9 : IntKind.i64.wrap (t8 : Int) = (t8 : Int) := by rw [IntKind.wrap_i64]; omega
      have hwa : IntKind.u64.wrap ((a : Int) * 256) = (a : Int) * 256 := by rw [IntKind.wrap_u64]; omega
      have hwb : IntKind.u64.wrap ((b : Int) * 256) = (b : Int) * 256 := by rw [IntKind.wrap_u64]; omega
      have hora := or_two a xn hxb (by omega)
      have horb := or_two b yn hyb (by omega)
      clear hnx hny hx hy ha hb' hal hbl hbj hkj hj8 ht8
      go_upto_region 22 with fail
      go_still_tail 9, (by kernel_rfl)
      change wpList _ _ _ _ _ wr.drew
      go_upto_region 23 with fail
      rw [hora]
      obtain ⟨V, hV⟩ : ∃ V, V = (wr.setCell ⟨q, 0, none⟩ (.int .u64 ((a * 256 + xn : Nat) : Int))).drew := ⟨_, rfl⟩
      have hbV : V.heap[q]? = some (.cells (trA (a * 256 + xn, b)) 68 (0, 0)) := by rw [hV]; exact blk_set HBJ.out.1 0 _
      have hkV : Kept (fun k => k = q) w8 V := by rw [hV]; exact (HBJ.out.2.trans (Kept.setCell (S := fun k => k = q) _ _ _ rfl) (fun _ _ e => e) (fun _ _ e => e)).trans (Kept.drew (fun _ => False) _) (fun _ _ e => e) (fun _ _ e => e.elim)
      rw [← hV]
      have y1 : V.cell? ⟨q, 1, none⟩ = some (.int .u64 b) := (blk_cell hbV 1).trans rfl
      have z1 := blk_frozen hbV 1
      have hcy := cell_keptS hkV (HC.out t8 yn HYY.out) HGXQ.out
      have HBV := Lib.hid (And.intro hbV hkV)
      clear hV hbV hkV y0 z0 hcx hora hwa a1 a0 HBJ
      go_still_tail 10, (by kernel_rfl)
      change wpList _ _ _ _ _ V.drew
      go_wp2_with fail
      have e7 : ((b : Int) * 256 + (yn : Int)) = ((b * 256 + yn : Nat) : Int) := by omega
      first | rw [horb] | rw [e7]
      refine ⟨⟨j + 1, by congr 1, by omega, ?_, ?_⟩, by simp [intOf]; omega⟩
      · rw [HNX.out.1, HNX.out.2]
        exact blk_set HBV.out.1 1 _
      · exact (HBV.out.2.trans (Kept.drew (fun _ => False) _) (fun _ _ e => e) (fun _ _ e => e.elim)).trans (Kept.setCell (S := fun k => k = q) _ _ _ rfl) (fun _ _ e => e) (fun _ _ e => e)
    have j1 : ¬ (j : Int) < 8 := by omega
    have hj2 : j = 8 := by omega
    rw [hj2, List.take_of_length_le (l := p.take 8) (by rw [List.length_take]; omega), List.take_of_length_le (l := p.drop 8) (by rw [List.length_drop, HLEN.out]; omega)] at hbj
    obtain ⟨x, hxd⟩ : ∃ x : Nat × Nat, x = (of8 (p.take 8), of8 (p.drop 8)) := ⟨_, rfl⟩
    rw [← hxd] at hbj
    have hok : okP x := by
      have a1 := of8_lt (p.take 8) (fun y hy => HBP.out y (List.mem_of_mem_take hy))
      have a2 := of8_lt (p.drop 8) (fun y hy => HBP.out y (List.mem_of_mem_drop hy))
      rw [List.length_take, HLEN.out] at a1
      rw [List.length_drop, HLEN.out] at a2
      rw [hxd]
      exact ⟨a1, a2⟩
    have HOK := Lib.hid hok
    have HX := Lib.hid (HG8.out.other HB8.out hkj (by decide) HRLQ.out HQGE.out.1 HQGE.out.2)
    have HOWN9 := Lib.hid (map_kept HOWN8.out hkj (map_no HOWN8.out HB8.out))
    have hkey : keyOf Tryz.prog 68 (.agg (trA x)) = some (traceKey x) := keyOf_trace hok
    have HBJ := Lib.hid hbj
    have hrg := rangeAt_blk hbj
    have HXD := Lib.hid hxd
    have hown := HOWN9.out
    clear hkj hbj hxd hok hj2 hj8 HB8 HG8 HOWN8 HC HGXQ j0
    by_cases hd : x ∈ R.map Prod.fst
    · have hhas : Go.Maps.has D (traceKey x) = true := by rw [HD.out.has x HOK.out]; exact hasIn_iff.2 hd
      have HRES : Hid (tabsR L s = .err sk.n 54) := Lib.hid (HF3.out.trans (map_err (loop_bad HLP.out (traces_dup HU.out (by rw [← HXD.out]; exact hd)) nr hkn)))
      clear hd
      go_wp2_with (first
        | (refine wpList_tr rfl _ rfl q 0 x rfl hrg ?_)
        | (at_lookup; refine wpList_lookup_own_ok_int _ rfl _ _ 86 rfl 68 3 .i64 Tryz.keyed68 Tryz.underlying86 Tryz.underlying3 (Tryz.zeroValue3 _) mr R.length D rfl hown _ _ rfl hkey ?_; intro c hat hwc; rw [hhas])
        | (go_at_call 46; (with_reducible refine (wrong_yes (w0 := w0) sk.n 54 HX.out.at_.kept).mono ?_); rintro e w' ⟨q1, f1, rfl, hs⟩; have HS := Lib.hid hs; clear hs))
      refine ⟨rfl, ?_⟩
      unfold TabPost
      rw [HRES.out]
      exact ⟨q1, f1, rfl, HS.out⟩
    have hhas : Go.Maps.has D (traceKey x) = false := by rw [HD.out.has x HOK.out]; exact hasIn_not.2 hd
    have HLK := Lib.hid (traces_ok (l := R) HU.out (by rw [← HXD.out]; exact hd))
    rw [← HXD.out] at HLK
    have hval := plain_int (n := sk.n) (by omega)
    have k1 : R.length < maxLen := by unfold maxLen; omega
    have k2 : R.length ≤ 1000000000 := by omega
    obtain ⟨A1, p1, e1⟩ := own_slice HX.out.at_.rows.r3
    obtain ⟨A2, p2, e2⟩ := own_slice HX.out.at_.rows.r4
    have HE1 := Lib.hid e1
    have HE2 := Lib.hid e2
    obtain ⟨i68, hi68, hz680, hz681, hz682⟩ := info_parts Tryz.info68
    obtain ⟨i3, hi3, hz30, hz31, hz32⟩ := info_parts Tryz.info3
    clear hd e1 e2
    go_upto_region 28 with (first
      | (refine wpList_tr rfl _ rfl q 0 x rfl hrg ?_)
      | (at_lookup; refine wpList_lookup_own_ok_int _ rfl _ _ 86 rfl 68 3 .i64 Tryz.keyed68 Tryz.underlying86 Tryz.underlying3 (Tryz.zeroValue3 _) mr R.length D rfl hown _ _ rfl hkey ?_; intro c hat hwc; rw [hhas]; clear hat hwc)
      | (go_at_call 46; (with_reducible refine (wrong_no _ _ _).mono ?_); rintro e w' ⟨rfl, hw9⟩; subst w')
      | (at_mapUpdate; refine wpList_mapUpdate_own _ rfl _ _ _ 86 rfl 68 3 Tryz.keyed68 Tryz.underlying86 (plainElem Tryz.prog 3) mr R.length D rfl hown k1 _ _ _ rfl rfl hkey _ [] hval ?_; intro w1 hown1 hg1))
    obtain ⟨es, ck, hmm, _⟩ := id hown
    have kk1 : Kept (fun k => k = mr) wr w1 := Kept.of_grown hg1 fun k e => by injection e with e; exact e.symm
    have hbq := blk_kept kk1 HBJ.out (fun e => map_no hown HBJ.out e.symm)
    have hgr := HX.out.rows.mapped hmm hg1 HGE.out.1 HGE.out.2
    have y1 : w1.cell? ⟨rb, 4, none⟩ = some (.slice A1 R.length p1) := by rw [← HE1.out]; exact (hgr.q.cell 4).trans rfl
    have f1 : (w1.alloc (.cells #[.int .u64 x.1, .int .u64 x.2] 68)).drew.cell? ⟨rb, 4, none⟩ = some (.slice A1 R.length p1) := by rw [← HE1.out]; exact ((hgr.later ((Kept.alloc (fun _ => False) w1 _).trans (.drew (fun _ => False) _) (fun _ _ e => e) (fun _ _ e => e))).q.cell 4).trans rfl
    have qq0 : w1.cell? ⟨q, 0, none⟩ = some (.int .u64 x.1) := (blk_cell hbq 0).trans rfl
    have qq1 : w1.cell? ⟨q, 1, none⟩ = some (.int .u64 x.2) := (blk_cell hbq 1).trans rfl
    have r1 : w1.drew.ownsRow w0.heap.size 68 2 (.slice A1 R.length p1) R.length (rCells R) := by rw [← HE1.out]; exact hgr.q.r3
    have b1 : w0.heap.size ≤ w1.drew.heap.size := hgr.q.kept.size
    have hone : ∀ u ∈ (#[.int .u64 x.1, .int .u64 x.2] : Array Value).toList, u.oneCell' = true := by simp [Value.oneCell']
    have HGR := Lib.hid (hgr.later (.drew (fun _ => False) w1))
    have HOWN1 := Lib.hid hown1.drew
    have HADD := Lib.hid (HD.out.add traceKey_inj traceKey_lit (x := x) HOK.out (.lit (.int .i64 sk.n)))
    clear hgr hown1 hg1 hmm hown hkey hval hhas hrg kk1 hbq
    go_region_law (refine step_append_long rfl _ _ 87 rfl w0.heap.size 68 i68 (.agg #[.int .u64 0, .int .u64 0]) 2 16 Tryz.underlying87 hi68 hz680 hz681 hz682 rfl (by decide) (.slice A1 R.length p1) R.length (rCells R) #[.int .u64 x.1, .int .u64 x.2] 1 rfl rfl rfl hone r1 k2 (by decide) b1 ?_; intro A' c' w2 hown2 hg2 hat2; have hpp := HGR.out.push3 hown2 (by rw [HE1.out]; exact hg2) (by rw [HE1.out]; exact hat2); have y5 := hpp.1; rw [HE1.out] at y5; have z5 := hpp.2.1; have HPP := Lib.hid hpp.2.2; clear hpp hown2 hg2 hat2)
    all_goals
      obtain ⟨W3, hW3⟩ : ∃ W, W = w2.setCell ⟨rb, 4, none⟩ (.slice A' (R.length + 1) c') := ⟨_, rfl⟩
      have hpp := HPP.out
      rw [← hW3] at hpp ⊢
      obtain ⟨hgr2, hkm⟩ := hpp
      have HOWN2 := Lib.hid (hkm HOWN1.out)
      have y6 : W3.cell? ⟨rb, 5, none⟩ = some (.slice A2 R.length p2) := by rw [← HE2.out]; exact (hgr2.q.cell 5).trans rfl
      have r3 := hgr2.q.r4
      simp only [HE2.out] at r3
      have b3 := hgr2.q.kept.size
      have HGR2 := Lib.hid hgr2
      clear hW3 HPP hgr2 hkm y1 f1 y5 z5 qq0 qq1 r1 b1 HGR HOWN1
      go_simp
      go_upto_region 15 with (at_builtin; refine wpList_append_long rfl _ _ 104 rfl w0.heap.size 3 i3 (.int .i64 0) 1 8 Tryz.underlying104 hi3 hz30 hz31 hz32 rfl (by decide) (.slice A2 R.length p2) R.length (atCells R) #[.int .i64 sk.n] 1 rfl rfl rfl (by simp [Value.oneCell']) r3 k2 (by decide) b3 ?_; intro A'' c'' w4 hown4 hg4 hat4; have hpp := HGR2.out.push4 hown4 (by simp only [HE2.out]; exact hg4) (by simp only [HE2.out]; exact hat4); have y7 := hpp.1; simp only [HE2.out] at y7; have z7 := hpp.2.1; have HPP := Lib.hid hpp.2.2; clear hpp hown4 hg4 hat4)
      obtain ⟨W5, hW5⟩ : ∃ W, W = w4.setCell ⟨rb, 5, none⟩ (.slice A'' (R.length + 1) c'') := ⟨_, rfl⟩
      have hpp := HPP.out
      rw [← hW5] at hpp ⊢
      obtain ⟨hgr3, hkm⟩ := hpp
      have hown5 := hkm HOWN2.out
      obtain ⟨v5, hv5⟩ : ∃ v, v = (Value.slice A' (R.length + 1) c') := ⟨_, rfl⟩
      obtain ⟨v6, hv6⟩ : ∃ v, v = (Value.slice A'' (R.length + 1) c'') := ⟨_, rfl⟩
      rw [← hv5, ← hv6] at hgr3
      have HEND : Hid (∃ (k : Nat) (R' : RR) (sk' : BSt) (tv' : TV), m' + k = nr ∧ Rdr.loop tracesR k [] L s5 = .ok R' sk' ∧ GAt rb r w0 L T R' tv' w sk' W5 ∧ SeenR mr R' W5 ∧ R'.length ≤ sk'.n) := by
        refine Lib.hid ⟨k + 1, R ++ [(x, sk.n)], s6, { tv with rl := v5, ra := v6 }, by omega, loop_succ HLP.out HLK.out, ⟨QRow.at_ ?_ ?_ ?_, hgr3.keptE, hgr3.newE⟩, ?_, ?_⟩
        · have := hgr3.q
          rw [← rcells_snoc R x sk.n, ← acells_snoc R x sk.n] at this
          rw [List.length_append]
          exact this
        · exact HX.out.at_.tu
        · have := HX.out.at_.ru; rw [List.length_append]; exact Nat.le_trans this (Nat.le_add_right _ _)
        · have e1 : R.length + 1 = (R ++ [(x, sk.n)]).length := by simp
          have e2 : R.map Prod.fst ++ [x] = (R ++ [(x, sk.n)]).map Prod.fst := by simp
          have h5 := hown5
          have h6 := HADD.out
          rw [e1] at h5
          rw [e2] at h6
          exact ⟨_, h5, h6⟩
        · rw [List.length_append]; show R.length + 1 ≤ s6.n; omega
      clear hW5 HPP hgr3 hkm hown5 hv5 hv6 y6 y7 z7 r3 b3 HGR2 HOWN2 HADD
      go_wp2_with fail
      obtain ⟨k', R', sk', tv', g1, g2, g3, g4, g5⟩ := HEND.out
      exact ⟨⟨m', k', R', sk', tv', rfl, g1, g2, g3, g4, g5⟩, by rw [HMI.out]; simp [intOf]⟩
  have m1 : ((0 : Int) < (m : Int)) = False := eq_false (by omega)
  have m2 : (0 < m) = False := eq_false hm0
  have hkn : k = nr := by omega
  rw [hkn] at hloop
  have HRES : Hid (tabsR L s = .ok (T, R) sk) := Lib.hid (HF3.out.trans (map_ok hloop))
  have HG := Lib.hid hg
  have hr65 : R.length ≤ 65536 := by have := hg.at_.le; omega
  clear hg hsn hloop hkn hm0 hmn htl
  go_wp2_with fail
  go_end0
  unfold TabPost
  rw [HRES.out]
  exact ⟨tv, rfl, HG.out.at_, HG.out.aside HE.out, HTS.out, HT65.out, hr65⟩
end
end Go.Proofs.YtlcbgklealipoaaGreatDoor
