/- The reader: a span (the walk; printed by gen_g10.py). -/
import Derived.Test.YtlcbgklealipoaaGreatDoorZI
import Derived.Test.YtlcbgklealipoaaGreatDoorZG
import Derived.Deep.RegionLaw
import Derived.Deep.RegionWith
namespace Go.Proofs.YtlcbgklealipoaaGreatDoor
open Go Go.RowKit
set_option linter.unusedVariables false
set_option linter.unusedSimpArgs false

section
variable {rb r : Nat} {w0 w : World} {L : List Int} {T : TT} {R : RR} {tv : TV} {s : BSt}
theorem span_err {T : List ByteArray} {R : List (Nat × Nat)} {a no : Int} (h : fieldsR T R L s = .err a no) : spanR T R L s = .err a no := by unfold spanR Rdr.chk; rw [h]
theorem beginR_range {v : Int} {s s1 : BSt} (h : beginR L s = .ok v s1) : -9223372036854775808 ≤ v ∧ v ≤ 9223372036854775807 := by
  unfold beginR Rdr.mapS Rdr.upd Rdr.chk at h
  cases hd : intR L s with
  | err a no => rw [hd] at h; cases h
  | ok d s' =>
    rw [hd] at h
    by_cases hb : s.st + d < -9223372036854775808 ∨ 9223372036854775807 < s.st + d
    · simp only [if_pos hb] at h; cases h
    · simp only [if_neg hb] at h
      injection h with h1 h2
      omega
theorem countR_le {m n : Nat} {s s1 : BSt} (h : countR m L s = .ok n s1) : n ≤ m := by
  unfold countR Rdr.chk at h
  cases hd : uintR L s with
  | err a no => rw [hd] at h; cases h
  | ok d s' =>
    rw [hd] at h
    by_cases hb : m < d
    · simp only [if_pos hb] at h; cases h
    · simp only [if_neg hb] at h
      injection h with h1 h2
      omega
theorem Tryz.info69 : (Tryz.prog.info? 69).map (fun i => (i.zero, i.size, i.bytes)) = some (some (.int .u64 0), 1, 8) := by kernel_rfl
theorem xor_max (p : Nat) (h : p < 18446744073709551616) : bits .xor .u64 IntKind.u64.max (p : Int) = 18446744073709551615 - p := by
  rw [← xor_ones (p : Int) (by omega) (by omega)]
  show bits .xor .u64 18446744073709551615 (p : Int) = _
  simp only [bits]
  rw [BitVec.xor_comm]
theorem Tryz.info132 : (Tryz.prog.info? 132).map (fun i => (i.zero, i.size, i.bytes)) = some (some (.agg #[.string ⟨#[]⟩, .int .i64 0, .string ⟨#[]⟩, .int .i64 0]), 4, 48) := by kernel_rfl
theorem Tryz.info134 : (Tryz.prog.info? 134).map (fun i => (i.zero, i.size, i.bytes)) = some (some (.agg #[.int .i64 0, .string ⟨#[]⟩]), 2, 24) := by kernel_rfl
theorem laterR_range {fr a : Int} {s s1 : BSt} (h0 : -9223372036854775808 ≤ fr) (h : laterR fr L s = .ok a s1) : -9223372036854775808 ≤ a ∧ a ≤ 9223372036854775807 := by
  unfold laterR Rdr.map Rdr.mapS Rdr.chk at h
  cases hd : uintR L s with
  | err a no => rw [hd] at h; cases h
  | ok d s' =>
    rw [hd] at h
    by_cases hb : 9223372036854775807 - fr < (d : Int)
    · simp only [if_pos hb] at h; cases h
    · simp only [if_neg hb] at h
      injection h with h1 h2
      omega
def z76 : Array Value := x0.cells (.slice none 0 0) (.slice none 0 0) (.slice none 0 0)
set_option maxHeartbeats 32000000 in
set_option maxRecDepth 100000 in
theorem qspan (h : QAt rb r w0 L T R tv s w) (hl : L.length ≤ 65536) (hb : Bytes L) (hT : T.length ≤ 1000000) (hR : R.length ≤ 1000000) (hU : Lib.Utf8Tabs 1 2 w0) (hTS : ∀ t ∈ T.map Prod.fst, t.size ≤ 9223372036854775807) :
    Calls Tryz.prog 47 #[.pointer (some ⟨rb, 0, none⟩)] w (QPost rb r w0 L T R tv (spanR (T.map Prod.fst) (R.map Prod.fst) L s) (fun x v w' => ∃ lv av ev, v = .agg (x.cells lv av ev) ∧ w'.ownsRow w0.heap.size 69 1 lv x.links.length (lkC x.links) ∧ w'.ownsRow w0.heap.size 132 4 av x.ats.length (atC' x.ats) ∧ w'.ownsRow w0.heap.size 134 2 ev x.evs.length (evC x.evs)) w) := by
  have H0 := Lib.hid h
  have HUT := Lib.hid hU
  have HTS := Lib.hid hTS
  obtain ⟨W, hW⟩ : ∃ W, W = w.alloc (.cells z76 76) := ⟨_, rfl⟩
  have hk0 : Kept (fun _ => False) w W := by rw [hW]; exact .alloc _ _ _
  have HB : Hid (W.heap[w.heap.size]? = some (.cells z76 76 (0, 0))) := Lib.hid (by rw [hW]; exact heap_alloc_new w _)
  have HSZ : Hid (W.heap.size = w.heap.size + 1) := Lib.hid (by rw [hW]; simp)
  have h := h.later hk0
  have HK0 := Lib.hid hk0
  have hW' : w.alloc (.cells #[.int .u64 0, .int .u64 0, .int .u64 0, .int .u64 0, .slice none 0 0, .string ⟨#[]⟩, .string ⟨#[]⟩, .int .i64 0, .int .i64 0, .int .i64 0, .int .i64 0, .slice none 0 0, .slice none 0 0] 76) = W := hW.symm
  have c0 := h.c0
  have H := Lib.hid h
  clear hW hk0 h hU hTS
  cases h1 : namedR (R.map Prod.fst) L s with
  | err a no =>
    have HRES := Lib.hid (span_err (T := (T.map Prod.fst)) (R := (R.map Prod.fst)) ((congrFun (congrFun (fields_st (T.map Prod.fst) (R.map Prod.fst)) L) s).trans (bind_err h1)))
    have HU := Lib.hid h1
    clear h1
    go_enter Tryz.func47, Tryz.ntmps47
    go_wp2_with (first
      | (go_at_call 44; (with_reducible refine (qat H.out hl).mono ?_); rintro e w' ⟨rfl, hw⟩; subst w')
      | (go_at_call 87; (with_reducible refine (qtrace H.out hl hb hR).mono ?_); rintro e w1 hp; unfold QPost at hp; rw [HU.out] at hp; obtain ⟨q1, f1, rfl, hs⟩ := hp; have HS := Lib.hid hs; clear hs))
    exact ⟨rfl, stop_q HRES.out ⟨q1, f1, rfl, HS.out⟩⟩
  | ok tr s1 =>
  have HU1 := Lib.hid h1
  obtain ⟨x1, hx1⟩ : ∃ x : Spn, x = { x0 with hi := tr.1, lo := tr.2 } := ⟨_, rfl⟩
  have hf : fieldsR (T.map Prod.fst) (R.map Prod.fst) L s = st0 (T.map Prod.fst) x1 L s1 := by rw [hx1]; exact (congrFun (congrFun (fields_st (T.map Prod.fst) (R.map Prod.fst)) L) s).trans (bind_ok h1)
  have HF1 := Lib.hid hf
  have HXL1 : Hid (x1.links = [] ∧ x1.ats = [] ∧ x1.evs = []) := Lib.hid (by rw [hx1]; exact ⟨rfl, rfl, rfl⟩)
  have HX1 := Lib.hid hx1
  clear h1 hf hx1
  go_enter Tryz.func47, Tryz.ntmps47
  go_upto_region 3 with (first
    | (go_at_call 44; (with_reducible refine (qat H.out hl).mono ?_); rintro e w' ⟨rfl, hw⟩; subst w')
    | (go_at_call 87; (with_reducible refine (qtrace H.out hl hb hR).mono ?_); rintro e w1 hp; unfold QPost at hp; rw [HU1.out] at hp; obtain ⟨v1, rfl, rfl, g1, a1⟩ := hp; have H1 := Lib.hid (And.intro g1 a1); clear g1 a1)
    | (refine wpList_spn_new rfl _ _ rfl (Spn.cells { x0 with hi := tr.1, lo := tr.2 } (.slice none 0 0) (.slice none 0 0) (.slice none 0 0)) _ rfl rfl rfl (by simp [Spn.cells, Value.oneCell']) rfl ?_; intro w2 hb2 hk2; have H2 := Lib.hid (And.intro hb2 hk2); clear hb2 hk2))
  obtain ⟨q, hq⟩ : ∃ q, q = w1.heap.size := ⟨_, rfl⟩
  have hlt := blk_lt (H1.out.2 _ _ _ _ HB.out (by decide) (by decide))
  have hsz := HSZ.out
  have hm1 : SMid rb r w0 L T R tv s1 W q x1 (.slice none 0 0) (.slice none 0 0) (.slice none 0 0) w2 :=
    ⟨⟨H1.out.1.later H2.out.2, H1.out.2.trans (.of_kept H2.out.2), by rw [hq, HX1.out]; exact H2.out.1, by omega, by have := H0.out.kept.size; omega, by decide, by decide, by decide, by decide, by decide, by decide⟩,
      by rw [HXL1.out.1]; exact ⟨rfl, .inl ⟨rfl, rfl⟩⟩, by rw [HXL1.out.2.1]; exact ⟨rfl, .inl ⟨rfl, rfl⟩⟩, by rw [HXL1.out.2.2]; exact ⟨rfl, .inl ⟨rfl, rfl⟩⟩, (fun k e => by simp [Value.ownBlock] at e), (fun k e => by simp [Value.ownBlock] at e), (fun k e => by simp [Value.ownBlock] at e)⟩
  rw [← hq]
  try simp only [Act.put]
  have HM1 := Lib.hid hm1
  have HNQ : Hid (¬ w.heap.size = q ∧ ¬ q = w.heap.size) := Lib.hid (by omega)
  clear hlt hsz hm1 hq H1 H2 c0 hW'
  cases h2 : longR L s1 with
  | err a no =>
    have HRES := Lib.hid (span_err (T := (T.map Prod.fst)) (R := (R.map Prod.fst)) (HF1.out.trans (bind_err h2)))
    have HU := Lib.hid h2
    clear h2
    go_wp2_with (go_at_call 88; (with_reducible refine (qlong HM1.out.at_.at_ hl hb).mono ?_); rintro e w1 hp; unfold QPost at hp; rw [HU.out] at hp; obtain ⟨q1, f1, rfl, hs⟩ := hp; have HS := Lib.hid hs; clear hs)
    exact ⟨rfl, stop_q HRES.out ⟨q1, f1, rfl, HS.out⟩⟩
  | ok id s2 =>
  have HU2 := Lib.hid h2
  have hf2 : fieldsR (T.map Prod.fst) (R.map Prod.fst) L s = st1 (T.map Prod.fst) { x1 with id := id } L s2 := HF1.out.trans (bind_ok h2)
  have HF2 := Lib.hid hf2
  clear h2 hf2
  cases h3 : longR L s2 with
  | err a no =>
    have HRES := Lib.hid (span_err (T := (T.map Prod.fst)) (R := (R.map Prod.fst)) (HF2.out.trans (bind_err h3)))
    have HU := Lib.hid h3
    clear h3
    go_wp2_with (first
      | (go_at_call 88; (with_reducible refine (qlong HM1.out.at_.at_ hl hb).mono ?_); rintro e wx hp; unfold QPost at hp; rw [HU2.out] at hp; obtain ⟨vx, rfl, rfl, hx1, ax1⟩ := hp; have hmx := HM1.out.call hx1 ax1; have HMx := Lib.hid hmx; clear hmx hx1 ax1)
      | (go_at_call 88; (with_reducible refine (qlong HMx.out.at_.at_ hl hb).mono ?_); rintro e w1 hp; unfold QPost at hp; rw [HU.out] at hp; obtain ⟨q1, f1, rfl, hs⟩ := hp; have HS := Lib.hid hs; clear hs))
    exact ⟨rfl, stop_q HRES.out ⟨q1, f1, rfl, HS.out⟩⟩
  | ok par s3 =>
  have HU3 := Lib.hid h3
  obtain ⟨x3, hx3⟩ : ∃ x : Spn, x = { x1 with id := id, par := par } := ⟨_, rfl⟩
  have hf : fieldsR (T.map Prod.fst) (R.map Prod.fst) L s = st2 (T.map Prod.fst) x3 L s3 := by rw [hx3]; exact HF2.out.trans (bind_ok h3)
  have HF3 := Lib.hid hf
  have HXL3 : Hid (x3.links = [] ∧ x3.ats = [] ∧ x3.evs = []) := Lib.hid (by rw [hx3]; exact HXL1.out)
  clear h3 hf
  go_upto_region 4 with (first
    | (go_at_call 88; (with_reducible refine (qlong HM1.out.at_.at_ hl hb).mono ?_); rintro e wx hp; unfold QPost at hp; rw [HU2.out] at hp; obtain ⟨vx, rfl, rfl, hx1, ax1⟩ := hp; have hmx := HM1.out.call hx1 ax1; have HMx := Lib.hid hmx; clear hmx hx1 ax1)
    | (go_at_call 88; (with_reducible refine (qlong HMx.out.at_.at_ hl hb).mono ?_); rintro e wy hp; unfold QPost at hp; rw [HU3.out] at hp; obtain ⟨vx, rfl, rfl, hx1, ax1⟩ := hp; have hmx := HMx.out.call hx1 ax1; have y2 : wy.cell? ⟨q, 2, none⟩ = some (.int .u64 x1.id) := (hmx.at_.cq 2).trans rfl; have z2 := hmx.at_.fq 2; have y3 : wy.cell? ⟨q, 3, none⟩ = some (.int .u64 x1.par) := (hmx.at_.cq 3).trans rfl; have z3 := hmx.at_.fq 3; have HMy := Lib.hid hmx; clear hmx hx1 ax1))
  have hm := (HMy.out.set 2 (.int .u64 id) { x1 with id := id } rfl rfl rfl rfl).set 3 (.int .u64 par) x3 (by rw [hx3]; rfl) (by rw [hx3]) (by rw [hx3]) (by rw [hx3])
  obtain ⟨W3, hW3⟩ : ∃ W', W' = (wy.setCell ⟨q, 2, none⟩ (.int .u64 id)).setCell ⟨q, 3, none⟩ (.int .u64 par) := ⟨_, rfl⟩
  rw [← hW3] at hm ⊢
  have HM3 := Lib.hid hm
  have HX3 := Lib.hid hx3
  clear hm hW3 y2 y3 z2 z3 HMx HMy HM1 HF1 HF2 HXL1 hx3
  cases h4 : namedT (T.map Prod.fst) L s3 with
  | err a no =>
    have HRES := Lib.hid (span_err (T := (T.map Prod.fst)) (R := (R.map Prod.fst)) (HF3.out.trans (bind_err h4)))
    have HU := Lib.hid h4
    clear h4
    go_wp2_with (go_at_call 89; (with_reducible refine (qtext HM3.out.at_.at_ hl hb hT).mono ?_); rintro e w1 hp; unfold QPost at hp; rw [HU.out] at hp; obtain ⟨q1, f1, rfl, hs⟩ := hp; have HS := Lib.hid hs; clear hs)
    exact ⟨rfl, stop_q HRES.out ⟨q1, f1, rfl, HS.out⟩⟩
  | ok svc s4 =>
  have HU4 := Lib.hid h4
  obtain ⟨x4, hx4⟩ : ∃ x : Spn, x = { x3 with svc := svc } := ⟨_, rfl⟩
  have hf : fieldsR (T.map Prod.fst) (R.map Prod.fst) L s = st3 (T.map Prod.fst) x4 L s4 := by rw [hx4]; exact HF3.out.trans (bind_ok h4)
  have HF4 := Lib.hid hf
  have HXL4 : Hid (x4.links = [] ∧ x4.ats = [] ∧ x4.evs = []) := Lib.hid (by rw [hx4]; exact HXL3.out)
  clear h4 hf
  go_upto_region 5 with (go_at_call 89; (with_reducible refine (qtext HM3.out.at_.at_ hl hb hT).mono ?_); rintro e wx hp; unfold QPost at hp; rw [HU4.out] at hp; obtain ⟨vx, rfl, rfl, hx1, ax1⟩ := hp; have hmx := HM3.out.call hx1 ax1; have y5 : wx.cell? ⟨q, 5, none⟩ = some (.string x3.svc) := (hmx.at_.cq 5).trans rfl; have z5 := hmx.at_.fq 5; have HMx := Lib.hid hmx; clear hmx hx1 ax1)
  have hm := HMx.out.set 5 (.string svc) x4 (by rw [hx4]; rfl) (by rw [hx4]) (by rw [hx4]) (by rw [hx4])
  obtain ⟨W4, hW4⟩ : ∃ W', W' = wx.setCell ⟨q, 5, none⟩ (.string svc) := ⟨_, rfl⟩
  rw [← hW4] at hm ⊢
  have HM4 := Lib.hid hm
  have HX4 := Lib.hid hx4
  clear hm hW4 y5 z5 HMx HM3 HF3 HXL3 hx4
  cases h5 : namedT (T.map Prod.fst) L s4 with
  | err a no =>
    have HRES := Lib.hid (span_err (T := (T.map Prod.fst)) (R := (R.map Prod.fst)) (HF4.out.trans (bind_err h5)))
    have HU := Lib.hid h5
    clear h5
    go_wp2_with (go_at_call 89; (with_reducible refine (qtext HM4.out.at_.at_ hl hb hT).mono ?_); rintro e w1 hp; unfold QPost at hp; rw [HU.out] at hp; obtain ⟨q1, f1, rfl, hs⟩ := hp; have HS := Lib.hid hs; clear hs)
    exact ⟨rfl, stop_q HRES.out ⟨q1, f1, rfl, HS.out⟩⟩
  | ok op s5 =>
  have HU5 := Lib.hid h5
  obtain ⟨x5, hx5⟩ : ∃ x : Spn, x = { x4 with op := op } := ⟨_, rfl⟩
  have hf : fieldsR (T.map Prod.fst) (R.map Prod.fst) L s = st4 (T.map Prod.fst) x5 L s5 := by rw [hx5]; exact HF4.out.trans (bind_ok h5)
  have HF5 := Lib.hid hf
  have HXL5 : Hid (x5.links = [] ∧ x5.ats = [] ∧ x5.evs = []) := Lib.hid (by rw [hx5]; exact HXL4.out)
  clear h5 hf
  go_upto_region 6 with (go_at_call 89; (with_reducible refine (qtext HM4.out.at_.at_ hl hb hT).mono ?_); rintro e wx hp; unfold QPost at hp; rw [HU5.out] at hp; obtain ⟨vx, rfl, rfl, hx1, ax1⟩ := hp; have hmx := HM4.out.call hx1 ax1; have y6 : wx.cell? ⟨q, 6, none⟩ = some (.string x4.op) := (hmx.at_.cq 6).trans rfl; have z6 := hmx.at_.fq 6; have HMx := Lib.hid hmx; clear hmx hx1 ax1)
  have hm := HMx.out.set 6 (.string op) x5 (by rw [hx5]; rfl) (by rw [hx5]) (by rw [hx5]) (by rw [hx5])
  obtain ⟨W5, hW5⟩ : ∃ W', W' = wx.setCell ⟨q, 6, none⟩ (.string op) := ⟨_, rfl⟩
  rw [← hW5] at hm ⊢
  have HM5 := Lib.hid hm
  have HX5 := Lib.hid hx5
  clear hm hW5 y6 z6 HMx HM4 HF4 HXL4 hx5
  have hraw : Calls Tryz.prog 42 #[.pointer (some ⟨rb, 0, none⟩), .int .i64 1] W5 (QPost rb r w0 L T R tv (bytesR 1 L s5) (fun q v w' => w'.ownsRow w0.heap.size 5 1 v q.length (nums .u8 q)) W5) := qraw HM5.out.at_.at_ hl 1 (by omega)
  have HRAW := Lib.hid hraw
  clear hraw
  cases h6 : bytesR 1 L s5 with
  | err a no =>
    have h6' : byteR L s5 = .err a no := by unfold byteR Rdr.map Rdr.mapS; rw [h6]
    have HRES := Lib.hid (span_err (T := (T.map Prod.fst)) (R := (R.map Prod.fst)) (HF5.out.trans (bind_err h6')))
    have HU := Lib.hid h6
    clear h6 h6'
    go_wp2_with (go_at_call 42; (with_reducible refine HRAW.out.mono ?_); rintro e w1 hp; unfold QPost at hp; rw [HU.out] at hp; obtain ⟨q1, f1, rfl, hs⟩ := hp; have HS := Lib.hid hs; clear hs)
    exact ⟨rfl, stop_q HRES.out ⟨q1, f1, rfl, HS.out⟩⟩
  | ok p s6 =>
  obtain ⟨g1, g2⟩ := bytesR_ok HM5.out.at_.at_.le h6
  obtain ⟨n, rfl, hn⟩ : ∃ n : Nat, p = [(n : Int)] ∧ n < 256 := by
    match p, g1 with
    | [y], _ =>
      have := hb y (g2 y (by simp))
      exact ⟨y.toNat, by rw [Int.toNat_of_nonneg this.1], by omega⟩
  have h6' : byteR L s5 = .ok n s6 := by unfold byteR Rdr.map Rdr.mapS; rw [h6]; rfl
  have HU6 := Lib.hid h6
  obtain ⟨x6, hx6⟩ : ∃ x : Spn, x = { x5 with kind := ((n % 8 : Nat) : Int), st := ((n / 8 : Nat) : Int) } := ⟨_, rfl⟩
  have hf : fieldsR (T.map Prod.fst) (R.map Prod.fst) L s = st5 (T.map Prod.fst) x6 L s6 := by rw [hx6]; exact HF5.out.trans (bind_ok h6')
  have HF6 := Lib.hid hf
  have HXL6 : Hid (x6.links = [] ∧ x6.ats = [] ∧ x6.evs = []) := Lib.hid (by rw [hx6]; exact HXL5.out)
  clear h6 h6' hf g1 g2
  go_upto_region 8 with (go_at_call 42; (with_reducible refine HRAW.out.mono ?_); rintro e wx hp; unfold QPost at hp; rw [HU6.out] at hp; obtain ⟨vx, rfl, hv1, hx1, ax1⟩ := hp; obtain ⟨gx, cx, rfl, hc⟩ := row_at hv1 (by simp); have y0 := hc 0 n rfl; have ygq : gx ≠ q := fun e => own_ne hv1 ((HM5.out.call hx1 ax1).at_.blk) (by decide) (by rw [e]; rfl); clear hc hv1; have hmx := HM5.out.call hx1 ax1; have y7 : wx.cell? ⟨q, 7, none⟩ = some (.int .i64 x5.kind) := (hmx.at_.cq 7).trans rfl; have z7 := hmx.at_.fq 7; have y8 : wx.cell? ⟨q, 8, none⟩ = some (.int .i64 x5.st) := (hmx.at_.cq 8).trans rfl; have z8 := hmx.at_.fq 8; have HMx := Lib.hid hmx; clear hmx hx1 ax1)
  have hm := (HMx.out.set 7 (.int .i64 ((n : Int) % 8)) { x5 with kind := (n : Int) % 8 } rfl rfl rfl rfl).set 8 (.int .i64 ((n : Int) / 8)) x6 (by rw [hx6]; rfl) (by rw [hx6]) (by rw [hx6]) (by rw [hx6])
  obtain ⟨W6, hW6⟩ : ∃ W', W' = (wx.setCell ⟨q, 7, none⟩ (.int .i64 ((n : Int) % 8))).setCell ⟨q, 8, none⟩ (.int .i64 ((n : Int) / 8)) := ⟨_, rfl⟩
  rw [← hW6] at hm ⊢
  have HM6 := Lib.hid hm
  have HX6 := Lib.hid hx6
  clear hm hW6 y0 ygq y7 z7 y8 z8 HMx HM5 HF5 HXL5 hx6 HRAW
  cases h7 : beginR L s6 with
  | err a no =>
    have HRES := Lib.hid (span_err (T := (T.map Prod.fst)) (R := (R.map Prod.fst)) (HF6.out.trans (bind_err h7)))
    have HU := Lib.hid h7
    clear h7
    go_wp2_with (go_at_call 90; (with_reducible refine (qbegin HM6.out.at_.at_ hl hb).mono ?_); rintro e w1 hp; unfold QPost at hp; rw [HU.out] at hp; obtain ⟨q1, f1, rfl, hs⟩ := hp; have HS := Lib.hid hs; clear hs)
    exact ⟨rfl, stop_q HRES.out ⟨q1, f1, rfl, HS.out⟩⟩
  | ok start s7 =>
  have HU7 := Lib.hid h7
  obtain ⟨x7, hx7⟩ : ∃ x : Spn, x = { x6 with start := start } := ⟨_, rfl⟩
  have hf : fieldsR (T.map Prod.fst) (R.map Prod.fst) L s = st6 (T.map Prod.fst) x7 L s7 := by rw [hx7]; exact HF6.out.trans (bind_ok h7)
  have HF7 := Lib.hid hf
  have HXL7 : Hid (x7.links = [] ∧ x7.ats = [] ∧ x7.evs = []) := Lib.hid (by rw [hx7]; exact HXL6.out)
  clear h7 hf
  go_upto_region 9 with (go_at_call 90; (with_reducible refine (qbegin HM6.out.at_.at_ hl hb).mono ?_); rintro e wx hp; unfold QPost at hp; rw [HU7.out] at hp; obtain ⟨vx, rfl, rfl, hx1, ax1⟩ := hp; have hmx := HM6.out.call hx1 ax1; have y9 : wx.cell? ⟨q, 9, none⟩ = some (.int .i64 x6.start) := (hmx.at_.cq 9).trans rfl; have z9 := hmx.at_.fq 9; have HMx := Lib.hid hmx; clear hmx hx1 ax1)
  have hm := HMx.out.set 9 (.int .i64 start) x7 (by rw [hx7]; rfl) (by rw [hx7]) (by rw [hx7]) (by rw [hx7])
  obtain ⟨W7, hW7⟩ : ∃ W', W' = wx.setCell ⟨q, 9, none⟩ (.int .i64 start) := ⟨_, rfl⟩
  rw [← hW7] at hm ⊢
  have HM7 := Lib.hid hm
  have HX7 := Lib.hid hx7
  clear hm hW7 y9 z9 HMx HM6 HF6 HXL6 hx7
  have hst7 : x7.start = start := by rw [HX7.out]
  have hr7 := beginR_range HU7.out
  have d9 : W7.cell? ⟨q, 9, none⟩ = some (.int .i64 start) := by rw [← hst7]; exact (HM7.out.at_.cq 9).trans rfl
  have HF7' : Hid (fieldsR (T.map Prod.fst) (R.map Prod.fst) L s = ((laterR start).bind fun fin => st7 (T.map Prod.fst) { x7 with fin := fin }) L s7) := Lib.hid (by rw [← hst7]; exact HF7.out)
  cases h8 : laterR start L s7 with
  | err a no =>
    have HRES := Lib.hid (span_err (T := (T.map Prod.fst)) (R := (R.map Prod.fst)) (HF7'.out.trans (bind_err h8)))
    have HU := Lib.hid h8
    clear h8
    go_wp2_with (go_at_call 91; (with_reducible refine (qlater_any HM7.out.at_.at_ hl hb start hr7.1 hr7.2).mono ?_); rintro e w1 hp; unfold QPost at hp; rw [HU.out] at hp; obtain ⟨q1, f1, rfl, hs⟩ := hp; have HS := Lib.hid hs; clear hs)
    exact ⟨rfl, stop_q HRES.out ⟨q1, f1, rfl, HS.out⟩⟩
  | ok fin s8 =>
  have HU8 := Lib.hid h8
  obtain ⟨x8, hx8⟩ : ∃ x : Spn, x = { x7 with fin := fin } := ⟨_, rfl⟩
  have hf : fieldsR (T.map Prod.fst) (R.map Prod.fst) L s = st7 (T.map Prod.fst) x8 L s8 := by rw [hx8]; exact HF7'.out.trans (bind_ok h8)
  have HF8 := Lib.hid hf
  have HXL8 : Hid (x8.links = [] ∧ x8.ats = [] ∧ x8.evs = []) := Lib.hid (by rw [hx8]; exact HXL7.out)
  clear h8 hf
  go_upto_region 10 with (go_at_call 91; (with_reducible refine (qlater_any HM7.out.at_.at_ hl hb start hr7.1 hr7.2).mono ?_); rintro e wx hp; unfold QPost at hp; rw [HU8.out] at hp; obtain ⟨vx, rfl, rfl, hx1, ax1⟩ := hp; have hmx := HM7.out.call hx1 ax1; have y10 : wx.cell? ⟨q, 10, none⟩ = some (.int .i64 x7.fin) := (hmx.at_.cq 10).trans rfl; have z10 := hmx.at_.fq 10; have HMx := Lib.hid hmx; clear hmx hx1 ax1)
  have hm := HMx.out.set 10 (.int .i64 fin) x8 (by rw [hx8]; rfl) (by rw [hx8]) (by rw [hx8]) (by rw [hx8])
  obtain ⟨W8, hW8⟩ : ∃ W', W' = wx.setCell ⟨q, 10, none⟩ (.int .i64 fin) := ⟨_, rfl⟩
  rw [← hW8] at hm ⊢
  have HM8 := Lib.hid hm
  have HX8 := Lib.hid hx8
  clear hm hW8 y10 z10 HMx HM7 HF7 HXL7 hx8 HF7' d9 hst7 hr7
  have hmany : Calls Tryz.prog 92 #[.pointer (some ⟨rb, 0, none⟩), .int .i64 16] W8 (QPost rb r w0 L T R tv (countR 16 L s8) (fun n v _ => v = .int .i64 n) W8) := qmany HM8.out.at_.at_ hl hb 16 (by omega)
  have HMANY := Lib.hid hmany
  clear hmany
  cases h9 : countR 16 L s8 with
  | err a no =>
    have HRES := Lib.hid (span_err (T := (T.map Prod.fst)) (R := (R.map Prod.fst)) (HF8.out.trans (bind_err h9)))
    have HU := Lib.hid h9
    clear h9
    go_wp2_with (go_at_call 92; (with_reducible refine HMANY.out.mono ?_); rintro e w1 hp; unfold QPost at hp; rw [HU.out] at hp; obtain ⟨q1, f1, rfl, hs⟩ := hp; have HS := Lib.hid hs; clear hs)
    exact ⟨rfl, stop_q HRES.out ⟨q1, f1, rfl, HS.out⟩⟩
  | ok nl s9 =>
  have hn16 := countR_le h9
  have HU9 := Lib.hid h9
  have hf : fieldsR (T.map Prod.fst) (R.map Prod.fst) L s = ((Rdr.loop linkR nl []).bind fun links => st9 (T.map Prod.fst) { x8 with links := links }) L s9 := HF8.out.trans (bind_ok h9)
  have HF9 := Lib.hid hf
  have hx8l : { x8 with links := [] } = x8 := by have := HXL8.out.1; rw [← this]
  have HX8L := Lib.hid hx8l
  clear h9 hf hx8l
  go_upto_region 11 with (go_at_call 92; (with_reducible refine HMANY.out.mono ?_); rintro e wx hp; unfold QPost at hp; rw [HU9.out] at hp; obtain ⟨vx, rfl, rfl, hx1, ax1⟩ := hp; have hmx := HM8.out.call hx1 ax1; have HM9 := Lib.hid hmx; clear hmx hx1 ax1)
  clear HMANY
  go_loopw [62] (fun i wr => ∃ (k : Nat) (ls : List Nat) (sk : BSt) (lv : Value), i = .int .i64 k ∧ k ≤ nl ∧ ls.length = k ∧ (∀ x ∈ ls, x < 18446744073709551616) ∧ Rdr.loop linkR k [] L s9 = .ok ls sk ∧ SMid rb r w0 L T R tv sk W q { x8 with links := ls } lv (.slice none 0 0) (.slice none 0 0) wr) (fun i _ => nl - (intOf i).toNat)
  case atStart => exact ⟨0, [], s9, .slice none 0 0, rfl, Nat.zero_le _, rfl, (fun x hx => by cases hx), rfl, by rw [HX8L.out]; exact HM9.out⟩
  obtain ⟨k, ls, sk, lv, rfl, hk, hlen, hall, hloop, hm⟩ := hrel
  have HALL := Lib.hid hall
  clear hall
  have k0 : (0 : Int) ≤ k := by omega
  by_cases hk4 : k < nl
  · have k1 : (k : Int) < nl := by omega
    have c0 := hm.at_.at_.c0
    have H := Lib.hid hm.at_.at_
    have HMK := Lib.hid hm
    have HLP := Lib.hid hloop
    have HLEN := Lib.hid hlen
    have hkk := hk4
    obtain ⟨A, cp, elv⟩ := own_slice hm.lr
    have elv' : lv = .slice A k cp := by rw [elv, ← hlen]
    have HLV := Lib.hid elv'
    clear hm hloop elv elv' hk4
    cases hu : uintR L sk with
    | err a no =>
      have hlk : linkR ls L sk = .err a no := by unfold linkR Rdr.map Rdr.mapS Rdr.chk; rw [hu]
      have HRES := Lib.hid (span_err (T := (T.map Prod.fst)) (R := (R.map Prod.fst)) (HF9.out.trans (bind_err (loop_bad HLP.out hlk nl hkk))))
      have HU := Lib.hid hu
      clear hu hlk hlen
      go_wp2_with (first
        | (go_at_call 44; (with_reducible refine (qat H.out hl).mono ?_); rintro e w' ⟨rfl, hw⟩; subst w')
        | (go_at_call 45; (with_reducible refine (quint H.out hl hb).mono ?_); rintro e w1 hp; unfold QPost at hp; rw [HU.out] at hp; obtain ⟨q1, f1, rfl, hs⟩ := hp; have HS := Lib.hid hs; clear hs))
      exact ⟨rfl, stop_q HRES.out ⟨q1, f1, rfl, HS.out⟩⟩
    | ok v sk1 =>
    have hv64 := uintR_lt hu
    have HUV := Lib.hid hu
    obtain ⟨i0, hi, hz0, hz1, hz2⟩ := info_parts Tryz.info69
    have y4' : ∀ W' : World, SMid rb r w0 L T R tv sk1 W q { x8 with links := ls } lv (.slice none 0 0) (.slice none 0 0) W' → W'.cell? ⟨q, 4, none⟩ = some (.slice A k cp) := fun W' h => by rw [← HLV.out]; exact (h.at_.cq 4).trans rfl
    have HY4 := Lib.hid y4'
    have hrow' : ∀ W' : World, SMid rb r w0 L T R tv sk1 W q { x8 with links := ls } lv (.slice none 0 0) (.slice none 0 0) W' → W'.ownsRow w0.heap.size 69 1 (.slice A k cp) k (lkC ls) := fun W' h => by
      have := h.lr
      rw [HLV.out] at this
      have e : ({ x8 with links := ls } : Spn).links.length = k := HLEN.out
      rw [e] at this
      exact this
    have HROW := Lib.hid hrow'
    clear hrow'
    have n16 : k ≤ 16 := by omega
    clear y4'
    by_cases hk0 : k = 0
    · have hls : ls = [] := List.eq_nil_of_length_eq_zero (by rw [HLEN.out]; exact hk0)
      have hlk : linkR ls L sk = .ok (ls ++ [v]) sk1 := by
        unfold linkR Rdr.map Rdr.mapS Rdr.chk; rw [hu, hls]
        have e : lastL [] = 0 := rfl
        simp only [e]
        rw [if_neg (by omega)]
        rfl
      have HLK := Lib.hid hlk
      have kz : ((0 : Int) < k) = False := eq_false (by omega)
      have kz2 : (0 < k) = False := eq_false (by omega)
      have HK0' := Lib.hid hk0
      clear hu hk0 hls hlk hlen
      go_wp2_with (first
        | (go_at_call 44; (with_reducible refine (qat H.out hl).mono ?_); rintro e w' ⟨rfl, hw⟩; subst w')
        | (go_at_call 45; (with_reducible refine (quint H.out hl hb).mono ?_); rintro e wx hp; unfold QPost at hp; rw [HUV.out] at hp; obtain ⟨vx, rfl, rfl, hx1, ax1⟩ := hp; have hmx := HMK.out.call hx1 ax1; have y4 := HY4.out wx hmx; have hrow := HROW.out wx hmx; have hBx := hmx.at_.at_.kept.size; have HMx := Lib.hid hmx; clear hmx hx1 ax1)
        | (at_builtin; refine wpList_append_long rfl _ _ 70 rfl w0.heap.size 69 i0 (.int .u64 0) 1 8 Tryz.underlying70 hi hz0 hz1 hz2 rfl (by decide) (.slice A k cp) k (lkC ls) #[.int .u64 (v : Nat)] 1 rfl rfl rfl (by simp [Value.oneCell']) hrow (by omega) (by decide) hBx ?_; intro A' c' w2 hown2 hg2 hat2; have hpp := HMx.out.pushL (y := v) (v' := .slice A' (k + 1) c') (W' := w2) (by rw [HLEN.out]; exact hown2) (by rw [HLV.out]; exact hg2) (by rw [HLV.out]; exact hat2); have y5 := hpp.1; rw [HLV.out] at y5; have z5 := hpp.2.1; have HPP := Lib.hid hpp; clear hpp hown2 hg2 hat2 y4 hrow))
      refine ⟨⟨k + 1, ls ++ [v], sk1, .slice A' (k + 1) c', by congr 1, by omega, by rw [List.length_append, HLEN.out]; rfl, ?_, loop_succ HLP.out HLK.out, HPP.out.2.2⟩, by simp [intOf]; omega⟩
      intro y hy
      rcases List.mem_append.1 hy with hy | hy
      · exact HALL.out y hy
      · rw [List.mem_singleton] at hy; rw [hy]; exact hv64
    · obtain ⟨m, hmk⟩ : ∃ m, m + 1 = k := ⟨k - 1, by omega⟩
      obtain ⟨p, hp⟩ : ∃ p, p = lastL ls := ⟨_, rfl⟩
      have hpm : ls[m]? = some p := by
        rw [hp]
        unfold lastL
        rw [List.getLast?_eq_getElem?, HLEN.out, ← hmk]
        simp only [Nat.add_sub_cancel]
        rw [List.getElem?_eq_getElem (by rw [HLEN.out]; omega)]
        rfl
      have hp64 := HALL.out p (List.mem_of_getElem? hpm)
      have kz : ((0 : Int) < k) = True := eq_true (by omega)
      have kz2 : (0 < k) = True := eq_true (by omega)
      have ek : ((k : Int) - 1) = (m : Int) := by omega
      have mk : (m : Int) < k := by omega
      have hcell : ∀ W' : World, SMid rb r w0 L T R tv sk1 W q { x8 with links := ls } lv (.slice none 0 0) (.slice none 0 0) W' → ∃ g, A = some ⟨g, 0, none⟩ ∧ W'.cell? ⟨g, m, none⟩ = some (.int .u64 p) := fun W' h => by
        obtain ⟨g, e1, _, hc⟩ := own_elem (HROW.out W' h) (by rw [lkC, List.length_map, HLEN.out]; omega)
        exact ⟨g, e1, hc m _ (by rw [lkC, List.getElem?_map, hpm]; rfl)⟩
      have HCELL := Lib.hid hcell
      have HP := Lib.hid hp
      by_cases hbad : 18446744073709551615 - p < v
      · have hlk : linkR ls L sk = .err sk.n 55 := by unfold linkR Rdr.map Rdr.mapS Rdr.chk; rw [hu]; simp only [← hp, if_pos hbad]
        have HRES := Lib.hid (span_err (T := (T.map Prod.fst)) (R := (R.map Prod.fst)) (HF9.out.trans (bind_err (loop_bad HLP.out hlk nl hkk))))
        have hx := xor_max p hp64
        have b1 : (18446744073709551615 - (p : Int) < v) = True := eq_true (by omega)
        clear hu hlk hlen hpm hcell hp hmk hk0
        go_wp2_with (first
          | (go_at_call 44; (with_reducible refine (qat H.out hl).mono ?_); rintro e w' ⟨rfl, hw⟩; subst w')
          | (go_at_call 45; (with_reducible refine (quint H.out hl hb).mono ?_); rintro e wx hp; unfold QPost at hp; rw [HUV.out] at hp; obtain ⟨vx, rfl, rfl, hx1, ax1⟩ := hp; have hmx := HMK.out.call hx1 ax1; have y4 := HY4.out wx hmx; obtain ⟨g, eA, y6⟩ := HCELL.out wx hmx; subst eA; have HMx := Lib.hid hmx; clear hmx hx1 ax1)
          | (go_at_call 46; (with_reducible refine (wrong_yes (w0 := w0) sk.n 55 HMx.out.at_.at_.kept).mono ?_); rintro e w2 ⟨q1, f1, rfl, hs⟩; have HS := Lib.hid hs; clear hs))
        exact ⟨rfl, stop_q HRES.out ⟨q1, f1, rfl, HS.out⟩⟩
      · obtain ⟨z, hz⟩ : ∃ z, z = v + p := ⟨_, rfl⟩
        have hlk : linkR ls L sk = .ok (ls ++ [z]) sk1 := by unfold linkR Rdr.map Rdr.mapS Rdr.chk; rw [hu]; simp only [← hp, if_neg hbad, hz]
        have HLK := Lib.hid hlk
        have hz64 : z < 18446744073709551616 := by omega
        have hx := xor_max p hp64
        have b1 : (18446744073709551615 - (p : Int) < v) = False := eq_false (by omega)
        have hw : IntKind.u64.wrap ((v : Int) + (p : Int)) = (z : Int) := by rw [IntKind.wrap_u64]; omega
        clear hu hlk hlen hpm hcell hp hmk hk0 hbad hz
        go_wp2_with (first
          | (go_at_call 44; (with_reducible refine (qat H.out hl).mono ?_); rintro e w' ⟨rfl, hw⟩; subst w')
          | (go_at_call 45; (with_reducible refine (quint H.out hl hb).mono ?_); rintro e wx hp; unfold QPost at hp; rw [HUV.out] at hp; obtain ⟨vx, rfl, rfl, hx1, ax1⟩ := hp; have hmx := HMK.out.call hx1 ax1; have y4 := HY4.out wx hmx; obtain ⟨g, eA, y6⟩ := HCELL.out wx hmx; subst eA; have hrow := HROW.out wx hmx; have hBx := hmx.at_.at_.kept.size; have HMx := Lib.hid hmx; clear hmx hx1 ax1)
          | (go_at_call 46; (with_reducible refine (wrong_no _ _ _).mono ?_); rintro e w' ⟨rfl, hw9⟩; subst w')
          | (at_builtin; refine wpList_append_long rfl _ _ 70 rfl w0.heap.size 69 i0 (.int .u64 0) 1 8 Tryz.underlying70 hi hz0 hz1 hz2 rfl (by decide) (.slice (some ⟨g, 0, none⟩) k cp) k (lkC ls) #[.int .u64 (z : Nat)] 1 rfl rfl rfl (by simp [Value.oneCell']) hrow (by omega) (by decide) hBx ?_; intro A' c' w2 hown2 hg2 hat2; have hpp := HMx.out.pushL (y := z) (v' := .slice A' (k + 1) c') (W' := w2) (by rw [HLEN.out]; exact hown2) (by rw [HLV.out]; exact hg2) (by rw [HLV.out]; exact hat2); have y5 := hpp.1; rw [HLV.out] at y5; have z5 := hpp.2.1; have HPP := Lib.hid hpp; clear hpp hown2 hg2 hat2 y4 hrow))
        refine ⟨⟨k + 1, ls ++ [z], sk1, .slice A' (k + 1) c', by congr 1, by omega, by rw [List.length_append, HLEN.out]; rfl, ?_, loop_succ HLP.out HLK.out, HPP.out.2.2⟩, by simp [intOf]; omega⟩
        intro y hy
        rcases List.mem_append.1 hy with hy | hy
        · exact HALL.out y hy
        · rw [List.mem_singleton] at hy; rw [hy]; exact hz64
  have hk4' : k = nl := by omega
  have k1 : ¬ (k : Int) < nl := by omega
  rw [hk4'] at hloop
  obtain ⟨x9, hx9⟩ : ∃ x : Spn, x = { x8 with links := ls } := ⟨_, rfl⟩
  rw [← hx9] at hm
  have hf : fieldsR (T.map Prod.fst) (R.map Prod.fst) L s = st9 (T.map Prod.fst) x9 L sk := by rw [hx9]; exact HF9.out.trans (bind_ok hloop)
  have HF10 := Lib.hid hf
  have HM10 := Lib.hid hm
  have HX9 := Lib.hid hx9
  have HLN := Lib.hid (show x9.links.length ≤ 16 by rw [hx9]; show ls.length ≤ 16; omega)
  have HXA : Hid (x9.ats = [] ∧ x9.evs = []) := Lib.hid (by rw [hx9]; exact HXL8.out.2)
  clear hm hf hloop hx9 hlen HF9 HM9 HF8 HXL8
  obtain ⟨W10, rfl⟩ : ∃ V : World, V = wr := ⟨_, rfl⟩
  go_upto_region 20 with fail
  clear hk4' hk4 hk k0 k1
  have hmany : Calls Tryz.prog 92 #[.pointer (some ⟨rb, 0, none⟩), .int .i64 32] W10 (QPost rb r w0 L T R tv (countR 32 L sk) (fun n v _ => v = .int .i64 n) W10) := qmany HM10.out.at_.at_ hl hb 32 (by omega)
  have HMANY := Lib.hid hmany
  clear hmany
  cases h11 : countR 32 L sk with
  | err a no =>
    have HRES := Lib.hid (span_err (T := (T.map Prod.fst)) (R := (R.map Prod.fst)) (HF10.out.trans (bind_err h11)))
    have HU := Lib.hid h11
    clear h11
    go_wp2_with (go_at_call 92; (with_reducible refine HMANY.out.mono ?_); rintro e w1 hp; unfold QPost at hp; rw [HU.out] at hp; obtain ⟨q1, f1, rfl, hs⟩ := hp; have HS := Lib.hid hs; clear hs)
    exact ⟨rfl, stop_q HRES.out ⟨q1, f1, rfl, HS.out⟩⟩
  | ok na s11 =>
  have hn32 := countR_le h11
  have HU11 := Lib.hid h11
  have hf : fieldsR (T.map Prod.fst) (R.map Prod.fst) L s = ((Rdr.loop (attrsR (T.map Prod.fst)) na []).bind fun ats => st11 (T.map Prod.fst) { x9 with ats := ats }) L s11 := HF10.out.trans (bind_ok h11)
  have HF11 := Lib.hid hf
  have hx9l : { x9 with ats := [] } = x9 := by have := HXA.out.1; rw [← this]
  have HX9L := Lib.hid hx9l
  clear h11 hf hx9l
  go_upto_region 21 with (go_at_call 92; (with_reducible refine HMANY.out.mono ?_); rintro e wx hp; unfold QPost at hp; rw [HU11.out] at hp; obtain ⟨vx, rfl, rfl, hx1, ax1⟩ := hp; have hmx := HM10.out.call hx1 ax1; have HM11 := Lib.hid hmx; clear hmx hx1 ax1)
  clear HMANY
  obtain ⟨lvv, hlvv⟩ : ∃ z, z = lv := ⟨_, rfl⟩
  go_loopw [104] (fun i wr => ∃ (k : Nat) (ls : List Atr) (sk : BSt) (av : Value), i = .int .i64 k ∧ k ≤ na ∧ ls.length = k ∧ Rdr.loop (attrsR (T.map Prod.fst)) k [] L s11 = .ok ls sk ∧ SMid rb r w0 L T R tv sk W q { x9 with ats := ls } lv av (.slice none 0 0) wr) (fun i _ => na - (intOf i).toNat)
  case atStart => exact ⟨0, [], s11, .slice none 0 0, rfl, Nat.zero_le _, rfl, rfl, by rw [HX9L.out]; exact HM11.out⟩
  obtain ⟨k, ls, sk, av, rfl, hk, hlen, hloop, hm⟩ := hrel
  have k0 : (0 : Int) ≤ k := by omega
  by_cases hk4 : k < na
  · have k1 : (k : Int) < na := by omega
    have c0 := hm.at_.at_.c0
    have H := Lib.hid hm.at_.at_
    have HMK := Lib.hid hm
    have HLP := Lib.hid hloop
    have HLEN := Lib.hid hlen
    have hkk := hk4
    obtain ⟨A, cp, elv⟩ := own_slice hm.ar
    have elv' : av = .slice A k cp := by rw [elv, ← hlen]
    have HLV := Lib.hid elv'
    have y4' : ∀ (s2 : BSt) (W' : World), SMid rb r w0 L T R tv s2 W q { x9 with ats := ls } lv av (.slice none 0 0) W' → W'.cell? ⟨q, 11, none⟩ = some (.slice A k cp) := fun s2 W' h => by rw [← HLV.out]; exact (h.at_.cq 11).trans rfl
    have HY4 := Lib.hid y4'
    have hrow' : ∀ (s2 : BSt) (W' : World), SMid rb r w0 L T R tv s2 W q { x9 with ats := ls } lv av (.slice none 0 0) W' → W'.ownsRow w0.heap.size 132 4 (.slice A k cp) k (atC' ls) := fun s2 W' h => by
      have := h.ar
      rw [HLV.out] at this
      have e : ({ x9 with ats := ls } : Spn).ats.length = k := HLEN.out
      rw [e] at this
      exact this
    have HROW := Lib.hid hrow'
    have y9 := HY4.out sk wr hm
    have n32 : k ≤ 32 := by omega
    clear hm hloop elv elv' hk4 y4' hrow'
    cases hu : attrR (T.map Prod.fst) L sk with
    | err a no =>
      have hlk : attrsR (T.map Prod.fst) ls L sk = .err a no := by unfold attrsR Rdr.map Rdr.mapS; rw [hu]
      have HRES := Lib.hid (span_err (T := (T.map Prod.fst)) (R := (R.map Prod.fst)) (HF11.out.trans (bind_err (loop_bad HLP.out hlk na hkk))))
      have HU := Lib.hid hu
      clear hu hlk
      go_upto_region 22 with fail
      refine wp_region_any (by kernel_rfl) ?_
      change wpAny _ _ _ _ _ _ _ (World.drew _)
      refine wpAny_take (i := 0) (v := ?_) rfl (by kernel_rfl) (by kernel_rfl) (by kernel_rfl) (fun _ _ _ h => h) (Or.inl ⟨by rfl, ?_⟩) ?_
      case refine_2 => intro w; go_simp; try with_reducible rfl
      refine wpAny_take (i := 2) (v := ?_) rfl (by kernel_rfl) (by kernel_rfl) (by kernel_rfl) (fun _ _ _ h => h) (Or.inl ⟨by rfl, ?_⟩) ?_
      case refine_2 => intro w; go_simp; try with_reducible rfl
      refine wpAny_ready (rs := [1, 3]) (by kernel_rfl) (by simp) ?_
      refine AllReady.cons rfl (fun K hK => ?_) (AllReady.cons rfl (fun K hK => ?_) AllReady.nil)
      · have HKK := Lib.hid hK
        clear hK
        go_simp
        refine HKK.out _ _ ?_
        clear HKK
        refine wpAny_ready (rs := [3]) (by kernel_rfl) (by simp) ?_
        refine AllReady.cons rfl (fun K hK => ?_) AllReady.nil
        have HKK := Lib.hid hK
        clear hK
        refine step_fn1 rfl _ _ rfl Tryz.func93 rfl rfl _ rfl (qattr H.out.drew hl hb hT) ?_
        intro e w1 hp
        unfold QPost at hp
        rw [HU.out] at hp
        obtain ⟨q1, f1, rfl, hs⟩ := hp
        have HS := Lib.hid hs
        exact ⟨rfl, stop_q HRES.out ⟨q1, f1, rfl, HS.out⟩⟩
      · have HKK := Lib.hid hK
        clear hK
        refine step_fn1 rfl _ _ rfl Tryz.func93 rfl rfl _ rfl (qattr H.out.drew hl hb hT) ?_
        intro e w1 hp
        unfold QPost at hp
        rw [HU.out] at hp
        obtain ⟨q1, f1, rfl, hs⟩ := hp
        have HS := Lib.hid hs
        exact ⟨rfl, stop_q HRES.out ⟨q1, f1, rfl, HS.out⟩⟩
    | ok y sk1 =>
      have HUV := Lib.hid hu
      have hlk : attrsR (T.map Prod.fst) ls L sk = .ok (ls ++ [y]) sk1 := by unfold attrsR Rdr.map Rdr.mapS; rw [hu]
      have HLK := Lib.hid hlk
      clear hu hlk
      obtain ⟨j0, hj, hj0, hj1, hj2⟩ := info_parts Tryz.info132
      go_upto_region 22 with fail
      refine wp_region_any (by kernel_rfl) ?_
      change wpAny _ _ _ _ _ _ _ (World.drew _)
      refine wpAny_take (i := 0) (v := ?_) rfl (by kernel_rfl) (by kernel_rfl) (by kernel_rfl) (fun _ _ _ h => h) (Or.inl ⟨by rfl, ?_⟩) ?_
      case refine_2 => intro w; go_simp; try with_reducible rfl
      refine wpAny_take (i := 2) (v := ?_) rfl (by kernel_rfl) (by kernel_rfl) (by kernel_rfl) (fun _ _ _ h => h) (Or.inl ⟨by rfl, ?_⟩) ?_
      case refine_2 => intro w; go_simp; try with_reducible rfl
      refine wpAny_ready (rs := [1, 3]) (by kernel_rfl) (by simp) ?_
      refine AllReady.cons rfl (fun K hK => ?_) (AllReady.cons rfl (fun K hK => ?_) AllReady.nil)
      · have HKK := Lib.hid hK
        clear hK
        go_simp
        refine HKK.out _ _ ?_
        clear HKK
        refine wpAny_ready (rs := [3]) (by kernel_rfl) (by simp) ?_
        refine AllReady.cons rfl (fun K hK => ?_) AllReady.nil
        have HKK := Lib.hid hK
        clear hK
        refine step_fn1 rfl _ _ rfl Tryz.func93 rfl rfl _ rfl (qattr H.out.drew hl hb hT) ?_
        intro e wx hp
        unfold QPost at hp
        rw [HUV.out] at hp
        obtain ⟨vx, rfl, rfl, hx1, ax1⟩ := hp
        have hmx := (HMK.out.later (.drew _ _)).call hx1 ax1
        have y4 := HY4.out _ wx hmx
        have hrow := HROW.out _ wx hmx
        have hBx := hmx.at_.at_.kept.size
        have ya : ∀ o, (wx.alloc o).cell? ⟨q, 11, none⟩ = some (.slice A k cp) := fun o => HY4.out _ _ (hmx.later (.alloc _ _ _))
        have HMx := Lib.hid hmx
        clear hmx hx1 ax1
        go_simp
        refine HKK.out _ _ ?_
        clear HKK
        refine wpAny_ready (rs := [4]) (by kernel_rfl) (by simp) ?_
        refine AllReady.cons rfl (fun K hK => ?_) AllReady.nil
        have HKK := Lib.hid hK
        clear hK
        go_simp
        refine HKK.out _ _ ?_
        clear HKK
        refine wpAny_ready (rs := [5]) (by kernel_rfl) (by simp) ?_
        refine AllReady.cons rfl (fun K hK => ?_) AllReady.nil
        have HKK := Lib.hid hK
        clear hK
        refine step_append_long rfl _ _ 73 rfl w0.heap.size 132 j0 (.agg #[.string ⟨#[]⟩, .int .i64 0, .string ⟨#[]⟩, .int .i64 0]) 4 48 Tryz.underlying73 hj hj0 hj1 hj2 rfl (by decide) (.slice A k cp) k (atC' ls) (atrA y) 1 rfl rfl rfl (by simp [atrA, Value.oneCell']) hrow (by omega) (by decide) hBx ?_
        intro A' c' w2 hown2 hg2 hat2
        have hpp := HMx.out.pushA (y := y) (v' := .slice A' (k + 1) c') (W' := w2) (by rw [HLEN.out]; exact hown2) (by rw [HLV.out]; exact hg2) (by rw [HLV.out]; exact hat2)
        have y5 := hpp.1
        rw [HLV.out] at y5
        have z5 := hpp.2.1
        have HPP := Lib.hid hpp
        clear hpp hown2 hg2 hat2
        go_simp
        refine HKK.out _ _ ?_
        clear HKK
        refine wpAny_take (i := 6) (v := ?_) rfl (by kernel_rfl) (by kernel_rfl) (by kernel_rfl) (fun _ _ _ h => h) (Or.inl ⟨by rfl, ?_⟩) ?_
        case refine_2 => intro w; go_simp; try with_reducible rfl
        refine wpAny_ready (rs := [7]) (by kernel_rfl) (by simp) ?_
        refine AllReady.cons rfl (fun K hK => ?_) AllReady.nil
        have HKK := Lib.hid hK
        clear hK
        go_simp
        refine HKK.out _ _ ?_
        clear HKK
        refine wpAny_done (by kernel_rfl) ?_ _
        go_wp2_with fail
        refine ⟨⟨k + 1, ls ++ [y], sk1, .slice A' (k + 1) c', by congr 1, by omega, by rw [List.length_append, HLEN.out]; rfl, loop_succ HLP.out HLK.out, HPP.out.2.2⟩, by simp [intOf]; omega⟩
      · have HKK := Lib.hid hK
        clear hK
        refine step_fn1 rfl _ _ rfl Tryz.func93 rfl rfl _ rfl (qattr H.out.drew hl hb hT) ?_
        intro e wx hp
        unfold QPost at hp
        rw [HUV.out] at hp
        obtain ⟨vx, rfl, rfl, hx1, ax1⟩ := hp
        have hmx := (HMK.out.later (.drew _ _)).call hx1 ax1
        have y4 := HY4.out _ wx hmx
        have hrow := HROW.out _ wx hmx
        have hBx := hmx.at_.at_.kept.size
        have ya : ∀ o, (wx.alloc o).cell? ⟨q, 11, none⟩ = some (.slice A k cp) := fun o => HY4.out _ _ (hmx.later (.alloc _ _ _))
        have HMx := Lib.hid hmx
        clear hmx hx1 ax1
        go_simp
        refine HKK.out _ _ ?_
        clear HKK
        refine wpAny_ready (rs := [1, 4]) (by kernel_rfl) (by simp) ?_
        refine AllReady.cons rfl (fun K hK => ?_) (AllReady.cons rfl (fun K hK => ?_) AllReady.nil)
        · have HKK := Lib.hid hK
          clear hK
          go_simp
          refine HKK.out _ _ ?_
          clear HKK
          refine wpAny_ready (rs := [4]) (by kernel_rfl) (by simp) ?_
          refine AllReady.cons rfl (fun K hK => ?_) AllReady.nil
          have HKK := Lib.hid hK
          clear hK
          go_simp
          refine HKK.out _ _ ?_
          clear HKK
          refine wpAny_ready (rs := [5]) (by kernel_rfl) (by simp) ?_
          refine AllReady.cons rfl (fun K hK => ?_) AllReady.nil
          have HKK := Lib.hid hK
          clear hK
          refine step_append_long rfl _ _ 73 rfl w0.heap.size 132 j0 (.agg #[.string ⟨#[]⟩, .int .i64 0, .string ⟨#[]⟩, .int .i64 0]) 4 48 Tryz.underlying73 hj hj0 hj1 hj2 rfl (by decide) (.slice A k cp) k (atC' ls) (atrA y) 1 rfl rfl rfl (by simp [atrA, Value.oneCell']) hrow (by omega) (by decide) hBx ?_
          intro A' c' w2 hown2 hg2 hat2
          have hpp := HMx.out.pushA (y := y) (v' := .slice A' (k + 1) c') (W' := w2) (by rw [HLEN.out]; exact hown2) (by rw [HLV.out]; exact hg2) (by rw [HLV.out]; exact hat2)
          have y5 := hpp.1
          rw [HLV.out] at y5
          have z5 := hpp.2.1
          have HPP := Lib.hid hpp
          clear hpp hown2 hg2 hat2
          go_simp
          refine HKK.out _ _ ?_
          clear HKK
          refine wpAny_take (i := 6) (v := ?_) rfl (by kernel_rfl) (by kernel_rfl) (by kernel_rfl) (fun _ _ _ h => h) (Or.inl ⟨by rfl, ?_⟩) ?_
          case refine_2 => intro w; go_simp; try with_reducible rfl
          refine wpAny_ready (rs := [7]) (by kernel_rfl) (by simp) ?_
          refine AllReady.cons rfl (fun K hK => ?_) AllReady.nil
          have HKK := Lib.hid hK
          clear hK
          go_simp
          refine HKK.out _ _ ?_
          clear HKK
          refine wpAny_done (by kernel_rfl) ?_ _
          go_wp2_with fail
          refine ⟨⟨k + 1, ls ++ [y], sk1, .slice A' (k + 1) c', by congr 1, by omega, by rw [List.length_append, HLEN.out]; rfl, loop_succ HLP.out HLK.out, HPP.out.2.2⟩, by simp [intOf]; omega⟩
        · have HKK := Lib.hid hK
          clear hK
          go_simp
          refine HKK.out _ _ ?_
          clear HKK
          refine wpAny_ready (rs := [1]) (by kernel_rfl) (by simp) ?_
          refine AllReady.cons rfl (fun K hK => ?_) AllReady.nil
          have HKK := Lib.hid hK
          clear hK
          go_simp
          refine HKK.out _ _ ?_
          clear HKK
          refine wpAny_ready (rs := [5]) (by kernel_rfl) (by simp) ?_
          refine AllReady.cons rfl (fun K hK => ?_) AllReady.nil
          have HKK := Lib.hid hK
          clear hK
          refine step_append_long rfl _ _ 73 rfl w0.heap.size 132 j0 (.agg #[.string ⟨#[]⟩, .int .i64 0, .string ⟨#[]⟩, .int .i64 0]) 4 48 Tryz.underlying73 hj hj0 hj1 hj2 rfl (by decide) (.slice A k cp) k (atC' ls) (atrA y) 1 rfl rfl rfl (by simp [atrA, Value.oneCell']) hrow (by omega) (by decide) hBx ?_
          intro A' c' w2 hown2 hg2 hat2
          have hpp := HMx.out.pushA (y := y) (v' := .slice A' (k + 1) c') (W' := w2) (by rw [HLEN.out]; exact hown2) (by rw [HLV.out]; exact hg2) (by rw [HLV.out]; exact hat2)
          have y5 := hpp.1
          rw [HLV.out] at y5
          have z5 := hpp.2.1
          have HPP := Lib.hid hpp
          clear hpp hown2 hg2 hat2
          go_simp
          refine HKK.out _ _ ?_
          clear HKK
          refine wpAny_take (i := 6) (v := ?_) rfl (by kernel_rfl) (by kernel_rfl) (by kernel_rfl) (fun _ _ _ h => h) (Or.inl ⟨by rfl, ?_⟩) ?_
          case refine_2 => intro w; go_simp; try with_reducible rfl
          refine wpAny_ready (rs := [7]) (by kernel_rfl) (by simp) ?_
          refine AllReady.cons rfl (fun K hK => ?_) AllReady.nil
          have HKK := Lib.hid hK
          clear hK
          go_simp
          refine HKK.out _ _ ?_
          clear HKK
          refine wpAny_done (by kernel_rfl) ?_ _
          go_wp2_with fail
          refine ⟨⟨k + 1, ls ++ [y], sk1, .slice A' (k + 1) c', by congr 1, by omega, by rw [List.length_append, HLEN.out]; rfl, loop_succ HLP.out HLK.out, HPP.out.2.2⟩, by simp [intOf]; omega⟩
  have hk4' : k = na := by omega
  have k1 : ¬ (k : Int) < na := by omega
  rw [hk4'] at hloop
  obtain ⟨x10, hx10⟩ : ∃ x : Spn, x = { x9 with ats := ls } := ⟨_, rfl⟩
  rw [← hx10] at hm
  have hf : fieldsR (T.map Prod.fst) (R.map Prod.fst) L s = st11 (T.map Prod.fst) x10 L sk := by rw [hx10]; exact HF11.out.trans (bind_ok hloop)
  have HF12 := Lib.hid hf
  have HM12 := Lib.hid hm
  have HX10 := Lib.hid hx10
  have HAN := Lib.hid (show x10.ats.length ≤ 32 by rw [hx10]; show ls.length ≤ 32; omega)
  have HXE : Hid (x10.evs = []) := Lib.hid (by rw [hx10]; exact HXA.out.2)
  clear hm hf hloop hx10 hlen HF11 HM11 HF10 HXA
  obtain ⟨W12, rfl⟩ : ∃ V : World, V = wr := ⟨_, rfl⟩
  go_upto_region 25 with fail
  clear hk4' hk4 hk k0 k1
  have hmany : Calls Tryz.prog 92 #[.pointer (some ⟨rb, 0, none⟩), .int .i64 32] W12 (QPost rb r w0 L T R tv (countR 32 L sk) (fun n v _ => v = .int .i64 n) W12) := qmany HM12.out.at_.at_ hl hb 32 (by omega)
  have HMANY := Lib.hid hmany
  clear hmany
  cases h13 : countR 32 L sk with
  | err a no =>
    have HRES := Lib.hid (span_err (T := (T.map Prod.fst)) (R := (R.map Prod.fst)) (HF12.out.trans (bind_err h13)))
    have HU := Lib.hid h13
    clear h13
    go_wp2_with (go_at_call 92; (with_reducible refine HMANY.out.mono ?_); rintro e w1 hp; unfold QPost at hp; rw [HU.out] at hp; obtain ⟨q1, f1, rfl, hs⟩ := hp; have HS := Lib.hid hs; clear hs)
    exact ⟨rfl, stop_q HRES.out ⟨q1, f1, rfl, HS.out⟩⟩
  | ok ne s13 =>
  have hn33 := countR_le h13
  have HU13 := Lib.hid h13
  have hf : fieldsR (T.map Prod.fst) (R.map Prod.fst) L s = ((Rdr.loop (eventR (T.map Prod.fst)) ne (0, [])).map fun ev => { x10 with evs := ev.2 }) L s13 := HF12.out.trans (bind_ok h13)
  have HF13 := Lib.hid hf
  have hx10l : { x10 with evs := [] } = x10 := by have := HXE.out; rw [← this]
  have HX10L := Lib.hid hx10l
  clear h13 hf hx10l
  go_upto_region 26 with (go_at_call 92; (with_reducible refine HMANY.out.mono ?_); rintro e wx hp; unfold QPost at hp; rw [HU13.out] at hp; obtain ⟨vx, rfl, rfl, hx1, ax1⟩ := hp; have hmx := HM12.out.call hx1 ax1; have HM13 := Lib.hid hmx; clear hmx hx1 ax1)
  clear HMANY
  go_loopw [9, 116] (fun t i wr => ∃ (k : Nat) (a : Int) (ls : List Evt) (sk : BSt) (ev : Value), i = .int .i64 k ∧ t = .int .i64 a ∧ k ≤ ne ∧ ls.length = k ∧ (-9223372036854775808 ≤ a ∧ a ≤ 9223372036854775807) ∧ Rdr.loop (eventR (T.map Prod.fst)) k (0, []) L s13 = .ok (a, ls) sk ∧ SMid rb r w0 L T R tv sk W q { x10 with evs := ls } lv av ev wr) (fun _ i _ => ne - (intOf i).toNat)
  case atStart => exact ⟨0, 0, [], s13, .slice none 0 0, rfl, rfl, Nat.zero_le _, rfl, by omega, rfl, by rw [HX10L.out]; exact HM13.out⟩
  obtain ⟨k, a, ls, sk, ev, rfl, rfl, hk, hlen, har, hloop, hm⟩ := hrel
  have k0 : (0 : Int) ≤ k := by omega
  by_cases hk4 : k < ne
  · have k1 : (k : Int) < ne := by omega
    have HMK := Lib.hid hm
    have HLP := Lib.hid hloop
    have HLEN := Lib.hid hlen
    have hkk := hk4
    obtain ⟨A, cp, elv⟩ := own_slice hm.er
    have elv' : ev = .slice A k cp := by rw [elv, ← hlen]
    have HLV := Lib.hid elv'
    have y4' : ∀ (s2 : BSt) (W' : World), SMid rb r w0 L T R tv s2 W q { x10 with evs := ls } lv av ev W' → W'.cell? ⟨q, 12, none⟩ = some (.slice A k cp) := fun s2 W' h => by rw [← HLV.out]; exact (h.at_.cq 12).trans rfl
    have HY4 := Lib.hid y4'
    have hrow' : ∀ (s2 : BSt) (W' : World), SMid rb r w0 L T R tv s2 W q { x10 with evs := ls } lv av ev W' → W'.ownsRow w0.heap.size 134 2 (.slice A k cp) k (evC ls) := fun s2 W' h => by
      have := h.er
      rw [HLV.out] at this
      have e : ({ x10 with evs := ls } : Spn).evs.length = k := HLEN.out
      rw [e] at this
      exact this
    have HROW := Lib.hid hrow'
    have n33 : k ≤ 32 := by omega
    clear hm hloop elv elv' hk4 y4' hrow'
    cases hu : laterR a L sk with
    | err x no =>
      have hlk : eventR (T.map Prod.fst) (a, ls) L sk = .err x no := bind_err hu
      have HRES := Lib.hid (span_err (T := (T.map Prod.fst)) (R := (R.map Prod.fst)) (HF13.out.trans (map_err (loop_bad HLP.out hlk ne hkk))))
      have HU := Lib.hid hu
      clear hu hlk
      go_wp2_with (go_at_call 91; (with_reducible refine (qlater_any HMK.out.at_.at_ hl hb a har.1 har.2).mono ?_); rintro e w1 hp; unfold QPost at hp; rw [HU.out] at hp; obtain ⟨q1, f1, rfl, hs⟩ := hp; have HS := Lib.hid hs; clear hs)
      exact ⟨rfl, stop_q HRES.out ⟨q1, f1, rfl, HS.out⟩⟩
    | ok a2 sk1 =>
      have HUA := Lib.hid hu
      have HRA := Lib.hid (laterR_range har.1 hu)
      cases hv : namedT (T.map Prod.fst) L sk1 with
      | err x no =>
        have hlk : eventR (T.map Prod.fst) (a, ls) L sk = .err x no := (bind_ok hu).trans (map_err hv)
        have HRES := Lib.hid (span_err (T := (T.map Prod.fst)) (R := (R.map Prod.fst)) (HF13.out.trans (map_err (loop_bad HLP.out hlk ne hkk))))
        have HU := Lib.hid hv
        clear hu hv hlk
        go_upto_region 28 with (go_at_call 91; (with_reducible refine (qlater_any HMK.out.at_.at_ hl hb a har.1 har.2).mono ?_); rintro e wz hp; unfold QPost at hp; rw [HUA.out] at hp; obtain ⟨vx, rfl, rfl, hx1, ax1⟩ := hp; have hmx := HMK.out.call hx1 ax1; have y12 := HY4.out _ wz hmx; have HQ := Lib.hid hmx; clear hmx hx1 ax1)
        refine wp_region_any (by kernel_rfl) ?_
        change wpAny _ _ _ _ _ _ _ (World.drew _)
        refine wpAny_take (i := 0) (v := ?_) rfl (by kernel_rfl) (by kernel_rfl) (by kernel_rfl) (fun _ _ _ h => h) (Or.inl ⟨by rfl, ?_⟩) ?_
        case refine_2 => intro w; go_simp; try with_reducible rfl
        refine wpAny_take (i := 2) (v := ?_) rfl (by kernel_rfl) (by kernel_rfl) (by kernel_rfl) (fun _ _ _ h => h) (Or.inl ⟨by rfl, ?_⟩) ?_
        case refine_2 => intro w; go_simp; try with_reducible rfl
        refine wpAny_take (i := 3) (v := ?_) rfl (by kernel_rfl) (by kernel_rfl) (by kernel_rfl) (fun _ _ _ h => h) (Or.inl ⟨by rfl, ?_⟩) ?_
        case refine_2 => intro w; go_simp; try with_reducible rfl
        refine wpAny_take (i := 4) (v := ?_) rfl (by kernel_rfl) (by kernel_rfl) (by kernel_rfl) (fun _ _ _ h => h) (Or.inl ⟨by rfl, ?_⟩) ?_
        case refine_2 => intro w; go_simp; try with_reducible rfl
        refine wpAny_take (i := 5) (v := ?_) rfl (by kernel_rfl) (by kernel_rfl) (by kernel_rfl) (fun _ _ _ h => h) (Or.inl ⟨by rfl, ?_⟩) ?_
        case refine_2 => intro w; go_simp; try with_reducible rfl
        refine wpAny_take (i := 6) (v := ?_) rfl (by kernel_rfl) (by kernel_rfl) (by kernel_rfl) (fun _ _ _ h => h) (Or.inl ⟨by rfl, ?_⟩) ?_
        case refine_2 => intro w; go_simp; try with_reducible rfl
        refine wpAny_ready (rs := [1, 7]) (by kernel_rfl) (by simp) ?_
        refine AllReady.cons rfl (fun K hK => ?_) (AllReady.cons rfl (fun K hK => ?_) AllReady.nil)
        · have HKK := Lib.hid hK
          clear hK
          go_simp
          refine HKK.out _ _ ?_
          clear HKK
          refine wpAny_ready (rs := [7]) (by kernel_rfl) (by simp) ?_
          refine AllReady.cons rfl (fun K hK => ?_) AllReady.nil
          have HKK := Lib.hid hK
          clear hK
          go_simp
          go_at_call 89
          with_reducible refine (qtext HQ.out.at_.at_.drew hl hb hT).mono ?_
          rintro e w1 hp
          unfold QPost at hp
          rw [HU.out] at hp
          obtain ⟨q1, f1, rfl, hs⟩ := hp
          have HS := Lib.hid hs
          exact ⟨rfl, stop_q HRES.out ⟨q1, f1, rfl, HS.out⟩⟩
        · have HKK := Lib.hid hK
          clear hK
          go_simp
          go_at_call 89
          with_reducible refine (qtext HQ.out.at_.at_.drew hl hb hT).mono ?_
          rintro e w1 hp
          unfold QPost at hp
          rw [HU.out] at hp
          obtain ⟨q1, f1, rfl, hs⟩ := hp
          have HS := Lib.hid hs
          exact ⟨rfl, stop_q HRES.out ⟨q1, f1, rfl, HS.out⟩⟩
      | ok nm sk2 =>
        have hlk : eventR (T.map Prod.fst) (a, ls) L sk = .ok (a2, ls ++ [⟨a2, nm⟩]) sk2 := (bind_ok hu).trans (by unfold Rdr.map Rdr.mapS; rw [hv])
        have HLK := Lib.hid hlk
        have HUN := Lib.hid hv
        clear hu hv hlk
        obtain ⟨j0, hj, hj0, hj1, hj2⟩ := info_parts Tryz.info134
        go_upto_region 28 with (go_at_call 91; (with_reducible refine (qlater_any HMK.out.at_.at_ hl hb a har.1 har.2).mono ?_); rintro e wz hp; unfold QPost at hp; rw [HUA.out] at hp; obtain ⟨vx, rfl, rfl, hx1, ax1⟩ := hp; have hmx := HMK.out.call hx1 ax1; have y12 := HY4.out _ wz hmx; have HQ := Lib.hid hmx; clear hmx hx1 ax1)
        go_region_law (first
          | (refine step_append_long rfl _ _ 74 rfl w0.heap.size 134 j0 (.agg #[.int .i64 0, .string ⟨#[]⟩]) 2 24 Tryz.underlying74 hj hj0 hj1 hj2 rfl (by decide) (.slice A k cp) k (evC ls) (evtA ⟨a2, nm⟩) 1 rfl rfl rfl (by simp [evtA, Value.oneCell']) hrow (by omega) (by decide) hBx ?_; intro A' c' w2 hown2 hg2 hat2; have hpp := HMx.out.pushE (y := ⟨a2, nm⟩) (v' := .slice A' (k + 1) c') (W' := w2) (by rw [HLEN.out]; exact hown2) (by rw [HLV.out]; exact hg2) (by rw [HLV.out]; exact hat2); have y5 := hpp.1; rw [HLV.out] at y5; have z5 := hpp.2.1; have HPP := Lib.hid hpp; clear hpp hown2 hg2 hat2)
          | (go_simp; go_at_call 89; (with_reducible refine (qtext HQ.out.at_.at_.drew hl hb hT).mono ?_); rintro e wx hp; unfold QPost at hp; rw [HUN.out] at hp; obtain ⟨vx, rfl, rfl, hx1, ax1⟩ := hp; have hmx := (HQ.out.later (.drew _ _)).call hx1 ax1; have y4 := HY4.out _ wx hmx; have hrow := HROW.out _ wx hmx; have hBx := hmx.at_.at_.kept.size; have ya : ∀ o, (wx.alloc o).cell? ⟨q, 12, none⟩ = some (.slice A k cp) := fun o => HY4.out _ _ (hmx.later (.alloc _ _ _)); have HMx := Lib.hid hmx; clear hmx hx1 ax1))
        all_goals go_simp
        all_goals go_wp2_with fail
        all_goals exact ⟨⟨k + 1, a2, ls ++ [⟨a2, nm⟩], sk2, .slice A' (k + 1) c', by congr 1, rfl, by omega, by rw [List.length_append, HLEN.out]; rfl, HRA.out, loop_succ HLP.out HLK.out, HPP.out.2.2⟩, by simp [intOf]; omega⟩
  have hk4' : k = ne := by omega
  have k1 : ¬ (k : Int) < ne := by omega
  rw [hk4'] at hloop
  obtain ⟨x13, hx13⟩ : ∃ x : Spn, x = { x10 with evs := ls } := ⟨_, rfl⟩
  rw [← hx13] at hm
  have hf : fieldsR (T.map Prod.fst) (R.map Prod.fst) L s = .ok x13 sk := by rw [hx13]; exact HF13.out.trans (map_ok hloop)
  have HF14 := Lib.hid hf
  have hsr : SReads wr x13 lv av ev := sreads_own hm.lr hm.ar hm.er (by rw [hx13]; show x10.links.length ≤ 16; rw [HX10.out]; exact HLN.out) (by rw [hx13]; exact HAN.out) (by rw [hx13]; show ls.length ≤ 32; omega)
  have HSR := Lib.hid hsr
  have HSZ14 := Lib.hid (fields_sized HTS.out hf)
  have HUW := Lib.hid (Utf8Tabs.kept HUT.out hm.at_.at_.kept (fun h => h) (fun h => h))
  have HM14 := Lib.hid hm
  have hbq := hm.at_.blk
  obtain ⟨cz, hcz⟩ : ∃ z, z = checkS x13 := ⟨_, rfl⟩
  have HCZ := Lib.hid hcz
  clear hm hf hsr hloop hx13 hlen HF13 HM13 HF12 HX10L hcz
  obtain ⟨W14, hW14⟩ : ∃ V : World, V = wr := ⟨_, rfl⟩
  subst hW14
  go_upto_region 31 with (first
    | (refine wpList_load76 rfl _ rfl q (x13.cells lv av ev) rfl hbq rfl ?_)
    | (go_at_call 32; (with_reducible refine (check_any x13 lv av ev _ HSR.out HSZ14.out HUW.out).mono ?_); rintro e w2 ⟨rfl, hk2⟩; rw [← HCZ.out]; have H2 := Lib.hid hk2; clear hk2))
  clear hk4' hk4 hk k0 k1 hbq
  have HM15 := Lib.hid (HM14.out.later H2.out)
  by_cases hc : cz = 0
  case neg =>
    have e1 : (cz == 0) = false := by simpa using hc
    have e2 : (cz != 0) = true := by simpa using hc
    have HRES : Hid (spanR (T.map Prod.fst) (R.map Prod.fst) L s = .err s.n cz) := Lib.hid (by rw [span_ok HF14.out, if_neg (by rw [← HCZ.out]; exact hc), ← HCZ.out])
    clear hc
    go_wp2_with (go_at_call 46; (with_reducible refine (wrong_yes (w0 := w0) s.n cz HM15.out.at_.at_.kept).mono ?_); rintro e w3 ⟨q1, f1, rfl, hs⟩; have HS := Lib.hid hs; clear hs)
    exact ⟨rfl, stop_q HRES.out ⟨q1, f1, rfl, HS.out⟩⟩
  have HRES : Hid (spanR (T.map Prod.fst) (R.map Prod.fst) L s = .ok x13 sk) := Lib.hid (by rw [span_ok HF14.out, if_pos (by rw [← HCZ.out]; exact hc)])
  subst hc
  have e2 : ((0 : Int) != 0) = false := by decide
  have hb3 := HM15.out.at_.blk
  have hr3 := HM15.out.at_.ap _ _ _ _ HB.out (by decide) (by decide)
  have HONES := Lib.hid (spn_ones HSR.out)
  go_wp2_with (first
    | (go_at_call 46; (with_reducible refine (wrong_no _ _ _).mono ?_); rintro e w' ⟨rfl, hw9⟩; subst w')
    | (refine wpList_load76 rfl _ rfl q (x13.cells lv av ev) rfl hb3 rfl ?_)
    | (refine wpList_store76 rfl _ _ rfl w.heap.size z76 (x13.cells lv av ev) rfl rfl hr3 rfl rfl HONES.out ?_; intro w3 hb5 hk5; have H5 := Lib.hid (And.intro hb5 hk5); clear hb5 hk5))
  refine ret76 rfl w.heap.size _ rfl rfl H5.out.1 rfl ?_
  unfold QPost
  rw [HRES.out]
  have ko := fun {e sz n : Nat} {u : Value} {xs : List Value} (hu : w2.ownsRow w0.heap.size e sz u n xs) (he : 76 ≠ e) => own_kept hu H5.out.2 fun k e1 e2 => own_ne hu hr3 he (e2 ▸ e1)
  refine ⟨_, rfl, ⟨lv, av, ev, rfl, ko HM15.out.lr (by decide), ko HM15.out.ar (by decide), ko HM15.out.er (by decide)⟩, ?_, ?_⟩
  · exact HM15.out.at_.at_.other hr3 H5.out.2 (by decide) (by decide) (by decide) (by decide) (by decide) (own_ne HM15.out.at_.at_.blk.2.2.2.1 hr3 (by decide)) (H0.out.kept.size)
  · exact Aside.local ((Aside.of_kept HK0.out).trans HM15.out.at_.ap) H5.out.2
end
end Go.Proofs.YtlcbgklealipoaaGreatDoor
