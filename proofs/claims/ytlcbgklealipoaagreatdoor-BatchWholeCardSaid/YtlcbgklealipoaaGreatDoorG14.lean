/- Decode (the walk; printed by gen_g14.py). -/
import Derived.Test.YtlcbgklealipoaaGreatDoorG14a
import Derived.Test.YtlcbgklealipoaaGreatDoorG10
import Derived.Deep.RegionLaw
import Derived.Deep.RegionWith
namespace Go.Proofs.YtlcbgklealipoaaGreatDoor
open Go Go.RowKit
set_option linter.unusedVariables false
set_option linter.unusedSimpArgs false

theorem ba_list {s : ByteArray} (h : s.toList = [83, 66, 1]) : s = ⟨#[83, 66, 1]⟩ := by
  rw [ByteArray.toList_eq] at h
  exact ByteArray.ext (Array.toList_inj.1 h)
section
variable {L : List Int} {w : World}
theorem dec_fail {W2 : World} {lb eb : Nat} {no : Int} (hres : decB L = .err 0 no) (k2 : Kept (fun _ => False) w W2) (bl : W2.heap[lb]? = some (.cells #[.slice none 0 0] 25 (0, 0))) (be : W2.heap[eb]? = some (.cells #[.nilIface] 28 (0, 0))) (hl0 : w.heap.size ≤ lb) (he0 : w.heap.size ≤ eb) {tm : Array Value}
    (h2 : tm.getD 2 undef = .pointer (some ⟨lb, 0, none⟩)) (h3 : tm.getD 3 undef = .pointer (some ⟨eb, 0, none⟩)) :
    bodyPostD Tryz.prog Tryz.f13 (DecPost L w) .ret ⟨tm, []⟩ (((W2.alloc (.cells #[.int .i64 0, .int .i64 no] 39)).setCell ⟨lb, 0, none⟩ (.slice none 0 0)).setCell ⟨eb, 0, none⟩ (.iface 35 (.pointer (some ⟨W2.heap.size, 0, none⟩)))) := by
  have hne : ¬ lb = eb := by rintro rfl; rw [bl] at be; injection be with be; injection be with _ be _; cases be
  have ll := blk_lt bl
  have le := blk_lt be
  have ka : Kept (fun _ => False) W2 (W2.alloc (.cells #[.int .i64 0, .int .i64 no] 39)) := .alloc _ _ _
  have bl2 := blk_kept ka bl (fun e => e)
  have be2 := blk_kept ka be (fun e => e)
  have bf := heap_alloc_new W2 (.cells #[.int .i64 0, .int .i64 no] 39)
  obtain ⟨V, hV⟩ : ∃ V, V = W2.alloc (.cells #[.int .i64 0, .int .i64 no] 39) := ⟨_, rfl⟩
  rw [← hV] at ka bl2 be2 bf ⊢
  have k3 : Kept (fun k => k = lb) V (V.setCell ⟨lb, 0, none⟩ (.slice none 0 0)) := .setCell _ _ _ rfl
  have bl3 : (V.setCell ⟨lb, 0, none⟩ (.slice none 0 0)).heap[lb]? = some (.cells #[.slice none 0 0] 25 (0, 0)) := blk_set bl2 0 _
  have be3 := blk_kept k3 be2 (fun e => hne e.symm)
  have bf3 := blk_kept k3 bf (fun e => by omega)
  obtain ⟨U, hU⟩ : ∃ U, U = V.setCell ⟨lb, 0, none⟩ (.slice none 0 0) := ⟨_, rfl⟩
  rw [← hU] at k3 bl3 be3 bf3 ⊢
  have k4 : Kept (fun k => k = eb) U (U.setCell ⟨eb, 0, none⟩ (.iface 35 (.pointer (some ⟨W2.heap.size, 0, none⟩)))) := .setCell _ _ _ rfl
  have bl4 := blk_kept k4 bl3 hne
  have be4 := blk_set be3 0 (.iface 35 (.pointer (some ⟨W2.heap.size, 0, none⟩)))
  have bf4 := blk_kept k4 bf3 (fun e => by omega)
  refine door_ret0 ((blk_cell bl4 0).trans rfl) ((blk_cell be4 0).trans rfl) h2 h3 ?_
  unfold DecPost
  rw [hres]
  exact ⟨_, rfl, bf4, ((k2.trans ka (fun _ _ e => e) (fun _ _ e => e)).trans k3 (U := fun _ => False) (fun _ _ e => e) (fun i hi e => by omega)).trans k4 (fun _ _ e => e) (fun i hi e => by omega)⟩
set_option maxHeartbeats 32000000 in
set_option maxRecDepth 100000 in
theorem decode_any (v : Value) (hr : RdsB w v L) (hb : Bytes L) (hl : L.length ≤ 140737488355328) (hU : Lib.Utf8Tabs 1 2 w) (hnd : Handle w) : Calls Tryz.prog 13 #[v] w (DecPost L w) := by
  have HND := Lib.hid hnd
  have HLB0 : Hid (0 < w.heap.size) := Lib.hid (World.block_lt_of_cell? w ⟨0, 0, none⟩ hnd)
  have HRD := Lib.hid hr
  obtain ⟨A, c, rfl, hc0, hcell⟩ := hr
  have HCELL := Lib.hid hcell
  have hmf : ∀ (fn : Fn) (first cap : Array Value) (w : World), (Instr.makeFunc fn first cap).run Tryz.prog w = .ok (.func fn first cap) w := fun _ _ _ _ => rfl
  obtain ⟨W2, hW2⟩ : ∃ W, W = (w.alloc (.cells #[.slice none 0 0] 25)).alloc (.cells #[.nilIface] 28) := ⟨_, rfl⟩
  obtain ⟨lb, hlb⟩ : ∃ k, k = w.heap.size := ⟨_, rfl⟩
  obtain ⟨eb, heb⟩ : ∃ k, k = w.heap.size + 1 := ⟨_, rfl⟩
  have ka : Kept (fun _ => False) w (w.alloc (.cells #[.slice none 0 0] 25)) := .alloc _ _ _
  have hs1 : (w.alloc (.cells #[.slice none 0 0] 25)).heap.size = w.heap.size + 1 := by simp
  have kb : Kept (fun _ => False) (w.alloc (.cells #[.slice none 0 0] 25)) W2 := by rw [hW2]; exact .alloc _ _ _
  have k2 : Kept (fun _ => False) w W2 := ka.trans kb (fun _ _ e => e) (fun _ _ e => e)
  have bl : W2.heap[lb]? = some (.cells #[.slice none 0 0] 25 (0, 0)) := by rw [hlb]; exact blk_kept kb (heap_alloc_new w _) (fun e => e)
  have be : W2.heap[eb]? = some (.cells #[.nilIface] 28 (0, 0)) := by rw [hW2, heb, ← hs1]; exact heap_alloc_new _ _
  have sz : W2.heap.size = w.heap.size + 2 := by rw [hW2]; simp
  have HW2 := Lib.hid (And.intro k2 (And.intro bl (And.intro be sz)))
  have HLB : Hid (w.heap.size ≤ lb ∧ w.heap.size ≤ eb) := Lib.hid (by omega)
  have y1 : W2.cell? ⟨lb, 0, none⟩ = some (.slice none 0 0) := (blk_cell bl 0).trans rfl
  have y2 : W2.cell? ⟨eb, 0, none⟩ = some .nilIface := (blk_cell be 0).trans rfl
  have z1 := blk_frozen bl 0
  have z2 := blk_frozen be 0
  have ya1 : ∀ o, (W2.alloc o).cell? ⟨lb, 0, none⟩ = some (.slice none 0 0) := fun o => (blk_cell (blk_kept (Kept.alloc (fun _ => False) W2 o) bl (fun e => e)) 0).trans rfl
  have ya2 : ∀ o, (W2.alloc o).cell? ⟨eb, 0, none⟩ = some .nilIface := fun o => (blk_cell (blk_kept (Kept.alloc (fun _ => False) W2 o) be (fun e => e)) 0).trans rfl
  have za1 : ∀ o, (W2.alloc o).frozen? ⟨lb, 0, none⟩ = false := fun o => blk_frozen (blk_kept (Kept.alloc (fun _ => False) W2 o) bl (fun e => e)) 0
  have za2 : ∀ o, (W2.alloc o).frozen? ⟨eb, 0, none⟩ = false := fun o => blk_frozen (blk_kept (Kept.alloc (fun _ => False) W2 o) be (fun e => e)) 0
  have n1 : ¬ lb = eb := by omega
  have n2 : ¬ eb = lb := by omega
  have HL2 : Hid (lb < W2.heap.size ∧ eb < W2.heap.size) := Lib.hid (by omega)
  have hU0 := Lib.hid hU
  have HUT := Lib.hid (Utf8Tabs.kept hU k2 (fun h => h) (fun h => h))
  have hW2' := hW2.symm
  have hlb' := hlb.symm
  have heb' : lb + 1 = eb := by omega
  clear hcell ka hs1 kb k2 bl be sz hU hnd hW2 hlb heb
  by_cases h1 : 65536 < L.length
  · have b1 : ((65536 : Int) < L.length) = True := eq_true (by omega)
    have b2 : (65536 < L.length) = True := eq_true h1
    have HRES : Hid (decB L = .err 0 51) := Lib.hid (by unfold decB; rw [if_pos h1])
    clear h1
    go_enter_defers Tryz.func13, Tryz.ntmps13
    go_wp2_with fail
    exact dec_fail HRES.out HW2.out.1 HW2.out.2.1 HW2.out.2.2.1 HLB.out.1 HLB.out.2 rfl rfl
  have b1 : ((65536 : Int) < L.length) = False := eq_false (by omega)
  have b2 : (65536 < L.length) = False := eq_false h1
  have hl6 : L.length ≤ 65536 := by omega
  by_cases h3 : L.length < 3
  · have b3 : ((L.length : Int) < 3) = True := eq_true (by omega)
    have b4 : (L.length < 3) = True := eq_true h3
    have HRES : Hid (decB L = .err 0 52) := Lib.hid (by
      unfold decB
      rw [if_neg h1, if_pos]
      intro e
      have := congrArg List.length e
      rw [List.length_take] at this
      simp at this
      omega)
    clear h1 h3
    go_enter_defers Tryz.func13, Tryz.ntmps13
    go_wp2_with fail
    exact dec_fail HRES.out HW2.out.1 HW2.out.2.1 HW2.out.2.2.1 HLB.out.1 HLB.out.2 rfl rfl
  have b3 : ((L.length : Int) < 3) = False := eq_false (by omega)
  have b4 : (L.length < 3) = False := eq_false h3
  obtain ⟨g, off, rfl, hcc⟩ := HCELL.out (by omega)
  have h33 : 3 ≤ L.length := by omega
  have hcv := head_conv (w := W2) (L := L) h33 (fun j x hx => cell_kept HW2.out.1 (hcc j x hx))
  have hc3 : (3 : Int) ≤ c := by omega
  have hc4 : 3 ≤ c := by omega
  clear hcc hc0
  by_cases h4 : L.take 3 = [83, 66, 1]
  case neg =>
    have HRES : Hid (decB L = .err 0 52) := Lib.hid (by unfold decB; rw [if_neg h1, if_pos h4])
    obtain ⟨s3, hs3⟩ : ∃ s, s = strOfNums (L.take 3) := ⟨_, rfl⟩
    have hne : ¬ s3 = ⟨#[83, 66, 1]⟩ := by
      rw [hs3]
      intro e
      apply h4
      have := octs_str (bytes_take hb 3)
      rw [e] at this
      exact this.symm.trans (by decide)
    rw [← hs3] at hcv
    have e1 : (s3.toList == [83, 66, 1]) = false := by rw [beq_eq_false_iff_ne]; intro e; exact hne (ba_list e)
    have e2 : (!s3.toList == [83, 66, 1]) = true := by rw [e1]; rfl
    clear h1 h3 h4 hs3 hne
    go_enter_defers Tryz.func13, Tryz.ntmps13
    go_wp2_with fail
    exact dec_fail HRES.out HW2.out.1 HW2.out.2.1 HW2.out.2.2.1 HLB.out.1 HLB.out.2 rfl rfl
  have H12 := Lib.hid (And.intro h1 h4)
  rw [h4] at hcv
  have e3 : strOfNums [83, 66, 1] = ⟨#[83, 66, 1]⟩ := by decide
  rw [e3] at hcv
  have HLEN3 : Hid (3 ≤ L.length) := Lib.hid (by omega)
  clear h1 h3 h4 e3
  go_enter_defers Tryz.func13, Tryz.ntmps13
  go_upto_region 7 with (go_at_call 41; (with_reducible refine (newReader_any _ L W2 (HRD.out.kept HW2.out.1).reads hl).mono ?_); rintro e w3 ⟨r, v', rfl, hv, hk⟩; have H3 := Lib.hid (And.intro hv hk); clear hv hk)
  obtain ⟨rb, hrb⟩ : ∃ k, k = w3.heap.size := ⟨_, rfl⟩
  obtain ⟨W4, hW4⟩ : ∃ W, W = w3.alloc (.cells #[.pointer (some ⟨r, 0, none⟩), .slice none 0 0, .slice none 0 0, .int .i64 0, .slice none 0 0, .slice none 0 0, .int .i64 0, .int .i64 0] 110) := ⟨_, rfl⟩
  have hq : QAt rb r W2 L [] [] tv0 ⟨0, 0, 0, 0⟩ W4 := by rw [hW4, hrb]; exact QAt.start H3.out.1 H3.out.2
  have HB3 : Hid (bytesR 3 L ⟨0, 0, 0, 0⟩ = .ok (L.take 3) s0) := Lib.hid (by
    have := HLEN3.out
    unfold bytesR rawR
    simp only [Nat.sub_zero, List.drop_zero, s0]
    rw [if_neg (by omega), if_neg (by omega)]
    rfl)
  have hraw : Calls Tryz.prog 42 #[.pointer (some ⟨rb, 0, none⟩), .int .i64 3] W4 (QPost rb r W2 L [] [] tv0 (bytesR 3 L ⟨0, 0, 0, 0⟩) (fun q v w' => w'.ownsRow W2.heap.size 5 1 v q.length (nums .u8 q)) W4) := qraw hq hl6 3 (by omega)
  have HRAW := Lib.hid hraw
  rw [← hW4, ← hrb]
  clear hW4 hrb hq hraw H3 hcv hW2' hlb' heb' ya1 ya2 za1 za2 y1 y2 z1 z2 n1
  go_upto_region 8 with (go_at_call 42; (with_reducible refine HRAW.out.mono ?_); rintro e w5 hp; unfold QPost at hp; rw [HB3.out] at hp; obtain ⟨vx, rfl, _, hx1, ax1⟩ := hp; have H5 := Lib.hid hx1; clear hx1 ax1)
  have htab : Calls Tryz.prog 43 #[.pointer (some ⟨rb, 0, none⟩)] w5 (TabPost rb r W2 L (tabsR L s0) w5) := qtables H5.out hl6 hb HUT.out
  have HTAB := Lib.hid htab
  clear htab HRAW HB3
  cases ht : tabsR L s0 with
  | err a no =>
    have HRES := Lib.hid (dec_tabs H12.out.1 H12.out.2 ht)
    have HU := Lib.hid ht
    clear ht
    go_wp2_with (go_at_call 43; (with_reducible refine HTAB.out.mono ?_); rintro e wz hp; unfold TabPost at hp; rw [HU.out] at hp; obtain ⟨q1, f1, rfl, hs⟩ := hp; have HS := Lib.hid hs; clear hs)
    exact door_stop HRES.out ⟨q1, f1, rfl, HS.out⟩ HW2.out.1 HW2.out.2.1 HW2.out.2.2.1 HLB.out.1 HLB.out.2 HLB0.out HND.out rfl rfl
  | ok p s1 =>
  obtain ⟨T, R⟩ := p
  have HTA := Lib.hid ht
  clear ht
  go_upto_region 9 with (go_at_call 43; (with_reducible refine HTAB.out.mono ?_); rintro e w6 hp; unfold TabPost at hp; rw [HTA.out] at hp; obtain ⟨tv, rfl, hx1, ax1, hts, hT5, hR5⟩ := hp; have H6 := Lib.hid hx1; have HTS := Lib.hid hts; clear hx1 ax1 hts)
  have hT6 : T.length ≤ 1000000 := by omega
  have hR6 : R.length ≤ 1000000 := by omega
  have c0 := H6.out.c0
  clear HTAB H5 hT5 hR5
  cases hu : uintR L s1 with
  | err a no =>
    have HRES := Lib.hid (dec_rest H12.out.1 H12.out.2 HTA.out (rest_err hu))
    have HU := Lib.hid hu
    clear hu
    go_wp2_with (first
      | (go_at_call 44; (with_reducible refine (qat H6.out hl6).mono ?_); rintro e w' ⟨rfl, hw⟩; subst w')
      | (go_at_call 45; (with_reducible refine (quint H6.out hl6 hb).mono ?_); rintro e wz hp; unfold QPost at hp; rw [HU.out] at hp; obtain ⟨q1, f1, rfl, hs⟩ := hp; have HS := Lib.hid hs; clear hs))
    exact door_stop HRES.out ⟨q1, f1, rfl, HS.out⟩ HW2.out.1 HW2.out.2.1 HW2.out.2.2.1 HLB.out.1 HLB.out.2 HLB0.out HND.out rfl rfl
  | ok n s2 =>
  have hn64 := uintR_lt hu
  have HU := Lib.hid hu
  by_cases hn : 500 < n
  · have HRES := Lib.hid (dec_rest H12.out.1 H12.out.2 HTA.out (rest_many hu hn))
    have b7 : ((500 : Int) < (n : Int)) = True := eq_true (by omega)
    have b8 : (500 < n) = True := eq_true hn
    clear hu hn
    go_wp2_with (first
      | (go_at_call 44; (with_reducible refine (qat H6.out hl6).mono ?_); rintro e w' ⟨rfl, hw⟩; subst w')
      | (go_at_call 45; (with_reducible refine (quint H6.out hl6 hb).mono ?_); rintro e wx hp; unfold QPost at hp; rw [HU.out] at hp; obtain ⟨vx, rfl, rfl, hx1, ax1⟩ := hp; have H7 := Lib.hid hx1; clear hx1 ax1)
      | (go_at_call 46; (with_reducible refine (wrong_yes (w0 := W2) s1.n 53 H7.out.kept).mono ?_); rintro e w' ⟨q1, f1, rfl, hs⟩; have HS := Lib.hid hs; clear hs))
    exact door_stop HRES.out ⟨q1, f1, rfl, HS.out⟩ HW2.out.1 HW2.out.2.1 HW2.out.2.2.1 HLB.out.1 HLB.out.2 HLB0.out HND.out rfl rfl
  have HRO := Lib.hid (rest_ok (T := T.map Prod.fst) (R := R.map Prod.fst) hu hn)
  have b7 : ((500 : Int) < (n : Int)) = False := eq_false (by omega)
  have b8 : (500 < n) = False := eq_false hn
  have hwn : IntKind.i64.wrap (n : Int) = (n : Int) := by rw [IntKind.wrap_i64]; omega
  have hn5 : n ≤ 500 := by omega
  clear hu hn
  go_upto_region 13 with (first
    | (go_at_call 44; (with_reducible refine (qat H6.out hl6).mono ?_); rintro e w' ⟨rfl, hw⟩; subst w')
    | (go_at_call 45; (with_reducible refine (quint H6.out hl6 hb).mono ?_); rintro e wx hp; unfold QPost at hp; rw [HU.out] at hp; obtain ⟨vx, rfl, rfl, hx1, ax1⟩ := hp; have H7 := Lib.hid hx1; clear hx1 ax1)
    | (go_at_call 46; (with_reducible refine (wrong_no _ _ _).mono ?_); rintro e w' ⟨rfl, hw9⟩; subst w'))
  have hd0 : DInv w W2.heap.size lb eb rb r L T R tv s2 (.slice none 0 0) [] W2 wx := ⟨rfl, HW2.out.1, HW2.out.2.1, HW2.out.2.2.1, H7.out, ⟨rfl, .inl ⟨rfl, rfl⟩⟩, fun y hy => by cases hy⟩
  have HD0 := Lib.hid hd0
  clear hd0 c0 H6 H7 HU hn64
  go_loopw [49] (fun i wr => ∃ (k : Nat) (q : List LSpn) (sk : BSt) (v : Value) (w0 : World), i = .int .i64 k ∧ k ≤ n ∧ q.length = k ∧ Rdr.loop (spansR (T.map Prod.fst) (R.map Prod.fst)) k [] L s2 = .ok (q.map Prod.fst) sk ∧ DInv w W2.heap.size lb eb rb r L T R tv sk v q w0 wr) (fun i _ => n - (intOf i).toNat)
  case atStart => exact ⟨0, [], s2, _, W2, rfl, Nat.zero_le _, rfl, rfl, HD0.out⟩
  obtain ⟨k, q, sk, v, w0, rfl, hk, hlen, hloop, hd⟩ := hrel
  clear HD0
  have k0 : (0 : Int) ≤ k := by omega
  have HD := Lib.hid hd
  have HLP := Lib.hid hloop
  have HLEN := Lib.hid hlen
  by_cases hk4 : k < n
  · have k1 : (k : Int) < n := by omega
    have hkk := hk4
    have HUW := Lib.hid (Utf8Tabs.kept (Utf8Tabs.kept hU0.out HD.out.kw (fun h => h) (fun h => h)) (.refl (fun _ => False) w0) (fun h => h) (fun h => h))
    obtain ⟨A1, cp, elv⟩ := own_slice hd.own.row
    have elv' : v = .slice A1 k cp := by rw [elv, hlen]
    have HLV := Lib.hid elv'
    have y1 : wr.cell? ⟨lb, 0, none⟩ = some (.slice A1 k cp) := by rw [← HLV.out]; exact (blk_cell hd.blW 0).trans rfl
    have HY1 : Hid (∀ s' W', DInv w W2.heap.size lb eb rb r L T R tv s' v q w0 W' → W'.cell? ⟨lb, 0, none⟩ = some (.slice A1 k cp)) := Lib.hid fun s' W' h => by rw [← HLV.out]; exact (blk_cell h.blW 0).trans rfl
    have hspan : Calls Tryz.prog 47 #[.pointer (some ⟨rb, 0, none⟩)] wr.drew (QPost rb r w0 L T R tv (spanR (T.map Prod.fst) (R.map Prod.fst) L sk) (fun x v w' => ∃ lv av ev, v = .agg (x.cells lv av ev) ∧ w'.ownsRow w0.heap.size 69 1 lv x.links.length (lkC x.links) ∧ w'.ownsRow w0.heap.size 132 4 av x.ats.length (atC' x.ats) ∧ w'.ownsRow w0.heap.size 134 2 ev x.evs.length (evC x.evs)) wr.drew) :=
      qspan hd.at_.drew hl6 hb hT6 hR6 HUW.out (fun t h => Nat.le_trans (HTS.out t h) (by omega))
    have HSPAN := Lib.hid hspan
    clear hd hloop hlen hk4 elv elv' hspan
    cases hs : spanR (T.map Prod.fst) (R.map Prod.fst) L sk with
    | err a no =>
      have HRES := Lib.hid (dec_rest H12.out.1 H12.out.2 HTA.out (HRO.out.trans (loop_bad HLP.out (spans_err hs) n hkk)))
      have HU := Lib.hid hs
      clear hs
      go_upto_region 14 with fail
      refine wp_region_any (by kernel_rfl) ?_
      change wpAny _ _ _ _ _ _ _ (World.drew _)
      refine wpAny_ready (rs := [0, 1]) (by kernel_rfl) (by simp) ?_
      refine AllReady.cons rfl (fun K hK => ?_) (AllReady.cons rfl (fun K hK => ?_) AllReady.nil)
      · have HKK := Lib.hid hK
        clear hK
        go_simp
        refine HKK.out _ _ ?_
        clear HKK
        refine wpAny_ready (rs := [1]) (by kernel_rfl) (by simp) ?_
        refine AllReady.cons rfl (fun K hK => ?_) AllReady.nil
        have HKK := Lib.hid hK
        clear hK
        go_simp
        refine HKK.out _ _ ?_
        clear HKK
        refine wpAny_ready (rs := [2]) (by kernel_rfl) (by simp) ?_
        refine AllReady.cons rfl (fun K hK => ?_) AllReady.nil
        have HKK := Lib.hid hK
        clear hK
        go_simp
        go_at_call 47
        with_reducible refine (HSPAN.out).mono ?_
        rintro e w1 hp
        unfold QPost at hp
        rw [HU.out] at hp
        obtain ⟨q1, f1, rfl, hs⟩ := hp
        have HS := Lib.hid hs
        exact door_stop HRES.out ⟨q1, f1, rfl, HS.out⟩ HD.out.kw HD.out.bl HD.out.be HLB.out.1 HLB.out.2 HLB0.out HND.out rfl rfl
      · have HKK := Lib.hid hK
        clear hK
        go_simp
        refine HKK.out _ _ ?_
        clear HKK
        refine wpAny_ready (rs := [0, 2]) (by kernel_rfl) (by simp) ?_
        refine AllReady.cons rfl (fun K hK => ?_) (AllReady.cons rfl (fun K hK => ?_) AllReady.nil)
        · have HKK := Lib.hid hK
          clear hK
          go_simp
          refine HKK.out _ _ ?_
          clear HKK
          refine wpAny_ready (rs := [2]) (by kernel_rfl) (by simp) ?_
          refine AllReady.cons rfl (fun K hK => ?_) AllReady.nil
          have HKK := Lib.hid hK
          clear hK
          go_simp
          go_at_call 47
          with_reducible refine (HSPAN.out).mono ?_
          rintro e w1 hp
          unfold QPost at hp
          rw [HU.out] at hp
          obtain ⟨q1, f1, rfl, hs⟩ := hp
          have HS := Lib.hid hs
          exact door_stop HRES.out ⟨q1, f1, rfl, HS.out⟩ HD.out.kw HD.out.bl HD.out.be HLB.out.1 HLB.out.2 HLB0.out HND.out rfl rfl
        · have HKK := Lib.hid hK
          clear hK
          go_simp
          go_at_call 47
          with_reducible refine (HSPAN.out).mono ?_
          rintro e w1 hp
          unfold QPost at hp
          rw [HU.out] at hp
          obtain ⟨q1, f1, rfl, hs⟩ := hp
          have HS := Lib.hid hs
          exact door_stop HRES.out ⟨q1, f1, rfl, HS.out⟩ HD.out.kw HD.out.bl HD.out.be HLB.out.1 HLB.out.2 HLB0.out HND.out rfl rfl
    | ok x s3 =>
      have HU := Lib.hid hs
      have HLK := Lib.hid (spans_ok (l := q.map Prod.fst) hs)
      obtain ⟨j0, hj, hj0, hj1, hj2⟩ := info_parts Tryz.info76
      clear hs
      have k2 : k ≤ 1000000000 := by omega
      go_upto_region 14 with fail
      refine wp_region_any (by kernel_rfl) ?_
      change wpAny _ _ _ _ _ _ _ (World.drew _)
      refine wpAny_ready (rs := [0, 1]) (by kernel_rfl) (by simp) ?_
      refine AllReady.cons rfl (fun K hK => ?_) (AllReady.cons rfl (fun K hK => ?_) AllReady.nil)
      · have HKK := Lib.hid hK
        clear hK
        go_simp
        refine HKK.out _ _ ?_
        clear HKK
        refine wpAny_ready (rs := [1]) (by kernel_rfl) (by simp) ?_
        refine AllReady.cons rfl (fun K hK => ?_) AllReady.nil
        have HKK := Lib.hid hK
        clear hK
        go_simp
        refine HKK.out _ _ ?_
        clear HKK
        refine wpAny_ready (rs := [2]) (by kernel_rfl) (by simp) ?_
        refine AllReady.cons rfl (fun K hK => ?_) AllReady.nil
        have HKK := Lib.hid hK
        clear hK
        go_simp
        go_at_call 47
        with_reducible refine (HSPAN.out).mono ?_
        rintro e wx hp
        unfold QPost at hp
        rw [HU.out] at hp
        obtain ⟨vx, rfl, ⟨lv, av, ev, rfl, o1, o2, o3⟩, hx1, ax1⟩ := hp
        have hdx := HD.out.next hx1 ((Aside.of_kept (.drew (fun _ => False) wr)).trans ax1)
        rw [HD.out.sz] at o1 o2 o3
        have ho : Own3 W2.heap.size wx (x, lv, av, ev) := ⟨o1, o2, o3⟩
        have hone : ∀ u ∈ (x.cells lv av ev).toList, u.oneCell' = true := ones_own ho
        have y4 := HY1.out _ wx hdx
        have ya : ∀ o, (wx.alloc o).cell? ⟨lb, 0, none⟩ = some (.slice A1 k cp) := fun o => HY1.out _ (wx.alloc o) (hdx.next (hdx.at_.alloc o) (.of_kept (.alloc _ _ _)))
        have hrow : wx.ownsRow W2.heap.size 76 13 (.slice A1 k cp) k (q.flatMap yC) := by have := hdx.own.row; rw [HLV.out, HLEN.out] at this; exact this
        have hBx : W2.heap.size ≤ wx.heap.size := by have := hdx.at_.kept.size; rw [hdx.sz] at this; exact this
        have HX := Lib.hid (And.intro hdx ho)
        clear hdx ho hx1 ax1 o1 o2 o3
        simp only [Spn.cells]
        go_simp
        refine HKK.out _ _ ?_
        clear HKK
        refine wpAny_ready (rs := [3]) (by kernel_rfl) (by simp) ?_
        refine AllReady.cons rfl (fun K hK => ?_) AllReady.nil
        have HKK := Lib.hid hK
        clear hK
        go_simp
        refine HKK.out _ _ ?_
        clear HKK
        refine wpAny_ready (rs := [4]) (by kernel_rfl) (by simp) ?_
        refine AllReady.cons rfl (fun K hK => ?_) AllReady.nil
        have HKK := Lib.hid hK
        clear hK
        refine step_append_long rfl _ _ 25 rfl W2.heap.size 76 j0 _ 13 168 Tryz.underlying25 hj hj0 hj1 hj2 rfl (by decide) (.slice A1 k cp) k (q.flatMap yC) (x.cells lv av ev) 1 rfl rfl rfl hone hrow k2 (by decide) hBx ?_
        intro A' c' w2 hown2 hg2 hat2
        have hpp := HX.out.1.push (y := (x, lv, av, ev)) (v' := .slice A' (k + 1) c') HX.out.2 (by rw [HLEN.out]; exact hown2) (by rw [HLV.out]; exact hg2) HL2.out.1 HL2.out.2 HLB.out.1 n2
        have y5 := hpp.1
        rw [HLV.out] at y5
        have z5 := hpp.2.1
        have HPP := Lib.hid hpp.2.2
        clear hpp hown2 hg2 hat2
        go_simp
        refine HKK.out _ _ ?_
        clear HKK
        refine wpAny_ready (rs := [5]) (by kernel_rfl) (by simp) ?_
        refine AllReady.cons rfl (fun K hK => ?_) AllReady.nil
        have HKK := Lib.hid hK
        clear hK
        go_simp
        refine HKK.out _ _ ?_
        clear HKK
        refine wpAny_done (by kernel_rfl) ?_ _
        go_wp2_with fail
        refine ⟨⟨k + 1, q ++ [(x, lv, av, ev)], s3, .slice A' (k + 1) c', _, by congr 1, by omega, by rw [List.length_append, HLEN.out]; rfl, ?_, HPP.out⟩, by simp [intOf]; omega⟩
        rw [List.map_append]
        exact loop_succ HLP.out HLK.out
      · have HKK := Lib.hid hK
        clear hK
        go_simp
        refine HKK.out _ _ ?_
        clear HKK
        refine wpAny_ready (rs := [0, 2]) (by kernel_rfl) (by simp) ?_
        refine AllReady.cons rfl (fun K hK => ?_) (AllReady.cons rfl (fun K hK => ?_) AllReady.nil)
        · have HKK := Lib.hid hK
          clear hK
          go_simp
          refine HKK.out _ _ ?_
          clear HKK
          refine wpAny_ready (rs := [2]) (by kernel_rfl) (by simp) ?_
          refine AllReady.cons rfl (fun K hK => ?_) AllReady.nil
          have HKK := Lib.hid hK
          clear hK
          go_simp
          go_at_call 47
          with_reducible refine (HSPAN.out).mono ?_
          rintro e wx hp
          unfold QPost at hp
          rw [HU.out] at hp
          obtain ⟨vx, rfl, ⟨lv, av, ev, rfl, o1, o2, o3⟩, hx1, ax1⟩ := hp
          have hdx := HD.out.next hx1 ((Aside.of_kept (.drew (fun _ => False) wr)).trans ax1)
          rw [HD.out.sz] at o1 o2 o3
          have ho : Own3 W2.heap.size wx (x, lv, av, ev) := ⟨o1, o2, o3⟩
          have hone : ∀ u ∈ (x.cells lv av ev).toList, u.oneCell' = true := ones_own ho
          have y4 := HY1.out _ wx hdx
          have ya : ∀ o, (wx.alloc o).cell? ⟨lb, 0, none⟩ = some (.slice A1 k cp) := fun o => HY1.out _ (wx.alloc o) (hdx.next (hdx.at_.alloc o) (.of_kept (.alloc _ _ _)))
          have hrow : wx.ownsRow W2.heap.size 76 13 (.slice A1 k cp) k (q.flatMap yC) := by have := hdx.own.row; rw [HLV.out, HLEN.out] at this; exact this
          have hBx : W2.heap.size ≤ wx.heap.size := by have := hdx.at_.kept.size; rw [hdx.sz] at this; exact this
          have HX := Lib.hid (And.intro hdx ho)
          clear hdx ho hx1 ax1 o1 o2 o3
          simp only [Spn.cells]
          go_simp
          refine HKK.out _ _ ?_
          clear HKK
          refine wpAny_ready (rs := [3]) (by kernel_rfl) (by simp) ?_
          refine AllReady.cons rfl (fun K hK => ?_) AllReady.nil
          have HKK := Lib.hid hK
          clear hK
          go_simp
          refine HKK.out _ _ ?_
          clear HKK
          refine wpAny_ready (rs := [4]) (by kernel_rfl) (by simp) ?_
          refine AllReady.cons rfl (fun K hK => ?_) AllReady.nil
          have HKK := Lib.hid hK
          clear hK
          refine step_append_long rfl _ _ 25 rfl W2.heap.size 76 j0 _ 13 168 Tryz.underlying25 hj hj0 hj1 hj2 rfl (by decide) (.slice A1 k cp) k (q.flatMap yC) (x.cells lv av ev) 1 rfl rfl rfl hone hrow k2 (by decide) hBx ?_
          intro A' c' w2 hown2 hg2 hat2
          have hpp := HX.out.1.push (y := (x, lv, av, ev)) (v' := .slice A' (k + 1) c') HX.out.2 (by rw [HLEN.out]; exact hown2) (by rw [HLV.out]; exact hg2) HL2.out.1 HL2.out.2 HLB.out.1 n2
          have y5 := hpp.1
          rw [HLV.out] at y5
          have z5 := hpp.2.1
          have HPP := Lib.hid hpp.2.2
          clear hpp hown2 hg2 hat2
          go_simp
          refine HKK.out _ _ ?_
          clear HKK
          refine wpAny_ready (rs := [5]) (by kernel_rfl) (by simp) ?_
          refine AllReady.cons rfl (fun K hK => ?_) AllReady.nil
          have HKK := Lib.hid hK
          clear hK
          go_simp
          refine HKK.out _ _ ?_
          clear HKK
          refine wpAny_done (by kernel_rfl) ?_ _
          go_wp2_with fail
          refine ⟨⟨k + 1, q ++ [(x, lv, av, ev)], s3, .slice A' (k + 1) c', _, by congr 1, by omega, by rw [List.length_append, HLEN.out]; rfl, ?_, HPP.out⟩, by simp [intOf]; omega⟩
          rw [List.map_append]
          exact loop_succ HLP.out HLK.out
        · have HKK := Lib.hid hK
          clear hK
          go_simp
          go_at_call 47
          with_reducible refine (HSPAN.out).mono ?_
          rintro e wx hp
          unfold QPost at hp
          rw [HU.out] at hp
          obtain ⟨vx, rfl, ⟨lv, av, ev, rfl, o1, o2, o3⟩, hx1, ax1⟩ := hp
          have hdx := HD.out.next hx1 ((Aside.of_kept (.drew (fun _ => False) wr)).trans ax1)
          rw [HD.out.sz] at o1 o2 o3
          have ho : Own3 W2.heap.size wx (x, lv, av, ev) := ⟨o1, o2, o3⟩
          have hone : ∀ u ∈ (x.cells lv av ev).toList, u.oneCell' = true := ones_own ho
          have y4 := HY1.out _ wx hdx
          have ya : ∀ o, (wx.alloc o).cell? ⟨lb, 0, none⟩ = some (.slice A1 k cp) := fun o => HY1.out _ (wx.alloc o) (hdx.next (hdx.at_.alloc o) (.of_kept (.alloc _ _ _)))
          have hrow : wx.ownsRow W2.heap.size 76 13 (.slice A1 k cp) k (q.flatMap yC) := by have := hdx.own.row; rw [HLV.out, HLEN.out] at this; exact this
          have hBx : W2.heap.size ≤ wx.heap.size := by have := hdx.at_.kept.size; rw [hdx.sz] at this; exact this
          have HX := Lib.hid (And.intro hdx ho)
          clear hdx ho hx1 ax1 o1 o2 o3
          simp only [Spn.cells]
          go_simp
          refine HKK.out _ _ ?_
          clear HKK
          refine wpAny_ready (rs := [0, 3]) (by kernel_rfl) (by simp) ?_
          refine AllReady.cons rfl (fun K hK => ?_) (AllReady.cons rfl (fun K hK => ?_) AllReady.nil)
          · have HKK := Lib.hid hK
            clear hK
            go_simp
            refine HKK.out _ _ ?_
            clear HKK
            refine wpAny_ready (rs := [3]) (by kernel_rfl) (by simp) ?_
            refine AllReady.cons rfl (fun K hK => ?_) AllReady.nil
            have HKK := Lib.hid hK
            clear hK
            go_simp
            refine HKK.out _ _ ?_
            clear HKK
            refine wpAny_ready (rs := [4]) (by kernel_rfl) (by simp) ?_
            refine AllReady.cons rfl (fun K hK => ?_) AllReady.nil
            have HKK := Lib.hid hK
            clear hK
            refine step_append_long rfl _ _ 25 rfl W2.heap.size 76 j0 _ 13 168 Tryz.underlying25 hj hj0 hj1 hj2 rfl (by decide) (.slice A1 k cp) k (q.flatMap yC) (x.cells lv av ev) 1 rfl rfl rfl hone hrow k2 (by decide) hBx ?_
            intro A' c' w2 hown2 hg2 hat2
            have hpp := HX.out.1.push (y := (x, lv, av, ev)) (v' := .slice A' (k + 1) c') HX.out.2 (by rw [HLEN.out]; exact hown2) (by rw [HLV.out]; exact hg2) HL2.out.1 HL2.out.2 HLB.out.1 n2
            have y5 := hpp.1
            rw [HLV.out] at y5
            have z5 := hpp.2.1
            have HPP := Lib.hid hpp.2.2
            clear hpp hown2 hg2 hat2
            go_simp
            refine HKK.out _ _ ?_
            clear HKK
            refine wpAny_ready (rs := [5]) (by kernel_rfl) (by simp) ?_
            refine AllReady.cons rfl (fun K hK => ?_) AllReady.nil
            have HKK := Lib.hid hK
            clear hK
            go_simp
            refine HKK.out _ _ ?_
            clear HKK
            refine wpAny_done (by kernel_rfl) ?_ _
            go_wp2_with fail
            refine ⟨⟨k + 1, q ++ [(x, lv, av, ev)], s3, .slice A' (k + 1) c', _, by congr 1, by omega, by rw [List.length_append, HLEN.out]; rfl, ?_, HPP.out⟩, by simp [intOf]; omega⟩
            rw [List.map_append]
            exact loop_succ HLP.out HLK.out
          · have HKK := Lib.hid hK
            clear hK
            go_simp
            refine HKK.out _ _ ?_
            clear HKK
            refine wpAny_ready (rs := [0]) (by kernel_rfl) (by simp) ?_
            refine AllReady.cons rfl (fun K hK => ?_) AllReady.nil
            have HKK := Lib.hid hK
            clear hK
            go_simp
            refine HKK.out _ _ ?_
            clear HKK
            refine wpAny_ready (rs := [4]) (by kernel_rfl) (by simp) ?_
            refine AllReady.cons rfl (fun K hK => ?_) AllReady.nil
            have HKK := Lib.hid hK
            clear hK
            refine step_append_long rfl _ _ 25 rfl W2.heap.size 76 j0 _ 13 168 Tryz.underlying25 hj hj0 hj1 hj2 rfl (by decide) (.slice A1 k cp) k (q.flatMap yC) (x.cells lv av ev) 1 rfl rfl rfl hone hrow k2 (by decide) hBx ?_
            intro A' c' w2 hown2 hg2 hat2
            have hpp := HX.out.1.push (y := (x, lv, av, ev)) (v' := .slice A' (k + 1) c') HX.out.2 (by rw [HLEN.out]; exact hown2) (by rw [HLV.out]; exact hg2) HL2.out.1 HL2.out.2 HLB.out.1 n2
            have y5 := hpp.1
            rw [HLV.out] at y5
            have z5 := hpp.2.1
            have HPP := Lib.hid hpp.2.2
            clear hpp hown2 hg2 hat2
            go_simp
            refine HKK.out _ _ ?_
            clear HKK
            refine wpAny_ready (rs := [5]) (by kernel_rfl) (by simp) ?_
            refine AllReady.cons rfl (fun K hK => ?_) AllReady.nil
            have HKK := Lib.hid hK
            clear hK
            go_simp
            refine HKK.out _ _ ?_
            clear HKK
            refine wpAny_done (by kernel_rfl) ?_ _
            go_wp2_with fail
            refine ⟨⟨k + 1, q ++ [(x, lv, av, ev)], s3, .slice A' (k + 1) c', _, by congr 1, by omega, by rw [List.length_append, HLEN.out]; rfl, ?_, HPP.out⟩, by simp [intOf]; omega⟩
            rw [List.map_append]
            exact loop_succ HLP.out HLK.out
  have hk4' : k = n := by omega
  have k1 : ¬ (k : Int) < n := by omega
  rw [hk4'] at hloop
  have HR := Lib.hid (HRO.out.trans hloop)
  have c0 := hd.at_.c0
  obtain ⟨tu, htu⟩ : ∃ t, t = sk.tu := ⟨_, rfl⟩
  obtain ⟨ru, hru⟩ : ∃ t, t = sk.ru := ⟨_, rfl⟩
  have c3 : wr.cell? ⟨rb, 3, none⟩ = some (.int .i64 tu) := by rw [htu]; exact hd.at_.c3
  have c6 : wr.cell? ⟨rb, 6, none⟩ = some (.int .i64 ru) := by rw [hru]; exact hd.at_.c6
  have hrows := hd.at_.rows
  obtain ⟨A1, p1, e1⟩ := own_slice hrows.r1
  obtain ⟨A2, p2, e2⟩ := own_slice hrows.r2
  obtain ⟨A3, p3, e3⟩ := own_slice hrows.r3
  obtain ⟨A4, p4, e4⟩ := own_slice hrows.r4
  have d1 : wr.cell? ⟨rb, 1, none⟩ = some (.slice A1 T.length p1) := by rw [← e1]; exact (hrows.cell 1).trans rfl
  have d4 : wr.cell? ⟨rb, 4, none⟩ = some (.slice A3 R.length p3) := by rw [← e3]; exact (hrows.cell 4).trans rfl
  have d2 : wr.cell? ⟨rb, 2, none⟩ = some (.slice A2 T.length p2) := by rw [← e2]; exact (hrows.cell 2).trans rfl
  have d5 : wr.cell? ⟨rb, 5, none⟩ = some (.slice A4 R.length p4) := by rw [← e4]; exact (hrows.cell 5).trans rfl
  have r2 := hrows.r2
  have r4 := hrows.r4
  rw [e2] at r2
  rw [e4] at r4
  have HRW := Lib.hid (And.intro r2 r4)
  have HTU := Lib.hid (And.intro htu hru)
  have hv0 := (blk_cell hd.blW 0).trans (rfl : (#[v] : Array Value)[0]? = some v)
  clear hd hloop hlen hk4' htu hru hrows e1 e2 e3 e4 r2 r4 hv0 hk hk4
  by_cases ht : tu < T.length
  · obtain ⟨x, hx⟩ : ∃ x, T[tu]? = some x := ⟨_, List.getElem?_eq_getElem ht⟩
    have HRES := Lib.hid (dec_texts H12.out.1 H12.out.2 HTA.out HR.out (by rw [← HTU.out.1]; exact hx))
    obtain ⟨g2, eA, _, hc2⟩ := own_elem HRW.out.1 (by rw [atCells, List.length_map]; omega)
    subst eA
    have hcx : wr.cell? ⟨g2, tu, none⟩ = some (.int .i64 x.2) := hc2 tu _ (by rw [atCells, List.getElem?_map, hx]; rfl)
    have b9 : ((tu : Int) < (T.length : Int)) = True := eq_true (by omega)
    have b10 : (tu < T.length) = True := eq_true ht
    clear hx hc2 ht
    go_wp2_with (go_at_call 46; (with_reducible refine (wrong_yes (w0 := w0) x.2 54 HD.out.at_.kept).mono ?_); rintro e w' ⟨q1, f1, rfl, hs⟩; have HS := Lib.hid hs; clear hs)
    exact door_stop HRES.out ⟨q1, f1, rfl, HS.out⟩ HD.out.kw HD.out.bl HD.out.be HLB.out.1 HLB.out.2 HLB0.out HND.out rfl rfl
  have hT0 : T[tu]? = none := List.getElem?_eq_none (by omega)
  have HT0 := Lib.hid hT0
  have b9 : ((tu : Int) < (T.length : Int)) = False := eq_false (by omega)
  have b10 : (tu < T.length) = False := eq_false ht
  clear hT0 ht
  by_cases ht : ru < R.length
  · obtain ⟨x, hx⟩ : ∃ x, R[ru]? = some x := ⟨_, List.getElem?_eq_getElem ht⟩
    have HRES := Lib.hid (dec_traces H12.out.1 H12.out.2 HTA.out HR.out (by rw [← HTU.out.1]; exact HT0.out) (by rw [← HTU.out.2]; exact hx))
    obtain ⟨g2, eA, _, hc2⟩ := own_elem HRW.out.2 (by rw [atCells, List.length_map]; omega)
    subst eA
    have hcx : wr.cell? ⟨g2, ru, none⟩ = some (.int .i64 x.2) := hc2 ru _ (by rw [atCells, List.getElem?_map, hx]; rfl)
    have b11 : ((ru : Int) < (R.length : Int)) = True := eq_true (by omega)
    have b12 : (ru < R.length) = True := eq_true ht
    clear hx hc2 ht
    go_wp2_with (go_at_call 46; (with_reducible refine (wrong_yes (w0 := w0) x.2 54 HD.out.at_.kept).mono ?_); rintro e w' ⟨q1, f1, rfl, hs⟩; have HS := Lib.hid hs; clear hs)
    exact door_stop HRES.out ⟨q1, f1, rfl, HS.out⟩ HD.out.kw HD.out.bl HD.out.be HLB.out.1 HLB.out.2 HLB0.out HND.out rfl rfl
  have hR0 : R[ru]? = none := List.getElem?_eq_none (by omega)
  have HR0 := Lib.hid hR0
  have b11 : ((ru : Int) < (R.length : Int)) = False := eq_false (by omega)
  have b12 : (ru < R.length) = False := eq_false ht
  have hle := HD.out.at_.le
  obtain ⟨vr, hvr⟩ := HD.out.at_.rd
  have HVR := Lib.hid hvr
  clear hR0 ht hvr
  by_cases hn : sk.n < L.length
  · have HRES := Lib.hid (dec_more H12.out.1 H12.out.2 HTA.out HR.out (by rw [← HTU.out.1]; exact HT0.out) (by rw [← HTU.out.2]; exact HR0.out) hn)
    go_wp2_with (first
      | (go_at_call 49; (with_reducible refine (end_rest w0.heap.size r sk.n vr L wr HVR.out hn hl).mono ?_); rintro e wx ⟨f, rfl, hf, hk⟩; have HX := Lib.hid (And.intro hf hk); clear hf hk)
      | (go_at_call 48; (with_reducible refine (stop_err (a := sk.n) (no := 15) (w0 := w0) (HD.out.at_.kept.trans HX.out.2 (fun _ _ e => e) (fun _ _ e => e)) HX.out.1).mono ?_); rintro e w' ⟨q1, f1, rfl, hs⟩; have HS := Lib.hid hs; clear hs))
    exact door_stop HRES.out ⟨q1, f1, rfl, HS.out⟩ HD.out.kw HD.out.bl HD.out.be HLB.out.1 HLB.out.2 HLB0.out HND.out rfl rfl
  have HRES := Lib.hid (dec_all H12.out.1 H12.out.2 HTA.out HR.out (by rw [← HTU.out.1]; exact HT0.out) (by rw [← HTU.out.2]; exact HR0.out) hn)
  have hnl : sk.n = L.length := by omega
  have HVE : Hid (RdAt w0.heap.size wr r vr L L.length) := Lib.hid (by rw [← hnl]; exact HVR.out)
  clear hnl hn hle
  go_upto_region 23 with (first
    | (go_at_call 49; (with_reducible refine (end_none w0.heap.size r vr L wr HVE.out hl).mono ?_); rintro e wx ⟨rfl, hk⟩; have HX := Lib.hid (HD.out.next (HD.out.at_.later hk) (.of_kept hk)); clear hk)
    | (go_at_call 48; (with_reducible refine (stop_nil _).mono ?_); rintro e w' ⟨rfl, hw⟩; subst w'))
  obtain ⟨A0, p0, ev0⟩ := own_slice HX.out.own.row
  subst ev0
  have bl := HX.out.blW
  have be := HX.out.beW
  have y1 : wx.cell? ⟨lb, 0, none⟩ = some (.slice A0 q.length p0) := (blk_cell bl 0).trans rfl
  have y2 : wx.cell? ⟨eb, 0, none⟩ = some .nilIface := (blk_cell be 0).trans rfl
  have z1 := blk_frozen bl 0
  have z2 := blk_frozen be 0
  have n1 : ¬ lb = eb := fun e => n2 e.symm
  have HBB := Lib.hid (And.intro bl be)
  clear bl be c0 c3 c6 d1 d2 d4 d5
  go_wp2_with fail
  obtain ⟨U, hU⟩ : ∃ U, U = wx.setCell ⟨lb, 0, none⟩ (.slice A0 q.length p0) := ⟨_, rfl⟩
  have k3 : Kept (fun k => k = lb) wx U := by rw [hU]; exact .setCell _ _ _ rfl
  have bl3 : U.heap[lb]? = some (.cells #[.slice A0 q.length p0] 25 (0, 0)) := by rw [hU]; exact blk_set HBB.out.1 0 _
  have be3 := blk_kept k3 HBB.out.2 n2
  have so := HX.out.own.other HBB.out.1 k3 (by decide)
  rw [← hU]
  have k4 : Kept (fun k => k = eb) U (U.setCell ⟨eb, 0, none⟩ .nilIface) := .setCell _ _ _ rfl
  have bl4 := blk_kept k4 bl3 n1
  have be4 := blk_set be3 0 .nilIface
  have so4 := so.other be3 k4 (by decide)
  refine door_ret ((blk_cell bl4 0).trans rfl) ((blk_cell be4 0).trans rfl) rfl rfl ?_
  unfold DecPost
  rw [HRES.out]
  have hlb := HLB.out
  exact ⟨_, q, rfl, rfl, so4.low (by have := HW2.out.2.2.2; omega), (((HX.out.kw.trans HX.out.at_.kept (U := fun _ => False) (fun _ _ e => e) (fun _ _ e => e)).trans k3 (U := fun _ => False) (fun _ _ e => e) (fun i hi e => by omega)).trans k4 (fun _ _ e => e) (fun i hi e => by omega))⟩
end
end Go.Proofs.YtlcbgklealipoaaGreatDoor
