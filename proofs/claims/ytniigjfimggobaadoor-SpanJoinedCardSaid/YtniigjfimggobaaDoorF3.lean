/- The chapter's first example, and a span by another one's name (the walks). -/
import Derived.Test.YtniigjfimggobaaDoorD5
import Derived.Test.YtniigjfimggobaaDoorE3
import Derived.Test.YtniigjfimggobaaDoorF1
import Derived.Test.YtniigjfimggobaaDoorF2
import Derived.Test.YtniigjfimggobaaDoorS7
namespace Go.Proofs.YtniigjfimggobaaDoor
open Go.RowKit
set_option linter.unusedVariables false
set_option linter.unusedSimpArgs false

def nilV : Value := .slice none 0 0
def firstS : Spn := ⟨0, 7, 1, 0, [], ⟨#[97]⟩, ⟨#[98]⟩, 0, 0, 5, 9, [], []⟩
def tenS : Spn := ⟨0, 7, 1, 0, [], ⟨#[97]⟩, ⟨#[98]⟩, 0, 0, 5, 10, [], []⟩
def zeroS : Spn := ⟨0, 0, 0, 0, [], ⟨#[]⟩, ⟨#[]⟩, 0, 0, 0, 0, [], []⟩
theorem bare_reads (w : World) (s : Spn) (h1 : s.links = []) (h2 : s.ats = []) (h3 : s.evs = []) : SReads w s (.slice none 0 0) (.slice none 0 0) (.slice none 0 0) := by
  refine ⟨⟨none, 0, by rw [h1]; rfl, fun h => ?_⟩, ⟨none, 0, by rw [h2]; rfl, fun h => ?_⟩, ⟨none, 0, by rw [h3]; rfl, fun h => ?_⟩, by rw [h1]; simp, by rw [h2]; simp, by rw [h3]; simp⟩
  · rw [h1] at h; simp at h
  · rw [h2] at h; simp at h
  · rw [h3] at h; simp at h
theorem bare_sized (s : Spn) (h1 : s.svc.size ≤ 100) (h2 : s.op.size ≤ 100) (h3 : s.ats = []) (h4 : s.evs = []) : Sized s :=
  ⟨by omega, by omega, (fun x hx => by rw [h3] at hx; cases hx), (fun x hx => by rw [h4] at hx; cases hx)⟩
theorem first_check : checkS firstS = 0 := by decide +kernel
theorem ten_check : checkS tenS = 0 := by decide +kernel
theorem zero_check : checkS zeroS = 41 := by decide +kernel
theorem first_ten : spnC firstS tenS = -1 := by decide +kernel
theorem first_join : joinS firstS tenS = tenS := by unfold joinS; rw [first_ten]; rfl
theorem first_joinN : joinN firstS tenS = 0 := by unfold joinN; rw [first_check, ten_check]; rfl
theorem first_fits : Fits firstS := ⟨by decide, by decide, by decide, by decide, (fun x hx => by cases hx), by decide, by decide, by decide, by decide, (fun x hx => by cases hx), (fun x hx => by cases hx)⟩
theorem first_len : (encS firstS).length = 43 := by
  simp only [encS, List.length_append, raw8_len, firstS, txt, List.flatMap_nil, List.length_nil, octs_len, venc_lt (show (0 : Nat) < 128 by decide), venc_lt (show (1 : Nat) < 128 by decide), venc_lt (show (5 : Nat) < 128 by decide), venc_lt (show (9 : Nat) < 128 by decide), List.length_singleton,
    show (0 : Int).toNat = 0 from rfl, show (5 : Int).toNat = 5 from rfl, show (9 : Int).toNat = 9 from rfl, show (ByteArray.mk #[97]).size = 1 from rfl, show (ByteArray.mk #[98]).size = 1 from rfl]
theorem first_any (w : World) : Calls Tryd.prog 17 #[] w fun e w' => e = .returned (.agg #[.int .u64 0, .int .u64 7, .int .u64 1, .int .u64 0, .slice none 0 0, .string ⟨#[97]⟩, .string ⟨#[98]⟩, .int .i64 0, .int .i64 0, .int .i64 5, .int .i64 9, .slice none 0 0, .slice none 0 0]) ∧ Kept (fun _ => False) w w' := by
  go_enter Tryd.func17, Tryd.ntmps17
  go_wp2_with fail
  exact ret33 rfl w.heap.size _ rfl rfl (heap_alloc_new w _) rfl ⟨rfl, .alloc _ _ _⟩
set_option maxHeartbeats 4000000 in
theorem named_any (s b : Spn) (lA aA eA lB aB eB : Option Addr) (ln lc an ac en ec lm ld am ad em ed : Nat) (w : World) : Calls Tryd.prog 9 #[.agg (s.cells (.slice lA ln lc) (.slice aA an ac) (.slice eA en ec)), .agg (b.cells (.slice lB lm ld) (.slice aB am ad) (.slice eB em ed))] w fun e w' =>
    e = .returned (.agg ({ s with hi := b.hi, lo := b.lo, id := b.id : Spn }.cells (.slice lA ln lc) (.slice aA an ac) (.slice eA en ec))) ∧ Kept (fun _ => False) w w' := by
  obtain ⟨hk, ha, hb, hc⟩ := box3 w (.cells (s.cells (.slice lA ln lc) (.slice aA an ac) (.slice eA en ec)) 33) (.cells (b.cells (.slice lB lm ld) (.slice aB am ad) (.slice eB em ed)) 33) (.cells zcells 33)
  obtain ⟨X, hX⟩ : ∃ X, X = s.cells (.slice lA ln lc) (.slice aA an ac) (.slice eA en ec) := ⟨_, rfl⟩
  obtain ⟨Y, hY⟩ : ∃ Y, Y = b.cells (.slice lB lm ld) (.slice aB am ad) (.slice eB em ed) := ⟨_, rfl⟩
  obtain ⟨W, hW⟩ : ∃ W, W = ((w.alloc (.cells X 33)).alloc (.cells Y 33)).alloc (.cells zcells 33) := ⟨_, rfl⟩
  rw [← hX, ← hY, ← hW] at hk ha hb hc
  rw [hX] at ha
  rw [hY] at hb
  have HW := Lib.hid (show ((w.alloc (.cells X 33)).alloc (.cells Y 33)).alloc (.cells #[.int .u64 0, .int .u64 0, .int .u64 0, .int .u64 0, .slice none 0 0, .string ⟨#[]⟩, .string ⟨#[]⟩, .int .i64 0, .int .i64 0, .int .i64 0, .int .i64 0, .slice none 0 0, .slice none 0 0] 33) = W from hW.symm)
  rw [← hX, ← hY]
  have b0 : W.cell? ⟨w.heap.size + 1, 0, none⟩ = some (.int .u64 b.hi) := (blk_cell hb 0).trans rfl
  have b1 : W.cell? ⟨w.heap.size + 1, 1, none⟩ = some (.int .u64 b.lo) := (blk_cell hb 1).trans rfl
  have b2 : W.cell? ⟨w.heap.size + 1, 2, none⟩ = some (.int .u64 b.id) := (blk_cell hb 2).trans rfl
  have a0 : W.cell? ⟨w.heap.size, 0, none⟩ = some (.int .u64 s.hi) := (blk_cell ha 0).trans rfl
  have a1 : W.cell? ⟨w.heap.size, 1, none⟩ = some (.int .u64 s.lo) := (blk_cell ha 1).trans rfl
  have a2 : W.cell? ⟨w.heap.size, 2, none⟩ = some (.int .u64 s.id) := (blk_cell ha 2).trans rfl
  have g0 := blk_frozen ha 0
  have g1 := blk_frozen ha 1
  have g2 := blk_frozen ha 2
  have HB := Lib.hid (And.intro hk (And.intro ha hc))
  clear hk ha hb hc hX hY hW
  go_enter Tryd.func9, Tryd.ntmps9
  go_upto_region 1 with fail
  rw [HW.out]
  go_upto_region 3 with fail
  obtain ⟨V, hV⟩ : ∃ V, V = ((W.setCell ⟨w.heap.size, 0, none⟩ (.int .u64 b.hi)).setCell ⟨w.heap.size, 1, none⟩ (.int .u64 b.lo)).setCell ⟨w.heap.size, 2, none⟩ (.int .u64 b.id) := ⟨_, rfl⟩
  rw [← hV]
  have ha2 : V.heap[w.heap.size]? = some (.cells ({ s with hi := b.hi, lo := b.lo, id := b.id : Spn }.cells (.slice lA ln lc) (.slice aA an ac) (.slice eA en ec)) 33 (0, 0)) := by
    rw [hV]; exact (blk_set (blk_set (blk_set HB.out.2.1 0 _) 1 _) 2 _).trans rfl
  have hkV : Kept (fun k => k = w.heap.size) W V := by
    rw [hV]
    exact ((Kept.setCell (S := fun k => k = w.heap.size) _ _ _ rfl).trans (Kept.setCell (S := fun k => k = w.heap.size) _ _ _ rfl) (fun _ _ e => e) (fun _ _ e => e)).trans (Kept.setCell (S := fun k => k = w.heap.size) _ _ _ rfl) (fun _ _ e => e) (fun _ _ e => e)
  have hr2 := blk_kept hkV HB.out.2.2 (show ¬ w.heap.size + 2 = w.heap.size by omega)
  have HA := Lib.hid (And.intro ha2 hr2)
  have HK := Lib.hid (HB.out.1.trans hkV (U := fun _ => False) (fun _ _ e => e) (fun i hi e => by omega))
  have hone : ({ s with hi := b.hi, lo := b.lo, id := b.id : Spn }.cells (.slice lA ln lc) (.slice aA an ac) (.slice eA en ec)).all (·.oneCell') = true := by simp [Spn.cells, Value.oneCell']
  clear hV ha2 hkV hr2
  go_wp2_with (first | (refine wpList_load33 rfl _ rfl w.heap.size ({ s with hi := b.hi, lo := b.lo, id := b.id : Spn }.cells (.slice lA ln lc) (.slice aA an ac) (.slice eA en ec)) rfl HA.out.1 rfl ?_) | (refine wpList_store33 rfl _ _ rfl (w.heap.size + 2) zcells ({ s with hi := b.hi, lo := b.lo, id := b.id : Spn }.cells (.slice lA ln lc) (.slice aA an ac) (.slice eA en ec)) rfl rfl HA.out.2 rfl rfl hone ?_; intro w2 hb2 hk2; have HV := Lib.hid (And.intro hb2 hk2); clear hb2 hk2))
  exact ret33 rfl (w.heap.size + 2) _ rfl rfl HV.out.1 rfl ⟨rfl, HK.out.trans HV.out.2 (fun _ _ e => e) (fun i hi e => by omega)⟩

theorem slices_of {w : World} {s : Spn} {lv av ev : Value} (h : SReads w s lv av ev) : ∃ A1 c1 A2 c2 A3 c3, lv = .slice A1 s.links.length c1 ∧ av = .slice A2 s.ats.length c2 ∧ ev = .slice A3 s.evs.length c3 := by
  obtain ⟨⟨A1, c1, rfl, -⟩, ⟨A2, c2, rfl, -⟩, ⟨A3, c3, rfl, -⟩, -, -, -⟩ := h
  exact ⟨A1, c1, A2, c2, A3, c3, rfl, rfl, rfl⟩
theorem cells_one (s : Spn) (A1 A2 A3 : Option Addr) (n1 n2 n3 c1 c2 c3 : Nat) : (s.cells (.slice A1 n1 c1) (.slice A2 n2 c2) (.slice A3 n3 c3)).all (·.oneCell') = true := by simp [Spn.cells, Value.oneCell']
def EncFirst (w : World) (e : Ending) (w' : World) : Prop := ∃ g c, e = .returned (.tuple #[.slice (some ⟨g, 0, none⟩) 43 c, .int .i64 0]) ∧ Reads w' (.slice (some ⟨g, 0, none⟩) 43 c) (encS firstS) ∧ Kept (fun _ => False) w w'
theorem enc_first (w : World) (hU : Lib.Utf8Tabs 0 1 w) : Calls Tryd.prog 14 #[.agg (firstS.cells (.slice none 0 0) (.slice none 0 0) (.slice none 0 0))] w (EncFirst w) := by
  refine (encode_any firstS _ _ _ w (bare_reads w firstS rfl rfl rfl) first_fits (bare_sized firstS (by decide) (by decide) rfl rfl) hU).mono fun e w' hp => ?_
  unfold EncodePost at hp
  rw [if_pos first_check] at hp
  obtain ⟨v, rfl, hl, hk⟩ := hp
  have hr := hl.reads
  rcases hl with ⟨h0, _⟩ | ⟨g, c, cur, rfl, _⟩
  · have := first_len; rw [h0] at this; simp at this
  · rw [first_len] at hr ⊢
    exact ⟨g, c, rfl, hr, hk⟩
def SpanPost (s : Spn) (r : Value) (w : World) (e : Ending) (w' : World) : Prop := ∃ A1 c1 A2 c2 A3 c3, e = .returned (.tuple #[.agg (s.cells (.slice A1 s.links.length c1) (.slice A2 s.ats.length c2) (.slice A3 s.evs.length c3)), r]) ∧ Kept (fun _ => False) w w'
theorem dec_first (v : Value) (w : World) (hr : Reads w v (encS firstS)) (hU : Lib.Utf8Tabs 0 1 w) : Calls Tryd.prog 15 #[v] w (SpanPost firstS .nilIface w) := by
  have hb : Bytes (encS firstS) := by
    have h := first_len
    intro x hx
    have e : encS firstS = [0, 0, 0, 0, 0, 0, 0, 0, 0, 0, 0, 0, 0, 0, 0, 7, 0, 0, 0, 0, 0, 0, 0, 1, 0, 0, 0, 0, 0, 0, 0, 0, 0, 1, 97, 1, 98, 0, 0, 5, 9, 0, 0] := by
      simp only [encS, raw8_eq, firstS, txt, octs, List.flatMap_nil, List.length_nil, venc_lt (show (0 : Nat) < 128 by decide), venc_lt (show (1 : Nat) < 128 by decide), venc_lt (show (5 : Nat) < 128 by decide), venc_lt (show (9 : Nat) < 128 by decide),
        show (0 : Int).toNat = 0 from rfl, show (5 : Int).toNat = 5 from rfl, show (9 : Int).toNat = 9 from rfl, show (ByteArray.mk #[97]).size = 1 from rfl, show (ByteArray.mk #[98]).size = 1 from rfl]
      decide +kernel
    rw [e] at hx
    simp only [List.mem_cons, List.not_mem_nil, or_false] at hx
    omega
  refine (decode_any v (encS firstS) w hr (by rw [first_len]; omega) hb hU).mono fun e w' hp => ?_
  unfold DecPost at hp
  rw [dec_back first_check first_fits] at hp
  obtain ⟨lv, av, ev, rfl, hs, hk⟩ := hp
  obtain ⟨A1, c1, A2, c2, A3, c3, rfl, rfl, rfl⟩ := slices_of hs
  exact ⟨A1, c1, A2, c2, A3, c3, rfl, hk⟩
theorem join_first (w : World) (hU : Lib.Utf8Tabs 0 1 w) : Calls Tryd.prog 11 #[.agg (firstS.cells (.slice none 0 0) (.slice none 0 0) (.slice none 0 0)), .agg (tenS.cells (.slice none 0 0) (.slice none 0 0) (.slice none 0 0))] w (SpanPost tenS (.int .i64 0) w) := by
  refine (join_any firstS tenS _ _ _ _ _ _ w (bare_reads w firstS rfl rfl rfl) (bare_reads w tenS rfl rfl rfl) (bare_sized firstS (by decide) (by decide) rfl rfl) (bare_sized tenS (by decide) (by decide) rfl rfl) hU).mono fun e w' hp => ?_
  obtain ⟨hp, hk⟩ := hp
  rw [if_pos first_joinN, first_join] at hp
  obtain ⟨lv, av, ev, rfl, hs⟩ := hp
  obtain ⟨A1, c1, A2, c2, A3, c3, rfl, rfl, rfl⟩ := slices_of hs
  exact ⟨A1, c1, A2, c2, A3, c3, rfl, hk⟩
theorem check_first (w : World) (hU : Lib.Utf8Tabs 0 1 w) : Calls Tryd.prog 10 #[.agg (firstS.cells (.slice none 0 0) (.slice none 0 0) (.slice none 0 0))] w (IntPost 0 w) := by
  have h := check_any firstS _ _ _ w (bare_reads w firstS rfl rfl rfl) (bare_sized firstS (by decide) (by decide) rfl rfl) hU
  rw [first_check] at h
  exact h
theorem check_zero (w : World) (hU : Lib.Utf8Tabs 0 1 w) : Calls Tryd.prog 10 #[.agg #[.int .u64 0, .int .u64 0, .int .u64 0, .int .u64 0, .slice none 0 0, .string ⟨#[]⟩, .string ⟨#[]⟩, .int .i64 0, .int .i64 0, .int .i64 0, .int .i64 0, .slice none 0 0, .slice none 0 0]] w (IntPost 41 w) := by
  have h := check_any zeroS _ _ _ w (bare_reads w zeroS rfl rfl rfl) (bare_sized zeroS (by decide) (by decide) rfl rfl) hU
  rw [zero_check] at h
  exact h
theorem compare_first (w : World) : Calls Tryd.prog 13 #[.agg (firstS.cells (.slice none 0 0) (.slice none 0 0) (.slice none 0 0)), .agg (tenS.cells (.slice none 0 0) (.slice none 0 0) (.slice none 0 0))] w (IntPost (-1) w) := by
  have h := compare_any firstS tenS _ _ _ _ _ _ w (bare_reads w firstS rfl rfl rfl) (bare_reads w tenS rfl rfl rfl)
  rw [first_ten] at h
  exact h
def TruePost (w : World) (e : Ending) (w' : World) : Prop := e = .returned (.bool true) ∧ Kept (fun _ => False) w w'
set_option maxHeartbeats 16000000 in
set_option maxRecDepth 100000 in
theorem awake_any (w : World) (hU : Lib.Utf8Tabs 0 1 w) : Calls Tryd.prog 8 #[] w (TruePost w) := by
  have HU := Lib.hid hU
  clear hU
  have FC := Lib.hid (And.intro first_check (And.intro ten_check (And.intro zero_check (And.intro first_ten (And.intro first_join first_joinN)))))
  go_enter Tryd.func8, Tryd.ntmps8
  go_upto_region 2 with (go_at_call 17; (with_reducible refine (first_any _).mono ?_); rintro e w1 ⟨rfl, hk1⟩; have HK1 := Lib.hid hk1; clear hk1)
  go_upto_region 4 with (go_at_call 17; (with_reducible refine (first_any _).mono ?_); rintro e w2 ⟨rfl, hk2⟩; have HK2 := Lib.hid hk2; clear hk2)
  obtain ⟨a, ha⟩ : ∃ a, a = w1.heap.size := ⟨_, rfl⟩
  obtain ⟨b, hb⟩ : ∃ b, b = w2.heap.size := ⟨_, rfl⟩
  obtain ⟨V, hV⟩ : ∃ V, V = w2.alloc (.cells #[.int .u64 0, .int .u64 7, .int .u64 1, .int .u64 0, .slice none 0 0, .string ⟨#[97]⟩, .string ⟨#[98]⟩, .int .i64 0, .int .i64 0, .int .i64 5, .int .i64 10, .slice none 0 0, .slice none 0 0] 33) := ⟨_, rfl⟩
  rw [← hV, ← ha, ← hb]
  have hkV : Kept (fun _ => False) w V := ((HK1.out.trans (Kept.alloc (fun _ => False) w1 _) (U := fun _ => False) (fun _ _ e => e) (fun _ _ e => e)).trans HK2.out (U := fun _ => False) (fun _ _ e => e) (fun _ _ e => e)).trans (by rw [hV]; exact Kept.alloc (fun _ => False) w2 _) (fun _ _ e => e) (fun _ _ e => e)
  have hA : V.heap[a]? = some (.cells (firstS.cells (.slice none 0 0) (.slice none 0 0) (.slice none 0 0)) 33 (0, 0)) := by rw [hV, ha]; exact blk_kept (Kept.alloc (fun _ => False) w2 _) (blk_kept HK2.out (heap_alloc_new w1 _) (fun h => h)) (fun h => h)
  have hB : V.heap[b]? = some (.cells (tenS.cells (.slice none 0 0) (.slice none 0 0) (.slice none 0 0)) 33 (0, 0)) := by rw [hV, hb]; exact heap_alloc_new w2 _
  have HA := Lib.hid (And.intro hkV (And.intro hA hB))
  have HE := Lib.hid (enc_first V (Utf8Tabs.kept HU.out hkV (fun h => h) (fun h => h)))
  clear hV ha hb hkV hA hB HK1 HK2 FC
  have H33 := zcells_one
  go_upto_region 5 with (first | (refine wpList_load33 rfl _ rfl a (firstS.cells (.slice none 0 0) (.slice none 0 0) (.slice none 0 0)) rfl HA.out.2.1 rfl ?_) | (go_at_call 14; (with_reducible refine HE.out.mono ?_); rintro e w3 ⟨g, c, rfl, hr3, hk3⟩; have HR3 := Lib.hid (And.intro hr3 hk3); clear hr3 hk3))
  have hk3 := HA.out.1.trans HR3.out.2 (U := fun _ => False) (fun _ _ e => e) (fun _ _ e => e)
  have HD := Lib.hid (dec_first _ w3 HR3.out.1 (Utf8Tabs.kept HU.out hk3 (fun h => h) (fun h => h)))
  have HA3 := Lib.hid (And.intro hk3 (And.intro (blk_kept HR3.out.2 HA.out.2.1 (fun h => h)) (blk_kept HR3.out.2 HA.out.2.2 (fun h => h))))
  clear hk3 HE HA
  go_upto_region 6 with (first | (go_at_call 15; (with_reducible refine HD.out.mono ?_); rintro e w4 ⟨A1, c1, A2, c2, A3, c3, rfl, hk4⟩; have HK4 := Lib.hid hk4; have HN4 := Lib.hid (heap_alloc_new w4 (.cells zcells 33)); clear hk4) | (refine wpList_store33 rfl _ _ rfl w4.heap.size zcells (firstS.cells (.slice A1 firstS.links.length c1) (.slice A2 firstS.ats.length c2) (.slice A3 firstS.evs.length c3)) rfl rfl HN4.out rfl rfl (cells_one _ _ _ _ _ _ _ _ _ _) ?_; intro w5 hb5 hk5; have HV5 := Lib.hid (And.intro hb5 hk5); clear hb5 hk5))
  obtain ⟨xb, hxb⟩ : ∃ x, x = w4.heap.size := ⟨_, rfl⟩
  have hx5 := HV5.out.1
  rw [← hxb] at hx5 ⊢
  have hk45 : Kept (fun _ => False) w3 w5 := (HK4.out.trans (Kept.alloc (fun _ => False) w4 _) (U := fun _ => False) (fun _ _ e => e) (fun _ _ e => e)).trans HV5.out.2 (fun _ _ e => e) (fun i hi e => by have := HK4.out.size; omega)
  have hkw5 := HA3.out.1.trans hk45 (U := fun _ => False) (fun _ _ e => e) (fun _ _ e => e)
  have HA5 := Lib.hid (And.intro hkw5 (And.intro (blk_kept hk45 HA3.out.2.1 (fun h => h)) (And.intro (blk_kept hk45 HA3.out.2.2 (fun h => h)) hx5)))
  have HJ := Lib.hid (join_first w5 (Utf8Tabs.kept HU.out hkw5 (fun h => h) (fun h => h)))
  clear hx5 hk45 hkw5 HV5 HN4 HK4 HD HA3 HR3 hxb
  go_upto_region 7 with (first | (refine wpList_load33 rfl _ rfl a (firstS.cells (.slice none 0 0) (.slice none 0 0) (.slice none 0 0)) rfl HA5.out.2.1 rfl ?_) | (refine wpList_load33 rfl _ rfl b (tenS.cells (.slice none 0 0) (.slice none 0 0) (.slice none 0 0)) rfl HA5.out.2.2.1 rfl ?_) | (go_at_call 11; (with_reducible refine HJ.out.mono ?_); rintro e w6 ⟨A4, c4, A5, c5, A6, c6, rfl, hk6⟩; have HK6 := Lib.hid hk6; have HN6 := Lib.hid (heap_alloc_new w6 (.cells zcells 33)); clear hk6) | (refine wpList_store33 rfl _ _ rfl w6.heap.size zcells (tenS.cells (.slice A4 tenS.links.length c4) (.slice A5 tenS.ats.length c5) (.slice A6 tenS.evs.length c6)) rfl rfl HN6.out rfl rfl (cells_one _ _ _ _ _ _ _ _ _ _) ?_; intro w7 hb7 hk7; have HV7 := Lib.hid (And.intro hb7 hk7); clear hb7 hk7))
  obtain ⟨yb, hyb⟩ : ∃ x, x = w6.heap.size := ⟨_, rfl⟩
  have hy7 := HV7.out.1
  rw [← hyb] at hy7 ⊢
  have hk67 : Kept (fun _ => False) w5 w7 := (HK6.out.trans (Kept.alloc (fun _ => False) w6 _) (U := fun _ => False) (fun _ _ e => e) (fun _ _ e => e)).trans HV7.out.2 (fun _ _ e => e) (fun i hi e => by have := HK6.out.size; omega)
  have hkw7 := HA5.out.1.trans hk67 (U := fun _ => False) (fun _ _ e => e) (fun _ _ e => e)
  have HA7 := Lib.hid (And.intro hkw7 (And.intro (blk_kept hk67 HA5.out.2.1 (fun h => h)) (And.intro (blk_kept hk67 HA5.out.2.2.1 (fun h => h)) (And.intro (blk_kept hk67 HA5.out.2.2.2 (fun h => h)) hy7))))
  have H1 := Lib.hid (check_first w7 (Utf8Tabs.kept HU.out hkw7 (fun h => h) (fun h => h)))
  clear hy7 hk67 hkw7 HV7 HN6 HK6 HJ HA5 hyb
  go_wp2_with (first | (refine wpList_load33 rfl _ rfl a (firstS.cells (.slice none 0 0) (.slice none 0 0) (.slice none 0 0)) rfl HA7.out.2.1 rfl ?_) | (refine wpList_load33 rfl _ rfl a (firstS.cells (.slice none 0 0) (.slice none 0 0) (.slice none 0 0)) rfl HA9.out.2.1 rfl ?_) | (refine wpList_load33 rfl _ rfl b (tenS.cells (.slice none 0 0) (.slice none 0 0) (.slice none 0 0)) rfl HA9.out.2.2.1 rfl ?_) | (go_at_call 10; (with_reducible refine H1.out.mono ?_); rintro e w8 ⟨rfl, hk8⟩; have hkw8 := HA7.out.1.trans hk8 (U := fun _ => False) (fun _ _ e => e) (fun _ _ e => e); have H2 := Lib.hid (check_zero w8 (Utf8Tabs.kept HU.out hkw8 (fun h => h) (fun h => h))); have HA8 := Lib.hid (And.intro hkw8 hk8); clear hk8 hkw8) | (go_at_call 10; (with_reducible refine H2.out.mono ?_); rintro e w9 ⟨rfl, hk9⟩; have hkw9 := HA8.out.1.trans hk9 (U := fun _ => False) (fun _ _ e => e) (fun _ _ e => e); have hk79 := HA8.out.2.trans hk9 (U := fun _ => False) (fun _ _ e => e) (fun _ _ e => e); have HA9 := Lib.hid (And.intro hkw9 (And.intro (blk_kept hk79 HA7.out.2.1 (fun h => h)) (And.intro (blk_kept hk79 HA7.out.2.2.1 (fun h => h)) (And.intro (blk_kept hk79 HA7.out.2.2.2.1 (fun h => h)) (blk_kept hk79 HA7.out.2.2.2.2 (fun h => h)))))); have H3 := Lib.hid (show Calls Tryd.prog 13 #[.agg #[.int .u64 0, .int .u64 7, .int .u64 1, .int .u64 0, .slice none 0 0, .string ⟨#[97]⟩, .string ⟨#[98]⟩, .int .i64 0, .int .i64 0, .int .i64 5, .int .i64 9, .slice none 0 0, .slice none 0 0], .agg #[.int .u64 0, .int .u64 7, .int .u64 1, .int .u64 0, .slice none 0 0, .string ⟨#[97]⟩, .string ⟨#[98]⟩, .int .i64 0, .int .i64 0, .int .i64 5, .int .i64 10, .slice none 0 0, .slice none 0 0]] w9 (IntPost (-1) w9) from compare_first w9); have p0 : w9.cell? ⟨a, 0, none⟩ = some (.int .u64 0) := (blk_cell HA9.out.2.1 0).trans rfl; have p1 : w9.cell? ⟨a, 1, none⟩ = some (.int .u64 7) := (blk_cell HA9.out.2.1 1).trans rfl; have p2 : w9.cell? ⟨a, 2, none⟩ = some (.int .u64 1) := (blk_cell HA9.out.2.1 2).trans rfl; have p3 : w9.cell? ⟨a, 3, none⟩ = some (.int .u64 0) := (blk_cell HA9.out.2.1 3).trans rfl; have p4 : w9.cell? ⟨a, 4, none⟩ = some (.slice none 0 0) := (blk_cell HA9.out.2.1 4).trans rfl; have p5 : w9.cell? ⟨a, 5, none⟩ = some (.string ⟨#[97]⟩) := (blk_cell HA9.out.2.1 5).trans rfl; have p6 : w9.cell? ⟨a, 6, none⟩ = some (.string ⟨#[98]⟩) := (blk_cell HA9.out.2.1 6).trans rfl; have p7 : w9.cell? ⟨a, 7, none⟩ = some (.int .i64 0) := (blk_cell HA9.out.2.1 7).trans rfl; have p8 : w9.cell? ⟨a, 8, none⟩ = some (.int .i64 0) := (blk_cell HA9.out.2.1 8).trans rfl; have p9 : w9.cell? ⟨a, 9, none⟩ = some (.int .i64 5) := (blk_cell HA9.out.2.1 9).trans rfl; have p10 : w9.cell? ⟨a, 10, none⟩ = some (.int .i64 9) := (blk_cell HA9.out.2.1 10).trans rfl; have p11 : w9.cell? ⟨a, 11, none⟩ = some (.slice none 0 0) := (blk_cell HA9.out.2.1 11).trans rfl; have p12 : w9.cell? ⟨a, 12, none⟩ = some (.slice none 0 0) := (blk_cell HA9.out.2.1 12).trans rfl; have q0 : w9.cell? ⟨b, 0, none⟩ = some (.int .u64 0) := (blk_cell HA9.out.2.2.1 0).trans rfl; have q1 : w9.cell? ⟨b, 1, none⟩ = some (.int .u64 7) := (blk_cell HA9.out.2.2.1 1).trans rfl; have q2 : w9.cell? ⟨b, 2, none⟩ = some (.int .u64 1) := (blk_cell HA9.out.2.2.1 2).trans rfl; have q3 : w9.cell? ⟨b, 3, none⟩ = some (.int .u64 0) := (blk_cell HA9.out.2.2.1 3).trans rfl; have q4 : w9.cell? ⟨b, 4, none⟩ = some (.slice none 0 0) := (blk_cell HA9.out.2.2.1 4).trans rfl; have q5 : w9.cell? ⟨b, 5, none⟩ = some (.string ⟨#[97]⟩) := (blk_cell HA9.out.2.2.1 5).trans rfl; have q6 : w9.cell? ⟨b, 6, none⟩ = some (.string ⟨#[98]⟩) := (blk_cell HA9.out.2.2.1 6).trans rfl; have q7 : w9.cell? ⟨b, 7, none⟩ = some (.int .i64 0) := (blk_cell HA9.out.2.2.1 7).trans rfl; have q8 : w9.cell? ⟨b, 8, none⟩ = some (.int .i64 0) := (blk_cell HA9.out.2.2.1 8).trans rfl; have q9 : w9.cell? ⟨b, 9, none⟩ = some (.int .i64 5) := (blk_cell HA9.out.2.2.1 9).trans rfl; have q10 : w9.cell? ⟨b, 10, none⟩ = some (.int .i64 10) := (blk_cell HA9.out.2.2.1 10).trans rfl; have q11 : w9.cell? ⟨b, 11, none⟩ = some (.slice none 0 0) := (blk_cell HA9.out.2.2.1 11).trans rfl; have q12 : w9.cell? ⟨b, 12, none⟩ = some (.slice none 0 0) := (blk_cell HA9.out.2.2.1 12).trans rfl; clear hk9 hkw9 hk79) | (go_at_call 13; (with_reducible refine H3.out.mono ?_); rintro e w10 ⟨rfl, hk10⟩; clear p0 q0 p1 q1 p2 q2 p3 q3 p4 q4 p5 q5 p6 q6 p7 q7 p8 q8 p9 q9 p10 q10 p11 q11 p12 q12; have x9 : w10.cell? ⟨xb, 10, none⟩ = some (.int .i64 9) := (blk_cell (blk_kept hk10 HA9.out.2.2.2.1 (fun h => h)) 10).trans rfl; have x5 : w10.cell? ⟨xb, 6, none⟩ = some (.string ⟨#[98]⟩) := (blk_cell (blk_kept hk10 HA9.out.2.2.2.1 (fun h => h)) 6).trans rfl; have y9 : w10.cell? ⟨yb, 10, none⟩ = some (.int .i64 10) := (blk_cell (blk_kept hk10 HA9.out.2.2.2.2 (fun h => h)) 10).trans rfl; have HK10 := Lib.hid (HA9.out.1.trans hk10 (U := fun _ => False) (fun _ _ e => e) (fun _ _ e => e)); clear hk10))
  go_ret
  exact ⟨rfl, HK10.out⟩
end Go.Proofs.YtniigjfimggobaaDoor
