/- SpanBack: what is encoded is decoded (the walk). -/
import Derived.Test.YtniigjfimggobaaDoorF3
import Derived.Test.YtniigjfimggobaaDoorN0
namespace Go.Proofs.YtniigjfimggobaaDoor
open Go.RowKit
set_option linter.unusedVariables false
set_option linter.unusedSimpArgs false

/-- What Encode answers of a span that may be, with its length. -/
def EncOk (s : Spn) (n : Nat) (w : World) (e : Ending) (w' : World) : Prop := ∃ g c, e = .returned (.tuple #[.slice (some ⟨g, 0, none⟩) n c, .int .i64 0]) ∧ Lies 5 w.heap.size w' (.slice (some ⟨g, 0, none⟩) n c) (encS s) ∧ Kept (fun _ => False) w w'
theorem enc_ok (s : Spn) (lv av ev : Value) (w : World) (hs : SReads w s lv av ev) (hr : Fits s) (hz : Sized s) (hU : Lib.Utf8Tabs 0 1 w) (hc : checkS s = 0) (n : Nat) (hn : (encS s).length = n) (h0 : 0 < n) : Calls Tryd.prog 14 #[.agg (s.cells lv av ev)] w (EncOk s n w) := by
  refine (encode_any s _ _ _ w hs hr hz hU).mono fun e w' hp => ?_
  unfold EncodePost at hp
  rw [if_pos hc] at hp
  obtain ⟨v, rfl, hl, hk⟩ := hp
  have hl2 := hl
  rcases hl with ⟨h0', _⟩ | ⟨g, c, cur, rfl, _⟩
  · rw [h0'] at hn; simp at hn; omega
  · rw [hn] at hl2 ⊢
    exact ⟨g, c, rfl, hl2, hk⟩
def EncNo (s : Spn) (w : World) (e : Ending) (w' : World) : Prop := e = .returned (.tuple #[.slice none 0 0, .int .i64 (checkS s)]) ∧ Kept (fun _ => False) w w'
theorem enc_no (s : Spn) (lv av ev : Value) (w : World) (hs : SReads w s lv av ev) (hr : Fits s) (hz : Sized s) (hU : Lib.Utf8Tabs 0 1 w) (hc : ¬ checkS s = 0) : Calls Tryd.prog 14 #[.agg (s.cells lv av ev)] w (EncNo s w) := by
  refine (encode_any s _ _ _ w hs hr hz hU).mono fun e w' hp => ?_
  unfold EncodePost at hp
  rw [if_neg hc] at hp
  exact hp
def DecOk (s : Spn) (w : World) (e : Ending) (w' : World) : Prop := ∃ A1 c1 A2 c2 A3 c3, e = .returned (.tuple #[.agg (s.cells (.slice A1 s.links.length c1) (.slice A2 s.ats.length c2) (.slice A3 s.evs.length c3)), .nilIface]) ∧ SReads w' s (.slice A1 s.links.length c1) (.slice A2 s.ats.length c2) (.slice A3 s.evs.length c3) ∧ Kept (fun _ => False) w w'
theorem dec_ok (s : Spn) (L : List Int) (v : Value) (w : World) (hr : Reads w v L) (hl : L.length ≤ 140737488355328) (hb : Bytes L) (hU : Lib.Utf8Tabs 0 1 w) (hd : decS L = .ok s) : Calls Tryd.prog 15 #[v] w (DecOk s w) := by
  refine (decode_any v L w hr hl hb hU).mono fun e w' hp => ?_
  unfold DecPost at hp
  rw [hd] at hp
  obtain ⟨lv, av, ev, rfl, hs, hk⟩ := hp
  obtain ⟨A1, c1, A2, c2, A3, c3, rfl, rfl, rfl⟩ := slices_of hs
  exact ⟨A1, c1, A2, c2, A3, c3, rfl, hs, hk⟩
set_option maxHeartbeats 16000000 in
set_option maxRecDepth 100000 in
theorem spanBack_any (s : Spn) (lv av ev : Value) (w : World) (hs : SReads w s lv av ev) (hz : Sized s) (hr : Fits s) (hU : Lib.Utf8Tabs 0 1 w) : Calls Tryd.prog 5 #[.agg (s.cells lv av ev)] w (TruePost w) := by
  have HS := Lib.hid (And.intro hs (And.intro hz hr))
  obtain ⟨sA, sc, aA, ac, eA, ec, rfl, rfl, rfl⟩ := slices_of hs
  clear hs hz hr
  obtain ⟨X, hX⟩ : ∃ X, X = s.cells (.slice sA s.links.length sc) (.slice aA s.ats.length ac) (.slice eA s.evs.length ec) := ⟨_, rfl⟩
  obtain ⟨W, hW⟩ : ∃ W, W = w.alloc (.cells X 33) := ⟨_, rfl⟩
  have hk : Kept (fun _ => False) w W := by rw [hW]; exact .alloc _ _ _
  have ha : W.heap[w.heap.size]? = some (.cells (s.cells (.slice sA s.links.length sc) (.slice aA s.ats.length ac) (.slice eA s.evs.length ec)) 33 (0, 0)) := by rw [hW, hX]; exact heap_alloc_new w _
  have HAW := Lib.hid (awake_any W (Utf8Tabs.kept hU hk (fun h => h) (fun h => h)))
  have HB := Lib.hid (And.intro hk ha)
  have HU := Lib.hid hU
  have HW := Lib.hid hW.symm
  rw [← hX]
  have cCheck : ∀ V, Kept (fun _ => False) w V → Calls Tryd.prog 10 #[.agg #[.int .u64 s.hi, .int .u64 s.lo, .int .u64 s.id, .int .u64 s.par, .slice sA s.links.length sc, .string s.svc, .string s.op, .int .i64 s.kind, .int .i64 s.st, .int .i64 s.start, .int .i64 s.fin, .slice aA s.ats.length ac, .slice eA s.evs.length ec]] V (IntPost (checkS s) V) := fun V hk => check_any s _ _ _ V (HS.out.1.kept hk) HS.out.2.1 (Utf8Tabs.kept HU.out hk (fun h => h) (fun h => h))
  obtain ⟨cz, hcz⟩ : ∃ c, c = checkS s := ⟨_, rfl⟩
  rw [← hcz] at cCheck
  have HC := Lib.hid cCheck
  have HCZ := Lib.hid hcz
  clear hX hW hk ha hU cCheck hcz
  by_cases hc : cz = 0
  case neg =>
    have HE : Hid (∀ V, Kept (fun _ => False) w V → Calls Tryd.prog 14 #[.agg (s.cells (.slice sA s.links.length sc) (.slice aA s.ats.length ac) (.slice eA s.evs.length ec))] V (EncNo s V)) := Lib.hid fun V hk => enc_no s _ _ _ V (HS.out.1.kept hk) HS.out.2.2 HS.out.2.1 (Utf8Tabs.kept HU.out hk (fun h => h) (fun h => h)) (by rw [← HCZ.out]; exact hc)
    have f1 : (cz == 0) = false := by simpa using hc
    have f2 : (cz != 0) = true := by simp only [bne, f1, Bool.not_false]
    have HC2 := Lib.hid hc
    clear hc
    go_enter Tryd.func5, Tryd.ntmps5
    go_upto_region 1 with fail
    rw [HW.out]
    go_upto_region 2 with (go_at_call 8; (with_reducible refine HAW.out.mono ?_); rintro e w1 ⟨rfl, hk1⟩; have HK1 := Lib.hid (And.intro (HB.out.1.trans hk1 (U := fun _ => False) (fun _ _ e => e) (fun _ _ e => e)) (blk_kept hk1 HB.out.2 (fun h => h))); clear hk1)
    go_upto_region 3 with (first | (refine wpList_load33 rfl _ rfl w.heap.size (s.cells (.slice sA s.links.length sc) (.slice aA s.ats.length ac) (.slice eA s.evs.length ec)) rfl HK1.out.2 rfl ?_) | (go_at_call 14; (with_reducible refine (HE.out _ HK1.out.1).mono ?_); intro e w2 hp; unfold EncNo at hp; rw [← HCZ.out] at hp; obtain ⟨rfl, hk2⟩ := hp; have HK2 := Lib.hid (And.intro (HK1.out.1.trans hk2 (U := fun _ => False) (fun _ _ e => e) (fun _ _ e => e)) (blk_kept hk2 HK1.out.2 (fun h => h))); clear hk2))
    have hx := HK2.out.2
    have p0 : w2.cell? ⟨w.heap.size, 0, none⟩ = some (.int .u64 s.hi) := (blk_cell hx 0).trans rfl
    have p1 : w2.cell? ⟨w.heap.size, 1, none⟩ = some (.int .u64 s.lo) := (blk_cell hx 1).trans rfl
    have p2 : w2.cell? ⟨w.heap.size, 2, none⟩ = some (.int .u64 s.id) := (blk_cell hx 2).trans rfl
    have p3 : w2.cell? ⟨w.heap.size, 3, none⟩ = some (.int .u64 s.par) := (blk_cell hx 3).trans rfl
    have p4 : w2.cell? ⟨w.heap.size, 4, none⟩ = some (.slice sA s.links.length sc) := (blk_cell hx 4).trans rfl
    have p5 : w2.cell? ⟨w.heap.size, 5, none⟩ = some (.string s.svc) := (blk_cell hx 5).trans rfl
    have p6 : w2.cell? ⟨w.heap.size, 6, none⟩ = some (.string s.op) := (blk_cell hx 6).trans rfl
    have p7 : w2.cell? ⟨w.heap.size, 7, none⟩ = some (.int .i64 s.kind) := (blk_cell hx 7).trans rfl
    have p8 : w2.cell? ⟨w.heap.size, 8, none⟩ = some (.int .i64 s.st) := (blk_cell hx 8).trans rfl
    have p9 : w2.cell? ⟨w.heap.size, 9, none⟩ = some (.int .i64 s.start) := (blk_cell hx 9).trans rfl
    have p10 : w2.cell? ⟨w.heap.size, 10, none⟩ = some (.int .i64 s.fin) := (blk_cell hx 10).trans rfl
    have p11 : w2.cell? ⟨w.heap.size, 11, none⟩ = some (.slice aA s.ats.length ac) := (blk_cell hx 11).trans rfl
    have p12 : w2.cell? ⟨w.heap.size, 12, none⟩ = some (.slice eA s.evs.length ec) := (blk_cell hx 12).trans rfl
    clear hx
    go_wp2_with (go_at_call 10; (with_reducible refine (HC.out _ HK2.out.1).mono ?_); rintro e w3 ⟨rfl, hk3⟩; have HK3 := Lib.hid (HK2.out.1.trans hk3 (U := fun _ => False) (fun _ _ e => e) (fun _ _ e => e)); clear hk3 p0 p1 p2 p3 p4 p5 p6 p7 p8 p9 p10 p11 p12)
    go_ret
    exact ⟨rfl, HK3.out⟩
  case pos =>
  subst hc
  obtain ⟨n, hn⟩ : ∃ n, n = (encS s).length := ⟨_, rfl⟩
  have hlen := enc_len HCZ.out.symm HS.out.2.2
  rw [← hn] at hlen
  have n1 : (43 : Int) ≤ n := by omega
  have n2 : (n : Int) ≤ 11705 := by omega
  have n0 : 0 < n := by omega
  have HE : Hid (∀ V, Kept (fun _ => False) w V → Calls Tryd.prog 14 #[.agg (s.cells (.slice sA s.links.length sc) (.slice aA s.ats.length ac) (.slice eA s.evs.length ec))] V (EncOk s n V)) := Lib.hid fun V hk => enc_ok s _ _ _ V (HS.out.1.kept hk) HS.out.2.2 HS.out.2.1 (Utf8Tabs.kept HU.out hk (fun h => h) (fun h => h)) HCZ.out.symm n hn.symm n0
  have HD : Hid (∀ V v, Kept (fun _ => False) w V → Reads V v (encS s) → Calls Tryd.prog 15 #[v] V (DecOk s V)) := Lib.hid fun V v hk hr => dec_ok s (encS s) v V hr (by omega) (enc_bytes s) (Utf8Tabs.kept HU.out hk (fun h => h) (fun h => h)) (dec_back HCZ.out.symm HS.out.2.2)
  clear hn hlen
  go_enter Tryd.func5, Tryd.ntmps5
  go_upto_region 1 with fail
  rw [HW.out]
  go_upto_region 2 with (go_at_call 8; (with_reducible refine HAW.out.mono ?_); rintro e w1 ⟨rfl, hk1⟩; have HK1 := Lib.hid (And.intro (HB.out.1.trans hk1 (U := fun _ => False) (fun _ _ e => e) (fun _ _ e => e)) (blk_kept hk1 HB.out.2 (fun h => h))); clear hk1)
  go_upto_region 3 with (first | (refine wpList_load33 rfl _ rfl w.heap.size (s.cells (.slice sA s.links.length sc) (.slice aA s.ats.length ac) (.slice eA s.evs.length ec)) rfl HK1.out.2 rfl ?_) | (go_at_call 14; (with_reducible refine (HE.out _ HK1.out.1).mono ?_); rintro e w2 ⟨g, c, rfl, hl2, hk2⟩; have HK2 := Lib.hid (And.intro (HK1.out.1.trans hk2 (U := fun _ => False) (fun _ _ e => e) (fun _ _ e => e)) (And.intro (blk_kept hk2 HK1.out.2 (fun h => h)) hl2.reads)); clear hk2 hl2))
  have hx := HK2.out.2.1
  have p0 : w2.cell? ⟨w.heap.size, 0, none⟩ = some (.int .u64 s.hi) := (blk_cell hx 0).trans rfl
  have p1 : w2.cell? ⟨w.heap.size, 1, none⟩ = some (.int .u64 s.lo) := (blk_cell hx 1).trans rfl
  have p2 : w2.cell? ⟨w.heap.size, 2, none⟩ = some (.int .u64 s.id) := (blk_cell hx 2).trans rfl
  have p3 : w2.cell? ⟨w.heap.size, 3, none⟩ = some (.int .u64 s.par) := (blk_cell hx 3).trans rfl
  have p4 : w2.cell? ⟨w.heap.size, 4, none⟩ = some (.slice sA s.links.length sc) := (blk_cell hx 4).trans rfl
  have p5 : w2.cell? ⟨w.heap.size, 5, none⟩ = some (.string s.svc) := (blk_cell hx 5).trans rfl
  have p6 : w2.cell? ⟨w.heap.size, 6, none⟩ = some (.string s.op) := (blk_cell hx 6).trans rfl
  have p7 : w2.cell? ⟨w.heap.size, 7, none⟩ = some (.int .i64 s.kind) := (blk_cell hx 7).trans rfl
  have p8 : w2.cell? ⟨w.heap.size, 8, none⟩ = some (.int .i64 s.st) := (blk_cell hx 8).trans rfl
  have p9 : w2.cell? ⟨w.heap.size, 9, none⟩ = some (.int .i64 s.start) := (blk_cell hx 9).trans rfl
  have p10 : w2.cell? ⟨w.heap.size, 10, none⟩ = some (.int .i64 s.fin) := (blk_cell hx 10).trans rfl
  have p11 : w2.cell? ⟨w.heap.size, 11, none⟩ = some (.slice aA s.ats.length ac) := (blk_cell hx 11).trans rfl
  have p12 : w2.cell? ⟨w.heap.size, 12, none⟩ = some (.slice eA s.evs.length ec) := (blk_cell hx 12).trans rfl
  clear hx
  go_upto_region 7 with (go_at_call 10; (with_reducible refine (HC.out _ HK2.out.1).mono ?_); rintro e w3 ⟨rfl, hk3⟩; have HK3 := Lib.hid (And.intro (HK2.out.1.trans hk3 (U := fun _ => False) (fun _ _ e => e) (fun _ _ e => e)) (And.intro (blk_kept hk3 HK2.out.2.1 (fun h => h)) (HK2.out.2.2.kept hk3))); clear hk3 p0 p1 p2 p3 p4 p5 p6 p7 p8 p9 p10 p11 p12)
  clear HK2 HK1
  go_upto_region 8 with (first | (go_at_call 15; (with_reducible refine (HD.out _ _ HK3.out.1 HK3.out.2.2).mono ?_); rintro e w4 ⟨A1, c1, A2, c2, A3, c3, rfl, hs4, hk4⟩; have HS4 := Lib.hid (And.intro hs4 hk4); have HN4 := Lib.hid (heap_alloc_new w4 (.cells zcells 33)); clear hs4 hk4) | (refine wpList_store33 rfl _ _ rfl w4.heap.size zcells (s.cells (.slice A1 s.links.length c1) (.slice A2 s.ats.length c2) (.slice A3 s.evs.length c3)) rfl rfl HN4.out rfl rfl (cells_one _ _ _ _ _ _ _ _ _ _) ?_; intro w5 hb5 hk5; have HV5 := Lib.hid (And.intro hb5 hk5); clear hb5 hk5))
  obtain ⟨xb, hxb⟩ : ∃ x, x = w4.heap.size := ⟨_, rfl⟩
  have hx5 := HV5.out.1
  rw [← hxb] at hx5 ⊢
  have hk45 : Kept (fun _ => False) w4 w5 := (Kept.alloc (fun _ => False) w4 _).trans HV5.out.2 (fun _ _ e => e) (fun i hi e => by omega)
  have hkw5 := (HK3.out.1.trans HS4.out.2 (U := fun _ => False) (fun _ _ e => e) (fun _ _ e => e)).trans hk45 (U := fun _ => False) (fun _ _ e => e) (fun _ _ e => e)
  have hA5 := blk_kept hk45 (blk_kept HS4.out.2 HK3.out.2.1 (fun h => h)) (fun h => h)
  have HA5 := Lib.hid (And.intro hkw5 (And.intro hA5 hx5))
  have hsame := same_any s s _ _ _ _ _ _ w5 (HS.out.1.kept hkw5) (HS4.out.1.kept hk45)
  rw [sameS_yes rfl] at hsame
  have HSA := Lib.hid hsame
  clear hsame hA5 hkw5 hk45 hx5 HV5 HN4 HS4 HK3 hxb
  go_upto_region 9 with (first | (refine wpList_load33 rfl _ rfl w.heap.size (s.cells (.slice sA s.links.length sc) (.slice aA s.ats.length ac) (.slice eA s.evs.length ec)) rfl HA5.out.2.1 rfl ?_) | (refine wpList_load33 rfl _ rfl xb (s.cells (.slice A1 s.links.length c1) (.slice A2 s.ats.length c2) (.slice A3 s.evs.length c3)) rfl HA5.out.2.2 rfl ?_) | (go_at_call 12; (with_reducible refine HSA.out.mono ?_); rintro e w6 ⟨rfl, hk6⟩; have HK6 := Lib.hid (HA5.out.1.trans hk6 (U := fun _ => False) (fun _ _ e => e) (fun _ _ e => e)); clear hk6))
  go_wp2_with fail
  go_ret
  exact ⟨rfl, HK6.out⟩
end Go.Proofs.YtniigjfimggobaaDoor
