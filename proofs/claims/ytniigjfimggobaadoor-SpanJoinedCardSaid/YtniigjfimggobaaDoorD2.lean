/- A source of a span's texts, words of eight, and counts (the walks). -/
import Derived.Test.YtniigjfimggobaaDoorD1
namespace Go.Proofs.YtniigjfimggobaaDoor
open Go.RowKit
set_option linter.unusedVariables false
set_option linter.unusedSimpArgs false

set_option maxHeartbeats 4000000 in
set_option maxRecDepth 100000 in
theorem txt_any (B q r : Nat) (v : Value) (L : List Int) (st : DSt) (most : Int) (w : World) (h : SrcAt B w q r v L st) (hl : L.length ≤ 140737488355328) (hb : Bytes L) (hm0 : 0 ≤ most) (hm1 : most ≤ 1000) (hU : Lib.Utf8Tabs 0 1 w) :
    Calls Tryd.prog 45 #[.pointer (some ⟨q, 0, none⟩), .int .i64 most] w (SrcPost B q r v L (.string (strOfNums (txtP L most st).1)) (txtP L most st).2 w) := by
  have h' := Lib.hid h
  obtain ⟨e, n, hq, hr, hn, hst⟩ := h
  have c0 : w.cell? ⟨q, 0, none⟩ = some (.pointer (some ⟨r, 0, none⟩)) := (blk_cell hq 0).trans rfl
  have c1 : w.cell? ⟨q, 1, none⟩ = some e := (blk_cell hq 1).trans rfl
  cases st with
  | bad a no =>
    obtain ⟨g, rfl, hg⟩ := hst
    clear hq hr hg
    go_enter Tryd.func45, Tryd.ntmps45
    go_wp2_with fail
    go_ret
    exact ⟨rfl, h'.out, Kept.refl _ _⟩
  | ok m =>
    obtain ⟨rfl, rfl⟩ := hst
    have hqr : q ≠ r := blk_ne hq hr.blk (by decide)
    have HR := Lib.hid hr
    have HQ := Lib.hid hq
    clear hq hr
    have hm2 : -9223372036854775808 ≤ most := by omega
    have hm3 : most ≤ 9223372036854775807 := by omega
    cases hN : textR L m most with
    | ok x k =>
      have hP : txtP L most (.ok m) = (x, .ok k) := by simp only [txtP, hN]
      have HP := Lib.hid hP
      have HN := Lib.hid hN
      clear hP hN
      go_enter Tryd.func45, Tryd.ntmps45
      go_wp2_with ((with_reducible refine (getText_any B r m v L most w HR.out hn hl hb hm2 hm3 hU).mono ?_); rintro e w1 hp; unfold TextPost at hp; rw [HN.out] at hp; obtain ⟨rfl, hr1, hk1⟩ := hp; have g1 := blk_frozen (blk_kept hk1 HQ.out hqr) 1; have g2 := (blk_cell (blk_kept hk1 HQ.out hqr) 1).trans rfl; have HR1 := Lib.hid hr1)
      go_ret
      rw [HP.out]
      exact ⟨rfl, SrcAt.stored (blk_kept hk1 HQ.out hqr) HR1.out (textR_ok hb hn HN.out).2.1 ⟨rfl, rfl⟩, stored_kept hk1⟩
    | err a no =>
      have hP : txtP L most (.ok m) = ([], .bad a no) := by simp only [txtP, hN]
      have HP := Lib.hid hP
      have HN := Lib.hid hN
      clear hP hN
      go_enter Tryd.func45, Tryd.ntmps45
      go_wp2_with ((with_reducible refine (getText_any B r m v L most w HR.out hn hl hb hm2 hm3 hU).mono ?_); rintro e w1 hp; unfold TextPost at hp; rw [HN.out] at hp; obtain ⟨err, rfl, g, rfl, _, hg, hk1⟩ := hp; have HG := Lib.hid hg; clear hg; have g1 := blk_frozen (blk_kept hk1 HQ.out (fun h => h)) 1; have g2 := (blk_cell (blk_kept hk1 HQ.out (fun h => h)) 1).trans rfl)
      go_ret
      rw [HP.out]
      exact ⟨rfl, SrcAt.stored (blk_kept hk1 HQ.out (fun h => h)) (HR.out.kept hk1 (fun h => h) (fun _ _ h => h)) hn ⟨_, rfl, HG.out⟩, stored_kept (hk1.mono (fun _ _ h => h.elim))⟩

theorem small_any (x : Nat) (w : World) (hx : x < 18446744073709551616) : Calls Tryd.prog 46 #[.int .u64 x] w fun e w' => e = .returned (.int .i64 (smallN x)) ∧ w' = w := by
  by_cases h : 1000 < x
  · have e1 : ((1000 : Int) < x) = True := eq_true (by omega)
    have hs : smallN x = 1000 := if_pos h
    have HS := Lib.hid hs
    clear hs h
    go_enter Tryd.func46, Tryd.ntmps46
    go_wp2_with fail
    go_ret
    exact ⟨by rw [HS.out]; rfl, rfl⟩
  · have e1 : ((1000 : Int) < x) = False := eq_false (by omega)
    have e2 : (x : Int) ≤ 1000 := by omega
    have hs : smallN x = x := if_neg h
    have HS := Lib.hid hs
    clear hs h
    go_enter Tryd.func46, Tryd.ntmps46
    go_wp2_with fail
    go_ret
    exact ⟨by rw [HS.out]; rfl, rfl⟩
theorem moment_any (x : Nat) (w : World) (hx : x < 18446744073709551616) : Calls Tryd.prog 48 #[.int .u64 x] w fun e w' => e = .returned (.int .i64 (momentN x)) ∧ w' = w := by
  by_cases h : 4611686018427387904 < x
  · have e1 : ((4611686018427387904 : Int) < x) = True := eq_true (by omega)
    have hs : momentN x = 4611686018427387905 := if_pos h
    have HS := Lib.hid hs
    clear hs h
    go_enter Tryd.func48, Tryd.ntmps48
    go_wp2_with fail
    go_ret
    exact ⟨by rw [HS.out]; rfl, rfl⟩
  · have e1 : ((4611686018427387904 : Int) < x) = False := eq_false (by omega)
    have e2 : (x : Int) ≤ 4611686018427387904 := by omega
    have hs : momentN x = x := if_neg h
    have HS := Lib.hid hs
    clear hs h
    go_enter Tryd.func48, Tryd.ntmps48
    go_wp2_with fail
    go_ret
    exact ⟨by rw [HS.out]; rfl, rfl⟩
end Go.Proofs.YtniigjfimggobaaDoor
