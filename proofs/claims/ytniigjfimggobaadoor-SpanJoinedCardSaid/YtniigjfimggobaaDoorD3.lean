/- A source of a span's words of eight, and counts (the walks). -/
import Derived.Test.YtniigjfimggobaaDoorD2
namespace Go.Proofs.YtniigjfimggobaaDoor
open Go.RowKit
set_option linter.unusedVariables false
set_option linter.unusedSimpArgs false

theorem of8_take {p : List Int} {k : Nat} {c : Nat} (h : p[k]? = some (c : Int)) : of8 (p.take (k + 1)) = of8 (p.take k) * 256 + c := by
  rw [List.take_add_one, h, Option.toList_some, of8_snoc]; simp
theorem or_two (a x : Nat) (hx : x < 256) (ha : a * 256 < 18446744073709551616) : bits .or .u64 ((a : Int) * 256) (x : Int) = ((a * 256 + x : Nat) : Int) := by
  have h := (bits_nat .u64 64 (by decide) wraps_u64 (a * 256) x (by omega) (by omega)).2
  have e : ((a : Int) * 256) = ((a * 256 : Nat) : Int) := by omega
  have o : a * 256 ||| x = a * 256 + x := by
    rw [show a * 256 = 2 ^ 8 * a by omega]
    exact (Nat.two_pow_add_eq_or_of_lt (by omega) a).symm
  rw [e, h, o]
theorem of8_lt (l : List Int) (hb : Bytes l) : of8 l < 256 ^ l.length := (digs_of8 l.length l hb rfl).2

set_option maxHeartbeats 4000000 in
set_option maxRecDepth 100000 in
theorem eight_any (B q r : Nat) (v : Value) (L : List Int) (st : DSt) (w : World) (h : SrcAt B w q r v L st) (hl : L.length ≤ 140737488355328) (hb : Bytes L) :
    Calls Tryd.prog 43 #[.pointer (some ⟨q, 0, none⟩)] w (SrcPost B q r v L (.int .u64 (eightP L st).1) (eightP L st).2 w) := by
  have h' := Lib.hid h
  obtain ⟨e, n, hq, hr, hn, hst⟩ := h
  have c0 : w.cell? ⟨q, 0, none⟩ = some (.pointer (some ⟨r, 0, none⟩)) := (blk_cell hq 0).trans rfl
  have c1 : w.cell? ⟨q, 1, none⟩ = some e := (blk_cell hq 1).trans rfl
  cases st with
  | bad a no =>
    obtain ⟨g, rfl, hg⟩ := hst
    clear hq hr hg
    go_enter Tryd.func43, Tryd.ntmps43
    go_wp2_with fail
    go_ret
    exact ⟨rfl, h'.out, Kept.refl _ _⟩
  | ok m =>
    obtain ⟨rfl, rfl⟩ := hst
    have hqr : q ≠ r := blk_ne hq hr.blk (by decide)
    have HR := Lib.hid hr
    have HQ := Lib.hid hq
    clear hq hr
    have h8 : (-9223372036854775808 : Int) ≤ 8 := by omega
    have h9 : (8 : Int) ≤ 9223372036854775807 := by omega
    cases hN : rawR L m 8 with
    | err a no =>
      have hP : eightP L (.ok m) = (0, .bad a no) := by simp only [eightP, hN]
      have HP := Lib.hid hP
      have HN := Lib.hid hN
      clear hP hN
      go_enter Tryd.func43, Tryd.ntmps43
      go_upto_region 6 with ((with_reducible refine (getRaw_any B r m v L 8 w HR.out hn hl h8 h9).mono ?_); rintro e w1 hp; unfold RawPost at hp; rw [HN.out] at hp; obtain ⟨err, rfl, g, rfl, _, hg, hk1⟩ := hp; have HG := Lib.hid hg; clear hg; have g1 := blk_frozen (blk_kept hk1 HQ.out (fun h => h)) 1; have g2 := (blk_cell (blk_kept hk1 HQ.out (fun h => h)) 1).trans rfl)
      go_wp2_with fail
      go_loopw [4, 25] (fun t i wr => i = .int .i64 0 ∧ t = .int .u64 0 ∧ wr = w1.setCell ⟨q, 1, none⟩ (.iface 102 (.pointer (some ⟨g, 0, none⟩)))) (fun _ _ _ => 0)
      case atStart => exact ⟨rfl, rfl, rfl⟩
      case round =>
        obtain ⟨rfl, rfl, rfl⟩ := hrel
        go_wp2_with fail
        go_ret
        rw [HP.out]
        exact ⟨rfl, SrcAt.stored (blk_kept hk1 HQ.out (fun h => h)) (HR.out.kept hk1 (fun h => h) (fun _ _ h => h)) hn ⟨_, rfl, HG.out⟩, stored_kept (hk1.mono (fun _ _ h => h.elim))⟩
    | ok p k =>
      have hP : eightP L (.ok m) = (of8 p, .ok k) := by simp only [eightP, hN]
      have hpl : p.length = 8 ∧ k ≤ L.length ∧ Bytes p := by
        unfold rawR at hN
        rw [if_neg (by omega)] at hN
        split at hN
        · cases hN
        · injection hN with h1 h2
          refine ⟨by rw [← h1, List.length_take, List.length_drop]; omega, by omega, ?_⟩
          rw [← h1]
          exact fun x hx => hb x (List.mem_of_mem_drop (List.mem_of_mem_take hx))
      have HP := Lib.hid hP
      have HN := Lib.hid hN
      have HL := Lib.hid hpl
      clear hP hN hpl
      go_enter Tryd.func43, Tryd.ntmps43
      go_upto_region 6 with ((with_reducible refine (getRaw_any B r m v L 8 w HR.out hn hl h8 h9).mono ?_); rintro e w1 hp; unfold RawPost at hp; rw [HN.out] at hp; obtain ⟨v', rfl, hown, hr1, hk1⟩ := hp; have HO := Lib.hid hown; clear hown; have g1 := blk_frozen (blk_kept hk1 HQ.out hqr) 1; have g2 := (blk_cell (blk_kept hk1 HQ.out hqr) 1).trans rfl; have HR1 := Lib.hid hr1; clear hr1)
      obtain ⟨w2, hw2⟩ : ∃ w2, w2 = w1.setCell ⟨q, 1, none⟩ .nilIface := ⟨_, rfl⟩
      rw [← hw2]
      have hsrc : SrcAt B w2 q r v L (.ok k) := by rw [hw2]; exact SrcAt.stored (blk_kept hk1 HQ.out hqr) HR1.out HL.out.2.1 ⟨rfl, rfl⟩
      have hkk : Kept (fun i => i = q ∨ i = r) w w2 := by rw [hw2]; exact stored_kept hk1
      have hcells : ∃ g c, v' = .slice (some ⟨g, 0, none⟩) 8 c ∧ ∀ (j : Nat) (x : Int), p[j]? = some x → w2.cell? ⟨g, j, none⟩ = some (.int .u8 x) := by
        rcases HO.out.2 with ⟨_, h0⟩ | ⟨g, cap, cur, rfl, _, hh, _, _, _, ht⟩
        · exfalso; have := HL.out.1; omega
        · refine ⟨g, cap, by rw [HL.out.1], fun j x hx => ?_⟩
          have hgq : g ≠ q := blk_ne hh (blk_kept hk1 HQ.out hqr) (by decide)
          have hb2 : w2.heap[g]? = some (.cells cur 5 (0, 0)) := by rw [hw2, heap_setCell_other _ _ _ _ hgq]; exact hh
          rw [blk_cell hb2]
          have hj : (nums .u8 p)[j]? = some (.int .u8 x) := by simp [nums, hx]
          rw [← ht] at hj
          have hjn : j < p.length * 1 := by
            have := (List.getElem?_eq_some_iff.1 hj).1
            simp at this
            omega
          rw [List.getElem?_take_of_lt hjn] at hj
          simpa using hj
      obtain ⟨g, c, rfl, hcs⟩ := hcells
      have HF := Lib.hid (And.intro hsrc (And.intro hkk hcs))
      clear hsrc hkk hcs g1 g2 hw2 HO HR1
      go_wp2_with fail
      go_loopw [4, 25] (fun t i wr => ∃ j : Nat, i = .int .i64 j ∧ j ≤ 8 ∧ t = .int .u64 (of8 (p.take j)) ∧ wr = w2) (fun _ i _ => 8 - (intOf i).toNat)
      case atStart => exact ⟨0, rfl, by omega, by simp [of8], rfl⟩
      case round =>
        obtain ⟨j, rfl, hj, rfl, rfl⟩ := hrel
        have j0 : (0 : Int) ≤ j := by omega
        by_cases hj8 : j < 8
        · have j1 : (j : Int) < 8 := by omega
          obtain ⟨x, hx⟩ : ∃ x, p[j]? = some x := ⟨_, List.getElem?_eq_getElem (by rw [HL.out.1]; exact hj8)⟩
          obtain ⟨xn, rfl⟩ : ∃ n : Nat, x = n := ⟨x.toNat, by have := HL.out.2.2 x (List.mem_of_getElem? hx); omega⟩
          have hxb : xn < 256 := by have := HL.out.2.2 xn (List.mem_of_getElem? hx); omega
          have hcell := HF.out.2.2 j xn hx
          have hnx := of8_take hx
          obtain ⟨a, ha⟩ : ∃ a, a = of8 (p.take j) := ⟨_, rfl⟩
          have hal : a < 256 ^ 7 := by
            rw [ha]
            have h1 := of8_lt (p.take j) (fun x hx => HL.out.2.2 x (List.mem_of_mem_take hx))
            have h2 : (p.take j).length ≤ 7 := by rw [List.length_take]; omega
            exact Nat.lt_of_lt_of_le h1 (Nat.pow_le_pow_right (by omega) h2)
          rw [← ha] at hnx ⊢
          have HNX := Lib.hid hnx
          clear hnx hx ha
          have a1 : (a : Int) * 256 < 18446744073709551616 := by omega
          have a0 : (0 : Int) ≤ a := by omega
          go_wp2_with fail
          have hor := or_two a xn hxb (by omega)
          exact ⟨⟨j + 1, by congr 1, by omega, by rw [hor, HNX.out], trivial⟩, by simp [intOf]; omega⟩
        · have j1 : ¬ (j : Int) < 8 := by omega
          have hj2 : j = 8 := by omega
          have HV := Lib.hid (show of8 (p.take j) = of8 p by rw [hj2, List.take_of_length_le (by rw [HL.out.1]; omega)])
          clear hj2 hj8
          go_wp2_with fail
          go_ret
          rw [HP.out, HV.out]
          exact ⟨rfl, HF.out.1, HF.out.2.1⟩

set_option maxHeartbeats 4000000 in
set_option maxRecDepth 100000 in
theorem many_any (B q r : Nat) (v : Value) (L : List Int) (st : DSt) (most : Nat) (no : Int) (w : World) (h : SrcAt B w q r v L st) (hl : L.length ≤ 140737488355328) (hb : Bytes L) (hm : most ≤ 1000) :
    Calls Tryd.prog 44 #[.pointer (some ⟨q, 0, none⟩), .int .u64 most, .int .i64 no] w (SrcPost B q r v L (.int .i64 (manyP L most no st).1) (manyP L most no st).2 w) := by
  have h' := Lib.hid h
  obtain ⟨e, n, hq, hr, hn, hst⟩ := h
  have c0 : w.cell? ⟨q, 0, none⟩ = some (.pointer (some ⟨r, 0, none⟩)) := (blk_cell hq 0).trans rfl
  have HR := Lib.hid hr
  clear hr
  cases st with
  | bad a b =>
    have hP : manyP L most no (.bad a b) = (0, .bad a b) := rfl
    have HP := Lib.hid hP
    clear hP hst hq
    go_enter Tryd.func44, Tryd.ntmps44
    go_upto_region 3 with (first | (go_at_call 72; (with_reducible refine (at_any B r n v L w HR.out hn hl).mono ?_); rintro e w' ⟨rfl, hw'⟩; replace hw' := hw'.symm; subst hw') | (go_at_call 47; (with_reducible refine (num_any B q r v L (.bad a b) _ h'.out hl hb).mono ?_); rintro e w1 ⟨rfl, hs1, hk1⟩))
    obtain ⟨e1, n1, hq1, hr1, hn1, g, rfl, hg⟩ := id hs1
    have d1 : w1.cell? ⟨q, 1, none⟩ = some (.iface 102 (.pointer (some ⟨g, 0, none⟩))) := (blk_cell hq1 1).trans rfl
    have HS := Lib.hid hs1
    clear hs1 hq1 hr1 hg
    go_wp2_with fail
    go_ret
    rw [HP.out]
    exact ⟨rfl, HS.out, hk1⟩
  | ok m =>
    obtain ⟨rfl, rfl⟩ := hst
    obtain ⟨p, hp⟩ : ∃ p, p = numP L (.ok m) := ⟨_, rfl⟩
    have hP : manyP L most no (.ok m) = (match numP L (.ok m) with | (x, .ok m') => if most < x then (0, .bad m no) else (x, .ok m') | (_, .bad a no) => (0, .bad a no)) := rfl
    have hnum := num_any B q r v L (.ok m) w h'.out hl hb
    rw [← hp] at hP hnum
    obtain ⟨x, s1⟩ := p
    have HNm := Lib.hid hnum
    clear hnum hp hq
    cases s1 with
    | bad a b =>
      have HP := Lib.hid (show manyP L most no (.ok m) = (0, .bad a b) from hP)
      clear hP
      go_enter Tryd.func44, Tryd.ntmps44
      go_upto_region 3 with (first | (go_at_call 72; (with_reducible refine (at_any B r m v L w HR.out hn hl).mono ?_); rintro e w' ⟨rfl, hw'⟩; replace hw' := hw'.symm; subst hw') | (go_at_call 47; (with_reducible refine HNm.out.mono ?_); rintro e w1 ⟨rfl, hs1, hk1⟩))
      obtain ⟨e1, n1, hq1, hr1, hn1, g, rfl, hg⟩ := id hs1
      have d1 : w1.cell? ⟨q, 1, none⟩ = some (.iface 102 (.pointer (some ⟨g, 0, none⟩))) := (blk_cell hq1 1).trans rfl
      have HS := Lib.hid hs1
      clear hs1 hq1 hr1 hg
      go_wp2_with fail
      go_ret
      rw [HP.out]
      exact ⟨rfl, HS.out, hk1⟩
    | ok k =>
      have hP2 : manyP L most no (.ok m) = if most < x then (0, .bad m no) else (x, .ok k) := hP
      clear hP
      by_cases hx : most < x
      · rw [if_pos hx] at hP2
        have HP := Lib.hid hP2
        have f1 : (most < x) = True := eq_true hx
        clear hP2 hx
        go_enter Tryd.func44, Tryd.ntmps44
        go_upto_region 3 with (first | (go_at_call 72; (with_reducible refine (at_any B r m v L w HR.out hn hl).mono ?_); rintro e w' ⟨rfl, hw'⟩; replace hw' := hw'.symm; subst hw') | (go_at_call 47; (with_reducible refine HNm.out.mono ?_); rintro e w1 ⟨rfl, hs1, hk1⟩))
        obtain ⟨e1, n1, hq1, hr1, hn1, rfl, rfl⟩ := id hs1
        have d1 : w1.cell? ⟨q, 1, none⟩ = some .nilIface := (blk_cell hq1 1).trans rfl
        have HQ1 := Lib.hid hq1
        have HR1 := Lib.hid hr1
        clear hs1 hq1 hr1
        obtain ⟨w2, hw2⟩ : ∃ w2, w2 = w1.alloc (.cells #[.int .i64 m, .int .i64 no] 104) := ⟨_, rfl⟩
        have hk2 : Kept (fun _ => False) w1 w2 := by rw [hw2]; exact .alloc _ _ _
        have hg2 : w2.heap[w1.heap.size]? = some (.cells #[.int .i64 m, .int .i64 no] 104 (0, 0)) := by rw [hw2]; exact heap_alloc_new w1 _
        have hqb := blk_kept hk2 HQ1.out (fun h => h)
        have x1 := blk_frozen hqb 1
        have x2 : w2.cell? ⟨q, 1, none⟩ = some .nilIface := (blk_cell hqb 1).trans rfl
        have HW := Lib.hid hw2.symm
        have HG := Lib.hid (And.intro hg2 hqb)
        clear hg2 hqb hw2
        go_upto_region 4 with fail
        have hW2 := HW.out
        obtain ⟨w3, hw3⟩ : ∃ w3, w3 = w2.setCell ⟨q, 1, none⟩ (.iface 102 (.pointer (some ⟨w1.heap.size, 0, none⟩))) := ⟨_, rfl⟩
        have hsr : SrcAt B w3 q r v L (.bad m no) := by rw [hw3]; exact SrcAt.stored HG.out.2 (HR1.out.kept hk2 (fun h => h) (fun _ _ h => h)) hn1 ⟨_, rfl, HG.out.1⟩
        have hkk : Kept (fun i => i = q ∨ i = r) w w3 := by
          rw [hw3]
          exact (hk1.trans hk2 (fun _ _ e => e) (fun _ _ e => e.elim)).trans (Kept.setCell (S := fun i => i = q) _ _ _ rfl) (fun _ _ e => e) (fun _ _ e => .inl e)
        have y1 : w3.cell? ⟨q, 1, none⟩ = some (.iface 102 (.pointer (some ⟨w1.heap.size, 0, none⟩))) := by rw [hw3]; exact (blk_cell (blk_set HG.out.2 1 _) 1).trans rfl
        have hW3 := hw3.symm
        have HF := Lib.hid (And.intro hsr hkk)
        clear hsr hkk hw3
        go_wp2_with fail
        go_ret
        rw [HP.out]
        exact ⟨rfl, HF.out.1, HF.out.2⟩
      · rw [if_neg hx] at hP2
        have HP := Lib.hid hP2
        have f1 : (most < x) = False := eq_false hx
        have f2 : (x : Int) ≤ 1000 := by omega
        clear hP2 hx
        go_enter Tryd.func44, Tryd.ntmps44
        go_upto_region 3 with (first | (go_at_call 72; (with_reducible refine (at_any B r m v L w HR.out hn hl).mono ?_); rintro e w' ⟨rfl, hw'⟩; replace hw' := hw'.symm; subst hw') | (go_at_call 47; (with_reducible refine HNm.out.mono ?_); rintro e w1 ⟨rfl, hs1, hk1⟩))
        obtain ⟨e1, n1, hq1, hr1, hn1, rfl, rfl⟩ := id hs1
        have d1 : w1.cell? ⟨q, 1, none⟩ = some .nilIface := (blk_cell hq1 1).trans rfl
        have HS := Lib.hid hs1
        clear hs1 hq1 hr1
        go_wp2_with fail
        go_ret
        rw [HP.out]
        exact ⟨rfl, HS.out, hk1⟩
end Go.Proofs.YtniigjfimggobaaDoor
