/- FrameTurned: bits of one frame turned. -/
import Derived.Test.YtoolimfdncfgnaaG2
import Derived.Deep.DeepCutAuto
import Derived.StillTailTactics
namespace Go.Proofs.Ytoolimfdncfgnaa
open Go.RowKit
set_option linter.unusedVariables false
set_option linter.unusedSimpArgs false

theorem Lies.set {E B g n c : Nat} {w : World} {l : List Int} (h : Lies E B w (.slice (some ⟨g, 0, none⟩) n c) l) (j : Nat) (x : Int) (hj : j < l.length) :
    Lies E B (w.setCell ⟨g, j, none⟩ (.int .u8 x)) (.slice (some ⟨g, 0, none⟩) n c) (l.set j x) := by
  rcases h with ⟨rfl, _⟩ | ⟨g', c', cur, e, hb, hh, h1, h2, h3, h4⟩
  · simp at hj
  · injection e with e1 e2 e3
    injection e1 with e1
    injection e1 with e1
    subst e1 e2 e3
    have hs : (cur.setIfInBounds j (Value.int .u8 x)).size = cur.size := by simp
    refine .inr ⟨g, c, _, by rw [List.length_set], hb, blk_set hh j _, by rw [List.length_set]; exact h1, by rw [hs]; exact h2, h3, ?_⟩
    rw [List.length_set, Array.toList_setIfInBounds, List.take_set, h4]
    simp [nums, List.map_set]
theorem Lies.frozen {E B g n c : Nat} {w : World} {l : List Int} (h : Lies E B w (.slice (some ⟨g, 0, none⟩) n c) l) (j : Nat) : w.frozen? ⟨g, j, none⟩ = false := by
  rcases h with ⟨_, e⟩ | ⟨g', c', cur, e, hb, hh, _⟩
  · cases e
  · injection e with e1 e2 e3
    injection e1 with e1
    injection e1 with e1
    subst e1
    exact blk_frozen hh j
theorem Lies.own_ne {E B g n c B' E' size m : Nat} {w : World} {l : List Int} {v : Value} {xs : List Value} (h : Lies E B w (.slice (some ⟨g, 0, none⟩) n c) l) (ho : w.ownsRow B' E' size v m xs) (hne : E ≠ E') : v.ownBlock ≠ some g := by
  rcases h with ⟨_, e⟩ | ⟨g', c', cur, e, hb, hh, _⟩
  · cases e
  · injection e with e1 e2 e3
    injection e1 with e1
    injection e1 with e1
    subst e1
    exact Go.Proofs.Ytoolimfdncfgnaa.own_ne ho hh hne
theorem set_mid (a b d : List Int) (m : Nat) (x : Int) (hm : m < b.length) : (a ++ (b ++ d)).set (a.length + m) x = a ++ (b.set m x ++ d) := by
  rw [List.set_append_right _ _ (by omega), List.set_append_left _ _ (by omega), Nat.add_sub_cancel_left]
theorem get_mid (a b d : List Int) (m : Nat) (hm : m < b.length) : (a ++ (b ++ d)).getD (a.length + m) 0 = b.getD m 0 := by
  rw [getD_app_ge _ _ _ (by omega), Nat.add_sub_cancel_left, getD_app_lt _ _ _ hm]

set_option maxHeartbeats 16000000 in
set_option maxRecDepth 100000 in
theorem bits_turned_any (qs : List Par) (v : Value) (wh at_ : Int) (run : Nat) (w : World) (hok : ∀ q ∈ qs, q.ok1) (hp : PsReads w v qs) (hT : (frames qs).length ≤ 100000000) (hq : qs.length ≤ 10000000)
    (ha : -9223372036854775808 ≤ wh) (ha2 : wh ≤ 9223372036854775807) (hb : -9223372036854775808 ≤ at_) (hb2 : at_ ≤ 9223372036854775807) (hr : run < 4294967296) :
    Calls Try.prog 11 #[v, .agg #[.int .i64 wh, .int .i64 at_, .int .u32 run]] w (True1 w) := by
  have hqo : ∀ q ∈ qs, q.ok := fun q h => (hok q h).1
  have hFb := frames_bytes hqo
  obtain ⟨F, hF⟩ : ∃ F, F = frames qs := ⟨_, rfl⟩
  obtain ⟨W, hW⟩ : ∃ W, W = wants 0 qs := ⟨_, rfl⟩
  have hWl : W.length = qs.length := by rw [hW, wants_len]
  obtain ⟨bx, hbx⟩ : ∃ bx : Obj, bx = .cells #[.int .i64 wh, .int .i64 at_, .int .u32 run] 65 := ⟨_, rfl⟩
  have hbk : (w.alloc bx).heap[w.heap.size]? = some bx := heap_alloc_new w _
  have hk0 := Kept.alloc (fun _ => False) w bx
  obtain ⟨w0, hw0⟩ : ∃ w0, w0 = w.alloc bx := ⟨_, rfl⟩
  rw [← hw0] at hbk hk0
  have HLA := Lib.hid (fun W' h => laid_any qs v W' hok (hp.kept (w := w) (w' := W') h) hT hq)
  have HS := Lib.hid (And.intro hqo (And.intro hF (And.intro hW (And.intro hWl (And.intro hk0 hbk)))))
  rw [← hF] at hT hFb
  have hFl : (F.length : Int) ≤ 100000000 := by omega
  have hWl2 : (W.length : Int) ≤ 10000000 := by omega
  clear hok hp hqo hF hW hWl hk0 hbk
  go_enter Try.func11, Try.ntmps11
  go_wp2_with fail
  rw [← hbx, ← hw0]
  refine (shown_any w0).mono ?_
  rintro e w1 ⟨rfl, hk1⟩
  have K1 : Hid (Kept (fun _ => False) w w1) := Lib.hid (kt HS.out.2.2.2.2.1 hk1)
  have KB : Hid (w1.heap[w.heap.size]? = some bx) := Lib.hid (blk_kept hk1 HS.out.2.2.2.2.2 id)
  clear hk1
  go_wp2_with fail
  refine (HLA.out w1 K1.out).mono ?_
  rintro e w2 ⟨Ab, cb, Aw, cw, rfl, hob, how, hk2⟩
  rw [← HS.out.2.1] at hob ⊢
  rw [← HS.out.2.2.1] at how ⊢
  have K2 := Lib.hid (And.intro hk2 (And.intro hob how))
  have hbk2 := blk_kept hk2 KB.out id
  have hs2 : w.heap.size < w1.heap.size := blk_lt KB.out
  rw [hbx] at hbk2
  have t0 : w2.cell? ⟨w.heap.size, 0, none⟩ = some (.int .i64 wh) := blk_cell hbk2 0
  have t1 : w2.cell? ⟨w.heap.size, 1, none⟩ = some (.int .i64 at_) := blk_cell hbk2 1
  have HB := Lib.hid (And.intro hbk2 hs2)
  clear hk2 hob how hbk2 hbx hw0 hs2
  by_cases h0 : W.length = 0
  · have h01 : ((W.length : Int) == 0) = true := by rw [beq_iff_eq]; omega
    go_wp2_with fail
    go_ret
    exact ⟨rfl, kt K1.out K2.out.1⟩
  have h01 : ((W.length : Int) == 0) = false := by rw [beq_eq_false_iff_ne]; omega
  go_wp2_with fail
  refine (pick_any wh (W.length : Int) w2 ha ha2 (by omega) (by omega)).mono ?_
  rintro e w' ⟨rfl, hw'⟩
  obtain rfl : w2 = w' := hw'.symm
  have hpk := pickS_lt wh (W.length : Int) (by omega)
  obtain ⟨k, hk⟩ : ∃ k : Nat, pickS wh (W.length : Int) = k := ⟨_, (Int.toNat_of_nonneg hpk.1).symm⟩
  rw [hk] at hpk ⊢
  clear hw' hk
  have hkW : k < W.length := by omega
  obtain ⟨q, hqk⟩ : ∃ q, qs[k]? = some q := ⟨_, List.getElem?_eq_getElem (by have := HS.out.2.2.2.1; omega)⟩
  obtain ⟨g1, g2⟩ := wants_get qs k q hqk
  rw [← HS.out.2.2.1] at g1
  have how := K2.out.2.2
  obtain ⟨_, _, e1, hcw, hnw, hAw⟩ := own_at how
  injection e1 with eA _ ec
  subst eA; subst ec
  obtain ⟨gw, rfl⟩ := hAw (by omega)
  obtain ⟨-, -, a2, a3⟩ := pcells_at _ k _ g1
  have c2 := how.cells rfl _ _ a2
  have c3 := how.cells rfl _ _ a3
  simp only [add_lit', Nat.zero_add] at c2 c3
  obtain ⟨E, hE⟩ : ∃ E, E = endAt qs k := ⟨_, rfl⟩
  have e24 : ((endAt qs k + 24 : Nat) : Int) = (E : Int) + 24 := by omega
  rw [e24] at c2
  have hle2 : E + 24 + q.p.length ≤ F.length := by
    have := frames_take_le qs k q hqk
    rw [← HS.out.2.1] at this
    rw [hE]
    exact this
  obtain ⟨P, hP⟩ : ∃ P, P = q.p.length := ⟨_, rfl⟩
  rw [← hP] at c3 hle2
  have hPb := (HS.out.1 q (List.mem_of_getElem? hqk)).2.2
  rw [← hP] at hPb
  have n1 : (k : Int) < W.length := by omega
  have n2 : (0 : Int) ≤ k := by omega
  have hEb : (E : Int) + 24 + P ≤ 100000000 := by omega
  have hE0 : (0 : Int) ≤ E := by omega
  have hP0 : (0 : Int) ≤ P := by omega
  have hPb2 : (P : Int) ≤ 1048576 := by omega
  have x1 : IntKind.i64.wrap (8 * (24 + (P : Int))) = 8 * (24 + (P : Int)) := IntWalk.i64_in _ (by omega)
  have HQ := Lib.hid (And.intro hqk (And.intro hE (And.intro hP (And.intro hle2 hkW))))
  clear how a2 a3 g1 g2 e24 hqk hE hP hle2 hkW hpk
  go_wp2_with fail
  refine (pick_any at_ (8 * (24 + (P : Int))) w2 hb hb2 (by omega) (by omega)).mono ?_
  rintro e w' ⟨rfl, hw'⟩
  obtain rfl : w2 = w' := hw'.symm
  have hpk := pickS_lt at_ (8 * (24 + (P : Int))) (by omega)
  obtain ⟨fr, hfr⟩ : ∃ fr : Nat, pickS at_ (8 * (24 + (P : Int))) = fr := ⟨_, (Int.toNat_of_nonneg hpk.1).symm⟩
  rw [hfr] at hpk ⊢
  clear hw' hfr c2 c3 t0 t1
  go_wp2_with fail
  obtain ⟨_, _, e1, hcb, hnb, hAb⟩ := own_at K2.out.2.1
  injection e1 with eA _ ec
  subst eA; subst ec
  obtain ⟨gb, rfl⟩ := hAb (by have := HQ.out.2.2.2.1; omega)
  have hL0 := Lies.of_own K2.out.2.1
  have hgb := hL0.lt gb rfl
  obtain ⟨D1, hD1⟩ : ∃ D, D = frames (qs.take k) := ⟨_, rfl⟩
  obtain ⟨D3, hD3⟩ : ∃ D, D = frames (qs.drop (k + 1)) := ⟨_, rfl⟩
  have hall : F = D1 ++ (q.frame ++ D3) := by
    have e1 := (frames_take qs k q HQ.out.1).1
    rw [HS.out.2.1, hD1, hD3, ← List.append_assoc, ← e1, ← frames_split]
  rw [hall] at hL0
  rw [← hall] at hL0
  have HD := Lib.hid (And.intro hall (And.intro hD1 (And.intro hD3 hgb)))
  have hqok := HS.out.1 q (List.mem_of_getElem? HQ.out.1)
  have hI0 := TurnI.start (Par.frame_bytes hqok) fr
  have HL0 : Hid (Lies 5 w1.heap.size w2 (.slice (some ⟨gb, 0, none⟩) F.length cb) (D1 ++ (q.frame ++ D3))) := Lib.hid (by rw [← hall]; exact hL0)
  clear hall hD1 hD3 hgb hqok hL0
  go_loopw [13, 14, 15] (fun y i z wr => ∃ (n why : Nat) (G : List Int), y = .int .i64 why ∧ i = .int .i64 n ∧ n ≤ 32 ∧ fr + n ≤ 8 * (24 + P) ∧ TurnI q.frame G fr n why ∧
      Lies 5 w1.heap.size wr (.slice (some ⟨gb, 0, none⟩) F.length cb) (D1 ++ (G ++ D3)) ∧ Kept (fun x => x = gb) w2 wr) (fun _ i _ _ => 32 - (intOf i).toNat)
  case atStart => exact ⟨0, 0, _, rfl, rfl, by omega, by omega, hI0, HL0.out, .refl _ _⟩
  case round =>
    obtain ⟨n, why, G, rfl, rfl, hn, hfn, hI, hL, hkr⟩ := hrel
    clear hI0 HL0
    have hgne : ¬ w.heap.size = gb := by have := HD.out.2.2.2.1; have := HB.out.2; omega
    have hbk3 := blk_kept hkr HB.out.1 hgne
    have t2 : wr.cell? ⟨w.heap.size, 2, none⟩ = some (.int .u32 run) := blk_cell hbk3 2
    have HI := Lib.hid (And.intro hI (And.intro hL (And.intro hkr hgne)))
    clear hI hkr hbk3 hgne hL
    by_cases hc : n < 32 ∧ fr + n < 8 * (24 + P)
    · obtain ⟨hc1, hc2⟩ := hc
      have h1 : (n : Int) < 32 := by omega
      have h2 : (fr : Int) + n < 8 * (24 + (P : Int)) := by omega
      have h3 : (0 : Int) ≤ n := by omega
      by_cases hbit : run / 2 ^ n % 2 = 0
      · have h4 : (((run : Int) / 2 ^ n).tmod 2 == 0) = true := by
          rw [shr_bit, hbit]; rfl
        go_wp2_with fail
        exact ⟨⟨n + 1, why, G, rfl, by congr 1, by omega, by omega, HI.out.1.skip, HI.out.2.1, HI.out.2.2.1⟩, by simp [intOf]; omega⟩
      · have h4 : (((run : Int) / 2 ^ n).tmod 2 == 0) = false := by
          rw [shr_bit, beq_eq_false_iff_ne]; omega
        go_wp2_with fail
        clear t2 h4 h1 h2 x1
        obtain ⟨m, hm⟩ : ∃ m, m = fr + n := ⟨_, rfl⟩
        rw [show (fr : Int) + n = (m : Int) by omega]
        have hGl : G.length = 24 + P := by rw [HI.out.1.len, q.frame_len, HQ.out.2.2.1]
        have hD1l : D1.length = E := by rw [HD.out.2.1, HQ.out.2.1]; rfl
        obtain ⟨d, hd⟩ : ∃ d, d = m / 8 := ⟨_, rfl⟩
        obtain ⟨r, hr8⟩ : ∃ r, r = m % 8 := ⟨_, rfl⟩
        obtain ⟨J, hJ⟩ : ∃ J, J = E + d := ⟨_, rfl⟩
        have hJF : J < F.length := by have := HQ.out.2.2.2.1; omega
        obtain ⟨x, hx⟩ : ∃ x : Nat, x = (G.getD d 0).toNat := ⟨_, rfl⟩
        have hx0 := getD_byte HI.out.1.byt d
        have hx8 : x < 256 := by omega
        have hr2 : 2 ^ r < 256 := Nat.lt_of_lt_of_le (Nat.pow_lt_pow_right (by decide) (show r < 8 by omega)) (by decide)
        have hcell : wr.cell? ⟨gb, J, none⟩ = some (.int .u8 x) := by
          have hdG : d < G.length := by omega
          have := HI.out.2.1.at_ (E + d) (by rw [List.length_append, List.length_append, hD1l]; omega)
          rw [← hD1l, get_mid _ _ _ _ hdG, hD1l, ← hJ, show G.getD d 0 = (x : Int) by omega] at this
          have hadd : (⟨gb, 0, none⟩ : Addr).add J = ⟨gb, J, none⟩ := by unfold Addr.add; split <;> simp_all
          rw [hadd] at this
          exact this
        have hfz := HI.out.2.1.frozen J
        have q1 : (m : Int).tdiv 8 = d := by rw [Int.tdiv_eq_ediv_of_nonneg (by omega)]; omega
        have q2 : (m : Int).tmod 8 = r := by rw [Int.tmod_eq_emod_of_nonneg (by omega)]; omega
        have q3 : (E : Int) + d = J := by omega
        have q4 : (J : Int) < F.length := by omega
        have q5 : (0 : Int) ≤ r := by omega
        have q6 : (0 : Int) ≤ J := by omega
        have hpc : ((2 ^ r : Nat) : Int) = (2 : Int) ^ r := by simp
        have hX : bits .xor .u8 (x : Int) ((2 : Int) ^ r) = ((x ^^^ 2 ^ r : Nat) : Int) := by rw [← hpc]; exact xor8 x (2 ^ r) hx8 hr2
        have hWr : IntKind.u8.wrap ((2 : Int) ^ r) = (2 : Int) ^ r := by rw [← hpc]; exact IntWalk.u8_in _ ⟨Int.natCast_nonneg _, by omega⟩
        have q7 : (r : Int) ≤ 7 := by omega
        have q8 : IntKind.i64.wrap (d : Int) = d := IntWalk.i64_in _ (by omega)
        have q9 : IntKind.i64.wrap (J : Int) = J := IntWalk.i64_in _ (by omega)
        have HM := Lib.hid (And.intro hm (And.intro hd (And.intro hr8 (And.intro hJ (And.intro hx (And.intro hGl hD1l))))))
        have q0 : (0 : Int) ≤ m := by omega
        clear hm hd hr8 hJ hx hGl hD1l hJF hx0
        clear hpc
        go_still_tail 16, (by kernel_rfl)
        change wpList _ _ _ _ _ wr.drew
        have HE : Hid (∀ W', W' = wr.drew.setCell ⟨gb, J, none⟩ (.int .u8 ((x ^^^ 2 ^ r : Nat) : Int)) →
            Lies 5 w1.heap.size W' (.slice (some ⟨gb, 0, none⟩) F.length cb) (D1 ++ (flip G m ++ D3)) ∧ Kept (fun x => x = gb) w2 W') := Lib.hid (by
          rintro W' rfl
          obtain ⟨m1, m2, m3, m4, m5, m6, m7⟩ := HM.out
          have hdG : d < G.length := by rw [m6]; omega
          have hkd : Kept (fun x => x = gb) w2 wr.drew := HI.out.2.2.1.trans (Kept.drew (fun x => x = gb) wr) (fun _ _ e => e) (fun _ _ e => e)
          have hld : Lies 5 w1.heap.size wr.drew (.slice (some ⟨gb, 0, none⟩) F.length cb) (D1 ++ (G ++ D3)) := HI.out.2.1.kept (Kept.drew (fun _ => False) wr) (fun _ _ => id)
          refine ⟨?_, hkd.trans (Kept.setCell (S := fun x => x = gb) _ _ _ rfl) (fun _ _ e => e) (fun _ _ e => e)⟩
          have := hld.set (E + d) ((x ^^^ 2 ^ r : Nat) : Int) (by rw [List.length_append, List.length_append, m7]; omega)
          rw [← m7, set_mid _ _ _ _ _ hdG, m7, ← m4] at this
          have hfl : flip G m = G.set d ((x ^^^ 2 ^ r : Nat) : Int) := by
            unfold flip
            rw [← m2, ← m3, ← m5]
          rw [hfl]
          exact this)
        have HT : Hid (TurnI q.frame (flip G m) fr (n + 1) (if m < 192 then 24 else if why = 0 then 25 else why)) := Lib.hid (by
          have := HI.out.1.turn (by rw [q.frame_len, ← HQ.out.2.2.1]; omega)
          rw [← HM.out.1] at this
          exact this)
        have z1 : wr.drew.cell? ⟨gb, J, none⟩ = some (.int .u8 x) := hcell
        have z2 : wr.drew.frozen? ⟨gb, J, none⟩ = false := hfz
        obtain ⟨V, hV⟩ : ∃ V, V = wr.drew := ⟨_, rfl⟩
        rw [← hV] at HE z1 z2 ⊢
        clear hV hcell hfz hX hWr q1 q2 q3 q8 q9 hx8 hr2
        by_cases m192 : m < 192
        · have u1 : (m : Int) < 192 := by omega
          have HT2 := HT.out
          rw [if_pos m192] at HT2
          have HT3 := Lib.hid HT2
          clear HT2 HT m192
          go_wp2_with fail
          exact ⟨⟨n + 1, 24, _, rfl, by congr 1, by omega, by omega, HT3.out, (HE.out _ rfl).1, (HE.out _ rfl).2⟩, by simp [intOf]; omega⟩
        · have u1 : ¬ (m : Int) < 192 := by omega
          have HT2 := HT.out
          rw [if_neg m192] at HT2
          clear HT m192
          by_cases hw0 : why = 0
          · have u2 : ((why : Int) == 0) = true := by rw [beq_iff_eq]; omega
            rw [if_pos hw0] at HT2
            have HT3 := Lib.hid HT2
            clear HT2 hw0
            go_wp2_with fail
            exact ⟨⟨n + 1, 25, _, rfl, by congr 1, by omega, by omega, HT3.out, (HE.out _ rfl).1, (HE.out _ rfl).2⟩, by simp [intOf]; omega⟩
          · have u2 : ((why : Int) == 0) = false := by rw [beq_eq_false_iff_ne]; omega
            rw [if_neg hw0] at HT2
            have HT3 := Lib.hid HT2
            clear HT2 hw0
            go_wp2_with fail
            exact ⟨⟨n + 1, why, _, rfl, by congr 1, by omega, by omega, HT3.out, (HE.out _ rfl).1, (HE.out _ rfl).2⟩, by simp [intOf]; omega⟩
    · have hL := HI.out.2.1
      have hkr := HI.out.2.2.1
      have hD := HD.out
      have hrb := hL.reads
      obtain ⟨s1, s2⟩ := scan_turned qs HS.out.1 k q HQ.out.1 G fr n why hn HI.out.1
      rw [← HD.out.2.1, ← HD.out.2.2.1] at s1 s2
      rw [← HS.out.2.1, ← HS.out.2.2.1] at s1
      rw [← HQ.out.2.1] at s2
      have how : wr.ownsRow w1.heap.size 60 4 (.slice (some ⟨gw, 0, none⟩) W.length cw) W.length (pcells W) :=
        own_kept K2.out.2.2 hkr (fun k' e e2 => (Lies.of_own K2.out.2.1).own_ne K2.out.2.2 (by decide) (e2 ▸ e))
      have hKr : Kept (fun _ => False) w wr := (kt K1.out K2.out.1).trans hkr (fun _ _ e => e) (fun i hi e => by have := HB.out.2; have := hD.2.2.2.1; omega)
      have hRb : Bytes (D1 ++ (G ++ D3)) := by
        rw [HD.out.2.1, HD.out.2.2.1]
        exact (frames_bytes fun q hq => HS.out.1 q (List.mem_of_mem_take hq)).append (HI.out.1.byt.append (frames_bytes fun q hq => HS.out.1 q (List.mem_of_mem_drop hq)))
      have hRl : (D1 ++ (G ++ D3)).length ≤ 4294967296 := by
        have e := congrArg List.length HD.out.1
        rw [List.length_append, List.length_append, HI.out.1.len, ← List.length_append, ← List.length_append, ← HD.out.1]
        omega
      have hwr := own_preads how
      have hwt := hwr.take k (by omega)
      rw [wants_take, ← HS.out.2.2.1] at s2
      obtain ⟨T, hT'⟩ : ∃ T, T = W.take k := ⟨_, rfl⟩
      obtain ⟨R, hR'⟩ : ∃ R, R = D1 ++ (G ++ D3) := ⟨_, rfl⟩
      rw [← hT'] at s2 hwt
      rw [← hR'] at s1 s2 hrb hRb hRl
      have n3 : (k : Int) ≤ cw := by omega
      have n4 : (0 : Int) ≤ n := by omega
      clear hT' hR' hL hD how t2 hkr x1
      have HSC := Lib.hid (And.intro hrb (And.intro hwr (And.intro hwt hKr)))
      clear hrb hwr hwt hKr
      by_cases hw0 : why = 0
      · have u2 : ((why : Int) == 0) = true := by rw [beq_iff_eq]; omega
        have HS1 := Lib.hid (s1 hw0)
        clear s1 s2 hw0
        by_cases hn32 : n < 32
        · have v1 : (n : Int) < 32 := by omega
          have v2 : ¬ (fr : Int) + n < 8 * (24 + (P : Int)) := fun h => hc ⟨hn32, by omega⟩
          clear hc hn32
          go_wp2_with fail
          refine (scanG _ R wr HS1.out hRl hRb HSC.out.1 (by intro A n c h; injection h; omega)).mono ?_
          rintro e w3 ⟨Ax, cx, rfl, hox, hk3⟩
          have K3 := Lib.hid (And.intro hk3 hox)
          clear hk3 hox
          go_wp2_with fail
          refine (same_any _ _ W w3 (own_preads K3.out.2) (HSC.out.2.1.kept K3.out.1)).mono ?_
          rintro e w4 ⟨rfl, d4, hd4⟩
          have K4 : Hid (Kept (fun _ => False) w w4) := Lib.hid (by rw [hd4]; exact kdn (kt HSC.out.2.2.2 K3.out.1) _)
          clear hd4
          go_wp2_with fail
          go_ret
          exact ⟨rfl, K4.out⟩
        · have v1 : ¬ (n : Int) < 32 := by omega
          clear hc hn32
          go_wp2_with fail
          refine (scanG _ R wr HS1.out hRl hRb HSC.out.1 (by intro A n c h; injection h; omega)).mono ?_
          rintro e w3 ⟨Ax, cx, rfl, hox, hk3⟩
          have K3 := Lib.hid (And.intro hk3 hox)
          clear hk3 hox
          go_wp2_with fail
          refine (same_any _ _ W w3 (own_preads K3.out.2) (HSC.out.2.1.kept K3.out.1)).mono ?_
          rintro e w4 ⟨rfl, d4, hd4⟩
          have K4 : Hid (Kept (fun _ => False) w w4) := Lib.hid (by rw [hd4]; exact kdn (kt HSC.out.2.2.2 K3.out.1) _)
          clear hd4
          go_wp2_with fail
          go_ret
          exact ⟨rfl, K4.out⟩
      · have u2 : ((why : Int) == 0) = false := by rw [beq_eq_false_iff_ne]; omega
        have HS1 := Lib.hid (s2 hw0)
        clear s1 s2 hw0
        by_cases hn32 : n < 32
        · have v1 : (n : Int) < 32 := by omega
          have v2 : ¬ (fr : Int) + n < 8 * (24 + (P : Int)) := fun h => hc ⟨hn32, by omega⟩
          clear hc hn32
          go_wp2_with fail
          refine (scanG _ R wr HS1.out hRl hRb HSC.out.1 (by intro A n c h; injection h; omega)).mono ?_
          rintro e w3 ⟨Ax, cx, rfl, hox, hk3⟩
          have K3 := Lib.hid (And.intro hk3 hox)
          clear hk3 hox
          go_wp2_with fail
          refine (same_any _ _ T w3 (own_preads K3.out.2) (HSC.out.2.2.1.kept K3.out.1)).mono ?_
          rintro e w4 ⟨rfl, d4, hd4⟩
          have K4 : Hid (Kept (fun _ => False) w w4) := Lib.hid (by rw [hd4]; exact kdn (kt HSC.out.2.2.2 K3.out.1) _)
          clear hd4
          go_wp2_with fail
          go_ret
          exact ⟨rfl, K4.out⟩
        · have v1 : ¬ (n : Int) < 32 := by omega
          clear hc hn32
          go_wp2_with fail
          refine (scanG _ R wr HS1.out hRl hRb HSC.out.1 (by intro A n c h; injection h; omega)).mono ?_
          rintro e w3 ⟨Ax, cx, rfl, hox, hk3⟩
          have K3 := Lib.hid (And.intro hk3 hox)
          clear hk3 hox
          go_wp2_with fail
          refine (same_any _ _ T w3 (own_preads K3.out.2) (HSC.out.2.2.1.kept K3.out.1)).mono ?_
          rintro e w4 ⟨rfl, d4, hd4⟩
          have K4 : Hid (Kept (fun _ => False) w w4) := Lib.hid (by rw [hd4]; exact kdn (kt HSC.out.2.2.2 K3.out.1) _)
          clear hd4
          go_wp2_with fail
          go_ret
          exact ⟨rfl, K4.out⟩
end Go.Proofs.Ytoolimfdncfgnaa
