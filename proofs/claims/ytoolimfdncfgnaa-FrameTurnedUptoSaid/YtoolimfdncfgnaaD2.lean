/- The document's Scan. -/
import Derived.Test.YtoolimfdncfgnaaD1
import Derived.Deep.AppendLies
namespace Go.Proofs.Ytoolimfdncfgnaa
open Go.RowKit
set_option linter.unusedVariables false
set_option linter.unusedSimpArgs false

theorem refHead_all (bb off n c : Nat) (l : List Int) (w : World) (hn : l.length = n) (hc : n ≤ c) (hcm : c ≤ 9223372036854775807) (hb : Bytes l) (hh : Here bb off l w) :
    Calls Try.prog 23 #[.slice (some ⟨bb, off, none⟩) n c] w (HeadPost l w) := by
  subst hn
  by_cases h : l.length < 24
  · exact refHead_torn _ c l w h
  · exact refHeadL_any bb off c l w (by omega) hc hcm hb hh

set_option maxHeartbeats 8000000 in
theorem refScan_any (bb off c : Nat) (l : List Int) (w : World) (hl : l.length ≤ 4294967296) (hc : l.length ≤ c) (hcm : c ≤ 9223372036854775807) (hb : Bytes l) (hh : Here bb off l w) :
    Calls Try.prog 25 #[.slice (some ⟨bb, off, none⟩) l.length c] w (ScanPost l w) := by
  obtain ⟨i0, hi, hz0, hz1, hz2⟩ := info_parts Try.info60
  have HH := Lib.hid hh
  clear hh
  go_enter Try.func25, Try.ntmps25
  go_wp2_with fail
  go_loopg [5, 6] (l.length + 1) (fun g v n wr => ScanRel l w v n g wr)
  case atStart => exact ⟨[], 0, rfl, by omega, by omega, by simp, by simp, World.ownsRow_nil _ _ _ _, Kept.refl _ _⟩
  case round =>
    obtain ⟨ps, n, rfl, hn, hg, hps, hS, hown, hk⟩ := hrel
    obtain ⟨g, rfl⟩ : ∃ g, gk = g + 1 := ⟨gk - 1, by omega⟩
    by_cases hlt : n < l.length
    · have hlen : (l.drop n).length = l.length - n := by simp
      have hhd := fun c1 => refHead_all bb (off + n) (l.length - n) c1 (l.drop n) wr hlen
      have hH := (HH.out.kept hk)
      obtain ⟨q, hq⟩ : ∃ q, q = headS (l.drop n) := ⟨_, rfl⟩
      have hcall : Calls Try.prog 23 #[.slice (some ⟨bb, off + n, none⟩) (l.length - n) (c - n)] wr (HeadPost (l.drop n) wr) := hhd (c - n) (by omega) (by omega) (hb.drop n) (by
        intro j hj
        have := hH (n + j) (by omega)
        rw [Nat.add_assoc, this]
        simp [List.getD_eq_getElem?_getD])
      have HC := Lib.hid (And.intro hcall (And.intro hq (And.intro hS (And.intro hown hk))))
      have n1 : (n : Int) < l.length := by omega
      have n2 : (n : Int) ≤ c := by omega
      have n3 : ¬ c = n := by omega
      have hnl : n < 4294967296 := by omega
      clear hcall hq hS hhd hH hlen
      go_wp2_with fail
      refine HC.out.1.mono ?_
      intro e w1 hp
      unfold HeadPost at hp
      rw [← HC.out.2.1] at hp
      obtain ⟨hk1, hp⟩ := hp
      cases q with
      | torn =>
        simp only at hp
        subst hp
        have hE : ∀ W, Kept (fun _ => False) w1 W → ScanPost l w (.returned (.tuple #[u5, .int .i64 n, .int .i64 23])) W := fun W hW => by
          refine scan_end (err := 23) HC.out.2.2.1 ?_ (own_kept (own_kept HC.out.2.2.2.1 hk1 (fun _ _ => id)) hW (fun _ _ => id)) (kt (kt HC.out.2.2.2.2 hk1) hW)
          rw [scanS, if_pos hlt, ← HC.out.2.1]
        have HE := Lib.hid hE
        clear hE
        go_wp2_with fail
        go_ret3
        exact HE.out _ (Kept.alloc _ _ _)
      | bad =>
        simp only at hp
        subst hp
        have hE : ∀ W, Kept (fun _ => False) w1 W → ScanPost l w (.returned (.tuple #[u5, .int .i64 n, .int .i64 24])) W := fun W hW => by
          refine scan_end (err := 24) HC.out.2.2.1 ?_ (own_kept (own_kept HC.out.2.2.2.1 hk1 (fun _ _ => id)) hW (fun _ _ => id)) (kt (kt HC.out.2.2.2.2 hk1) hW)
          rw [scanS, if_pos hlt, ← HC.out.2.1]
        have HE := Lib.hid hE
        clear hE
        go_wp2_with fail
        go_ret3
        exact HE.out _ (Kept.alloc _ _ _)
      | ok k s m u =>
        simp only at hp
        subst hp
        obtain ⟨h24, hm, hk0, hk9⟩ := ok_len HC.out.2.1.symm
        have h24' : n + 24 ≤ l.length := by simp at h24; omega
        by_cases hfit : l.length - (n + 24) < m
        · have hE : ∀ W, Kept (fun _ => False) w1 W → ScanPost l w (.returned (.tuple #[u5, .int .i64 n, .int .i64 23])) W := fun W hW => by
            refine scan_end (err := 23) HC.out.2.2.1 ?_ (own_kept (own_kept HC.out.2.2.2.1 hk1 (fun _ _ => id)) hW (fun _ _ => id)) (kt (kt HC.out.2.2.2.2 hk1) hW)
            rw [scanS, if_pos hlt, ← HC.out.2.1]; simp only; rw [if_pos hfit]
          have HE := Lib.hid hE
          have hfit' : (l.length : Int) - n - 24 < m := by omega
          clear hE hk0 hk9
          go_wp2_with fail
          go_ret3
          exact HE.out _ (Kept.alloc _ _ _)
        · have hfit' : ¬ (l.length : Int) - n - 24 < m := by omega
          have x1 : (n : Int) + 24 + m ≤ c := by omega
          have x2 : (0 : Int) ≤ (n : Int) + 24 := by omega
          have x3 : (n : Int) + 24 ≤ (n : Int) + 24 + m := by omega
          have hsum : ∀ W, Kept (fun _ => False) w1 W → ∀ a, (0 < m → a = off + (n + 24)) → ∀ c1, m ≤ c1 → Calls Try.prog 32 #[.slice (some ⟨bb, a, none⟩) m c1] W (MorePost 0 ((l.drop (n + 24)).take m) W) := fun W hW a ha c1 hc1 => by
            have hlm : ((l.drop (n + 24)).take m).length = m := by simp; omega
            have hhere : Here bb a ((l.drop (n + 24)).take m) W := by
              intro j hj
              rw [hlm] at hj
              rw [ha (by omega)]
              exact ((HH.out.kept HC.out.2.2.2.2).kept (kt hk1 hW)).sub (n + 24) m (by omega) j (by rw [hlm]; exact hj)
            have := refSum_any _ ((l.drop (n + 24)).take m) W ((hb.drop _).take _) (by omega) (hhere.reads (c := c1) (by omega))
            rw [hlm] at this
            exact this
          have HS := Lib.hid hsum
          clear hsum
          have hbk : (w1.alloc (.cells #[.int .i64 k, .int .u64 s, .int .i64 m, .int .u32 u] 43)).heap[w1.heap.size]? = some (.cells #[.int .i64 k, .int .u64 s, .int .i64 m, .int .u32 u] 43 (0, 0)) := heap_alloc_new _ _
          have hkV : Kept (fun _ => False) w1 (w1.alloc (.cells #[.int .i64 k, .int .u64 s, .int .i64 m, .int .u32 u] 43)) := .alloc _ _ _
          have HBK := Lib.hid (And.intro hbk hkV)
          clear hbk hkV
          go_wp2_with fail
          obtain ⟨V, hV⟩ : ∃ V, V = w1.alloc (.cells #[.int .i64 k, .int .u64 s, .int .i64 m, .int .u32 u] 43) := ⟨_, rfl⟩
          have HBV := HBK
          rw [← hV] at HBV
          rw [← hV]
          clear HBK hV
          have hv0 := fun p : Later V => p.cell (show V.cell? ⟨w1.heap.size, 0, none⟩ = some (.int .i64 k) from blk_cell HBV.out.1 0)
          have hv1 := fun p : Later V => p.cell (show V.cell? ⟨w1.heap.size, 1, none⟩ = some (.int .u64 s) from blk_cell HBV.out.1 1)
          have hv2 := fun p : Later V => p.cell (show V.cell? ⟨w1.heap.size, 2, none⟩ = some (.int .i64 m) from blk_cell HBV.out.1 2)
          have hv3 := fun p : Later V => p.cell (show V.cell? ⟨w1.heap.size, 3, none⟩ = some (.int .u32 u) from blk_cell HBV.out.1 3)
          have y1 : IntKind.i64.wrap ((n : Int) + 24 + m) = (n : Int) + 24 + m := IntWalk.i64_in _ (by omega)
          have y2 : (0 : Int) ≤ (n : Int) + 24 + m := by omega
          have y3 : ((n : Int) + 24).toNat = n + 24 := by omega
          have y4 : ((n : Int) + 24 + m).toNat = n + 24 + m := by omega
          have y5 : n + 24 + m - (n + 24) = m := by omega
          by_cases hcap : c = n + 24
          · have hcall : ∀ p : Later V, ∀ c1, m ≤ c1 → Calls Try.prog 32 #[.slice (some ⟨bb, off, none⟩) m c1] p.w' fun e w2 => e = .returned (.int .u32 (sumS ((l.drop (n + 24)).take m))) ∧ ∃ q : Later V, w2 = q.w' := fun p c1 h1 =>
              Calls.later_of (HS.out p.w' (p.old HBV.out.2) off (fun h => by omega) c1 h1)
            have HCALL := Lib.hid hcall
            have HCAP := Lib.hid hcap
            have hm0 : m ≤ 0 := by omega
            clear hcall
            refine wp_region_later (by kernel_rfl) (by kernel_rfl) ?_
            repeat (go_big_quiet_step (exact HCALL.out _ 0 hm0))
            clear hcap hm0
            refine wpQuiet_nil ?_
            intro p
            have hKp : Kept (fun _ => False) w p.w' := kt (kt HC.out.2.2.2.2 hk1) (p.old HBV.out.2)
            have hownp : p.w'.ownsRow w.heap.size 60 4 u5 ps.length (pcells ps) := own_kept (own_kept HC.out.2.2.2.1 hk1 (fun _ _ => id)) (p.old HBV.out.2) (fun _ _ => id)
            have z0 := hv0 p
            have z1 := hv1 p
            have z2 := hv2 p
            have z3 := hv3 p
            clear hv0 hv1 hv2 hv3
            by_cases hsu : sumS ((l.drop (n + 24)).take m) = u
            · have e1 : ((sumS ((l.drop (n + 24)).take m) : Int) == u) = true := by rw [beq_iff_eq]; omega
              have hps2 : ps.length ≤ 4294967296 := by omega
              have hsz := hKp.size
              go_wp2_with (at_builtin; refine wpList_append_own_at _ rfl _ _ 47 rfl w.heap.size 60 i0 (.agg #[.int .i64 0, .int .u64 0, .int .i64 0, .int .i64 0]) 4 32 Try.underlying47 hi hz0 hz1 hz2 rfl (by decide) u5 ps.length (pcells ps) rfl (hownp.alloc _) ⟨p.w'.heap.size, 0, none⟩ 1 1 (Pc.cells ⟨k, s, n + 24, m⟩) rfl ?c1 ?c0 ?c2 ?c3 ?c4 ?c5 ?_)
              case c1 => rfl
              case c0 => exact World.news_of_block (heap_alloc_new _ _)
              case c2 => simp [Pc.cells, Value.oneCell']
              case c3 => simp [maxLen]; omega
              case c4 => omega
              case c5 => simp; omega
              rintro v2 w3 hown3 hgr - -
              have hne : u5.ownBlock ≠ some w1.heap.size := own_ne hownp (blk_kept p.kept HBV.out.1 id) (by decide)
              have g2 := hgr.cell (cell_alloc z2 _) (fun e => hne e.symm)
              have hk3 : Kept (fun _ => False) w w3 := (kt hKp (Kept.alloc _ _ _)).trans (Kept.of_grown (S := fun i => u5.ownBlock = some i) hgr fun i e => e) (fun _ _ e => e) fun i hi e => by have := (hownp.lt i e).1; omega
              have HR : Hid (ScanRel l w v2 (.int .i64 (n + 24 + m : Nat)) g w3) := Lib.hid ⟨ps ++ [⟨k, s, n + 24, m⟩], n + 24 + m, rfl, by omega, by omega, by simp; omega, by
                rw [HC.out.2.2.1, scanS, if_pos hlt, ← HC.out.2.1]
                simp only
                rw [if_neg hfit, if_pos hsu]
                simp, own_of hown3 (by rw [pcells_append]; rfl) (by simp), hk3⟩
              clear hown3 hgr hk3 hownp hKp
              go_wp2_with fail
              go_roundg g
              case measure => omega
              case rel => exact scanRel_at HR.out (by omega)
            · have e1 : ((sumS ((l.drop (n + 24)).take m) : Int) == u) = false := by rw [beq_eq_false_iff_ne]; omega
              have hE : ∀ W, Kept (fun _ => False) p.w' W → ScanPost l w (.returned (.tuple #[u5, .int .i64 n, .int .i64 25])) W := fun W hW => by
                refine scan_end (err := 25) HC.out.2.2.1 ?_ (own_kept hownp hW (fun _ _ => id)) (kt hKp hW)
                rw [scanS, if_pos hlt, ← HC.out.2.1]; simp only; rw [if_neg hfit, if_neg hsu]
              have HE := Lib.hid hE
              clear hE hownp hKp
              go_wp2_with fail
              go_ret3
              exact HE.out _ (Kept.refl _ _)
          · have hcall : ∀ p : Later V, Calls Try.prog 32 #[.slice (some ⟨bb, off + (n + 24), none⟩) m (c - (n + 24))] p.w' fun e w2 => e = .returned (.int .u32 (sumS ((l.drop (n + 24)).take m))) ∧ ∃ q : Later V, w2 = q.w' := fun p =>
              Calls.later_of (HS.out p.w' (p.old HBV.out.2) _ (fun _ => rfl) _ (by omega))
            have HCALL := Lib.hid hcall
            clear hcall
            refine wp_region_later (by kernel_rfl) (by kernel_rfl) ?_
            repeat (go_big_quiet_step (exact HCALL.out _))
            refine wpQuiet_nil ?_
            intro p
            have hKp : Kept (fun _ => False) w p.w' := kt (kt HC.out.2.2.2.2 hk1) (p.old HBV.out.2)
            have hownp : p.w'.ownsRow w.heap.size 60 4 u5 ps.length (pcells ps) := own_kept (own_kept HC.out.2.2.2.1 hk1 (fun _ _ => id)) (p.old HBV.out.2) (fun _ _ => id)
            have z0 := hv0 p
            have z1 := hv1 p
            have z2 := hv2 p
            have z3 := hv3 p
            clear hv0 hv1 hv2 hv3
            by_cases hsu : sumS ((l.drop (n + 24)).take m) = u
            · have e1 : ((sumS ((l.drop (n + 24)).take m) : Int) == u) = true := by rw [beq_iff_eq]; omega
              have hps2 : ps.length ≤ 4294967296 := by omega
              have hsz := hKp.size
              go_wp2_with (at_builtin; refine wpList_append_own_at _ rfl _ _ 47 rfl w.heap.size 60 i0 (.agg #[.int .i64 0, .int .u64 0, .int .i64 0, .int .i64 0]) 4 32 Try.underlying47 hi hz0 hz1 hz2 rfl (by decide) u5 ps.length (pcells ps) rfl (hownp.alloc _) ⟨p.w'.heap.size, 0, none⟩ 1 1 (Pc.cells ⟨k, s, n + 24, m⟩) rfl ?c1 ?c0 ?c2 ?c3 ?c4 ?c5 ?_)
              case c1 => rfl
              case c0 => exact World.news_of_block (heap_alloc_new _ _)
              case c2 => simp [Pc.cells, Value.oneCell']
              case c3 => simp [maxLen]; omega
              case c4 => omega
              case c5 => simp; omega
              rintro v2 w3 hown3 hgr - -
              have hne : u5.ownBlock ≠ some w1.heap.size := own_ne hownp (blk_kept p.kept HBV.out.1 id) (by decide)
              have g2 := hgr.cell (cell_alloc z2 _) (fun e => hne e.symm)
              have hk3 : Kept (fun _ => False) w w3 := (kt hKp (Kept.alloc _ _ _)).trans (Kept.of_grown (S := fun i => u5.ownBlock = some i) hgr fun i e => e) (fun _ _ e => e) fun i hi e => by have := (hownp.lt i e).1; omega
              have HR : Hid (ScanRel l w v2 (.int .i64 (n + 24 + m : Nat)) g w3) := Lib.hid ⟨ps ++ [⟨k, s, n + 24, m⟩], n + 24 + m, rfl, by omega, by omega, by simp; omega, by
                rw [HC.out.2.2.1, scanS, if_pos hlt, ← HC.out.2.1]
                simp only
                rw [if_neg hfit, if_pos hsu]
                simp, own_of hown3 (by rw [pcells_append]; rfl) (by simp), hk3⟩
              clear hown3 hgr hk3 hownp hKp
              go_wp2_with fail
              go_roundg g
              case measure => omega
              case rel => exact scanRel_at HR.out (by omega)
            · have e1 : ((sumS ((l.drop (n + 24)).take m) : Int) == u) = false := by rw [beq_eq_false_iff_ne]; omega
              have hE : ∀ W, Kept (fun _ => False) p.w' W → ScanPost l w (.returned (.tuple #[u5, .int .i64 n, .int .i64 25])) W := fun W hW => by
                refine scan_end (err := 25) HC.out.2.2.1 ?_ (own_kept hownp hW (fun _ _ => id)) (kt hKp hW)
                rw [scanS, if_pos hlt, ← HC.out.2.1]; simp only; rw [if_neg hfit, if_neg hsu]
              have HE := Lib.hid hE
              clear hE hownp hKp
              go_wp2_with fail
              go_ret3
              exact HE.out _ (Kept.refl _ _)
    · obtain rfl : n = l.length := by omega
      have hE : ∀ W, Kept (fun _ => False) wr W → ScanPost l w (.returned (.tuple #[u5, .int .i64 l.length, .int .i64 0])) W := fun W hW => by
        refine scan_end (err := 0) hS ?_ (own_kept hown hW (fun _ _ => id)) (kt hk hW)
        rw [scanS, if_neg hlt]
      have HE := Lib.hid hE
      clear hE hS hown hk hps
      go_wp2_with fail
      go_ret3
      exact HE.out _ (Kept.refl _ _)
end Go.Proofs.Ytoolimfdncfgnaa
