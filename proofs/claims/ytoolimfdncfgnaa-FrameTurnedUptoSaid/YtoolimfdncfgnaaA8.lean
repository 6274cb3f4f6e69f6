/- The examples at the head of all statements are shown; FrameNames returns true. -/
import Derived.Test.YtoolimfdncfgnaaA7
import Derived.WalkSpells
import Derived.Lib.SlBytesConst
namespace Go.Proofs.Ytoolimfdncfgnaa
open Go.RowKit
set_option linter.unusedVariables false
set_option linter.unusedSimpArgs false

theorem own_here {w : World} {B E n : Nat} {v : Value} {l : List Int} (h : w.ownsRow B E 1 v l.length (nums .u8 l)) (hl : l.length = n) (hn : 0 < n) :
    ∃ g cap, v = .slice (some ⟨g, 0, none⟩) n cap ∧ n ≤ cap ∧ cap ≤ 9223372036854775807 ∧ B ≤ g ∧ Here g 0 l w := by
  subst hl
  rcases h.2 with ⟨_, h0⟩ | ⟨g, cap, cur, rfl, hb, hh, h1, h2, h3, h4⟩
  · omega
  · refine ⟨g, cap, rfl, h1, by unfold maxLen at h2; exact h2, hb, fun j hj => ?_⟩
    have := h.cells (g := g) rfl j _ (nums_get .u8 l j hj)
    rwa [add_lit'] at this

theorem frame27 : frameB 2 7 [] = [83, 80, 82, 2, 0, 0, 0, 0, 0, 0, 0, 7, 0, 0, 0, 0, 0, 0, 0, 0, 243, 158, 226, 68] := by decide +kernel
theorem scan27 : scanS (frameB 2 7 []) 25 0 = ([⟨2, 7, 24, 0⟩], 24, 0) := by kernel_rfl
theorem sum19 : sumS [49, 50, 51, 52, 53, 54, 55, 56, 57] = 3808858755 := by decide +kernel

theorem own_pieces {w : World} {B : Nat} {v : Value} {ps : List Pc} (h : w.ownsRow B 60 4 v ps.length (pcells ps)) (hn : 0 < ps.length) :
    ∃ g cap, v = .slice (some ⟨g, 0, none⟩) ps.length cap ∧ ps.length ≤ cap ∧ B ≤ g ∧ ∀ j u, (pcells ps)[j]? = some u → w.cell? ⟨g, j, none⟩ = some u := by
  rcases h.2 with ⟨_, h0⟩ | ⟨g, cap, cur, rfl, hb, hh, h1, h2, h3, h4⟩
  · omega
  · refine ⟨g, cap, rfl, h1, hb, fun j u hu => ?_⟩
    have := h.cells (g := g) rfl j u hu
    rwa [add_lit', Nat.zero_add] at this
theorem cell_kept {w w' : World} (hk : Kept (fun _ => False) w w') {a : Addr} {u : Value} (h : w.cell? a = some u) : w'.cell? a = some u :=
  (World.cell?_of_block (hk.block _ (World.block_lt_of_cell? w a h) id)).trans h
def True1 (w : World) (e : Ending) (w' : World) : Prop := e = .returned (.bool true) ∧ Kept (fun _ => False) w w'

set_option maxHeartbeats 4000000 in
theorem shown_any (w : World) : Calls Try.prog 13 #[] w (True1 w) := by
  have kc := fun (w : World) (C : Array Value) (n c : Nat) => Lib.run_convert_bytes_const (P := Try.prog) w 25 5 C n c Try.underlying25 Try.underlying5
  go_enter Try.func13, Try.ntmps13
  go_wp2_with fail
  refine (make_ok 2 7 (.slice none 0 0) [] w (by decide) (by decide) (by decide) (by decide) (by intro x hx; cases hx) ⟨none, 0, rfl, ⟨fun _ => rfl, Nat.le_refl _⟩, fun j u hu => by simp [nums] at hu⟩).mono ?_
  rintro e w1 ⟨v1, rfl, hown1, hk1, -⟩
  have hlen : (frameB 2 7 []).length = 24 := by rw [frame27]; rfl
  have hform := own_here hown1 hlen (by decide)
  obtain ⟨g1, c1, hv1, hc1, hcm1, hg1, hh1⟩ := hform
  rw [hv1]
  have hb1 : Bytes (frameB 2 7 []) := frameB_bytes 7 (by decide) (by intro x hx; cases hx)
  have hscan := scan_any g1 0 c1 (frameB 2 7 []) w1 (by omega) (by omega) hcm1 hb1 hh1
  rw [hlen] at hscan
  have HS := Lib.hid hscan
  clear hscan hh1 hown1 hv1
  go_wp2_with fail
  refine HS.out.mono ?_
  rintro e w2 ⟨v2, rfl, hown2, hk2⟩
  rw [hlen, scan27] at hown2 ⊢
  go_wp2_with fail
  have hr19 : Reads (w2.alloc (.cells #[.int .u8 49, .int .u8 50, .int .u8 51, .int .u8 52, .int .u8 53, .int .u8 54, .int .u8 55, .int .u8 56, .int .u8 57] 5 (9, 10))) (.slice (some ⟨w2.heap.size, 0, none⟩) 9 9) [49, 50, 51, 52, 53, 54, 55, 56, 57] := by
    refine Here.reads (l := [49, 50, 51, 52, 53, 54, 55, 56, 57]) (c := 9) (fun j hj => ?_) (by decide)
    rw [blk_cell (heap_alloc_new w2 _), Nat.zero_add]
    have : j < 9 := hj
    rcases j with _ | _ | _ | _ | _ | _ | _ | _ | _ | j
    all_goals first | rfl | omega
  refine (sum_any _ _ _ (by intro x hx; simp at hx; omega) (by decide) hr19).mono ?_
  rintro e w3 ⟨rfl, hk3⟩
  have hs19 : more 0 [49, 50, 51, 52, 53, 54, 55, 56, 57] = 3808858755 := sum19
  rw [hs19]
  have hk03 : Kept (fun _ => False) w w3 := kt (kt (kt hk1 hk2) (Kept.alloc _ _ _)) hk3
  obtain ⟨g2, c2, hv2, hc2, hg2, hcells⟩ := own_pieces hown2 (by decide)
  rw [hv2]
  have hk23 : Kept (fun _ => False) w2 w3 := kt (Kept.alloc _ _ _) hk3
  have q0 := cell_kept hk23 (hcells 0 _ rfl)
  have q1 := cell_kept hk23 (hcells 1 _ rfl)
  have q2 := cell_kept hk23 (hcells 2 _ rfl)
  have q3 := cell_kept hk23 (hcells 3 _ rfl)
  clear hr19 hk3 hk23 hcells hown2 hk1 hk2 kc HS hv2 hb1 hs19
  go_wp2_with fail
  go_ret
  exact ⟨rfl, hk03⟩

theorem num_any (x : Int) (w : World) : Calls Try.prog 14 #[.int .i64 x] w fun e w' => e = .returned (.int .i64 x) ∧ w' = w := by
  go_enter Try.func14, Try.ntmps14
  go_wp2
  go_ret
  exact ⟨rfl, rfl⟩
theorem names_any (w : World) : Calls Try.prog 3 #[] w (True1 w) := by
  go_enter Try.func3, Try.ntmps3
  go_wp2_with fail
  refine (shown_any w).mono ?_
  rintro e w1 ⟨rfl, hk1⟩
  go_wp2_with (go_at_call 14; refine (num_any _ _).mono ?_; rintro e w' ⟨rfl, rfl⟩)
  go_ret
  exact ⟨rfl, hk1⟩
end Go.Proofs.Ytoolimfdncfgnaa
