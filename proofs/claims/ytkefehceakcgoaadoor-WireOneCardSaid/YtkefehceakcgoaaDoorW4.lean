/- An ask's read; the bytes that a writer lays down (the walks). -/
import Derived.Test.YtkefehceakcgoaaDoorW3
namespace Go.Proofs.YtkefehceakcgoaaDoor
open Go.RowKit
set_option linter.unusedVariables false
set_option linter.unusedSimpArgs false

theorem results_tmp4 {fn : Func} {t u v x : Tmp} (h : fn.results = #[.tmp t, .tmp u, .tmp v, .tmp x]) (tmps : Array Value) (P : Program) (w : World) :
    (results fn tmps).run P w = .ok (.tuple #[tmps.getD t undef, tmps.getD u undef, tmps.getD v undef, tmps.getD x undef]) w := by
  simp [results, h]
theorem ReadPost.bad {B r n : Nat} {v : Value} {l : List Int} {q : Ask} {w w1 w' : World} {a no : Int} {err : Value} (h : readR l n q = .err a no) (hk : Kept (fun _ => False) w w1) (he : ErrPost a no w1 err w') :
    ReadPost B r n v l q w (.returned (.tuple #[.int .u64 0, .int .i64 0, .string ⟨#[]⟩, err])) w' := by
  unfold ReadPost
  rw [h]
  obtain ⟨g, e1, e2, e3, e4⟩ := he
  exact ⟨err, rfl, g, e1, Nat.le_trans hk.size e2, e3, hk.trans e4 (fun _ _ e => e) (fun _ _ e => e)⟩
theorem ErrPost.at_new {a no : Int} (w : World) : ErrPost a no w (.iface 94 (.pointer (some ⟨w.heap.size, 0, none⟩))) (w.alloc (.cells #[.int .i64 a, .int .i64 no] 96)) := ErrPost.new (.refl _ _)
set_option maxHeartbeats 4000000 in
set_option maxRecDepth 100000 in
theorem read_any (B r n : Nat) (v : Value) (l : List Int) (q : Ask) (w : World) (hq : q.ok) (h : RdAt B w r v l n) (hn : n ≤ l.length) (hl : l.length ≤ 140737488355328) (hb : Bytes l) (hU : Lib.Utf8Tabs 1 2 w) :
    Calls Tryd.prog 21 #[.agg q.cells.toArray, .pointer (some ⟨r, 0, none⟩)] w (ReadPost B r n v l q w) := by
  have hp3 := pickN_lt q.k 3 (by decide)
  have hk1 : Kept (fun _ => False) w (w.alloc (.cells q.cells.toArray 47)) := .alloc _ _ _
  obtain ⟨w1, hw1⟩ : ∃ w1, w1 = w.alloc (.cells q.cells.toArray 47) := ⟨_, rfl⟩
  have hb1 : w1.heap[w.heap.size]? = some (.cells q.cells.toArray 47 (0, 0)) := by rw [hw1]; exact heap_alloc_new w _
  have c0 : w1.cell? ⟨w.heap.size, 0, none⟩ = some (.int .i64 q.k) := (blk_cell hb1 0).trans rfl
  have c1 : w1.cell? ⟨w.heap.size, 1, none⟩ = some (.int .i64 q.n) := (blk_cell hb1 1).trans rfl
  rw [← hw1] at hk1
  have hw2 := hw1.symm
  clear hw1
  have h1 := h.kept hk1 (by simp) (by simp)
  have hU1 := Utf8Tabs.kept hU hk1 (by simp) (by simp)
  have hfin : ∀ w2 u i s m, readR l n q = .ok u i s m → RdAt B w2 r v l m → Kept (fun i => i = r) w1 w2 → ReadPost B r n v l q w (.returned (.tuple #[.int .u64 u, .int .i64 i, .string (strOfNums s), .nilIface])) w2 := fun w2 u i s m he hr2 hk2 => by
    unfold ReadPost
    rw [he]
    exact ⟨rfl, hr2, hk1.trans hk2 (fun _ _ e => e.elim) (fun _ _ e => e)⟩
  have HC := Lib.hid hfin
  have HX := Lib.hid (And.intro hq (And.intro h1 (And.intro hk1 hU1)))
  clear hfin h1 hk1 hU1 hU h
  by_cases hk0 : pickN q.k 3 = 0
  · have hrr : readR l n q = (match numR (l.drop n) 0 0 with | .ok x k => .ok x 0 [] (n + k) | .form => .err n 12 | .fin => .err l.length 11) := by unfold readR; rw [if_pos hk0]; rfl
    have HR := Lib.hid hrr
    have HKK := Lib.hid hk0
    clear hrr hk0 hp3
    go_enter Tryd.func21, Tryd.ntmps21
    go_wp2_with fail
    refine (pick_any q.k 3 w1 (by decide) (by decide) HX.out.1.k0 HX.out.1.k1).mono ?_
    rintro e w' ⟨rfl, hw'⟩
    obtain rfl : w1 = w' := hw'.symm
    clear hw'
    rw [HKK.out]
    go_wp2_with fail
    refine (get_any B r n v l w1 HX.out.2.1 hn hl hb).mono ?_
    intro e w2 hg
    unfold GetPost at hg
    rcases hnr : numR (l.drop n) 0 0 with ⟨x, k⟩ | _ | _
    · rw [hnr] at hg
      obtain ⟨rfl, hr2, hk2⟩ := hg
      have hR := HR.out
      rw [hnr] at hR
      have HE := Lib.hid (HC.out w2 _ _ _ _ hR hr2 hk2)
      clear hr2 hk2 hR hnr
      go_wp2_with fail
      (try simp only [Exit.inBlock, Exit.then])
      refine bodyPost_ret (results_tmp4 rfl _ _ _) rfl ?_
      exact HE.out
    · rw [hnr] at hg
      obtain ⟨rfl, rfl⟩ := hg
      have hR := HR.out
      rw [hnr] at hR
      have HE := Lib.hid (ReadPost.bad (B := B) (r := r) (v := v) hR HX.out.2.2.1 (.at_new w1))
      clear hR hnr
      go_wp2_with fail
      (try simp only [Exit.inBlock, Exit.then])
      refine bodyPost_ret (results_tmp4 rfl _ _ _) rfl ?_
      exact HE.out
    · rw [hnr] at hg
      obtain ⟨rfl, rfl⟩ := hg
      have hR := HR.out
      rw [hnr] at hR
      have HE := Lib.hid (ReadPost.bad (B := B) (r := r) (v := v) hR HX.out.2.2.1 (.at_new w1))
      clear hR hnr
      go_wp2_with fail
      (try simp only [Exit.inBlock, Exit.then])
      refine bodyPost_ret (results_tmp4 rfl _ _ _) rfl ?_
      exact HE.out
  · by_cases hk1' : pickN q.k 3 = 1
    · have hrr : readR l n q = (match numR (l.drop n) 0 0 with | .ok x k => .ok 0 (zag x) [] (n + k) | .form => .err n 12 | .fin => .err l.length 11) := by unfold readR; rw [if_neg hk0, if_pos hk1']; rfl
      have HR := Lib.hid hrr
      have HKK := Lib.hid hk1'
      clear hrr hk0 hp3 hk1'
      go_enter Tryd.func21, Tryd.ntmps21
      go_wp2_with fail
      refine (pick_any q.k 3 w1 (by decide) (by decide) HX.out.1.k0 HX.out.1.k1).mono ?_
      rintro e w' ⟨rfl, hw'⟩
      obtain rfl : w1 = w' := hw'.symm
      clear hw'
      rw [HKK.out]
      go_wp2_with fail
      refine (getInt_any B r n v l w1 HX.out.2.1 hn hl hb).mono ?_
      intro e w2 hg
      unfold GetIntPost at hg
      rcases hnr : numR (l.drop n) 0 0 with ⟨x, k⟩ | _ | _
      · rw [hnr] at hg
        obtain ⟨rfl, hr2, hk2⟩ := hg
        have hR := HR.out
        rw [hnr] at hR
        have HE := Lib.hid (HC.out w2 _ _ _ _ hR hr2 hk2)
        clear hr2 hk2 hR hnr
        go_wp2_with fail
        (try simp only [Exit.inBlock, Exit.then])
        refine bodyPost_ret (results_tmp4 rfl _ _ _) rfl ?_
        exact HE.out
      · rw [hnr] at hg
        obtain ⟨rfl, rfl⟩ := hg
        have hR := HR.out
        rw [hnr] at hR
        have HE := Lib.hid (ReadPost.bad (B := B) (r := r) (v := v) hR HX.out.2.2.1 (.at_new w1))
        clear hR hnr
        go_wp2_with fail
        (try simp only [Exit.inBlock, Exit.then])
        refine bodyPost_ret (results_tmp4 rfl _ _ _) rfl ?_
        exact HE.out
      · rw [hnr] at hg
        obtain ⟨rfl, rfl⟩ := hg
        have hR := HR.out
        rw [hnr] at hR
        have HE := Lib.hid (ReadPost.bad (B := B) (r := r) (v := v) hR HX.out.2.2.1 (.at_new w1))
        clear hR hnr
        go_wp2_with fail
        (try simp only [Exit.inBlock, Exit.then])
        refine bodyPost_ret (results_tmp4 rfl _ _ _) rfl ?_
        exact HE.out
    · have hrr : readR l n q = (match textR l n q.n with | .ok s m => .ok 0 0 s m | .err a no => .err a no) := by unfold readR; rw [if_neg hk0, if_neg hk1']; rfl
      have hk2' : pickN q.k 3 = 2 := by omega
      have HR := Lib.hid hrr
      have HKK := Lib.hid hk2'
      have hq0 := hq.n0
      have hq1 := hq.n1
      clear hrr hk0 hp3 hk1' hk2'
      go_enter Tryd.func21, Tryd.ntmps21
      go_wp2_with fail
      refine (pick_any q.k 3 w1 (by decide) (by decide) HX.out.1.k0 HX.out.1.k1).mono ?_
      rintro e w' ⟨rfl, hw'⟩
      obtain rfl : w1 = w' := hw'.symm
      clear hw'
      rw [HKK.out]
      go_wp2_with fail
      refine (getText_any B r n v l q.n w1 HX.out.2.1 hn hl hb (by omega) (by omega) HX.out.2.2.2).mono ?_
      intro e w2 hg
      unfold TextPost at hg
      rcases hnr : textR l n q.n with ⟨s, m⟩ | ⟨a, no⟩
      · rw [hnr] at hg
        obtain ⟨rfl, hr2, hk2⟩ := hg
        have hR := HR.out
        rw [hnr] at hR
        have HE := Lib.hid (HC.out w2 _ _ _ _ hR hr2 hk2)
        clear hr2 hk2 hR hnr
        go_wp2_with fail
        (try simp only [Exit.inBlock, Exit.then])
        refine bodyPost_ret (results_tmp4 rfl _ _ _) rfl ?_
        exact HE.out
      · rw [hnr] at hg
        obtain ⟨err, rfl, hg⟩ := hg
        have hR := HR.out
        rw [hnr] at hR
        have HE := Lib.hid (ReadPost.bad (B := B) (r := r) (v := v) hR HX.out.2.2.1 hg)
        clear hR hnr hg
        go_wp2_with fail
        (try simp only [Exit.inBlock, Exit.then])
        refine bodyPost_ret (results_tmp4 rfl _ _ _) rfl ?_
        exact HE.out

set_option maxHeartbeats 1000000 in
theorem bytesOf_any (kind u : Nat) (i : Int) (s : List Int) (w : World) (hkd : kind < 3) (hu : u < 18446744073709551616) (h0 : -9223372036854775808 ≤ i) (h1 : i < 9223372036854775808) (hs : Bytes s) (hsl : s.length ≤ 140737488351232) :
    Calls Tryd.prog 23 #[.int .i64 kind, .int .u64 u, .int .i64 i, .string (strOfNums s)] w (BytesOfPost (strOfNums (bytesR kind u i s)) w) := by
  obtain ⟨L, hL⟩ : ∃ L, L = bytesR kind u i s := ⟨_, rfl⟩
  have hLl : L.length ≤ 140737488355328 := by
    rw [hL]
    unfold bytesR
    have hz := zig_range i h0 h1
    split
    · have := venc_len10 hu; omega
    · split
      · have := venc_len10 (show (zig i).toNat < 18446744073709551616 by omega); omega
      · have := venc_len10 (show s.length < 18446744073709551616 by omega); rw [List.length_append]; omega
  have HL := Lib.hid hL
  rw [← hL]
  clear hL
  go_enter Tryd.func23, Tryd.ntmps23
  go_wp2_with fail
  refine (newWriter_any w).mono ?_
  rintro e w1 ⟨rfl, hw1⟩
  have hW1 : WrAt 83 5 w.heap.size w1 w.heap.size (.slice none 0 0) [] := by rw [hw1]; exact .new 83 5 w
  have hk1 : Kept (fun _ => False) w w1 := by rw [hw1]; exact .alloc _ _ _
  clear hw1
  have hX : ∀ v2 w2, WrStep 83 5 w.heap.size w.heap.size (.slice none 0 0) w1 v2 L w2 → WrAt 83 5 w.heap.size w2 w.heap.size v2 L ∧ Kept (fun _ => False) w w2 := fun v2 w2 hst => ⟨hst.at_, hk1.trans hst.kept (fun _ _ e => e) fun i hi e => by
    rcases e with e | e
    · omega
    · cases e⟩
  have HX := Lib.hid hX
  have H1 := Lib.hid hW1
  clear hX hk1 hW1
  rcases (show kind = 0 ∨ kind = 1 ∨ kind = 2 by omega) with rfl | rfl | rfl
  · have ee : L = [] ++ venc u := HL.out
    rw [ee] at HX
    have EE := Lib.hid ee
    clear ee
    go_wp2_with fail
    refine (uint_any w.heap.size w.heap.size (.slice none 0 0) [] u w1 hu H1.out (by decide)).mono ?_
    rintro e w2 ⟨rfl, v2, h2⟩
    obtain ⟨hW2, hk2⟩ := HX.out _ _ h2
    rw [← EE.out] at hW2
    have H2 := Lib.hid hk2
    clear h2 hk2
    go_wp2_with fail
    refine (bytes_any _ _ v2 _ w2 hW2 (by omega)).mono ?_
    rintro e w3 ⟨v3, rfl, hL3, hk3, -⟩
    have hconv := hL3.string (dst := 9) Tryd.underlying35 Tryd.underlying5 Tryd.underlying9
    have H3 := Lib.hid hk3
    clear hk3 hL3 hW2
    go_wp2_with fail
    go_ret2
    exact ⟨rfl, H2.out.trans H3.out (fun _ _ e => e) (fun _ _ e => e)⟩
  · have ee : L = [] ++ venc (zig i).toNat := HL.out
    rw [ee] at HX
    have EE := Lib.hid ee
    clear ee
    go_wp2_with fail
    refine (int_any w.heap.size w.heap.size (.slice none 0 0) [] i w1 h0 h1 H1.out (by decide)).mono ?_
    rintro e w2 ⟨rfl, v2, h2⟩
    obtain ⟨hW2, hk2⟩ := HX.out _ _ h2
    rw [← EE.out] at hW2
    have H2 := Lib.hid hk2
    clear h2 hk2
    go_wp2_with fail
    refine (bytes_any _ _ v2 _ w2 hW2 (by omega)).mono ?_
    rintro e w3 ⟨v3, rfl, hL3, hk3, -⟩
    have hconv := hL3.string (dst := 9) Tryd.underlying35 Tryd.underlying5 Tryd.underlying9
    have H3 := Lib.hid hk3
    clear hk3 hL3 hW2
    go_wp2_with fail
    go_ret2
    exact ⟨rfl, H2.out.trans H3.out (fun _ _ e => e) (fun _ _ e => e)⟩
  · have ee : L = venc s.length ++ s := HL.out
    rw [ee] at HX
    have EE := Lib.hid ee
    clear ee
    go_wp2_with fail
    refine (text_any w.heap.size w.heap.size (.slice none 0 0) [] s (venc s.length) w1 hs H1.out rfl (by simp; omega)).mono ?_
    rintro e w2 ⟨rfl, v2, h2⟩
    obtain ⟨hW2, hk2⟩ := HX.out _ _ h2
    rw [← EE.out] at hW2
    have H2 := Lib.hid hk2
    clear h2 hk2
    go_wp2_with fail
    refine (bytes_any _ _ v2 _ w2 hW2 (by omega)).mono ?_
    rintro e w3 ⟨v3, rfl, hL3, hk3, -⟩
    have hconv := hL3.string (dst := 9) Tryd.underlying35 Tryd.underlying5 Tryd.underlying9
    have H3 := Lib.hid hk3
    clear hk3 hL3 hW2
    go_wp2_with fail
    go_ret2
    exact ⟨rfl, H2.out.trans H3.out (fun _ _ e => e) (fun _ _ e => e)⟩
end Go.Proofs.YtkefehceakcgoaaDoor
