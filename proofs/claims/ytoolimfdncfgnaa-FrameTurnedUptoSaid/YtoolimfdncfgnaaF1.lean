/- laid: frames that the program makes, one behind the other. -/
import Derived.Test.YtoolimfdncfgnaaF0
import Derived.Deep.DeepCutAuto
namespace Go.Proofs.Ytoolimfdncfgnaa
open Go.RowKit
set_option linter.unusedVariables false
set_option linter.unusedSimpArgs false

set_option maxHeartbeats 1000000 in
theorem pick_any (c : Int) (n : Int) (w : World) (hc : -9223372036854775808 ≤ c) (hc2 : c ≤ 9223372036854775807) (hn : 0 < n) (hn2 : n ≤ 9223372036854775807) :
    Calls Try.prog 31 #[.int .i64 c, .int .i64 n] w fun e w' => e = .returned (.int .i64 (pickS c n)) ∧ w' = w := by
  have hn0 : ¬ n = 0 := by omega
  have hn1 : (n == 0) = false := by rw [beq_eq_false_iff_ne]; exact hn0
  by_cases h : c < 0
  · have e : pickS c n = (-(c + 1)) % n := by unfold pickS; rw [if_pos h]
    have HE := Lib.hid e
    have h1 : 0 ≤ -(c + 1) := by omega
    have h2 : -(c + 1) ≤ 9223372036854775807 := by omega
    have h3 : IntKind.i64.wrap (c + 1) = c + 1 := IntWalk.i64_in _ (by omega)
    have h4 : IntKind.i64.wrap (-(c + 1)) = -(c + 1) := IntWalk.i64_in _ (by omega)
    have h5 : (-(c + 1)).tmod n = (-(c + 1)) % n := Int.tmod_eq_emod_of_nonneg h1
    clear e
    go_enter Try.func31, Try.ntmps31
    go_wp2_with fail
    go_ret
    exact ⟨ret_eq HE.out.symm, rfl⟩
  · have e : pickS c n = c % n := by unfold pickS; rw [if_neg h]
    have HE := Lib.hid e
    have h1 : 0 ≤ c := by omega
    have h5 : c.tmod n = c % n := Int.tmod_eq_emod_of_nonneg h1
    clear e
    go_enter Try.func31, Try.ntmps31
    go_wp2_with fail
    go_ret
    exact ⟨ret_eq HE.out.symm, rfl⟩

theorem convert_none {P : Program} {src dst e : TypeId} (hs : P.underlying src = some (.slice e)) (he : P.underlying e = some (.int .u8)) (hd : P.underlying dst = some .string) (w : World) (A : Option Addr) (c : Nat) :
    (convert src dst (.slice A 0 c)).run P w = .ok (.string (strOfNums [])) w := by
  cases A with
  | none => exact run_convert_bytes_nil w src e hs he 0 c dst hd
  | some a =>
    rw [run_convert_bytes_string w src dst e _ 0 c hs he hd]
    simp [Conv.bytesToString, loadCells, loadCellsFrom]
    rfl
theorem Reads.string {P : Program} {src dst e : TypeId} (hs : P.underlying src = some (.slice e)) (he : P.underlying e = some (.int .u8)) (hd : P.underlying dst = some .string) {w : World} {v : Value} {l : List Int} (h : Reads w v l) :
    (convert src dst v).run P w = .ok (.string (strOfNums l)) w := by
  rcases Nat.eq_zero_or_pos l.length with h0 | h0
  · obtain rfl : l = [] := List.eq_nil_of_length_eq_zero h0
    obtain ⟨A, c, rfl, -⟩ := h
    exact convert_none hs he hd w A c
  · obtain ⟨b, off, c, rfl, hc, hh⟩ := reads_here h h0
    exact hh.string hs he hd rfl
/-- Parcels that came in. -/
def PsReads (w : World) (v : Value) (qs : List Par) : Prop :=
  ∃ A c, v = .slice A qs.length c ∧ (0 < qs.length → ∃ b off, A = some ⟨b, off, none⟩ ∧ ∀ (i : Nat) q, qs[i]? = some q →
    w.cell? ⟨b, off + i * 3, none⟩ = some (.int .i64 q.k) ∧ w.cell? ⟨b, off + i * 3 + 1, none⟩ = some (.int .u64 q.s) ∧ ∃ P m cp, w.cell? ⟨b, off + i * 3 + 2, none⟩ = some (.slice P m cp) ∧ cp ≤ 9223372036854775807 ∧ m = q.p.length ∧ Reads w (.slice P m cp) q.p)
theorem PsReads.kept {w w' : World} {v : Value} {qs : List Par} (h : PsReads w v qs) (hk : Kept (fun _ => False) w w') : PsReads w' v qs := by
  obtain ⟨A, c, rfl, hc⟩ := h
  refine ⟨A, c, rfl, fun h0 => ?_⟩
  obtain ⟨b, off, rfl, hq⟩ := hc h0
  refine ⟨b, off, rfl, fun i q hi => ?_⟩
  obtain ⟨h1, h2, P, m, cp, h3, h4, h5, h6⟩ := hq i q hi
  exact ⟨cell_kept hk h1, cell_kept hk h2, P, m, cp, cell_kept hk h3, h4, h5, h6.kept hk⟩
def Par.ok1 (q : Par) : Prop := q.ok ∧ -9223372036854775808 ≤ q.k ∧ q.k ≤ 9223372036854775807
theorem Par.makes (q : Par) (h : q.ok) : MakeIs (1 + pickS q.k 9) q.s q.p q.frame 0 := by
  have h1 := pickS_lt q.k 9 (by decide)
  unfold MakeIs
  rw [if_neg (by omega), if_neg (by have := h.2.2; omega)]
  refine ⟨?_, rfl⟩
  rw [← kindOf_eq]
  rfl
theorem frames_take (qs : List Par) (n : Nat) (q : Par) (h : qs[n]? = some q) : frames (qs.take (n + 1)) = frames (qs.take n) ++ q.frame ∧ wants 0 (qs.take (n + 1)) = wants 0 (qs.take n) ++ [⟨kindOf q.k, q.s, (frames (qs.take n)).length + 24, q.p.length⟩] := by
  have e : qs.take (n + 1) = qs.take n ++ [q] := by rw [List.take_add_one, h]; rfl
  rw [e, frames_append, wants_append]
  refine ⟨by simp [frames], by simp [wants]⟩
theorem frames_take_le (qs : List Par) (n : Nat) (q : Par) (h : qs[n]? = some q) : (frames (qs.take n)).length + 24 + q.p.length ≤ (frames qs).length := by
  have h1 := (frames_take qs n q h).1
  have h2 : frames qs = frames (qs.take (n + 1)) ++ frames (qs.drop (n + 1)) := by rw [← frames_append, List.take_append_drop]
  have h3 := congrArg List.length h1
  have h4 := congrArg List.length h2
  rw [List.length_append, Par.frame_len] at h3
  rw [List.length_append] at h4
  omega
/-- What laid leaves: the frames, and the pieces that must be told. -/
def LaidPost (qs : List Par) (w : World) (e : Ending) (w' : World) : Prop :=
  ∃ A c A' c', e = .returned (.tuple #[.slice A (frames qs).length c, .slice A' (wants 0 qs).length c', .bool true]) ∧ w'.ownsRow w.heap.size 5 1 (.slice A (frames qs).length c) (frames qs).length (nums .u8 (frames qs)) ∧
    w'.ownsRow w.heap.size 60 4 (.slice A' (wants 0 qs).length c') (wants 0 qs).length (pcells (wants 0 qs)) ∧ Kept (fun _ => False) w w'

set_option maxHeartbeats 16000000 in
set_option maxRecDepth 100000 in
theorem laid_any (qs : List Par) (v : Value) (w : World) (hok : ∀ q ∈ qs, q.ok1) (hr : PsReads w v qs) (hT : (frames qs).length ≤ 100000000) (hq : qs.length ≤ 10000000) : Calls Try.prog 30 #[v] w (LaidPost qs w) := by
  obtain ⟨i0, hi0, hz0, hz1, hz2⟩ := info_u8
  obtain ⟨i1, hi1, hy0, hy1, hy2⟩ := info_parts Try.info60
  have HR := Lib.hid (And.intro hok hr)
  obtain ⟨A, c, rfl, hc⟩ := hr
  have HC := Lib.hid hc
  clear hok hc
  go_enter Try.func30, Try.ntmps30
  go_wp2_with fail
  go_loopw [5, 6, 7, 8, 9, 10, 11] (fun vb vw i _ _ _ _ wr => ∃ n : Nat, i = .int .i64 n ∧ n ≤ qs.length ∧ wr.ownsRow w.heap.size 5 1 vb (frames (qs.take n)).length (nums .u8 (frames (qs.take n))) ∧ wr.ownsRow w.heap.size 60 4 vw (wants 0 (qs.take n)).length (pcells (wants 0 (qs.take n))) ∧ Kept (fun _ => False) w wr) (fun _ _ i _ _ _ _ _ => qs.length - (intOf i).toNat)
  case atStart => exact ⟨0, rfl, by omega, World.ownsRow_nil _ _ _ _, World.ownsRow_nil _ _ _ _, .refl _ _⟩
  case round =>
    obtain ⟨n, rfl, hn, hob, how, hk⟩ := hrel
    by_cases h : n < qs.length
    · obtain ⟨q, hqn⟩ : ∃ q, qs[n]? = some q := ⟨_, List.getElem?_eq_getElem h⟩
      obtain ⟨b, off, rfl, hcs⟩ := HC.out (by omega)
      obtain ⟨x0, x1, P, m, cp, x2, hcp, rfl, hrp⟩ := hcs n q hqn
      have hok := HR.out.1 q (List.mem_of_getElem? hqn)
      have hle := frames_take_le qs n q hqn
      have hpl := hok.1.2.2
      have hcells : ∀ W, Kept (fun _ => False) w W → W.cell? ⟨b, off + n * 3, none⟩ = some (.int .i64 q.k) ∧ W.cell? ⟨b, off + n * 3 + 1, none⟩ = some (.int .u64 q.s) ∧ W.cell? ⟨b, off + n * 3 + 2, none⟩ = some (.slice P q.p.length cp) := fun W hW => ⟨cell_kept hW x0, cell_kept hW x1, cell_kept hW x2⟩
      obtain ⟨Ab, cb, rfl, hcb, hncb, hAb⟩ := own_at hob
      have hwl : (wants 0 (qs.take n)).length = n := by rw [wants_len, List.length_take]; omega
      have H := Lib.hid (And.intro hok (And.intro hob (And.intro how (And.intro hk (And.intro hqn (And.intro hrp (And.intro hcells hwl)))))))
      obtain ⟨y0, y1, y2⟩ := hcells wr hk
      obtain ⟨L, hL⟩ : ∃ L, L = (frames (qs.take n)).length := ⟨_, rfl⟩
      rw [← hL] at hle hncb ⊢
      have HLe := Lib.hid hL
      have h1 : (n : Int) < qs.length := by omega
      have h2 : (0 : Int) ≤ n := by omega
      have h3 : ¬ (1048576 : Int) < q.p.length := by omega
      have h4 : ¬ (2147483623 : Int) - q.p.length < L := by omega
      clear x0 x1 x2 hrp hok hob how hk hqn hcells hwl hcs hAb hL
      go_wp2_with fail
      refine (pick_any q.k 9 wr H.out.1.2.1 H.out.1.2.2 (by decide) (by decide)).mono ?_
      rintro e w' ⟨rfl, hw'⟩
      have hp := pickS_lt q.k 9 (by decide)
      have hpw : IntKind.i64.wrap (1 + pickS q.k 9) = 1 + pickS q.k 9 := IntWalk.i64_in _ (by omega)
      obtain rfl : wr = w' := hw'.symm
      have HPW := Lib.hid hp
      clear hp
      go_wp2_with fail
      refine (makeG (1 + pickS q.k 9) q.s _ q.p q.frame wr (q.makes H.out.1.1) H.out.1.1.1 (by omega) H.out.1.1.2.1 (H.out.2.2.2.2.2.1.kept H.out.2.2.2.1)).mono ?_
      rintro e w1 ⟨A1, c1, rfl, ho1, hk1⟩
      have hfl : q.frame.length = 24 + q.p.length := q.frame_len
      have ho1' := own_of ho1 rfl hfl
      rw [hfl] at ho1' ⊢
      obtain ⟨_, _, e1, hc1, hn1, hA1⟩ := own_at ho1'
      injection e1 with eA _ ec
      subst eA; subst ec
      obtain ⟨g1, rfl⟩ := hA1 (by omega)
      have hcv1 : ∀ d, (convert 25 9 (.slice P q.p.length cp)).run Try.prog (w1.drewN d) = .ok (.string (strOfNums q.p)) (w1.drewN d) := fun d =>
        ((H.out.2.2.2.2.2.1.kept H.out.2.2.2.1).kept (kdn hk1 d)).string Try.underlying25 Try.underlying5 Try.underlying9
      have hcv2 : ∀ d, (convert 25 9 (.slice (some ⟨g1, 24, none⟩) q.p.length (c1 - 24))).run Try.prog (w1.drewN d) = .ok (.string (strOfNums q.p)) (w1.drewN d) := fun d => by
        refine run_convert_bytes_arg _ 25 5 Try.underlying25 Try.underlying5 g1 24 _ _ q.p rfl (fun i hi => ?_) 9 Try.underlying9
        have hcc := (own_kept ho1 (Kept.drewN (fun _ => False) w1 d) (fun _ _ => id)).cells rfl (24 + i) (.int .u8 (q.p.getD i 0)) (by
          rw [nums_get .u8 _ _ (by rw [hfl]; omega)]
          congr 2
          unfold Par.frame frameB
          rw [getD_app_ge _ _ _ (by rw [head24_len]; omega), head24_len, Nat.add_sub_cancel_left])
        have hadd : (⟨g1, 0, none⟩ : Addr).add (24 + i) = ⟨g1, 24 + i, none⟩ := by unfold Addr.add; split <;> simp_all
        rw [hadd] at hcc
        exact hcc
      have K1 := Lib.hid (And.intro hk1 ho1)
      clear hk1 ho1 ho1' y0 y1 y2
      have j1 : (24 : Int) ≤ c1 := by omega
      go_upto_region 12 with fail
      go_cut [69] (fun s69 wx => s69 = .bool false ∧ ∃ d, wx = w1.drewN d)
      case first =>
        by_cases hc24 : c1 = 24
        · have hp0 : q.p.length = 0 := by omega
          have hpn : q.p = [] := List.eq_nil_of_length_eq_zero hp0
          have hcT : (c1 = 24) = True := eq_true hc24
          have hcv3 : ∀ d, (convert 25 9 (.slice (some ⟨g1, 0, none⟩) q.p.length (c1 - 24))).run Try.prog (w1.drewN d) = .ok (.string (strOfNums q.p)) (w1.drewN d) := fun d => by
            rw [hpn]; exact convert_none Try.underlying25 Try.underlying5 Try.underlying9 _ _ _
          clear hc24
          clear hcv2 hp0 hpn
          go_quiet (fail)
          go_wp2_with fail
          go_meet
          exact ⟨rfl, _, rfl⟩
        · go_quiet (fail)
          go_wp2_with fail
          go_meet
          exact ⟨rfl, _, rfl⟩
      case rest =>
        obtain ⟨rfl, nq, hwc⟩ := hcut
        obtain ⟨W2, hW2⟩ : ∃ W2, W2 = wc := ⟨_, rfl⟩
        have hk2 : Kept (fun _ => False) w1 W2 := by rw [hW2, hwc]; exact .drewN _ _ _
        obtain ⟨y0, y1, y2⟩ := H.out.2.2.2.2.2.2.1 W2 (kt H.out.2.2.2.1 (kt K1.out.1 hk2))
        have how := own_kept H.out.2.2.1 (kt K1.out.1 hk2) (fun _ _ => id)
        rw [H.out.2.2.2.2.2.2.2] at how
        have hbw : w.heap.size ≤ W2.heap.size := Nat.le_trans H.out.2.2.2.1.size (kt K1.out.1 hk2).size
        have K2 := Lib.hid (kt K1.out.1 hk2)
        have KX := Lib.hid hk2
        have p3 : n + 1 ≤ maxLen := by unfold maxLen; omega
        have p4 : (n + 1) * 32 ≤ 140737488355328 := by omega
        have hke : (kindOf q.k : Int) = 1 + pickS q.k 9 := kindOf_eq q.k
        have HKE := Lib.hid hke
        rw [← hW2]
        clear hW2 hk2 hcv1 hcv2 hke hwc
        go_wp2_with (at_builtin; refine wpList_append_paint rfl _ _ 47 rfl w.heap.size 60 i1 (.agg #[.int .i64 0, .int .u64 0, .int .i64 0, .int .i64 0]) 4 32 Try.underlying47 hi1 hy0 hy1 hy2 rfl (by decide) _ n _ (Pc.cells ⟨kindOf q.k, q.s, L + 24, q.p.length⟩) _ 1 1 (by rfl) (by rfl) (by simp [Pc.cells, kindOf_eq]) (by rfl) (by decide) (by intro u hu; simp [Pc.cells] at hu; rcases hu with rfl | rfl | rfl | rfl <;> rfl) how p3 p4 hbw ?_)
        rintro v3 w3 ho3 at3
        have hbl : wr.ownsRow w.heap.size 5 1 (.slice Ab L cb) (frames (qs.take n)).length (nums .u8 (frames (qs.take n))) := by rw [HLe.out]; exact H.out.2.1
        have hb3 := own_kept (own_kept hbl K2.out (fun _ _ => id)) at3.kept (fun k hk e => own_apart how (own_kept hbl K2.out (fun _ _ => id)) (by decide) e hk)
        have hfl : q.frame.length = 24 + q.p.length := q.frame_len
        have hx2 := own_kept K1.out.2 KX.out (fun _ _ => id)
        have hx3 := own_kept hx2 at3.kept (fun k hk e => own_apart how hx2 (by decide) e hk)
        have hrx : Reads w3 (.slice (some ⟨g1, 0, none⟩) (24 + q.p.length) c1) q.frame := by
          have := (Lies.of_own hx3).reads
          rwa [hfl] at this
        have h3s : w.heap.size ≤ w3.heap.size := Nat.le_trans hbw at3.kept.size
        have q2 : (frames (qs.take n)).length + q.frame.length ≤ maxLen := by rw [← HLe.out, hfl]; unfold maxLen; omega
        have q3 : ((frames (qs.take n)).length + q.frame.length) * 1 ≤ 140737488355328 := by rw [← HLe.out, hfl]; omega
        have HW3 := Lib.hid (And.intro ho3 (And.intro at3 (And.intro how hb3)))
        clear ho3 at3 how hx2 hx3 hbl hfl
        go_wp2_with (at_builtin; refine wpList_append_reads rfl _ _ 25 rfl w.heap.size 5 i0 (.int .u8 0) 1 Try.underlying25 hi0 hz0 hz1 hz2 rfl (.slice Ab L cb) (.slice (some ⟨g1, 0, none⟩) (24 + q.p.length) c1) (frames (qs.take n)) q.frame (by rfl) (by rfl) hrx hb3 q2 q3 h3s ?_)
        rintro v4 w4 st4
        have hft := frames_take qs n q H.out.2.2.2.2.1
        have HE : Hid (w4.ownsRow w.heap.size 5 1 v4 (frames (qs.take (n + 1))).length (nums .u8 (frames (qs.take (n + 1)))) ∧ w4.ownsRow w.heap.size 60 4 v3 (wants 0 (qs.take (n + 1))).length (pcells (wants 0 (qs.take (n + 1)))) ∧ Kept (fun _ => False) w w4) := by
          refine Lib.hid ⟨by rw [hft.1]; exact st4.own, ?_, ?_⟩
          · have := own_kept HW3.out.1 st4.kept (fun k hk e => own_apart HW3.out.1 HW3.out.2.2.2 (by decide) hk e)
            rw [hft.2]
            refine own_of this ?_ ?_
            · rw [pcells_append, ← HLe.out]
              simp [pcells]
            · rw [List.length_append, H.out.2.2.2.2.2.2.2]; rfl
          · refine ((H.out.2.2.2.1.trans K2.out (U := fun _ => False) (fun _ _ e => e) (fun _ _ e => e)).trans HW3.out.2.1.kept (U := fun _ => False) (fun _ _ e => e) (fun k hk e => ?_)).trans st4.kept (fun _ _ e => e) (fun k hk e => ?_)
            · have := (HW3.out.2.2.1.lt k e).1; omega
            · have := (HW3.out.2.2.2.lt k e).1; omega
        clear hft hrx hb3 q2 q3 st4 HW3
        go_wp2_with fail
        exact ⟨⟨n + 1, by congr 1, by omega, HE.out.1, HE.out.2.1, HE.out.2.2⟩, by simp [intOf]; omega⟩
    · obtain rfl : n = qs.length := by omega
      rw [List.take_length] at hob how
      obtain ⟨A5, c5, rfl, _, _, _⟩ := own_at hob
      obtain ⟨A6, c6, rfl, _, _, _⟩ := own_at how
      have HE := Lib.hid (And.intro hob (And.intro how hk))
      clear hob how hk
      go_wp2_with fail
      go_ret3
      exact ⟨_, _, _, _, rfl, HE.out.1, HE.out.2.1, HE.out.2.2⟩
end Go.Proofs.Ytoolimfdncfgnaa
