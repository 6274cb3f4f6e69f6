/- FrameJoined: frames one behind the other, and any bytes behind. -/
import Derived.Test.YtoolimfdncfgnaaF1
import Derived.Test.YtoolimfdncfgnaaD3
namespace Go.Proofs.Ytoolimfdncfgnaa
open Go.RowKit
set_option linter.unusedVariables false
set_option linter.unusedSimpArgs false

theorem Chain.pos_le {l : List Int} {n e : Nat} {ps : List Pc} (h : Chain l n ps e) : ∀ p ∈ ps, p.pos + p.len ≤ e := by
  induction h with
  | nil n => intro p hp; cases hp
  | cons h hf hs t ih =>
    intro p hp
    have := t.le
    rcases List.mem_cons.1 hp with rfl | hp
    · simp only; omega
    · exact ih p hp
theorem ScanIs.pos_le {l : List Int} {ps : List Pc} {n q : Nat} (h : ScanIs l ps n q) : n ≤ l.length ∧ ∀ p ∈ ps, p.pos + p.len ≤ l.length := by
  obtain ⟨c, e, _⟩ := scan_chain l (l.length + 1) 0 (Nat.zero_le _) (by omega)
  unfold ScanIs at h
  rw [h] at c e
  exact ⟨e, fun p hp => Nat.le_trans (c.pos_le p hp) e⟩
theorem pcells_cons (q : Pc) (qs : List Pc) : pcells (q :: qs) = q.cells ++ pcells qs := by simp [pcells]
theorem pcells_set (xs bs : List Pc) (q : Pc) (v : Nat) : (pcells (xs ++ q :: bs)).set (xs.length * 4 + 2) (.int .i64 v) = pcells (xs ++ ⟨q.kind, q.seq, v, q.len⟩ :: bs) := by
  rw [pcells_append, pcells_append, pcells_cons, pcells_cons, List.set_append_right _ _ (by rw [pcells_len]; omega), pcells_len, Nat.add_sub_cancel_left]
  rfl
theorem take_map_succ (ps : List Pc) (d n : Nat) (q : Pc) (h : ps[n]? = some q) : (ps.take (n + 1)).map (Pc.up d) = (ps.take n).map (Pc.up d) ++ [q.up d] := by
  rw [List.take_add_one, h]; simp
theorem drop_cons (ps : List Pc) (n : Nat) (q : Pc) (h : ps[n]? = some q) : ps.drop n = q :: ps.drop (n + 1) := by
  have hn := (List.getElem?_eq_some_iff.1 h)
  rw [List.drop_eq_getElem_cons hn.1, hn.2]

set_option maxHeartbeats 16000000 in
set_option maxRecDepth 100000 in
theorem joined_any (qs : List Par) (v u : Value) (r : List Int) (w : World) (hok : ∀ q ∈ qs, q.ok1) (hp : PsReads w v qs) (hT : (frames qs).length ≤ 100000000) (hq : qs.length ≤ 10000000)
    (hb : Bytes r) (hl : r.length ≤ 100000000) (hr : Reads w u r) (hcap : ∀ A n c, u = .slice A n c → c ≤ 9223372036854775807) : Calls Try.prog 9 #[v, u] w (True1 w) := by
  obtain ⟨i0, hi0, hz0, hz1, hz2⟩ := info_u8
  obtain ⟨i1, hi1, hy0, hy1, hy2⟩ := info_parts Try.info60
  have hm : maxLen = 9223372036854775807 := rfl
  have HM := Lib.hid hm
  clear hm
  have hqo : ∀ q ∈ qs, q.ok := fun q h => (hok q h).1
  have hFb := frames_bytes hqo
  obtain ⟨ps, at_, er, hsc⟩ := scan_is r
  have hsj := scanIs_joined hqo hsc
  obtain ⟨hat, hpos⟩ := hsc.pos_le
  have hpl := hsc.len
  obtain ⟨F, hF⟩ : ∃ F, F = frames qs := ⟨_, rfl⟩
  obtain ⟨W, hW⟩ : ∃ W, W = wants 0 qs := ⟨_, rfl⟩
  have hWl : W.length = qs.length := by rw [hW, wants_len]
  have HLA := Lib.hid (fun W' h => laid_any qs v W' hok (hp.kept (w := w) (w' := W') h) hT hq)
  obtain ⟨Au, cu, rfl, _⟩ := id hr
  rw [← hF, ← hW] at hsj
  have HS := Lib.hid (And.intro hsc (And.intro hsj (And.intro hr (And.intro hpos (And.intro hF (And.intro hW hWl))))))
  rw [← hF] at hT hFb
  have HCAP := Lib.hid hcap
  clear hok hp hqo hsc hsj hr hpos hF hW hWl hcap
  go_enter Try.func9, Try.ntmps9
  go_wp2_with fail
  refine (shown_any w).mono ?_
  rintro e w1 ⟨rfl, hk1⟩
  have K1 := Lib.hid hk1
  clear hk1
  go_wp2_with fail
  refine (HLA.out w1 K1.out).mono ?_
  rintro e w2 ⟨Ab, cb, Aw, cw, rfl, hob, how, hk2⟩
  rw [← HS.out.2.2.2.2.1] at hob ⊢
  rw [← HS.out.2.2.2.2.2.1] at how ⊢
  have K2 := Lib.hid (And.intro hk2 (And.intro hob how))
  clear hk2 hob how
  have b1 : ¬ (2147483647 : Int) - F.length < r.length := by omega
  go_wp2_with fail
  refine (scanG _ r w2 HS.out.1 (by omega) hb (HS.out.2.2.1.kept (kt K1.out K2.out.1)) HCAP.out).mono ?_
  rintro e w3 ⟨Ax, cx, rfl, hox, hk3⟩
  have K3 := Lib.hid (And.intro hk3 hox)
  clear hk3 hox
  have hob3 := own_kept K2.out.2.1 K3.out.1 (fun _ _ => id)
  have ra1 : Reads (w3.alloc (.cells #[] 5)) (.slice Ab F.length cb) F := (Lies.of_own hob3).reads.kept (Kept.alloc _ _ _)
  have ow1 := own_empty' w3 5
  have q2 : ([] : List Int).length + F.length ≤ maxLen := by have := HM.out; simp; omega
  have q3 : (([] : List Int).length + F.length) * 1 ≤ 140737488355328 := by simp; omega
  have q4 : w3.heap.size ≤ (w3.alloc (.cells #[] 5)).heap.size := by simp
  have q5 : F.length + r.length ≤ maxLen := by have := HM.out; omega
  have q6 : (F.length + r.length) * 1 ≤ 140737488355328 := by omega
  clear hob3
  go_wp2_with (first
    | (at_builtin; refine wpList_append_reads rfl _ _ 25 rfl w3.heap.size 5 i0 (.int .u8 0) 1 Try.underlying25 hi0 hz0 hz1 hz2 rfl (.slice (some ⟨w3.heap.size, 0, none⟩) 0 0) (.slice Ab F.length cb) [] F (by rfl) (by rfl) ra1 ow1 q2 q3 q4 ?_; intro v4 w4 st4; rw [List.nil_append] at st4; have hk4 := st4.old (Kept.alloc (fun _ => False) w3 (.cells #[] 5)) (fun i hi => by simp [Value.ownBlock] at hi; omega); have ho4 := st4.own; have hr4 : Reads w4 (.slice Au r.length cu) r := (HS.out.2.2.1.kept (kt K1.out (kt K2.out.1 K3.out.1))).kept hk4; have q7 : w3.heap.size ≤ w4.heap.size := hk4.size; have K4 := Lib.hid (And.intro hk4 st4); clear st4 hk4 ra1 ow1)
    | (at_builtin; refine wpList_append_reads rfl _ _ 25 rfl w3.heap.size 5 i0 (.int .u8 0) 1 Try.underlying25 hi0 hz0 hz1 hz2 rfl v4 (.slice Au r.length cu) F r (by rfl) (by rfl) hr4 ho4 q5 q6 q7 ?_; intro v5 w5 st5; have K5 := Lib.hid st5; clear st5 ho4 hr4))
  have hk5 : Kept (fun _ => False) w3 w5 := K4.out.1.trans K5.out.kept (fun _ _ e => e) (fun k hk e => by have := (K4.out.2.own.lt k e).1; omega)
  have hr5 : Reads w5 v5 (F ++ r) := K5.out.reads
  have hc5 := own_capm K5.out.own
  have HK5 := Lib.hid hk5
  clear hk5
  refine (scanG _ (F ++ r) w5 HS.out.2.1 (by rw [List.length_append]; omega) (hFb.append hb) hr5 hc5).mono ?_
  rintro e w6 ⟨Ay, cy, rfl, hoy, hk6⟩
  have K6 := Lib.hid (And.intro hk6 hoy)
  clear hk6 hoy hr5 hc5
  go_wp2_with fail
  have hy6 : w6.ownsRow w5.heap.size 60 4 (.slice Ay (W.length + ps.length) cy) (W.length + ps.length) (pcells (W ++ ps.map (Pc.up F.length))) := by simpa using K6.out.2
  have hx6 := own_kept K3.out.2 (kt HK5.out K6.out.1) (fun _ _ => id)
  have hw6 := own_kept K2.out.2.2 (kt K3.out.1 (kt HK5.out K6.out.1)) (fun _ _ => id)
  have hxk : ∀ k, (Value.slice Ax ps.length cx).ownBlock = some k → w2.heap.size ≤ k ∧ k < w3.heap.size := K3.out.2.lt
  have hyk : ∀ k, (Value.slice Ay (W.length + ps.length) cy).ownBlock = some k → w5.heap.size ≤ k := fun k hk => (hy6.lt k hk).1
  have hwk : ∀ k, (Value.slice Aw W.length cw).ownBlock = some k → k < w2.heap.size := fun k hk => (K2.out.2.2.lt k hk).2
  have hsz3 := K3.out.1.size
  have hsz5 := HK5.out.size
  have HXK : Hid ((∀ k, (Value.slice Ax ps.length cx).ownBlock = some k → (Value.slice Ay (W.length + ps.length) cy).ownBlock ≠ some k) ∧ ∀ k, (Value.slice Ax ps.length cx).ownBlock = some k → w.heap.size ≤ k) := Lib.hid ⟨fun k h1 h2 => by
    have := hxk k h1
    have := hyk k h2
    omega, fun k h1 => by
    have := hxk k h1
    have := K1.out.size
    have := K2.out.1.size
    omega⟩
  have k06 : Kept (fun _ => False) w w6 := kt K1.out (kt K2.out.1 (kt K3.out.1 (kt HK5.out K6.out.1)))
  have hst : Hid (w6.ownsRow w1.heap.size 60 4 (.slice Aw W.length cw) (W.length + 0) (pcells (W ++ (ps.take 0).map (Pc.up F.length))) ∧ w6.ownsRow w2.heap.size 60 4 (.slice Ax ps.length cx) ps.length (pcells ((ps.take 0).map (Pc.up F.length) ++ ps.drop 0)) ∧
      w6.ownsRow w5.heap.size 60 4 (.slice Ay (W.length + ps.length) cy) (W.length + ps.length) (pcells (W ++ ps.map (Pc.up F.length))) ∧ Kept (fun _ => False) w w6 ∧
      (∀ k, (Value.slice Aw W.length cw).ownBlock = some k → (Value.slice Ax ps.length cx).ownBlock ≠ some k ∧ (Value.slice Ay (W.length + ps.length) cy).ownBlock ≠ some k)) := Lib.hid ⟨by simpa using hw6, by simpa using hx6, hy6, k06, fun k hk => by
    have h1 := hwk k hk
    refine ⟨fun e => ?_, fun e => ?_⟩
    · have := hxk k e; omega
    · have := hyk k e; omega⟩
  clear hy6 hx6 hw6 hxk hyk hwk hsz3 hsz5 k06 q2 q3 q4 q5 q6 q7 b1
  go_loopw [7, 15] (fun vw i wr => ∃ n : Nat, i = .int .i64 n ∧ n ≤ ps.length ∧ wr.ownsRow w1.heap.size 60 4 vw (W.length + n) (pcells (W ++ (ps.take n).map (Pc.up F.length))) ∧ wr.ownsRow w2.heap.size 60 4 (.slice Ax ps.length cx) ps.length (pcells ((ps.take n).map (Pc.up F.length) ++ ps.drop n)) ∧
      wr.ownsRow w5.heap.size 60 4 (.slice Ay (W.length + ps.length) cy) (W.length + ps.length) (pcells (W ++ ps.map (Pc.up F.length))) ∧ Kept (fun _ => False) w wr ∧
      (∀ k, vw.ownBlock = some k → (Value.slice Ax ps.length cx).ownBlock ≠ some k ∧ (Value.slice Ay (W.length + ps.length) cy).ownBlock ≠ some k)) (fun _ i _ => ps.length - (intOf i).toNat)
  case atStart => exact ⟨0, rfl, by omega, hst.out⟩
  case round =>
    obtain ⟨n, rfl, hn, how, hox, hoy, hk, hap⟩ := hrel
    by_cases h : n < ps.length
    · obtain ⟨q, hqn⟩ : ∃ q, ps[n]? = some q := ⟨_, List.getElem?_eq_getElem h⟩
      obtain ⟨_, _, e1, hcx, hnx, hAx⟩ := own_at hox
      injection e1 with eA _ ec
      subst eA; subst ec
      obtain ⟨gx, rfl⟩ := hAx (by omega)
      have hql : q.pos + q.len ≤ r.length := HS.out.2.2.2.1 q (List.mem_of_getElem? hqn)
      have hlm : ((ps.take n).map (Pc.up F.length)).length = n := by simp; omega
      have hdc := drop_cons ps n q hqn
      rw [hdc] at hox
      have g0 : ((ps.take n).map (Pc.up F.length) ++ q :: ps.drop (n + 1))[n]? = some q := by rw [List.getElem?_append_right (by omega), hlm, Nat.sub_self]; rfl
      obtain ⟨-, -, a2, -⟩ := pcells_at _ n q g0
      have c2 := hox.cells rfl _ _ a2
      have hadd : ∀ j, (⟨gx, 0, none⟩ : Addr).add j = ⟨gx, j, none⟩ := fun j => by unfold Addr.add; split <;> simp_all
      rw [hadd] at c2
      have hf2 := hox.frozenAt (n * 4 + 2)
      obtain ⟨q', hq'⟩ : ∃ q' : Pc, q' = q.up F.length := ⟨_, rfl⟩
      have hst1 := (hox.stored (n * 4 + 2) (.int .i64 ((q.pos + F.length : Nat) : Int))).1
      have hps := pcells_set ((ps.take n).map (Pc.up F.length)) (ps.drop (n + 1)) q (q.pos + F.length)
      rw [hlm] at hps
      rw [hps] at hst1
      have hsum : ((q.pos + F.length : Nat) : Int) = (q.pos : Int) + F.length := by omega
      have g1 : ((ps.take n).map (Pc.up F.length) ++ (⟨q.kind, q.seq, q.pos + F.length, q.len⟩ : Pc) :: ps.drop (n + 1))[n]? = some ⟨q.kind, q.seq, q.pos + F.length, q.len⟩ := by rw [List.getElem?_append_right (by omega), hlm, Nat.sub_self]; rfl
      obtain ⟨d0, d1, d2, d3⟩ := pcells_at _ n _ g1
      have f0 := hst1.cells rfl _ _ d0
      have f1 := hst1.cells rfl _ _ d1
      have f2 := hst1.cells rfl _ _ d2
      have f3 := hst1.cells rfl _ _ d3
      simp only [hadd] at f0 f1 f2 f3
      rw [hsum] at f0 f1 f2 f3 hst1
      have ksx := Kept.setCell (S := fun k => k = gx) wr ⟨gx, n * 4 + 2, none⟩ (.int .i64 ((q.pos : Int) + F.length)) rfl
      have how1 := own_kept how ksx (fun k hk e => (hap k hk).1 (by rw [e]; rfl))
      have hoy1 := own_kept hoy ksx (fun k hk e => HXK.out.1 k (by rw [e]; rfl) hk)
      have p3 : W.length + n + 1 ≤ maxLen := by have := HM.out; have := HS.out.2.2.2.2.2.2; omega
      have p4 : (W.length + n + 1) * 32 ≤ 140737488355328 := by have := HS.out.2.2.2.2.2.2; omega
      have hbw : w1.heap.size ≤ (wr.setCell ⟨gx, n * 4 + 2, none⟩ (.int .i64 ((q.pos : Int) + F.length))).heap.size := by
        have h1 := (hox.lt gx rfl).1
        have h2 := (hox.lt gx rfl).2
        have h3 := K2.out.1.size
        have h4 := ksx.size
        omega
      have H1 := Lib.hid (And.intro hst1 (And.intro how1 (And.intro hoy1 (And.intro hk (And.intro hap (And.intro ksx (And.intro hqn (And.intro how hlm))))))))
      have n1 : (n : Int) < ps.length := by omega
      have n2 : (0 : Int) ≤ n := by omega
      clear how hox hoy hk hap hqn hdc g0 g1 a2 hst1 hps hsum d0 d1 d2 d3 hoy1 ksx hq' hlm hadd
      go_wp2_with (at_builtin; refine wpList_append_paint rfl _ _ 47 rfl w1.heap.size 60 i1 (.agg #[.int .i64 0, .int .u64 0, .int .i64 0, .int .i64 0]) 4 32 Try.underlying47 hi1 hy0 hy1 hy2 rfl (by decide) _ (W.length + n) _ (Pc.cells (q.up F.length)) _ 1 1 (by rfl) (by show Value.slice (some ⟨wr.heap.size, 0, none⟩) 1 1 = _; simp) (by simp [Pc.cells, Pc.up]) (by rfl) (by decide) (by intro u hu; simp [Pc.cells] at hu; rcases hu with rfl | rfl | rfl | rfl <;> rfl) how1 p3 p4 hbw ?_)
      rintro v8 w8 ho8 at8
      have HE : Hid (w8.ownsRow w1.heap.size 60 4 v8 (W.length + (n + 1)) (pcells (W ++ (ps.take (n + 1)).map (Pc.up F.length))) ∧ w8.ownsRow w2.heap.size 60 4 (.slice (some ⟨gx, 0, none⟩) ps.length cx) ps.length (pcells ((ps.take (n + 1)).map (Pc.up F.length) ++ ps.drop (n + 1))) ∧
          w8.ownsRow w5.heap.size 60 4 (.slice Ay (W.length + ps.length) cy) (W.length + ps.length) (pcells (W ++ ps.map (Pc.up F.length))) ∧ Kept (fun _ => False) w w8 ∧
          (∀ k, v8.ownBlock = some k → (Value.slice (some ⟨gx, 0, none⟩) ps.length cx).ownBlock ≠ some k ∧ (Value.slice Ay (W.length + ps.length) cy).ownBlock ≠ some k)) := by
        have htm := take_map_succ ps F.length n q H1.out.2.2.2.2.2.2.1
        refine Lib.hid ⟨?_, ?_, ?_, ?_, ?_⟩
        · rw [htm, ← List.append_assoc, pcells_append (W ++ _)]
          refine own_of ho8 ?_ (by omega)
          simp [pcells]
        · rw [htm, List.append_assoc]
          exact own_kept H1.out.1 at8.kept (fun k hk e => (H1.out.2.2.2.2.1 k e).1 hk)
        · exact own_kept H1.out.2.2.1 at8.kept (fun k hk e => (H1.out.2.2.2.2.1 k e).2 hk)
        · refine (H1.out.2.2.2.1.trans H1.out.2.2.2.2.2.1 (U := fun _ => False) (fun _ _ e => e) (fun k hk e => ?_)).trans at8.kept (fun _ _ e => e) (fun k hk e => ?_)
          · have := HXK.out.2 k (by rw [e]; rfl); omega
          · have h1 := (H1.out.2.2.2.2.2.2.2.1.lt k e).1
            have h2 := K1.out.size
            omega
        · intro k hk
          rcases at8.moved with m | m
          · exact H1.out.2.2.2.2.1 k (m ▸ hk)
          · have h1 := m k hk
            refine ⟨fun e => ?_, fun e => ?_⟩
            · have := (H1.out.1.lt k e).2; omega
            · have := (H1.out.2.2.1.lt k e).2; omega
      clear ho8 at8 how1 p3 p4 hbw H1 c2 hf2 f0 f1 f2 f3
      go_wp2_with fail
      exact ⟨⟨n + 1, by congr 1, by omega, HE.out⟩, by simp [intOf]; omega⟩
    · obtain rfl : n = ps.length := by omega
      have hy' := own_preads (own_of (m := (W ++ ps.map (Pc.up F.length)).length) hoy rfl (by simp))
      rw [List.take_length] at how
      have hw' := own_preads (own_of (m := (W ++ ps.map (Pc.up F.length)).length) how rfl (by simp))
      have HE := Lib.hid (And.intro hy' (And.intro hw' hk))
      clear how hox hoy hk hap hy' hw'
      go_wp2_with fail
      refine (same_any _ _ _ wr HE.out.1 HE.out.2.1).mono ?_
      rintro e w9 ⟨rfl, d9, hd9⟩
      have K9 : Hid (Kept (fun _ => False) w w9) := Lib.hid (by rw [hd9]; exact kdn HE.out.2.2 _)
      clear hd9
      go_wp2_with fail
      go_ret
      exact ⟨rfl, K9.out⟩
end Go.Proofs.Ytoolimfdncfgnaa
