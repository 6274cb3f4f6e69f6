/- Decode: its plain law in stages; End with a rest; bytes that come in. -/
import Derived.Test.YtlcbgklealipoaaGreatDoorG13
namespace Go.Proofs.YtlcbgklealipoaaGreatDoor
open Go Go.RowKit
set_option linter.unusedVariables false
set_option linter.unusedSimpArgs false

def s0 : BSt := ⟨3, 0, 0, 0⟩
section
variable {L : List Int} (h1 : ¬ 65536 < L.length) (h2 : L.take 3 = [83, 66, 1])
include h1 h2
theorem dec_body : decB L = match batchR L s0 with
  | .err a no => .err a no
  | .ok ((T, R), l) s => match T[s.tu]? with
    | some x => .err x.2 54
    | none => match R[s.ru]? with
      | some x => .err x.2 54
      | none => if s.n < L.length then .err s.n 15 else .ok l := by
  unfold decB
  rw [if_neg h1, if_neg (not_not_intro h2)]
  rfl
theorem dec_tabs {a no : Int} (h : tabsR L s0 = .err a no) : decB L = .err a no := by
  rw [dec_body h1 h2, batch_tabs, h]
variable {T : TT} {R : RR} {s1 s2 : BSt} (ht : tabsR L s0 = .ok (T, R) s1)
include ht
theorem dec_rest {a no : Int} (h : restR (T.map Prod.fst) (R.map Prod.fst) L s1 = .err a no) : decB L = .err a no := by
  rw [dec_body h1 h2, batch_tabs, ht]
  simp only [h]
variable {l : List Spn} (hr : restR (T.map Prod.fst) (R.map Prod.fst) L s1 = .ok l s2)
include hr
theorem dec_texts {x : ByteArray × Nat} (h : T[s2.tu]? = some x) : decB L = .err x.2 54 := by
  rw [dec_body h1 h2, batch_tabs, ht]
  simp only [hr, h]
theorem dec_traces {x : (Nat × Nat) × Nat} (h : T[s2.tu]? = none) (h' : R[s2.ru]? = some x) : decB L = .err x.2 54 := by
  rw [dec_body h1 h2, batch_tabs, ht]
  simp only [hr, h, h']
theorem dec_more (h : T[s2.tu]? = none) (h' : R[s2.ru]? = none) (hn : s2.n < L.length) : decB L = .err s2.n 15 := by
  rw [dec_body h1 h2, batch_tabs, ht]
  simp only [hr, h, h', if_pos hn]
theorem dec_all (h : T[s2.tu]? = none) (h' : R[s2.ru]? = none) (hn : ¬ s2.n < L.length) : decB L = .ok l := by
  rw [dec_body h1 h2, batch_tabs, ht]
  simp only [hr, h, h', if_neg hn]
end
section
variable {L : List Int} {T : List ByteArray} {R : List (Nat × Nat)} {s s1 : BSt}
theorem rest_err {a no : Int} (h : uintR L s = .err a no) : restR T R L s = .err a no := by
  refine bind_err ?_
  unfold Rdr.chk; rw [h]
theorem rest_many {n : Nat} (h : uintR L s = .ok n s1) (hn : 500 < n) : restR T R L s = .err s.n 53 := by
  refine bind_err ?_
  unfold Rdr.chk; rw [h]; simp only [if_pos hn]
theorem rest_ok {n : Nat} (h : uintR L s = .ok n s1) (hn : ¬ 500 < n) : restR T R L s = Rdr.loop (spansR T R) n [] L s1 := by
  refine bind_ok ?_
  unfold Rdr.chk; rw [h]; simp only [if_neg hn]
theorem spans_err {l : List Spn} {a no : Int} (h : spanR T R L s = .err a no) : spansR T R l L s = .err a no := map_err h
theorem spans_ok {l : List Spn} {x : Spn} (h : spanR T R L s = .ok x s1) : spansR T R l L s = .ok (l ++ [x]) s1 := map_ok h
end
/-- Bytes that lie in one block. -/
def RdsB (w : World) (v : Value) (l : List Int) : Prop :=
  ∃ A c, v = .slice A l.length c ∧ ((A = none → c = 0) ∧ l.length ≤ c) ∧ (0 < l.length → ∃ g off, A = some ⟨g, off, none⟩ ∧ ∀ (j : Nat) x, l[j]? = some x → w.cell? ⟨g, off + j, none⟩ = some (.int .u8 x))
theorem RdsB.reads {w : World} {v : Value} {l : List Int} (h : RdsB w v l) : Reads w v l := by
  obtain ⟨A, c, rfl, h0, hc⟩ := h
  refine ⟨A, c, rfl, h0, fun j u hu => ?_⟩
  have hj : j < l.length := by
    have := (List.getElem?_eq_some_iff.1 hu).1
    simpa [nums] using this
  obtain ⟨g, off, rfl, hcc⟩ := hc (by omega)
  refine ⟨_, rfl, ?_⟩
  have hx : l[j]? = some l[j] := List.getElem?_eq_getElem hj
  rw [nums, List.getElem?_map, hx] at hu
  simp only [Option.map_some, Option.some.injEq] at hu
  rw [← hu, Addr.add_lit]
  exact hcc j _ hx
theorem RdsB.kept {w w' : World} {v : Value} {l : List Int} (h : RdsB w v l) (hk : Kept (fun _ => False) w w') : RdsB w' v l := by
  obtain ⟨A, c, rfl, h0, hc⟩ := h
  refine ⟨A, c, rfl, h0, fun hp => ?_⟩
  obtain ⟨g, off, rfl, hcc⟩ := hc hp
  exact ⟨g, off, rfl, fun j x hx => cell_kept hk (hcc j x hx)⟩
theorem Lies.rdsB {E B : Nat} {w : World} {v : Value} {l : List Int} (h : Lies E B w v l) : RdsB w v l := by
  obtain ⟨A, c, rfl, h0, hc⟩ := h.reads
  refine ⟨A, c, rfl, h0, fun hp => ?_⟩
  rcases h with ⟨rfl, _⟩ | ⟨g, c', cur, he, _, hh, _⟩
  · simp at hp
  · injection he with he _ _
    subst he
    refine ⟨g, 0, rfl, fun j x hx => ?_⟩
    obtain ⟨ad, e, hcc⟩ := hc j (.int .u8 x) (by rw [nums, List.getElem?_map, hx]; rfl)
    injection e with e
    subst e
    rw [Addr.add_lit] at hcc
    exact hcc
theorem head_conv {w : World} {L : List Int} {g off : Nat} (h3 : 3 ≤ L.length) (hc : ∀ (j : Nat) x, L[j]? = some x → w.cell? ⟨g, off + j, none⟩ = some (.int .u8 x)) (c' : Nat) :
    (convert 26 9 (.slice (some ⟨g, off, none⟩) 3 c')).run Tryz.prog w = .ok (.string (strOfNums (L.take 3))) w := by
  refine run_convert_bytes_arg w 26 5 Tryz.underlying26 Tryz.underlying5 g off 3 c' _ (by rw [List.length_take]; omega) (fun i hi => ?_) 9 Tryz.underlying9
  have hl : i < L.length := by omega
  have h3' : i < 3 := hi
  have hx : L[i]? = some (L.getD i 0) := by rw [List.getD_eq_getElem?_getD, List.getElem?_eq_getElem hl]; rfl
  rw [hc i _ hx, List.getD_eq_getElem?_getD, List.getD_eq_getElem?_getD, List.getElem?_take, if_pos h3']
theorem end_rest (B r n : Nat) (v : Value) (l : List Int) (w : World) (h : RdAt B w r v l n) (hn : n < l.length) (hl : l.length ≤ 140737488355328) :
    Calls Tryz.prog 49 #[.pointer (some ⟨r, 0, none⟩)] w fun e w' => ∃ f, e = .returned (.iface 35 (.pointer (some ⟨f, 0, none⟩))) ∧ w'.heap[f]? = some (.cells #[.int .i64 n, .int .i64 15] 39 (0, 0)) ∧ Kept (fun _ => False) w w' := by
  have y1 : ∀ W, Kept (fun _ => False) w W → W.cell? ⟨r, 1, none⟩ = some (.int .i64 n) := fun W hk => (blk_cell (blk_kept hk h.blk (fun h => h)) 1).trans rfl
  have HY := Lib.hid y1
  have H := Lib.hid h
  have p1 : ((l.length : Int) - (n : Int) > 0) = True := eq_true (by omega)
  obtain ⟨m, hm⟩ : ∃ m : Nat, m = l.length - n := ⟨_, rfl⟩
  have m0 : 0 < m := by omega
  have m1 : ((0 : Int) < (m : Int)) = True := eq_true (by omega)
  have m2 : ((m : Int) == 0) = false := by rw [beq_eq_false_iff_ne]; omega
  have m3 : ((m : Int) != 0) = true := by rw [bne_iff_ne]; omega
  have HM := Lib.hid hm
  clear y1 h
  go_enter Tryz.func49, Tryz.ntmps49
  go_wp2_with fail
  refine (left_any B r n v l w H.out (by omega) hl).mono ?_
  rintro e w' ⟨rfl, hk⟩
  rw [← HM.out]
  have y1 := HY.out w' hk
  have HK := Lib.hid hk
  clear hk hm
  go_wp2_with (go_at_call 95; (with_reducible refine (wrong_any n 15 w').mono ?_); rintro e w2 ⟨rfl, rfl⟩)
  go_ret
  exact ⟨_, rfl, heap_alloc_new w' _, HK.out.trans (.alloc _ _ _) (fun _ _ e => e) (fun _ _ e => e)⟩
theorem QAt.start {r : Nat} {W2 w3 : World} {v' : Value} {L : List Int} (hv : RdAt W2.heap.size w3 r v' L 0) (hk : Kept (fun _ => False) W2 w3) :
    QAt w3.heap.size r W2 L [] [] tv0 ⟨0, 0, 0, 0⟩ (w3.alloc (.cells (rC r (.slice none 0 0) (.slice none 0 0) 0 (.slice none 0 0) (.slice none 0 0) 0 0) 110)) := by
  have ka : Kept (fun _ => False) w3 (w3.alloc (.cells (rC r (.slice none 0 0) (.slice none 0 0) 0 (.slice none 0 0) (.slice none 0 0) 0 0) 110)) := .alloc _ _ _
  refine ⟨⟨v', hv.kept ka (fun h => h) (fun _ _ h => h)⟩, Nat.zero_le _, ⟨heap_alloc_new w3 _, ⟨rfl, .inl ⟨rfl, rfl⟩⟩, ⟨rfl, .inl ⟨rfl, rfl⟩⟩, ⟨rfl, .inl ⟨rfl, rfl⟩⟩, ⟨rfl, .inl ⟨rfl, rfl⟩⟩, fun k e => by simp [tv0, Value.ownBlock] at e⟩, hk.size, hk.trans ka (fun _ _ e => e) (fun _ _ e => e), Nat.le_refl _, Nat.le_refl _, by simp⟩
theorem ones_own {B : Nat} {w : World} {y : LSpn} (h : Own3 B w y) : ∀ u ∈ yC y, u.oneCell' = true := by
  obtain ⟨x, lv, av, ev⟩ := y
  obtain ⟨A1, c1, e1⟩ := own_slice h.l
  obtain ⟨A2, c2, e2⟩ := own_slice h.a
  obtain ⟨A3, c3, e3⟩ := own_slice h.e
  simp only at e1 e2 e3
  subst e1 e2 e3
  simp [yC, Spn.cells, Value.oneCell']
theorem SOwn.other {B k : Nat} {w w' : World} {v : Value} {q : List LSpn} {cs : Array Value} {t : TypeId} (h : SOwn B w v q) (hq : w.heap[k]? = some (.cells cs t (0, 0))) (hk : Kept (fun i => i = k) w w') (ht : t ≠ 76 ∧ t ≠ 69 ∧ t ≠ 132 ∧ t ≠ 134) : SOwn B w' v q := by
  obtain ⟨t1, t2, t3, t4⟩ := ht
  exact ⟨own_kept h.row hk fun i e e2 => own_ne h.row hq t1 (e2 ▸ e), fun y hy => ⟨own_kept (h.each y hy).l hk fun i e e2 => own_ne (h.each y hy).l hq t2 (e2 ▸ e), own_kept (h.each y hy).a hk fun i e e2 => own_ne (h.each y hy).a hq t3 (e2 ▸ e), own_kept (h.each y hy).e hk fun i e e2 => own_ne (h.each y hy).e hq t4 (e2 ▸ e)⟩⟩
/-- Between two spans of Decode. -/
structure DInv (w : World) (N lb eb rb r : Nat) (L : List Int) (T : TT) (R : RR) (tv : TV) (s : BSt) (v : Value) (q : List LSpn) (w0 W : World) : Prop where
  sz : w0.heap.size = N
  kw : Kept (fun _ => False) w w0
  bl : w0.heap[lb]? = some (.cells #[v] 25 (0, 0))
  be : w0.heap[eb]? = some (.cells #[.nilIface] 28 (0, 0))
  at_ : QAt rb r w0 L T R tv s W
  own : SOwn N W v q
section
variable {w w0 W w1 w2 : World} {N lb eb rb r : Nat} {L : List Int} {T : TT} {R : RR} {tv : TV} {s s' : BSt} {v v' : Value} {q : List LSpn} {y : LSpn}
theorem DInv.blW (h : DInv w N lb eb rb r L T R tv s v q w0 W) : W.heap[lb]? = some (.cells #[v] 25 (0, 0)) := blk_kept h.at_.kept h.bl (fun e => e)
theorem DInv.beW (h : DInv w N lb eb rb r L T R tv s v q w0 W) : W.heap[eb]? = some (.cells #[.nilIface] 28 (0, 0)) := blk_kept h.at_.kept h.be (fun e => e)
theorem DInv.next (h : DInv w N lb eb rb r L T R tv s v q w0 W) (h1 : QAt rb r w0 L T R tv s' w1) (a1 : Aside W w1) : DInv w N lb eb rb r L T R tv s' v q w0 w1 := ⟨h.sz, h.kw, h.bl, h.be, h1, h.own.aside a1⟩
theorem DInv.push {o : Obj} (h : DInv w N lb eb rb r L T R tv s v q w0 w1) (ho : Own3 N w1 y) (hrow : w2.ownsRow N 76 13 v' (q.length + 1) (q.flatMap yC ++ yC y)) (hg : (w1.alloc o).grownBy w2 v.ownBlock) (h1 : lb < N) (h2 : eb < N) (h3 : w.heap.size ≤ lb) (hne : ¬ eb = lb) :
    w2.cell? ⟨lb, 0, none⟩ = some v ∧ w2.frozen? ⟨lb, 0, none⟩ = false ∧ DInv w N lb eb rb r L T R tv s v' (q ++ [y]) (cutW N (w2.setCell ⟨lb, 0, none⟩ v')) (w2.setCell ⟨lb, 0, none⟩ v') := by
  obtain ⟨so, k3, b2⟩ := h.own.push ho h.blW hrow hg
  have hlt := fun k e => (h.own.row.lt k e).1
  have hq := h.at_.push k3 h.blW (by rw [h.sz]; exact h.own.row)
  rw [h.sz] at hq
  have hN : N ≤ (w2.setCell ⟨lb, 0, none⟩ v').heap.size := by rw [← h.sz]; exact Nat.le_trans h.at_.kept.size k3.size
  refine ⟨(blk_cell b2 0).trans rfl, blk_frozen b2 0, cut_size hN, ?_, ?_, ?_, hq, so⟩
  · refine kept_cut (S := fun k => k = lb ∨ v.ownBlock = some k) ((h.kw.trans h.at_.kept (U := fun _ => False) (fun _ _ e => e) (fun _ _ e => e)).trans k3 (fun _ _ e => e.elim) (fun _ _ e => e)) (by rw [← h.sz]; exact h.kw.size) hN ?_
    rintro k hk (e | e)
    · omega
    · have := hlt k e; have := h.kw.size; rw [h.sz] at this; omega
  · rw [cut_get h1]; exact blk_set b2 0 v'
  · rw [cut_get h2]
    refine blk_kept k3 h.beW ?_
    rintro (e | e)
    · exact hne e
    · have := hlt eb e; omega
end
theorem Tryz.info76 : (Tryz.prog.info? 76).map (fun i => (i.zero, i.size, i.bytes)) = some (some (.agg #[.int .u64 0, .int .u64 0, .int .u64 0, .int .u64 0, .slice none 0 0, .string ⟨#[]⟩, .string ⟨#[]⟩, .int .i64 0, .int .i64 0, .int .i64 0, .int .i64 0, .slice none 0 0, .slice none 0 0]), 13, 168) := by kernel_rfl
end Go.Proofs.YtlcbgklealipoaaGreatDoor
