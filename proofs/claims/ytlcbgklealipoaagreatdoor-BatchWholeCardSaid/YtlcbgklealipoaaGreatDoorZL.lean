import Derived.Test.YtlcbgklealipoaaGreatDoorG14
import Derived.Test.YtlcbgklealipoaaGreatDoorF2
import Derived.Test.YtlcbgklealipoaaGreatDoorR6
import Derived.Test.YtlcbgklealipoaaGreatDoorZK
import Derived.Test.YtlcbgklealipoaaGreatDoorRx
import Derived.Test.YtlcbgklealipoaaGreatDoorR7
section
/- The law's own functions: one, sameSpans (the walks; printed by gen_h1.py). -/
namespace Go.Proofs.YtlcbgklealipoaaGreatDoor
open Go Go.RowKit
set_option linter.unusedVariables false
set_option linter.unusedSimpArgs false

theorem exec_load76 {ρ : Operand → Value} {oi : Oper} {x : Operand} {W : World} {b o : Nat} {s : Spn} {lv av ev : Value} (ho : oi.op = .load 76 x) (hx : ρ x = .pointer (some ⟨b, o, none⟩)) (hb : W.rangeAt b o (s.cells lv av ev).toList) :
    (execOp ρ oi).run Tryz.prog W = .ok (.value (.agg (s.cells lv av ev))) W := by
  unfold execOp
  simp only [ho, hx, Instr.loadAt, Instr.sureAddr, Sem.run_bind, Sem.run_pure, Result.andThen_ok, run_loadVar_mid W b o 76 _ _ hb Tryz.underlying76 rfl (by rw [Tryz.size76]; rfl)]
/-- Answers true. -/
def TruePost (w : World) (e : Ending) (w' : World) : Prop := e = .returned (.bool true) ∧ Kept (fun _ => False) w w'
theorem conv_rdsB {w : World} {v : Value} {l : List Int} (h : RdsB w v l) : (convert 26 9 v).run Tryz.prog w = .ok (.string (strOfNums l)) w := by
  obtain ⟨A, c, rfl, h0, hc⟩ := h
  by_cases hl : 0 < l.length
  · obtain ⟨g, off, rfl, hcc⟩ := hc hl
    refine run_convert_bytes_arg w 26 5 Tryz.underlying26 Tryz.underlying5 g off _ c _ rfl (fun i hi => ?_) 9 Tryz.underlying9
    have hx : l[i]? = some (l.getD i 0) := by rw [List.getD_eq_getElem?_getD, List.getElem?_eq_getElem hi]; rfl
    exact hcc i _ hx
  · have : l = [] := List.eq_nil_of_length_eq_zero (by omega)
    subst this
    exact convert_none Tryz.underlying26 Tryz.underlying5 Tryz.underlying9 w A c
/-- Spans that Decode made read as spans. -/
theorem SOwn.reads {B : Nat} {w : World} {v : Value} {q : List LSpn} (h : SOwn B w v q) (hf : ∀ y ∈ q, Sized y.1 ∧ Fits y.1 ∧ y.1.links.length ≤ 16 ∧ y.1.ats.length ≤ 32 ∧ y.1.evs.length ≤ 32) : SpsReads w v (q.map Prod.fst) := by
  obtain ⟨A, c, rfl⟩ := own_slice h.row
  refine ⟨A, c, by rw [List.length_map], fun h0 => ?_⟩
  rw [List.length_map] at h0
  obtain ⟨g, rfl, _, hc⟩ := own_elem h.row (flat_pos yC 13 (by decide) (fun _ => rfl) q h0)
  refine ⟨g, 0, rfl, fun i s hi => ?_⟩
  rw [List.getElem?_map] at hi
  cases hy : q[i]? with
  | none => rw [hy] at hi; cases hi
  | some y =>
    rw [hy] at hi
    simp only [Option.map_some, Option.some.injEq] at hi
    subst hi
    have hm := List.mem_of_getElem? hy
    obtain ⟨h1, h2, h3, h4, h5⟩ := hf y hm
    have h3o := h.each y hm
    refine ⟨y.2.1, y.2.2.1, y.2.2.2, fun j u hu => ?_, sreads_own h3o.l h3o.a h3o.e h3 h4 h5, h1, h2⟩
    have hj : j < 13 := (List.getElem?_eq_some_iff.1 hu).1
    rw [Nat.zero_add]
    exact hc _ _ ((flat_get yC 13 (fun _ => rfl) q i j y hy hj).trans hu)
set_option maxHeartbeats 4000000 in
set_option maxRecDepth 100000 in
theorem sameSpans_any (ss : List Spn) (v v2 : Value) (w : World) (h1 : SpsReads w v ss) (h2 : SpsReads w v2 ss) (hl : ss.length ≤ 9223372036854775807) : Calls Tryz.prog 14 #[v, v2] w (TruePost w) := by
  obtain ⟨A, c, rfl, hca⟩ := h1
  obtain ⟨A2, c2, rfl, hcb⟩ := h2
  have HCA := Lib.hid hca
  have HCB := Lib.hid hcb
  clear hca hcb
  go_enter Tryz.func14, Tryz.ntmps14
  go_upto_region 4 with fail
  go_loopw [5] (fun i wr => ∃ k : Nat, i = .int .i64 k ∧ k ≤ ss.length ∧ Kept (fun _ => False) w wr) (fun i _ => ss.length - (intOf i).toNat)
  case atStart => exact ⟨0, rfl, Nat.zero_le _, .refl _ _⟩
  obtain ⟨k, rfl, hk, hkw⟩ := hrel
  have k0 : (0 : Int) ≤ k := by omega
  have HKW := Lib.hid hkw
  by_cases hlt : k < ss.length
  · have k1 : (k : Int) < ss.length := by omega
    obtain ⟨x, hx⟩ : ∃ x, ss[k]? = some x := ⟨_, List.getElem?_eq_getElem hlt⟩
    obtain ⟨b1, o1, rfl, hq⟩ := HCA.out (by omega)
    obtain ⟨b2, o2, rfl, hq2⟩ := HCB.out (by omega)
    obtain ⟨lv, av, ev, r1, s1, -, -⟩ := hq k x hx
    obtain ⟨lu, au, eu, r2, s2, -, -⟩ := hq2 k x hx
    have hkd : Kept (fun _ => False) wr wr.drew := .drew _ _
    have HX := Lib.hid (And.intro (rangeAt_kept r1 hkw) (rangeAt_kept r2 hkw))
    have hsm : Calls Tryz.prog 30 #[.agg (x.cells lv av ev), .agg (x.cells lu au eu)] wr.drew (BoolPost true wr.drew) := by
      have := same_any x x lv av ev lu au eu wr.drew ((s1.kept hkw).kept hkd) ((s2.kept hkw).kept hkd)
      rw [sameS_yes rfl] at this
      exact this
    have HSM := Lib.hid hsm
    clear hq hq2 r1 r2 s1 s2 hx hsm hlt hkw
    go_upto_region 6 with fail
    refine wp_region_held_drew (S := fun W => W.rangeAt b1 (o1 + k * 13) (x.cells lv av ev).toList ∧ W.rangeAt b2 (o2 + k * 13) (x.cells lu au eu).toList) (by kernel_rfl) ⟨HX.out.1, HX.out.2⟩ (fun hH => ?_)
    refine takeH 0 18 rfl (by kernel_rfl) (by kernel_rfl) (by kernel_rfl) (v := ?_) (fun _ _ _ h => h) rfl (by rfl) ?_ hH ?_
    case refine_2 => intro w hSw; clear hSw; go_simp; try with_reducible rfl
    simp only [List.setIfInBounds_toArray, List.set_cons_zero, List.set_cons_succ]
    refine takeH 1 19 rfl (by kernel_rfl) (by kernel_rfl) (by kernel_rfl) (v := ?_) (fun _ _ _ h => h) rfl (by rfl) ?_ hH ?_
    case refine_2 => intro w hSw; clear hSw; go_simp; try with_reducible rfl
    simp only [List.setIfInBounds_toArray, List.set_cons_zero, List.set_cons_succ]
    refine takeH 2 20 rfl (by kernel_rfl) (by kernel_rfl) (by kernel_rfl) (v := ?_) (fun _ _ _ h => h) rfl (by rfl) ?_ hH ?_
    case refine_2 => intro w hSw; clear hSw; go_simp; try with_reducible rfl
    simp only [List.setIfInBounds_toArray, List.set_cons_zero, List.set_cons_succ]
    refine takeH 3 21 rfl (by kernel_rfl) (by kernel_rfl) (by kernel_rfl) (v := ?_) (fun _ _ _ h => h) rfl (by rfl) ?_ hH ?_
    case refine_2 => intro w hSw; refine exec_load76 (x := .tmp 20) ?_ ?_ hSw.1; exact rfl; exact rfl
    simp only [List.setIfInBounds_toArray, List.set_cons_zero, List.set_cons_succ]
    refine takeH 4 22 rfl (by kernel_rfl) (by kernel_rfl) (by kernel_rfl) (v := ?_) (fun _ _ _ h => h) rfl (by rfl) ?_ hH ?_
    case refine_2 => intro w hSw; clear hSw; go_simp; try with_reducible rfl
    simp only [List.setIfInBounds_toArray, List.set_cons_zero, List.set_cons_succ]
    refine takeH 5 23 rfl (by kernel_rfl) (by kernel_rfl) (by kernel_rfl) (v := ?_) (fun _ _ _ h => h) rfl (by rfl) ?_ hH ?_
    case refine_2 => intro w hSw; clear hSw; go_simp; try with_reducible rfl
    simp only [List.setIfInBounds_toArray, List.set_cons_zero, List.set_cons_succ]
    refine takeH 6 24 rfl (by kernel_rfl) (by kernel_rfl) (by kernel_rfl) (v := ?_) (fun _ _ _ h => h) rfl (by rfl) ?_ hH ?_
    case refine_2 => intro w hSw; clear hSw; go_simp; try with_reducible rfl
    simp only [List.setIfInBounds_toArray, List.set_cons_zero, List.set_cons_succ]
    refine takeH 7 25 rfl (by kernel_rfl) (by kernel_rfl) (by kernel_rfl) (v := ?_) (fun _ _ _ h => h) rfl (by rfl) ?_ hH ?_
    case refine_2 => intro w hSw; refine exec_load76 (x := .tmp 24) ?_ ?_ hSw.2; exact rfl; exact rfl
    simp only [List.setIfInBounds_toArray, List.set_cons_zero, List.set_cons_succ]
    clear hH
    refine stepH2 8 26 (by kernel_rfl) rfl rfl rfl _ _ _ rfl Tryz.func30 rfl rfl _ _ rfl rfl (HSM.out) ?_
    rintro e w3 ⟨rfl, hk3⟩
    have H3 := Lib.hid hk3
    clear hk3
    refine ⟨⟨rangeAt_kept HX.out.1 (hkd.trans H3.out (fun _ _ e => e) (fun _ _ e => e)), rangeAt_kept HX.out.2 (hkd.trans H3.out (fun _ _ e => e) (fun _ _ e => e))⟩, fun hH => ?_⟩
    simp only [List.setIfInBounds_toArray, List.set_cons_zero, List.set_cons_succ]
    refine takeH 9 6 rfl (by kernel_rfl) (by kernel_rfl) (by kernel_rfl) (v := ?_) (fun _ _ _ h => h) rfl (by rfl) ?_ hH ?_
    case refine_2 => intro w hSw; clear hSw; go_simp; try with_reducible rfl
    simp only [List.setIfInBounds_toArray, List.set_cons_zero, List.set_cons_succ]
    refine wpAnyH_done (by kernel_rfl) ?_ _
    go_wp2_with fail
    refine ⟨⟨k + 1, by congr 1, by omega, HKW.out.trans (hkd.trans H3.out (U := fun _ => False) (fun _ _ e => e) (fun _ _ e => e)) (fun _ _ e => e) (fun _ _ e => e)⟩, by simp [intOf]; omega⟩
  have k1 : ¬ (k : Int) < ss.length := by omega
  go_wp2_with fail
  go_ret
  exact ⟨rfl, HKW.out⟩
/-- The span of shown. -/
def o1 : Spn := ⟨0, 7, 1, 0, [], ⟨#[97]⟩, ⟨#[98]⟩, 0, 0, 5, 9, [], []⟩
def c1 : Array Value := #[.int .u64 0, .int .u64 7, .int .u64 1, .int .u64 0, .slice none 0 0, .string ⟨#[97]⟩, .string ⟨#[98]⟩, .int .i64 0, .int .i64 0, .int .i64 5, .int .i64 9, .slice none 0 0, .slice none 0 0]
theorem c1_eq : o1.cells (.slice none 0 0) (.slice none 0 0) (.slice none 0 0) = c1 := rfl
set_option maxRecDepth 100000 in
theorem one_any (w : World) : Calls Tryz.prog 29 #[] w fun e w' => e = .returned (.agg c1) ∧ Kept (fun _ => False) w w' := by
  go_enter Tryz.func29, Tryz.ntmps29
  go_wp2_with (refine wpList_spn_new rfl _ _ rfl c1 _ rfl rfl rfl (by simp [c1, Value.oneCell']) rfl ?_; intro w1 hb1 hk1; have H1 := Lib.hid (And.intro hb1 hk1); clear hb1 hk1)
  exact ret76 rfl w.heap.size _ rfl rfl H1.out.1 rfl ⟨rfl, H1.out.2⟩
def L1 : List Int := [83, 66, 1, 2, 1, 97, 1, 98, 1, 0, 0, 0, 0, 0, 0, 0, 0, 0, 0, 0, 0, 0, 0, 0, 7, 1, 0, 0, 0, 0, 0, 0, 0, 0, 1, 0, 0, 0, 0, 0, 0, 0, 0, 0, 1, 0, 10, 4, 0, 0, 0]
theorem o1_fits : Fits o1 := ⟨by decide, by decide, by decide, by decide, (fun x hx => by cases hx), by decide, by decide, by decide, by decide, (fun x hx => by cases hx), (fun x hx => by cases hx)⟩
theorem o1_sized : Sized o1 := ⟨by decide, by decide, (fun x hx => by cases hx), (fun x hx => by cases hx)⟩
set_option maxRecDepth 1000000 in
theorem o1_enc : encR [o1] = .ok L1 := by
  kernel_rfl
theorem o1_dec : decB L1 = .ok [o1] := decB_back (fun x hx => by rw [List.mem_singleton] at hx; rw [hx]; exact o1_fits) o1_enc
set_option maxRecDepth 1000000 in
theorem o1_str : strOfNums L1 = ⟨#[83, 66, 1, 2, 1, 97, 1, 98, 1, 0, 0, 0, 0, 0, 0, 0, 0, 0, 0, 0, 0, 0, 0, 0, 7, 1, 0, 0, 0, 0, 0, 0, 0, 0, 1, 0, 0, 0, 0, 0, 0, 0, 0, 0, 1, 0, 10, 4, 0, 0, 0]⟩ := by kernel_rfl
end Go.Proofs.YtlcbgklealipoaaGreatDoor
end

section
/- A batch's bytes are bytes (plain). -/
namespace Go.Proofs.YtlcbgklealipoaaGreatDoor
open Go.RowKit
set_option linter.unusedVariables false
set_option linter.unusedSimpArgs false

theorem byte1 {x : Int} (h : 0 ≤ x ∧ x < 256) : Bytes [x] := fun y hy => by rw [List.mem_singleton] at hy; subst hy; omega
theorem valued_byte {a : Atr} (h : valuedS a = true) : (0 ≤ a.k ∧ a.k ≤ 2) ∧ (a.k = 2 → 0 ≤ a.i ∧ a.i ≤ 1) := by
  unfold valuedS at h
  by_cases h0 : a.k = 0
  · omega
  · by_cases h1 : a.k = 1
    · omega
    · by_cases h2 : a.k = 2
      · simp [h0, h1, h2] at h
        omega
      · simp [h0, h1, h2] at h
theorem link_bytes : ∀ (p : Nat) (q : List Nat), Bytes (linkB p q)
  | _, [] => fun x hx => by cases hx
  | p, x :: r => by rw [linkB]; exact bytes_app (venc_bytes _) (link_bytes x r)
theorem bb_put {b : BW} {l : List Int} (h : Bytes b.out) (hl : Bytes l) : Bytes (b.put l).out := bytes_app h hl
theorem bb_text {b : BW} (h : Bytes b.out) (x : ByteArray) : Bytes (b.text x).out := bytes_app h (venc_bytes _)
theorem bb_trace {b : BW} (h : Bytes b.out) (x : Nat × Nat) : Bytes (b.trace x).out := bytes_app h (venc_bytes _)
theorem bb_attr {b : BW} (h : Bytes b.out) {a : Atr} (ha : valuedS a = true) : Bytes (b.attr a).out := by
  obtain ⟨h1, h2⟩ := valued_byte ha
  have hc := bb_put (l := [a.k]) (bb_text h a.key) (byte1 (by omega))
  simp only [BW.attr]
  split
  · exact bb_text hc _
  · split
    · exact bb_put hc (venc_bytes _)
    · split
      · rename_i h3
        have := h2 h3
        exact bb_put hc (byte1 (by omega))
      · exact hc
theorem bb_attrs : ∀ (q : List Atr) (b : BW), Bytes b.out → (∀ a ∈ q, valuedS a = true) → Bytes (q.foldl BW.attr b).out
  | [], b, h, _ => h
  | a :: q, b, h, hq => bb_attrs q (b.attr a) (bb_attr h (hq a (by simp))) (fun x hx => hq x (by simp [hx]))
theorem bb_events : ∀ (q : List Evt) (b : BW) (p : Int), Bytes b.out → Bytes (b.events p q).out
  | [], b, p, h => h
  | e :: q, b, p, h => by rw [BW.events]; exact bb_events q _ _ (bb_text (bb_put h (venc_bytes _)) _)
theorem bb_span {b : BW} (h : Bytes b.out) {x : Spn} (hf : Fine x) : Bytes (b.span x).out := by
  have hk := hf.kind
  have ht := hf.st
  have h1 : Bytes ((((((b.trace (x.hi, x.lo)).put (raw8 x.id)).put (raw8 x.par)).text x.svc).text x.op).put [x.kind + 8 * x.st]).out := bb_put (bb_text (bb_text (bb_put (bb_put (bb_trace h _) (raw8_bytes _)) (raw8_bytes _)) _) _) (byte1 (by omega))
  simp only [BW.span]
  refine bb_events _ _ _ (bb_put (bb_attrs _ _ (bb_put (bb_put (bb_put (bb_put ?_ (venc_bytes _)) (venc_bytes _)) (link_bytes _ _)) (venc_bytes _)) (fun a ha => (hf.ats.2 a ha).2)) (venc_bytes _))
  exact bb_put h1 (venc_bytes _)
theorem bb_spans : ∀ (q : List Spn) (b : BW), Bytes b.out → (∀ x ∈ q, Fine x) → Bytes (q.foldl BW.span b).out
  | [], b, h, _ => h
  | a :: q, b, h, hq => bb_spans q (b.span a) (bb_span h (hq a (by simp))) (fun x hx => hq x (by simp [hx]))
theorem flat_bytes {α : Type} (f : α → List Int) (hf : ∀ x, Bytes (f x)) : ∀ l : List α, Bytes (l.flatMap f)
  | [] => fun x hx => by cases hx
  | a :: l => by rw [List.flatMap_cons]; exact bytes_app (hf a) (flat_bytes f hf l)
theorem enc_bytes {l : List Spn} {L : List Int} (h : encR l = .ok L) : Bytes L := by
  obtain ⟨_, hall, _, hL⟩ := enc_ok.1 h
  subst hL
  have hb := bb_spans l ⟨[], [], 0, []⟩ (fun x hx => by cases hx) (fun x hx => fine_of (hall x hx))
  unfold encB
  refine bytes_app (fun x hx => by simp at hx; omega) (bytes_app (venc_bytes _) (bytes_app (flat_bytes _ (fun x => bytes_app (venc_bytes _) (octs_bytes _)) _) (bytes_app (venc_bytes _) (bytes_app (flat_bytes _ (fun x => bytes_app (raw8_bytes _) (raw8_bytes _)) _) (bytes_app (venc_bytes _) hb)))))
end Go.Proofs.YtlcbgklealipoaaGreatDoor
end

section
/- shown, BatchNames (the walks; printed by gen_h2.py). -/
namespace Go.Proofs.YtlcbgklealipoaaGreatDoor
open Go Go.RowKit
set_option linter.unusedVariables false
set_option linter.unusedSimpArgs false

theorem one_any0 (w : World) (F : Operand → Value) : Calls Tryz.prog 29 (Array.map F #[]) w fun e w' => e = .returned (.agg c1) ∧ Kept (fun _ => False) w w' := by
  rw [Array.map_empty]
  exact one_any w
theorem lreads_nil (w : World) : LReads w (.slice none 0 0) [] := ⟨none, 0, rfl, fun h => by simp at h⟩
theorem treads_nil (w : World) : TReads w (.slice none 0 0) [] := ⟨none, 0, rfl, fun h => by simp at h⟩
theorem ereads_nil (w : World) : EReads w (.slice none 0 0) [] := ⟨none, 0, rfl, fun h => by simp at h⟩
theorem o1_reads (w : World) : SReads w o1 (.slice none 0 0) (.slice none 0 0) (.slice none 0 0) := ⟨lreads_nil w, treads_nil w, ereads_nil w, by decide, by decide, by decide⟩
theorem one_reads (w : World) : SpsReads (w.alloc (.cells c1 76)) (.slice (some ⟨w.heap.size, 0, none⟩) 1 1) [o1] := by
  refine ⟨_, _, rfl, fun _ => ⟨_, _, rfl, fun i s hi => ?_⟩⟩
  have h0 : i = 0 := by
    have := (List.getElem?_eq_some_iff.1 hi).1
    simpa using this
  subst h0
  simp only [List.getElem?_cons_zero, Option.some.injEq] at hi
  subst hi
  refine ⟨.slice none 0 0, .slice none 0 0, .slice none 0 0, ?_, o1_reads _, o1_sized, o1_fits⟩
  rw [c1_eq]
  exact rangeAt_blk (heap_alloc_new w _)
set_option maxHeartbeats 1000000 in
set_option maxRecDepth 1000000 in
theorem shown_any (w : World) (hU : Lib.Utf8Tabs 1 2 w) (hnd : Handle w) : Calls Tryz.prog 10 #[] w (TruePost w) := by
  have HU := Lib.hid (And.intro hU hnd)
  clear hU hnd
  go_enter Tryz.func10, Tryz.ntmps10
  go_upto_region 2 with (first
    | (go_at_call 29; (with_reducible refine (one_any w).mono ?_); rintro e w1 ⟨rfl, hk1⟩; have ka := hk1.trans (Kept.alloc (fun _ => False) w1 (.cells c1 76)) (U := fun _ => False) (fun _ _ e => e) (fun _ _ e => e); have henc := encode_any [o1] _ _ (one_reads w1) (by decide) (Utf8Tabs.kept HU.out.1 ka (fun h => h) (fun h => h)); simp only [c1] at henc; have HE := Lib.hid henc; have KA := Lib.hid ka; clear ka henc hk1; simp only [c1])
    | (go_at_call 12; (with_reducible refine HE.out.mono ?_); rintro e w2 hp; unfold EncPost at hp; rw [o1_enc] at hp; obtain ⟨v2, rfl, hl2, hk2⟩ := hp; have H2 := Lib.hid (And.intro hl2.rdsB (KA.out.trans hk2 (U := fun _ => False) (fun _ _ e => e) (fun _ _ e => e))); clear hl2 hk2))
  have hdec : Calls Tryz.prog 13 #[v2] w2 (DecPost L1 w2) := decode_any v2 H2.out.1 (enc_bytes o1_enc) (by decide) (Utf8Tabs.kept HU.out.1 H2.out.2 (fun h => h) (fun h => h)) (HU.out.2.kept H2.out.2 (fun h => h))
  have HDEC := Lib.hid hdec
  clear hdec HE KA
  go_upto_region 3 with (go_at_call 13; (with_reducible refine HDEC.out.mono ?_); rintro e w3 hp; unfold DecPost at hp; rw [o1_dec] at hp; obtain ⟨v3, q, rfl, hq, hs, hk3⟩ := hp; have H3 := Lib.hid (And.intro hs hk3); clear hk3)
  have hlen : q.length = 1 := by have h := congrArg List.length hq; rw [List.length_map] at h; exact h
  obtain ⟨y, rfl⟩ := List.length_eq_one_iff.1 hlen
  obtain ⟨x, lv, av, ev⟩ := y
  have hx2 : [x] = [o1] := hq
  have hx : x = o1 := (List.cons.inj hx2).1
  clear hx2 hlen
  subst hx
  obtain ⟨A, c, rfl⟩ := own_slice hs.row
  obtain ⟨g, rfl, _, hc⟩ := own_elem hs.row (by show 0 < 13; decide)
  have hrg : w3.rangeAt g 0 (o1.cells lv av ev).toList := fun j u hu => by rw [Nat.zero_add]; exact hc j u hu
  have ho := hs.each _ (List.mem_singleton.2 rfl)
  have hsr : SReads w3 o1 lv av ev := sreads_own ho.l ho.a ho.e (by decide) (by decide) (by decide)
  have hkd : Kept (fun _ => False) w3 w3.drew := .drew _ _
  have HRG := Lib.hid hrg
  have HSM : ∀ w5, Kept (fun _ => False) w3.drew w5 → Calls Tryz.prog 30 #[.agg (o1.cells lv av ev), .agg c1] w5 (BoolPost true w5) := fun w5 hk => by
    have := same_any o1 o1 lv av ev _ _ _ w5 ((hsr.kept hkd).kept hk) (o1_reads w5)
    rw [sameS_yes rfl, c1_eq] at this
    exact this
  clear hs hq hc ho hsr hrg HDEC
  simp only [List.length_singleton]
  go_upto_region 5 with fail
  refine wp_region_held_drew (S := fun W => W.rangeAt g 0 (o1.cells lv av ev).toList) (by kernel_rfl) HRG.out (fun hH => ?_)
  refine takeH 0 28 rfl (by kernel_rfl) (by kernel_rfl) (by kernel_rfl) (v := ?_) (fun _ _ _ h => h) rfl (by rfl) ?_ hH ?_
  case refine_2 => intro w hSw; clear hSw; go_simp; try with_reducible rfl
  simp only [List.setIfInBounds_toArray, List.set_cons_zero, List.set_cons_succ]
  refine takeH 1 29 rfl (by kernel_rfl) (by kernel_rfl) (by kernel_rfl) (v := ?_) (fun _ _ _ h => h) rfl (by rfl) ?_ hH ?_
  case refine_2 => intro w hSw; clear hSw; go_simp; try with_reducible rfl
  simp only [List.setIfInBounds_toArray, List.set_cons_zero, List.set_cons_succ]
  refine takeH 2 30 rfl (by kernel_rfl) (by kernel_rfl) (by kernel_rfl) (v := ?_) (fun _ _ _ h => h) rfl (by rfl) ?_ hH ?_
  case refine_2 => intro w hSw; refine exec_load76 (x := .tmp 29) ?_ ?_ hSw; exact rfl; exact rfl
  simp only [List.setIfInBounds_toArray, List.set_cons_zero, List.set_cons_succ]
  clear hH
  refine stepH 3 31 (by kernel_rfl) rfl rfl rfl #[] _ rfl Tryz.func29 rfl rfl (one_any0 _ _) ?_
  rintro e w5 ⟨rfl, hk5⟩
  have H5 := Lib.hid hk5
  clear hk5
  refine ⟨rangeAt_kept HRG.out (hkd.trans H5.out (fun _ _ e => e) (fun _ _ e => e)), fun hH => ?_⟩
  simp only [List.setIfInBounds_toArray, List.set_cons_zero, List.set_cons_succ]
  clear hH
  refine stepH2 4 32 (by kernel_rfl) rfl rfl rfl _ _ _ rfl Tryz.func30 rfl rfl _ _ rfl rfl (HSM w5 H5.out) ?_
  rintro e w6 ⟨rfl, hk6⟩
  have H6 := Lib.hid hk6
  clear hk6
  refine ⟨rangeAt_kept HRG.out ((hkd.trans H5.out (U := fun _ => False) (fun _ _ e => e) (fun _ _ e => e)).trans H6.out (fun _ _ e => e) (fun _ _ e => e)), fun hH => ?_⟩
  simp only [List.setIfInBounds_toArray, List.set_cons_zero, List.set_cons_succ]
  refine takeH 5 5 rfl (by kernel_rfl) (by kernel_rfl) (by kernel_rfl) (v := ?_) (fun _ _ _ h => h) rfl (by rfl) ?_ hH ?_
  case refine_2 => intro w hSw; clear hSw; go_simp; try with_reducible rfl
  simp only [List.setIfInBounds_toArray, List.set_cons_zero, List.set_cons_succ]
  refine wpAnyH_done (by kernel_rfl) ?_ _
  have k6 := ((H3.out.2.trans hkd (U := fun _ => False) (fun _ _ e => e) (fun _ _ e => e)).trans H5.out (U := fun _ => False) (fun _ _ e => e) (fun _ _ e => e)).trans H6.out (U := fun _ => False) (fun _ _ e => e) (fun _ _ e => e)
  have hcv := conv_rdsB (H2.out.1.kept k6)
  rw [o1_str] at hcv
  have HK6 := Lib.hid k6
  clear k6
  go_wp2_with fail
  go_ret
  exact ⟨rfl, (H2.out.2.trans HK6.out (fun _ _ e => e) (fun _ _ e => e))⟩
theorem num_any (n : Int) (w : World) : Calls Tryz.prog 11 #[.int .i64 n] w fun e w' => e = .returned (.int .i64 n) ∧ w' = w := by
  go_enter Tryz.func11, Tryz.ntmps11
  go_wp2_with fail
  go_ret
  exact ⟨rfl, rfl⟩
set_option maxHeartbeats 4000000 in
theorem batchNames_any (w : World) (hU : Lib.Utf8Tabs 1 2 w) (hnd : Handle w) : Calls Tryz.prog 3 #[] w (TruePost w) := by
  have HS := Lib.hid (shown_any w hU hnd)
  clear hU hnd
  go_enter Tryz.func3, Tryz.ntmps3
  go_wp2_with (first | (go_at_call 10; (with_reducible refine HS.out.mono ?_); rintro e w1 ⟨rfl, hk1⟩; have HK := Lib.hid hk1; clear hk1) | (go_at_call 11; (with_reducible refine (num_any _ _).mono ?_); rintro e w' ⟨rfl, hw⟩; subst w'))
  go_ret
  exact ⟨rfl, HK.out⟩
end Go.Proofs.YtlcbgklealipoaaGreatDoor
end

