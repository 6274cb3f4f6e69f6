import Derived.Test.YtlcbgklealipoaaGreatDoorZP
import Derived.Test.YtlcbgklealipoaaGreatDoorRd
import Derived.Test.YtlcbgklealipoaaGreatDoorZA
import Derived.Test.YtlcbgklealipoaaGreatDoorZU
import Derived.Test.YtlcbgklealipoaaGreatDoorZT
import Derived.Test.YtlcbgklealipoaaGreatDoorZX
import Derived.Deep.RegionHeld3
section
/- The calls that Encode makes of its writer, each as a step. -/
namespace Go.Proofs.YtlcbgklealipoaaGreatDoor
open Go Go.RowKit
set_option linter.unusedVariables false
set_option linter.unusedSimpArgs false

def BW.nt (b : BW) (x : ByteArray) : BW := { b with tx := addIn b.tx x }
def BW.nr (b : BW) (x : Nat × Nat) : BW := { b with tr := addIn b.tr x }
def BW.at_ (b : BW) (s : Int) : BW := { b with st := s }
theorem nt_put (b : BW) (x : ByteArray) : (b.nt x).put (venc (idxIn b.tx x)) = b.text x := rfl
theorem nr_put (b : BW) (x : Nat × Nat) : (b.nr x).put (venc (idxIn b.tr x)) = b.trace x := rfl
theorem add_len {α : Type} [DecidableEq α] (l : List α) (x : α) : (addIn l x).length ≤ l.length + 1 := by
  unfold addIn
  split
  · omega
  · rw [List.length_append]; simp
theorem idx_le {α : Type} [DecidableEq α] (l : List α) (x : α) : idxIn l x ≤ l.length := List.findIdx_le_length
theorem wC_tx {g mt : Nat} {tv : Value} {mr : Nat} {rv : Value} {st : Int} (u : Value) : (wC g mt tv mr rv st).setIfInBounds (1 + 1) u = wC g mt u mr rv st := rfl
theorem wC_tr {g mt : Nat} {tv : Value} {mr : Nat} {rv : Value} {st : Int} (u : Value) : (wC g mt tv mr rv st).setIfInBounds (3 + 1) u = wC g mt tv mr u st := rfl
theorem wC_st {g mt : Nat} {tv : Value} {mr : Nat} {rv : Value} {st : Int} (s : Int) : (wC g mt tv mr rv st).setIfInBounds 5 (.int .i64 s) = wC g mt tv mr rv s := rfl
section
variable {wb g mt mr N : Nat} {w0 w : World} {b : BW}
/-- A text's number, of the writer. -/
theorem wText (h : WAt wb g mt mr w0 b N w) (x : ByteArray) (hx : x.size ≤ maxLen) (hN : N ≤ 1000000) :
    Calls Tryz.prog 79 #[.pointer (some ⟨wb, 1, none⟩), .string x] w (WPost wb g mt mr w0 (b.nt x) (N + 1) w (.int .u64 (idxIn b.tx x))) := by
  obtain ⟨tv, rv, a1, a2⟩ := h.st
  have hlen := h.len
  refine (numText_any w0.heap.size wb 1 mt 91 _ tv b.tx x w a1 hx (by omega)).mono ?_
  rintro e w' ⟨rfl, v', b1, hm, hk⟩
  obtain ⟨v, hv⟩ := h.wr
  obtain ⟨D1, m1, _⟩ := a1.map
  obtain ⟨D2, m2, _⟩ := a2.map
  rw [wC_tx] at b1
  obtain ⟨n1, n2, n3⟩ := a2.ne
  have hwb : ∀ {k : Nat} {cs : Array Value} {t : TypeId} {fr : Nat × Nat}, w.heap[k]? = some (.cells cs t fr) → t ≠ 91 → k ≠ wb := by
    rintro k cs t fr hq ht rfl
    have := a1.blk.symm.trans hq
    injection this with this
    injection this with _ this
    exact ht this.symm
  refine ⟨rfl, ⟨⟨v, hv.kept hk ?_ ?_⟩, ⟨v', rv, b1, a2.other hk b1.blk rfl rfl ?_ ?_⟩, h.ne, h.kept.trans hk (fun _ _ e => e) ?_, h.ge, ?_⟩, ?_⟩
  · rintro (e | e | e)
    · exact hwb hv.blk (by decide) e
    · exact map_ne m1 hv.blk e
    · exact own_ne a1.row hv.blk (by decide) e
  · rintro k hk1 (rfl | rfl | e)
    · exact own_ne hv.own a1.blk (by decide) hk1
    · exact own_map' hv.own m1 hk1
    · exact own_own hv.own a1.row (by decide) hk1 e
  · rintro k hk1 (rfl | rfl | e)
    · exact n3 hk1
    · exact own_map' a2.row m1 hk1
    · exact own_own a2.row a1.row (by decide) hk1 e
  · rintro (e | e | e)
    · exact n1 e
    · exact h.ne e.symm
    · exact own_map' a1.row m2 e
  · rintro i hi (rfl | rfl | e)
    · have := a1.base; omega
    · have := h.ge; omega
    · have := (a1.row.lt i e).1; omega
  · have := add_len b.tx x
    exact ⟨by show b.out.length ≤ _; omega, by show (addIn b.tx x).length ≤ _; omega, by show b.tr.length ≤ _; omega⟩
  · intro xb cs t fr hq h1 h2 h3 h4 h5
    refine blk_kept hk hq ?_
    rintro (e | e | e)
    · exact hwb hq h1 e
    · exact map_ne m1 hq e
    · exact own_ne a1.row hq h4 e
/-- A trace's number, of the writer. -/
theorem wTrace (h : WAt wb g mt mr w0 b N w) (x : Nat × Nat) (hx : okP x) (hN : N ≤ 1000000) :
    Calls Tryz.prog 78 #[.pointer (some ⟨wb, 3, none⟩), traceV x] w (WPost wb g mt mr w0 (b.nr x) (N + 1) w (.int .u64 (idxIn b.tr x))) := by
  obtain ⟨tv, rv, a1, a2⟩ := h.st
  have hlen := h.len
  refine (numTrace_any w0.heap.size wb 3 mr 91 _ rv b.tr x w a2 hx (by omega)).mono ?_
  rintro e w' ⟨rfl, v', b1, hm, hk⟩
  obtain ⟨v, hv⟩ := h.wr
  obtain ⟨D1, m1, _⟩ := a1.map
  obtain ⟨D2, m2, _⟩ := a2.map
  rw [wC_tr] at b1
  obtain ⟨n1, n2, n3⟩ := a1.ne
  have hwb : ∀ {k : Nat} {cs : Array Value} {t : TypeId} {fr : Nat × Nat}, w.heap[k]? = some (.cells cs t fr) → t ≠ 91 → k ≠ wb := by
    rintro k cs t fr hq ht rfl
    have := a1.blk.symm.trans hq
    injection this with this
    injection this with _ this
    exact ht this.symm
  refine ⟨rfl, ⟨⟨v, hv.kept hk ?_ ?_⟩, ⟨tv, v', a1.other hk b1.blk rfl rfl ?_ ?_, b1⟩, h.ne, h.kept.trans hk (fun _ _ e => e) ?_, h.ge, ?_⟩, ?_⟩
  · rintro (e | e | e)
    · exact hwb hv.blk (by decide) e
    · exact map_ne m2 hv.blk e
    · exact own_ne a2.row hv.blk (by decide) e
  · rintro k hk1 (rfl | rfl | e)
    · exact own_ne hv.own a1.blk (by decide) hk1
    · exact own_map' hv.own m2 hk1
    · exact own_own hv.own a2.row (by decide) hk1 e
  · rintro k hk1 (rfl | rfl | e)
    · exact n3 hk1
    · exact own_map' a1.row m2 hk1
    · exact own_own a1.row a2.row (by decide) hk1 e
  · rintro (e | e | e)
    · exact n1 e
    · exact h.ne e
    · exact own_map' a2.row m1 e
  · rintro i hi (rfl | rfl | e)
    · have := a1.base; omega
    · have := h.ge; omega
    · have := (a2.row.lt i e).1; omega
  · have := add_len b.tr x
    exact ⟨by show b.out.length ≤ _; omega, by show b.tx.length ≤ _; omega, by show (addIn b.tr x).length ≤ _; omega⟩
  · intro xb cs t fr hq h1 h2 h3 h4 h5
    refine blk_kept hk hq ?_
    rintro (e | e | e)
    · exact hwb hq h1 e
    · exact map_ne m2 hq e
    · exact own_ne a2.row hq h5 e
theorem WAt.unit (h : WAt wb g mt mr w0 b N w) {v : Value} {l : List Int} {M : Nat} (hv : WrAt 160 5 w0.heap.size w g v b.out) (hl : l.length ≤ M) {e : Ending} {w' : World} (hp : UintPost w0.heap.size g v (b.out ++ l) w e w') :
    WPost wb g mt mr w0 (b.put l) (N + M) w (.tuple #[]) e w' := by
  obtain ⟨rfl, v', hst⟩ := hp
  obtain ⟨h1, h2⟩ := h.put hv hst hl
  exact ⟨rfl, h1, h2⟩
theorem wUint (h : WAt wb g mt mr w0 b N w) (n : Nat) (hn : n < 18446744073709551616) (hN : N ≤ 1000000) :
    Calls Tryz.prog 35 #[.pointer (some ⟨g, 0, none⟩), .int .u64 n] w (WPost wb g mt mr w0 (b.put (venc n)) (N + 10) w (.tuple #[])) := by
  obtain ⟨v, hv⟩ := h.wr
  have hl := h.len
  exact (uint_any w0.heap.size g v b.out n w hn hv (by omega)).mono fun e w' hp => h.unit hv (venc_len10 hn) hp
theorem wInt (h : WAt wb g mt mr w0 b N w) (i : Int) (h0 : -9223372036854775808 ≤ i) (h1 : i < 9223372036854775808) (hN : N ≤ 1000000) :
    Calls Tryz.prog 80 #[.pointer (some ⟨g, 0, none⟩), .int .i64 i] w (WPost wb g mt mr w0 (b.put (venc (zig i).toNat)) (N + 10) w (.tuple #[])) := by
  obtain ⟨v, hv⟩ := h.wr
  have hl := h.len
  refine (int_any w0.heap.size g v b.out i w h0 h1 hv (by omega)).mono fun e w' hp => h.unit hv (venc_len10 ?_) hp
  have := zig_range i h0 h1; omega
theorem wRaw (h : WAt wb g mt mr w0 b N w) (y : Value) (p : List Int) (M : Nat) (hr : Reads w y p) (hp : p.length ≤ M) (hM : M ≤ 1000000) (hN : N ≤ 1000000) :
    Calls Tryz.prog 34 #[.pointer (some ⟨g, 0, none⟩), y] w (WPost wb g mt mr w0 (b.put p) (N + M) w (.tuple #[])) := by
  obtain ⟨v, hv⟩ := h.wr
  have hl := h.len
  exact (raw_any w0.heap.size g v y b.out p w hr hv (by omega)).mono fun e w' hq => h.unit hv hp hq
/-- w.start = s. -/
theorem WAt.start (h : WAt wb g mt mr w0 b N w) (s : Int) : WAt wb g mt mr w0 (b.at_ s) N (w.setCell ⟨wb, 5, none⟩ (.int .i64 s)) ∧ Apart w (w.setCell ⟨wb, 5, none⟩ (.int .i64 s)) := by
  have hk : Kept (fun k => k = wb) w (w.setCell ⟨wb, 5, none⟩ (.int .i64 s)) := .setCell _ _ _ rfl
  obtain ⟨v, hv⟩ := h.wr
  obtain ⟨tv, rv, a1, a2⟩ := h.st
  have hb := blk_set a1.blk 5 (.int .i64 s)
  rw [wC_st] at hb
  have ng : g ≠ wb := by
    rintro rfl
    have := a1.blk.symm.trans hv.blk
    injection this with this
    injection this with _ this
    cases this
  refine ⟨⟨⟨v, hv.kept hk ng fun k e e2 => own_ne hv.own a1.blk (by decide) (e2 ▸ e)⟩, ⟨tv, rv, a1.other hk hb rfl rfl (fun k e e2 => a1.ne.2.2 (e2 ▸ e)) a1.ne.1, a2.other hk hb rfl rfl (fun k e e2 => a2.ne.2.2 (e2 ▸ e)) a2.ne.1⟩, h.ne, h.kept.trans hk (fun _ _ e => e) (fun i hi e => by have := a1.base; omega), h.ge, h.len⟩, ?_⟩
  intro xb cs t fr hq h1 h2 h3 h4 h5
  refine blk_kept hk hq ?_
  rintro rfl
  have := a1.blk.symm.trans hq
  injection this with this
  injection this with _ this
  exact h1 this.symm
end
end Go.Proofs.YtlcbgklealipoaaGreatDoor
end

section
/- raw: a number in 8 bytes (the walk). -/
namespace Go.Proofs.YtlcbgklealipoaaGreatDoor
open Go Go.RowKit
set_option linter.unusedVariables false
set_option linter.unusedSimpArgs false

theorem raw8_get (x k : Nat) (hk : k < 8) : (raw8 x)[k]? = some (((x / 2 ^ (56 - 8 * k)) % 256 : Nat) : Int) := by
  rw [raw8_eq]
  match k, hk with
  | 0, _ => rfl
  | 1, _ => rfl
  | 2, _ => rfl
  | 3, _ => rfl
  | 4, _ => rfl
  | 5, _ => rfl
  | 6, _ => rfl
  | 7, _ => simp
theorem take_snoc {α : Type} {l : List α} {k : Nat} {x : α} (h : l[k]? = some x) : l.take (k + 1) = l.take k ++ [x] := by
  rw [List.take_add_one, h, Option.toList_some]
def Raw8Post (x : Nat) (w : World) (e : Ending) (w' : World) : Prop := ∃ v, e = .returned v ∧ Reads w' v (raw8 x) ∧ Kept (fun _ => False) w w'
set_option maxHeartbeats 2000000 in
set_option maxRecDepth 100000 in
theorem raw8_any (x : Nat) (w : World) (hx : x < 18446744073709551616) : Calls Tryz.prog 37 #[.int .u64 x] w (Raw8Post x w) := by
  obtain ⟨i0, hi, hz0, hz1, hz2⟩ := info_parts Tryz.info5
  obtain ⟨B, hB⟩ : ∃ B, B = w.heap.size := ⟨_, rfl⟩
  go_enter Tryz.func37, Tryz.ntmps37
  go_wp2_with fail
  go_loopw [3, 5] (fun v i wr => ∃ k : Nat, k ≤ 8 ∧ i = .int .i64 k ∧ wr.ownsRow B 5 1 v k (nums .u8 ((raw8 x).take k)) ∧ Kept (fun _ => False) w wr) (fun _ i _ => 8 - (intOf i).toNat)
  case atStart => exact ⟨0, by omega, rfl, ⟨by simp [nums], .inl ⟨rfl, rfl⟩⟩, .refl _ _⟩
  obtain ⟨k, hk, rfl, hown, hkw⟩ := hrel
  have k0 : (0 : Int) ≤ k := by omega
  by_cases hk8 : k < 8
  · have k1 : (k : Int) < 8 := by omega
    obtain ⟨A, c, rfl⟩ := own_slice hown
    have hsz := hkw.size
    have hBw : B ≤ wr.heap.size := by omega
    have HK := Lib.hid hkw
    have HB := Lib.hid hB
    clear hkw hB hsz
    go_wp2_with (at_builtin; refine wpList_append_long rfl _ _ 26 rfl B 5 i0 (.int .u8 0) 1 1 Tryz.underlying26 hi hz0 hz1 hz2 rfl (by decide) (.slice A k c) k (nums .u8 ((raw8 x).take k)) _ 1 rfl rfl rfl ?c1 hown (by omega) (by decide) hBw ?_)
    case c1 => simp [Value.oneCell']
    rintro A' c' w1 hown1 hg hat
    have e : nums .u8 ((raw8 x).take k) ++ [Value.int .u8 ((x : Int) / 2 ^ (56 - 8 * k) % 256)] = nums .u8 ((raw8 x).take (k + 1)) := by
      rw [take_snoc (raw8_get x k hk8), nums_append]
      simp [nums]
    have hown2 : w1.ownsRow B 5 1 (.slice A' (k + 1) c') (k + 1) (nums .u8 ((raw8 x).take (k + 1))) := e ▸ hown1
    have H1 := Lib.hid (And.intro hown2 hg)
    clear e hown1 hown2 hg hat hk8
    have HO := Lib.hid hown
    clear hown
    go_wp2_with fail
    refine ⟨⟨k + 1, by omega, by congr 1, H1.out.1, ?_⟩, by simp [intOf]; omega⟩
    refine ((HK.out.trans (.alloc _ _ _) (U := fun _ => False) (fun _ _ e => e) (fun _ _ e => e)).trans (Kept.of_grown (S := fun b => (Value.slice A k c).ownBlock = some b) H1.out.2 (fun b e => e)) (fun _ _ e => e) ?_)
    intro b hb e
    have := (HO.out.lt b e).1; have := HB.out; omega
  · obtain rfl : k = 8 := by omega
    have k1 : ¬ ((8 : Nat) : Int) < 8 := by omega
    have e : (raw8 x).take 8 = raw8 x := List.take_of_length_le (by rw [raw8_len]; omega)
    rw [e] at hown
    obtain ⟨A, c, rfl⟩ := own_slice hown
    have hr := (Lies.of_own (l := raw8 x) (by rw [raw8_len]; exact hown)).reads
    have HR := Lib.hid (And.intro hr hkw)
    clear hr hkw hown e hk8
    go_wp2_with fail
    go_ret
    exact ⟨_, rfl, HR.out.1, HR.out.2⟩
end Go.Proofs.YtlcbgklealipoaaGreatDoor
end

section
/- Spans in a list, in memory. -/
namespace Go.Proofs.YtlcbgklealipoaaGreatDoor
open Go Go.RowKit
set_option linter.unusedVariables false
set_option linter.unusedSimpArgs false

/-- v reads as spans. -/
def SpsReads (w : World) (v : Value) (ss : List Spn) : Prop :=
  ∃ A c, v = .slice A ss.length c ∧ (0 < ss.length → ∃ b off, A = some ⟨b, off, none⟩ ∧ ∀ (i : Nat) s, ss[i]? = some s → ∃ lv av ev, w.rangeAt b (off + i * 13) (s.cells lv av ev).toList ∧ SReads w s lv av ev ∧ Sized s ∧ Fits s)
theorem rangeAt_kept {w w' : World} {b o : Nat} {cs : List Value} (h : w.rangeAt b o cs) (hk : Kept (fun _ => False) w w') : w'.rangeAt b o cs := fun j u hu => cell_kept hk (h j u hu)
theorem SpsReads.kept {w w' : World} {v : Value} {ss : List Spn} (h : SpsReads w v ss) (hk : Kept (fun _ => False) w w') : SpsReads w' v ss := by
  obtain ⟨A, c, rfl, hc⟩ := h
  refine ⟨A, c, rfl, fun h0 => ?_⟩
  obtain ⟨b, off, rfl, hq⟩ := hc h0
  refine ⟨b, off, rfl, fun i s hi => ?_⟩
  obtain ⟨lv, av, ev, h1, h2, h3⟩ := hq i s hi
  exact ⟨lv, av, ev, rangeAt_kept h1 hk, h2.kept hk, h3⟩
theorem SpsReads.take {w : World} {A : Option Addr} {n c : Nat} {ss : List Spn} (h : SpsReads w (.slice A n c) ss) (k : Nat) (hk : k ≤ ss.length) (c' : Nat) : SpsReads w (.slice A k c') (ss.take k) := by
  obtain ⟨A', c1, e, hc⟩ := h
  injection e with e1 e2 e3
  subst e1
  refine ⟨A, c', by rw [List.length_take, Nat.min_eq_left hk], fun h0 => ?_⟩
  rw [List.length_take] at h0
  obtain ⟨b, off, e, hq⟩ := hc (by omega)
  refine ⟨b, off, e, fun i s hi => hq i s ?_⟩
  rw [List.getElem?_take] at hi
  split at hi
  · exact hi
  · cases hi
/-- A span out of the midst of a list. -/
theorem wpList_loadS {w : World} {ops : Array Oper} {rest : List Oper} {op : Oper} {a : Act} {Q : Exit → Act → World → Prop} (hgd : op.guard = none) (x : Operand) (ho : op.op = .load 76 x)
    (b o : Nat) (s : Spn) (lv av ev : Value) (hx : a.eval x = .pointer (some ⟨b, o, none⟩)) (hb : w.rangeAt b o (s.cells lv av ev).toList)
    (h : wpList Tryz.prog ops Q rest (a.put op.dst (.agg (s.cells lv av ev))) w) : wpList Tryz.prog ops Q (op :: rest) a w :=
  wpList_load_mid hgd 76 x ho b o hx _ _ hb Tryz.underlying76 rfl (by rw [Tryz.size76]; rfl) (by simpa using h)
end Go.Proofs.YtlcbgklealipoaaGreatDoor
end

section
/- The writer's calls, with one more block that stays. -/
namespace Go.Proofs.YtlcbgklealipoaaGreatDoor
open Go Go.RowKit
set_option linter.unusedVariables false
set_option linter.unusedSimpArgs false

structure WMid (wb g mt mr : Nat) (w0 : World) (b : BW) (N : Nat) (w : World) (q : Nat) (cs : Array Value) (T : TypeId) (w' : World) : Prop where
  at_ : WAt wb g mt mr w0 b N w'
  ap : Apart w w'
  blk : w'.heap[q]? = some (.cells cs T (0, 0))
  ne : T ≠ 91 ∧ T ≠ 160 ∧ T ≠ 5 ∧ T ≠ 9 ∧ T ≠ 68
section
variable {wb g mt mr N q : Nat} {w0 w W : World} {b : BW} {cs : Array Value} {T : TypeId}
theorem WMid.c0 (h : WMid wb g mt mr w0 b N w q cs T W) : W.cell? ⟨wb, 0, none⟩ = some (.pointer (some ⟨g, 0, none⟩)) := h.at_.c0
theorem WMid.cq (h : WMid wb g mt mr w0 b N w q cs T W) (i : Nat) : W.cell? ⟨q, i, none⟩ = cs[i]? := blk_cell h.blk i
theorem WMid.later {W' : World} (h : WMid wb g mt mr w0 b N w q cs T W) (hk : Kept (fun _ => False) W W') : WMid wb g mt mr w0 b N w q cs T W' :=
  ⟨h.at_.later hk, h.ap.trans (.of_kept hk), blk_kept hk h.blk (fun h => h), h.ne⟩
theorem WMid.drew (h : WMid wb g mt mr w0 b N w q cs T W) : WMid wb g mt mr w0 b N w q cs T W.drew := h.later (.drew _ _)
theorem WMid.alloc (h : WMid wb g mt mr w0 b N w q cs T W) (o : Obj) : WMid wb g mt mr w0 b N w q cs T (W.alloc o) := h.later (.alloc _ _ _)
def MPost (wb g mt mr : Nat) (w0 : World) (b : BW) (N : Nat) (w : World) (q : Nat) (cs : Array Value) (T : TypeId) (r : Value) (e : Ending) (w' : World) : Prop := e = .returned r ∧ WMid wb g mt mr w0 b N w q cs T w'
theorem WMid.call {b' : BW} {N' : Nat} {r : Value} {e : Ending} {w' : World} (h : WMid wb g mt mr w0 b N w q cs T W) (hp : WPost wb g mt mr w0 b' N' W r e w') : MPost wb g mt mr w0 b' N' w q cs T r e w' := by
  obtain ⟨rfl, h1, h2⟩ := hp
  exact ⟨rfl, h1, h.ap.trans h2, h2 _ _ _ _ h.blk h.ne.1 h.ne.2.1 h.ne.2.2.1 h.ne.2.2.2.1 h.ne.2.2.2.2, h.ne⟩
theorem mText (h : WMid wb g mt mr w0 b N w q cs T W) (x : ByteArray) (hx : x.size ≤ 9223372036854775807) (hN : N ≤ 1000000) :
    Calls Tryz.prog 79 #[.pointer (some ⟨wb, 1, none⟩), .string x] W (MPost wb g mt mr w0 (b.nt x) (N + 1) w q cs T (.int .u64 (idxIn b.tx x))) :=
  (wText h.at_ x (by unfold maxLen; exact hx) hN).mono fun _ _ hp => h.call hp
theorem mTrace (h : WMid wb g mt mr w0 b N w q cs T W) (x : Nat × Nat) (hx : okP x) (hN : N ≤ 1000000) :
    Calls Tryz.prog 78 #[.pointer (some ⟨wb, 3, none⟩), .agg #[.int .u64 x.1, .int .u64 x.2]] W (MPost wb g mt mr w0 (b.nr x) (N + 1) w q cs T (.int .u64 (idxIn b.tr x))) :=
  (wTrace h.at_ x hx hN).mono fun _ _ hp => h.call hp
theorem mTextN {x : ByteArray} (h : WMid wb g mt mr w0 (b.nt x) (N + 1) w q cs T W) (hN : N ≤ 900000) (hb : idxIn b.tx x < 18446744073709551616) :
    Calls Tryz.prog 35 #[.pointer (some ⟨g, 0, none⟩), .int .u64 (idxIn b.tx x)] W (MPost wb g mt mr w0 (b.text x) (N + 11) w q cs T (.tuple #[])) :=
  (wUint h.at_ (idxIn b.tx x) hb (by omega)).mono fun _ _ hp => h.call hp
theorem mTraceN {x : Nat × Nat} (h : WMid wb g mt mr w0 (b.nr x) (N + 1) w q cs T W) (hN : N ≤ 900000) (hb : idxIn b.tr x < 18446744073709551616) :
    Calls Tryz.prog 35 #[.pointer (some ⟨g, 0, none⟩), .int .u64 (idxIn b.tr x)] W (MPost wb g mt mr w0 (b.trace x) (N + 11) w q cs T (.tuple #[])) :=
  (wUint h.at_ (idxIn b.tr x) hb (by omega)).mono fun _ _ hp => h.call hp
theorem WMid.idxT (h : WMid wb g mt mr w0 b N w q cs T W) (x : ByteArray) (hN : N ≤ 900000) : idxIn b.tx x < 18446744073709551616 := by
  have := idx_le b.tx x; have := h.at_.len; omega
theorem WMid.idxR (h : WMid wb g mt mr w0 b N w q cs T W) (x : Nat × Nat) (hN : N ≤ 900000) : idxIn b.tr x < 18446744073709551616 := by
  have := idx_le b.tr x; have := h.at_.len; omega
theorem mUint (h : WMid wb g mt mr w0 b N w q cs T W) (n : Nat) (hn : n < 18446744073709551616) (hN : N ≤ 900000) :
    Calls Tryz.prog 35 #[.pointer (some ⟨g, 0, none⟩), .int .u64 n] W (MPost wb g mt mr w0 (b.put (venc n)) (N + 10) w q cs T (.tuple #[])) :=
  (wUint h.at_ n hn (by omega)).mono fun _ _ hp => h.call hp
theorem mInt (h : WMid wb g mt mr w0 b N w q cs T W) (i : Int) (h0 : -9223372036854775808 ≤ i) (h1 : i < 9223372036854775808) (hN : N ≤ 900000) :
    Calls Tryz.prog 80 #[.pointer (some ⟨g, 0, none⟩), .int .i64 i] W (MPost wb g mt mr w0 (b.put (venc (zig i).toNat)) (N + 10) w q cs T (.tuple #[])) :=
  (wInt h.at_ i h0 h1 (by omega)).mono fun _ _ hp => h.call hp
theorem mRaw (h : WMid wb g mt mr w0 b N w q cs T W) (y : Value) (p : List Int) (hr : Reads W y p) (hp : p.length ≤ 8) (hN : N ≤ 900000) :
    Calls Tryz.prog 34 #[.pointer (some ⟨g, 0, none⟩), y] W (MPost wb g mt mr w0 (b.put p) (N + 8) w q cs T (.tuple #[])) :=
  (wRaw h.at_ y p 8 hr hp (by omega) (by omega)).mono fun _ _ hp => h.call hp
/-- raw of a number, between. -/
def R8Post (wb g mt mr : Nat) (w0 : World) (b : BW) (N : Nat) (w : World) (q : Nat) (cs : Array Value) (T : TypeId) (x : Nat) (e : Ending) (w' : World) : Prop := ∃ v, e = .returned v ∧ Reads w' v (raw8 x) ∧ WMid wb g mt mr w0 b N w q cs T w'
theorem mRaw8 (h : WMid wb g mt mr w0 b N w q cs T W) (x : Nat) (hx : x < 18446744073709551616) : Calls Tryz.prog 37 #[.int .u64 x] W (R8Post wb g mt mr w0 b N w q cs T x) :=
  (raw8_any x W hx).mono fun _ _ ⟨v, h1, h2, h3⟩ => ⟨v, h1, h2, h.later h3⟩
/-- One byte, in a list that was just made. -/
theorem byte_reads (W : World) (x : Int) : Reads (W.alloc (.cells #[.int .u8 x] 5)) (.slice (some ⟨W.heap.size, 0, none⟩) 1 1) [x] := by
  refine ⟨some ⟨W.heap.size, 0, none⟩, 1, rfl, ⟨fun h => (by cases h), Nat.le_refl _⟩, fun j u hu => ?_⟩
  match j, hu with
  | 0, hu =>
    have : u = .int .u8 x := by simpa [nums] using hu.symm
    subst this
    exact ⟨_, rfl, by rw [Addr.add_mid]; exact (blk_cell (heap_alloc_new W _) 0).trans rfl⟩
theorem mByte0 (h : WMid wb g mt mr w0 b N w q cs T W) (x : Int) (hN : N ≤ 900000) :
    Calls Tryz.prog 34 #[.pointer (some ⟨g, 0, none⟩), .slice (some ⟨W.heap.size, 0, none⟩) 1 1] (W.alloc (.cells #[.int .u8 x] 5)).drew (MPost wb g mt mr w0 (b.put [x]) (N + 1) w q cs T (.tuple #[])) :=
  (wRaw (h.alloc _).drew.at_ _ [x] 1 ((byte_reads W x).kept (.drew _ _)) (by simp) (by omega) (by omega)).mono fun _ _ hp => (h.alloc _).drew.call hp
theorem mByte (h : WMid wb g mt mr w0 b N w q cs T W) (x : Int) (h0 : 0 ≤ x) (h1 : x < 256) (hN : N ≤ 900000) :
    Calls Tryz.prog 34 #[.pointer (some ⟨g, 0, none⟩), .slice (some ⟨W.heap.size, 0, none⟩) 1 1] (W.alloc (.cells #[.int .u8 (IntKind.u8.wrap x)] 5)).drew (MPost wb g mt mr w0 (b.put [x]) (N + 1) w q cs T (.tuple #[])) := by
  have e : IntKind.u8.wrap x = x := by rw [IntKind.wrap_u8]; omega
  rw [e]
  exact mByte0 h x hN
theorem mUintI (h : WMid wb g mt mr w0 b N w q cs T W) (x : Int) (h0 : 0 ≤ x) (h1 : x < 18446744073709551616) (hN : N ≤ 900000) :
    Calls Tryz.prog 35 #[.pointer (some ⟨g, 0, none⟩), .int .u64 x] W (MPost wb g mt mr w0 (b.put (venc x.toNat)) (N + 10) w q cs T (.tuple #[])) := by
  have := mUint h x.toNat (by omega) hN
  rwa [Int.toNat_of_nonneg h0] at this
theorem WMid.start (h : WMid wb g mt mr w0 b N w q cs T W) (s : Int) : WMid wb g mt mr w0 (b.at_ s) N w q cs T (W.setCell ⟨wb, 5, none⟩ (.int .i64 s)) := by
  obtain ⟨h1, h2⟩ := h.at_.start s
  exact ⟨h1, h.ap.trans h2, h2 _ _ _ _ h.blk h.ne.1 h.ne.2.1 h.ne.2.2.1 h.ne.2.2.2.1 h.ne.2.2.2.2, h.ne⟩
/-- What a region's loads lean on. -/
def WS (wb g : Nat) (st : Int) (q : Nat) (cs : Array Value) (W : World) : Prop := W.cell? ⟨wb, 0, none⟩ = some (.pointer (some ⟨g, 0, none⟩)) ∧ W.cell? ⟨wb, 5, none⟩ = some (.int .i64 st) ∧ ∀ j, W.cell? ⟨q, j, none⟩ = cs[j]?
theorem WMid.ws (h : WMid wb g mt mr w0 b N w q cs T W) : WS wb g b.st q cs W := ⟨h.c0, h.at_.c5, h.cq⟩
/-- A new block. -/
theorem WMid.block {w' : World} {cs' : Array Value} {T' : TypeId} {q' : Nat} (h : WMid wb g mt mr w0 b N w q cs T W) (hk : Kept (fun _ => False) W w') (hb : w'.heap[q']? = some (.cells cs' T' (0, 0))) (hT : T' ≠ 91 ∧ T' ≠ 160 ∧ T' ≠ 5 ∧ T' ≠ 9 ∧ T' ≠ 68) : WMid wb g mt mr w0 b N w q' cs' T' w' :=
  ⟨h.at_.later hk, h.ap.trans (.of_kept hk), hb, hT⟩
end
def atrA (a : Atr) : Array Value := #[.string a.key, .int .i64 a.k, .string a.t, .int .i64 a.i]
def evtA (e : Evt) : Array Value := #[.int .i64 e.at_, .string e.n]
theorem Tryz.size132 : (Tryz.prog.info? 132).map (·.size) = some 4 := by kernel_rfl
theorem Tryz.size134 : (Tryz.prog.info? 134).map (·.size) = some 2 := by kernel_rfl
section
variable {w : World} {ops : Array Oper} {rest : List Oper} {op : Oper} {a : Act} {Q : Exit → Act → World → Prop}
theorem wpList_atr (hgd : op.guard = none) (x : Operand) (ho : op.op = .load 132 x) (b o : Nat) (s : Atr) (hx : a.eval x = .pointer (some ⟨b, o, none⟩)) (hb : w.rangeAt b o (atrA s).toList)
    (h : wpList Tryz.prog ops Q rest (a.put op.dst (.agg (atrA s))) w) : wpList Tryz.prog ops Q (op :: rest) a w :=
  wpList_load_mid hgd 132 x ho b o hx _ _ hb Tryz.underlying132 rfl (by rw [Tryz.size132]; rfl) (by simpa using h)
theorem wpList_evt (hgd : op.guard = none) (x : Operand) (ho : op.op = .load 134 x) (b o : Nat) (s : Evt) (hx : a.eval x = .pointer (some ⟨b, o, none⟩)) (hb : w.rangeAt b o (evtA s).toList)
    (h : wpList Tryz.prog ops Q rest (a.put op.dst (.agg (evtA s))) w) : wpList Tryz.prog ops Q (op :: rest) a w :=
  wpList_load_mid hgd 134 x ho b o hx _ _ hb Tryz.underlying134 rfl (by rw [Tryz.size134]; rfl) (by simpa using h)
/-- A new variable's first store. -/
theorem wpList_atr_new (hgd : op.guard = none) (x y : Operand) (ho : op.op = .store 132 x y) (s : Atr) (cs0 : Array Value) (hx : a.eval x = .pointer (some ⟨w.heap.size, 0, none⟩)) (hy : a.eval y = .agg (atrA s)) (hn0 : cs0.size = 4)
    (h : ∀ w', w'.heap[w.heap.size]? = some (.cells (atrA s) 132 (0, 0)) → Kept (fun _ => False) w w' → wpList Tryz.prog ops Q rest (a.put op.dst undef) w') : wpList Tryz.prog ops Q (op :: rest) a (w.alloc (.cells cs0 132)) :=
  wpList_store_blk hgd 132 x y ho 4 Tryz.size132 w.heap.size cs0 (atrA s) hx hy (heap_alloc_new w _) rfl hn0 (by simp [atrA, Value.oneCell']) fun w' h1 h2 => h w' h1 ((Kept.alloc (fun _ => False) w _).trans h2 (fun _ _ e => e) fun i hi e => by omega)
theorem wpList_evt_new (hgd : op.guard = none) (x y : Operand) (ho : op.op = .store 134 x y) (s : Evt) (cs0 : Array Value) (hx : a.eval x = .pointer (some ⟨w.heap.size, 0, none⟩)) (hy : a.eval y = .agg (evtA s)) (hn0 : cs0.size = 2)
    (h : ∀ w', w'.heap[w.heap.size]? = some (.cells (evtA s) 134 (0, 0)) → Kept (fun _ => False) w w' → wpList Tryz.prog ops Q rest (a.put op.dst undef) w') : wpList Tryz.prog ops Q (op :: rest) a (w.alloc (.cells cs0 134)) :=
  wpList_store_blk hgd 134 x y ho 2 Tryz.size134 w.heap.size cs0 (evtA s) hx hy (heap_alloc_new w _) rfl hn0 (by simp [evtA, Value.oneCell']) fun w' h1 h2 => h w' h1 ((Kept.alloc (fun _ => False) w _).trans h2 (fun _ _ e => e) fun i hi e => by omega)
theorem wpList_atr_blk (hgd : op.guard = none) (x : Operand) (ho : op.op = .load 132 x) (g : Nat) (s : Atr) (hx : a.eval x = .pointer (some ⟨g, 0, none⟩)) (hb : w.heap[g]? = some (.cells (atrA s) 132 (0, 0)))
    (h : wpList Tryz.prog ops Q rest (a.put op.dst (.agg (atrA s))) w) : wpList Tryz.prog ops Q (op :: rest) a w :=
  wpList_load_blk hgd 132 x ho _ Tryz.underlying132 rfl 4 Tryz.size132 g (atrA s) hx hb rfl h
end
theorem range4 {w : World} {b o : Nat} {s : Atr} (h : w.cell? ⟨b, o, none⟩ = some (.string s.key) ∧ w.cell? ⟨b, o + 1, none⟩ = some (.int .i64 s.k) ∧ w.cell? ⟨b, o + 2, none⟩ = some (.string s.t) ∧ w.cell? ⟨b, o + 3, none⟩ = some (.int .i64 s.i)) : w.rangeAt b o (atrA s).toList := by
  intro j v hv
  match j, hv with
  | 0, hv => injection hv with hv; subst hv; exact h.1
  | 1, hv => injection hv with hv; subst hv; exact h.2.1
  | 2, hv => injection hv with hv; subst hv; exact h.2.2.1
  | 3, hv => injection hv with hv; subst hv; exact h.2.2.2
theorem range2 {w : World} {b o : Nat} {s : Evt} (h : w.cell? ⟨b, o, none⟩ = some (.int .i64 s.at_) ∧ w.cell? ⟨b, o + 1, none⟩ = some (.string s.n)) : w.rangeAt b o (evtA s).toList := by
  intro j v hv
  match j, hv with
  | 0, hv => injection hv with hv; subst hv; exact h.1
  | 1, hv => injection hv with hv; subst hv; exact h.2
theorem put_nil (b : BW) : b.put [] = b := by unfold BW.put; rw [List.append_nil]
theorem lastL_snoc (q : List Nat) (x : Nat) : lastL (q ++ [x]) = x := by unfold lastL; simp
theorem cells_take {n c k : Nat} {A : Option Addr} : (Value.slice A n c) = .slice A n c := rfl
end Go.Proofs.YtlcbgklealipoaaGreatDoor
end

