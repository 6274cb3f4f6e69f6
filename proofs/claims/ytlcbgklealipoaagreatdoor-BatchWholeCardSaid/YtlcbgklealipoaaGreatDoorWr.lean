/- What the functions of wire compute, and what becomes of memory. -/
import Derived.Test.YtlcbgklealipoaaGreatDoorLib
import Derived.Test.YtlcbgklealipoaaGreatDoorProg
import Derived.Lib.Hide
import Derived.WalkLawsBesides
import Derived.Outline
import Derived.Deep.LoopGhost
import Derived.WalkSpells
import Derived.Laws.CopyOwn
import Derived.Deep.QuietTactic
import Derived.BigQuiet
import Derived.Laws.Strings
import Derived.Lib.Strings
namespace Go.Proofs.YtlcbgklealipoaaGreatDoor
open Go.RowKit

set_option linter.unusedVariables false
set_option linter.unusedSimpArgs false

theorem ofInt_nat (n : Nat) (x : Int) (hx : 0 ≤ x) (h : x < 2 ^ n) : (BitVec.ofInt n x).toNat = x.toNat := by
  obtain ⟨m, rfl⟩ := Int.eq_ofNat_of_zero_le hx
  have : m < 2 ^ n := by exact_mod_cast h
  rw [BitVec.ofInt_natCast, BitVec.toNat_ofNat, Nat.mod_eq_of_lt this]
  rfl
theorem xor_ones (x : Int) (h0 : 0 ≤ x) (h1 : x < 18446744073709551616) : bits .xor .u64 x 18446744073709551615 = 18446744073709551615 - x := by
  have hb : BitVec.ofInt IntKind.u64.bits 18446744073709551615 = BitVec.allOnes 64 := by rfl
  simp only [bits]
  rw [hb]
  show IntKind.u64.wrap (((BitVec.ofInt 64 x ^^^ BitVec.allOnes 64).toNat : Nat) : Int) = _
  rw [BitVec.xor_allOnes, BitVec.toNat_not, ofInt_nat 64 x h0 (by omega), IntKind.wrap_u64]
  omega
theorem xor_zero (x : Int) (h0 : 0 ≤ x) (h1 : x < 18446744073709551616) : bits .xor .u64 x 0 = x := by
  have hb : BitVec.ofInt IntKind.u64.bits 0 = 0#64 := by rfl
  simp only [bits]
  rw [hb]
  show IntKind.u64.wrap (((BitVec.ofInt 64 x ^^^ 0#64).toNat : Nat) : Int) = _
  rw [BitVec.xor_zero, ofInt_nat 64 x h0 (by omega), IntKind.wrap_u64]
  omega
theorem xor_ones_i (x : Int) (h0 : 0 ≤ x) (h1 : x < 9223372036854775808) : bits .xor .i64 x (-1) = -x - 1 := by
  have hb : BitVec.ofInt IntKind.i64.bits (-1) = BitVec.allOnes 64 := by rfl
  simp only [bits]
  rw [hb]
  show IntKind.i64.wrap (((BitVec.ofInt 64 x ^^^ BitVec.allOnes 64).toNat : Nat) : Int) = _
  rw [BitVec.xor_allOnes, BitVec.toNat_not, ofInt_nat 64 x h0 (by omega), IntKind.wrap_i64]
  omega
theorem xor_zero_i (x : Int) (h0 : 0 ≤ x) (h1 : x < 9223372036854775808) : bits .xor .i64 x 0 = x := by
  have hb : BitVec.ofInt IntKind.i64.bits 0 = 0#64 := by rfl
  simp only [bits]
  rw [hb]
  show IntKind.i64.wrap (((BitVec.ofInt 64 x ^^^ 0#64).toNat : Nat) : Int) = _
  rw [BitVec.xor_zero, ofInt_nat 64 x h0 (by omega), IntKind.wrap_i64]
  omega
theorem and_one (x : Int) (h0 : 0 ≤ x) (h1 : x < 18446744073709551616) : bits .and .u64 x 1 = x % 2 :=
  bits_mask .u64 64 (by decide) (fun n h₀ h₁ => by rw [IntKind.wrap_u64]; omega) 1 (by decide) x h0 (by omega)

def zig (v : Int) : Int := if 0 ≤ v then 2 * v else -2 * v - 1
def zag (u : Int) : Int := if u % 2 = 0 then u / 2 else -(u / 2) - 1

theorem zig_any (v : Int) (w : World) (h0 : -9223372036854775808 ≤ v) (h1 : v < 9223372036854775808) :
    Calls Tryz.prog 125 #[.int .i64 v] w fun e w' => e = .returned (.int .u64 (zig v)) ∧ w' = w := by
  by_cases h : 0 ≤ v
  · have HE := Lib.hid (xor_zero (v * 2) (by omega) (by omega))
    have e1 : v / 9223372036854775808 = 0 := by omega
    go_enter Tryz.func125, Tryz.ntmps125
    go_wp2
    go_ret
    exact ⟨ret_eq (HE.out.trans (show v * 2 = zig v by rw [zig, if_pos h]; omega)), rfl⟩
  · have HE := Lib.hid (xor_ones (18446744073709551616 + v * 2) (by omega) (by omega))
    have e1 : v / 9223372036854775808 = -1 := by omega
    go_enter Tryz.func125, Tryz.ntmps125
    go_wp2
    go_ret
    refine ⟨ret_eq ?_, rfl⟩
    rw [zig, if_neg (by omega), show (-2 * v - 1) = 18446744073709551615 - (18446744073709551616 + v * 2) by omega, ← HE.out]
    congr 1
    rw [IntKind.wrap_u64, IntKind.wrap_u64]
    omega

theorem zag_any (u : Int) (w : World) (h0 : 0 ≤ u) (h1 : u < 18446744073709551616) :
    Calls Tryz.prog 149 #[.int .u64 u] w fun e w' => e = .returned (.int .i64 (zag u)) ∧ w' = w := by
  have e0 := and_one u h0 h1
  by_cases h : u % 2 = 0
  · have HE := Lib.hid (xor_zero_i (u / 2) (by omega) (by omega))
    have HN := Lib.hid h
    go_enter Tryz.func149, Tryz.ntmps149
    go_wp2
    go_ret
    exact ⟨ret_eq (HE.out.trans (by rw [zag, if_pos HN.out])), rfl⟩
  · have HE := Lib.hid (xor_ones_i (u / 2) (by omega) (by omega))
    have h' : u % 2 = 1 := by omega
    have HN := Lib.hid h
    clear h
    go_enter Tryz.func149, Tryz.ntmps149
    go_wp2
    go_ret
    exact ⟨ret_eq (HE.out.trans (by rw [zag, if_neg HN.out])), rfl⟩

theorem Tryz.info5 : (Tryz.prog.info? 5).map (fun i => (i.zero, i.size, i.bytes)) = some (some (.int .u8 0), 1, 1) := by kernel_rfl

def UintPost (B g : Nat) (v : Value) (l : List Int) (w : World) (e : Ending) (w' : World) : Prop := e = .returned (.tuple #[]) ∧ ∃ v', WrStep 160 5 B g v w v' l w'

def UintRel (B g : Nat) (v : Value) (l : List Int) (n : Nat) (w : World) (y : Value) (wr : World) : Prop :=
  ∃ (m : Nat) (done : List Int) (v' : Value), y = .int .u64 m ∧ m < 18446744073709551616 ∧ venc n = done ++ venc m ∧ WrStep 160 5 B g v w v' (l ++ done) wr

set_option maxHeartbeats 1000000 in
set_option maxRecDepth 100000 in
theorem uint_any (B g : Nat) (v : Value) (l : List Int) (n : Nat) (w : World) (hn : n < 18446744073709551616)
    (hw : WrAt 160 5 B w g v l) (hl : l.length + 10 ≤ 140737488355328) :
    Calls Tryz.prog 35 #[.pointer (some ⟨g, 0, none⟩), .int .u64 n] w (UintPost B g v (l ++ venc n) w) := by
  have hBw : B ≤ w.heap.size := Nat.le_trans hw.base (Nat.le_of_lt (blk_lt hw.blk))
  obtain ⟨i0, hi, hz0, hz1, hz2⟩ := info_parts Tryz.info5
  go_enter Tryz.func35, Tryz.ntmps35
  go_wp2_with fail
  go_loopw [1] (fun y wr => UintRel B g v l n w y wr) (fun y _ => (intOf y).toNat)
  case atStart => exact ⟨n, [], v, rfl, hn, rfl, by simpa using WrStep.refl hw⟩
  case round =>
    obtain ⟨m, done, v', rfl, hm, hd, hst⟩ := hrel
    have hlen := venc_len10 hn
    have hdl : done.length + (venc m).length ≤ 10 := by rw [hd] at hlen; simpa using hlen
    have hp := venc_pos m
    have hc := blk_cell hst.at_.blk 0
    have hf := blk_frozen hst.at_.blk 0
    simp only [List.getElem?_toArray, List.getElem?_cons_zero] at hc
    have hown := hst.at_.own
    have hsz := hst.kept.size
    have HD := Lib.hid hd; clear hd
    by_cases h : 127 < m
    · go_wp2_with (at_builtin; refine wpList_append_own_at _ rfl _ _ 26 rfl B 5 i0 (.int .u8 0) 1 1 Tryz.underlying26 hi hz0 hz1 hz2 rfl (by decide) _ _ _ rfl (hown.alloc _) ⟨wr.heap.size, 0, none⟩ 1 1 _ rfl ?c1 (cell_one_new _ _ _) ?c2 ?c3 ?c4 ?c5 ?_)
      case c1 => rfl
      case c2 => simp [Value.oneCell']
      case c3 => simp [maxLen]; omega
      case c4 => simp; omega
      case c5 => simp; omega
      rintro v2 w1 hown2 hgr - hat
      obtain ⟨hc1, hf1, hst2⟩ := hst.at_.append (l' := l ++ done ++ [((m % 128 + 128 : Nat) : Int)]) (by decide) _ (by rw [u8_or128'] at hown2; simpa [nums, Nat.add_assoc] using hown2) hgr (by simpa using hat)
      have hst3 := hst.trans hst2
      obtain ⟨A2, c2, hv2⟩ := own_slice hown2
      rw [hv2]
      rw [hv2] at hst3
      clear hgr hat hst2 hown2 hv2 hst hc hf hown
      go_wp2
      refine ⟨⟨m / 128, done ++ [((m % 128 + 128 : Nat) : Int)], .slice A2 (l.length + done.length + 1) c2, by simp, by omega, ?_, ?_⟩, by simp [intOf]; omega⟩
      · rw [HD.out, venc_ge (by omega)]; simp
      · simpa using hst3
    · go_wp2_with (at_builtin; refine wpList_append_own_at _ rfl _ _ 26 rfl B 5 i0 (.int .u8 0) 1 1 Tryz.underlying26 hi hz0 hz1 hz2 rfl (by decide) _ _ _ rfl (hown.alloc _) ⟨wr.heap.size, 0, none⟩ 1 1 _ rfl ?c1 (cell_one_new _ _ _) ?c2 ?c3 ?c4 ?c5 ?_)
      case c1 => rfl
      case c2 => simp [Value.oneCell']
      case c3 => simp [maxLen]; omega
      case c4 => simp; omega
      case c5 => simp; omega
      rintro v2 w1 hown2 hgr - hat
      have hm1 : ((m : Int) % 256) = m := by omega
      have hst2 := hst.at_.append (l' := l ++ done ++ [(m : Int)]) (by decide) _ (by first | (rw [hm1] at hown2; simpa [nums, Nat.add_assoc] using hown2) | simpa [nums, Nat.add_assoc] using hown2) hgr (by simpa using hat)
      clear hm1
      obtain ⟨hc1, hf1, hst2⟩ := hst2
      have hst3 := hst.trans hst2
      obtain ⟨A2, c2, hv2⟩ := own_slice hown2
      rw [hv2]
      rw [hv2] at hst3
      clear hgr hat hst2 hown2 hv2 hst hc hf hown
      go_wp2
      go_end0
      exact ⟨rfl, _, by rw [HD.out, venc_lt (by omega)]; simpa using hst3⟩

theorem newWriter_any (w : World) : Calls Tryz.prog 31 #[] w fun e w' => e = .returned (.pointer (some ⟨w.heap.size, 0, none⟩)) ∧ w' = w.alloc (.cells #[.slice none 0 0] 160) := by
  go_enter Tryz.func31, Tryz.ntmps31
  go_wp2
  go_ret
  exact ⟨rfl, rfl⟩

theorem clip_nil (w : World) : Calls Tryz.prog 82 #[.slice none 0 0] w fun e w' => e = .returned (.slice none 0 0) ∧ w' = w := by
  go_enter Tryz.func82, Tryz.ntmps82
  go_wp2
  go_ret
  exact ⟨rfl, rfl⟩
theorem clip_any (w : World) (g n c : Nat) (hn : n ≤ c) (_hc : c ≤ 9223372036854775807) : Calls Tryz.prog 82 #[.slice (some ⟨g, 0, none⟩) n c] w fun e w' => e = .returned (.slice (some ⟨g, 0, none⟩) n n) ∧ w' = w := by
  go_enter Tryz.func82, Tryz.ntmps82
  go_wp2
  go_ret
  exact ⟨rfl, rfl⟩

theorem clone_nil (w : World) : Calls Tryz.prog 83 #[.slice none 0 0] w fun e w' => e = .returned (.slice none 0 0) ∧ w' = w := by
  have hnil := fun (w : World) => Lib.run_eql_slice_nil (P := Tryz.prog) w 26 5 none 0 0 0 0 Tryz.underlying26
  go_enter Tryz.func83, Tryz.ntmps83
  go_wp2
  go_ret
  exact ⟨rfl, rfl⟩

def ClonePost (l : List Int) (w : World) (e : Ending) (w' : World) : Prop := ∃ g c, e = .returned (.slice (some ⟨g, 0, none⟩) l.length c) ∧ w'.ownsRow w.heap.size 5 1 (.slice (some ⟨g, 0, none⟩) l.length c) l.length (nums .u8 l) ∧ Kept (fun _ => False) w w'
theorem clone_any (w : World) (A : Addr) (c B : Nat) (l : List Int) (h : Lies 5 B w (.slice (some A) l.length c) l) (hl : l.length ≤ 140737488355328) :
    Calls Tryz.prog 83 #[.slice (some A) l.length c] w (ClonePost l w) := by
  obtain ⟨i0, hi, hz0, hz1, hz2⟩ := info_parts Tryz.info5
  have HL := Lib.hid h; clear h
  have hnil := fun (w : World) => Lib.run_eql_slice_nil (P := Tryz.prog) w 26 5 (some A) l.length c 0 0 Tryz.underlying26
  go_enter Tryz.func83, Tryz.ntmps83
  go_wp2_with (at_builtin; refine wpList_append_own_at _ rfl _ _ 26 rfl w.heap.size 5 i0 (.int .u8 0) 1 1 Tryz.underlying26 hi hz0 hz1 hz2 rfl (by decide) _ _ _ rfl (own_empty w _ _ (Nat.le_refl _)) A l.length c (nums .u8 l) rfl ?c1 ?c0 ?c2 ?c3 ?c4 ?c5 ?_)
  case c1 => simp [nums]
  case c0 => exact news_alloc (fun j u hu => HL.out.cell rfl j u hu) _
  case c2 => simp [nums, Value.oneCell']
  case c3 => simp [maxLen]; omega
  case c4 => simp; omega
  case c5 => simp
  rintro v' w1 hown hgr hnn -
  have hk : Kept (fun _ => False) w w1 := (Kept.alloc (fun _ => False) w _).trans (Kept.of_grown (S := fun k => k = w.heap.size) hgr (by intro k hk; simpa [Value.ownBlock] using hk.symm)) (fun _ _ e => e) fun i hi e => by omega
  have hv : ∃ g c', v' = .slice (some ⟨g, 0, none⟩) l.length c' := by
    rcases hown.2 with ⟨rfl, _⟩ | ⟨g, cap, cur, rfl, _⟩
    · exact absurd rfl hnn
    · exact ⟨g, cap, rfl⟩
  obtain ⟨g, c', hv⟩ := hv
  rw [hv]
  rw [hv] at hown
  clear hnn hgr
  go_wp2
  go_ret
  exact ⟨g, c', rfl, hown, hk⟩

/-- What Bytes hands back: a copy of the writer's bytes, cut to its length, in a block of its own. -/
def BytesPost (T : Nat) (l : List Int) (w : World) (e : Ending) (w' : World) : Prop := ∃ v', e = .returned v' ∧ Lies 5 w.heap.size w' v' l ∧ Kept (fun _ => False) w w' ∧ T = T
theorem bytes_any (B g : Nat) (v : Value) (l : List Int) (w : World) (hw : WrAt 160 5 B w g v l) (hl : l.length ≤ 140737488355328) :
    Calls Tryz.prog 38 #[.pointer (some ⟨g, 0, none⟩)] w (BytesPost 0 l w) := by
  have hc := blk_cell hw.blk 0
  simp only [List.getElem?_toArray, List.getElem?_cons_zero] at hc
  have hL := Lies.of_own hw.own
  rcases hL with ⟨rfl, rfl⟩ | ⟨g', c, cur, rfl, h1, h2, h3, h4, h5, h6⟩
  · go_enter Tryz.func38, Tryz.ntmps38
    go_wp2_with fail
    refine (clone_nil _).mono ?_
    rintro e w' ⟨rfl, rfl⟩
    go_wp2_with fail
    refine (clip_nil _).mono ?_
    rintro e w' ⟨rfl, rfl⟩
    go_wp2
    go_ret
    exact ⟨_, rfl, .inl ⟨rfl, rfl⟩, .refl _ _, rfl⟩
  · have HL := Lib.hid (Lies.of_own hw.own)
    clear h2 h3 h4 h5 h6 h1 hw
    go_enter Tryz.func38, Tryz.ntmps38
    go_wp2_with fail
    refine (clone_any _ _ _ _ _ HL.out hl).mono ?_
    rintro e w' ⟨g2, c2, rfl, hown, hk⟩
    obtain ⟨cur2, hb2, hh2, ha2, hcm, hsz, htk⟩ : ∃ cur2, w.heap.size ≤ g2 ∧ w'.heap[g2]? = some (.cells cur2 5 (0, 0)) ∧ l.length ≤ c2 ∧ c2 ≤ maxLen ∧ cur2.size = c2 * 1 ∧ cur2.toList.take (l.length * 1) = nums .u8 l := by
      rcases hown.2 with ⟨h, _⟩ | ⟨g', cap, cur, h, hb, hh, h1, h2, h3, h4⟩
      · cases h
      · injection h with ha hb' hc'
        injection ha with ha
        injection ha with ha
        subst ha; subst hc'
        exact ⟨cur, hb, hh, h1, h2, h3, h4⟩
    have hc2 : c2 ≤ 9223372036854775807 := by unfold maxLen at hcm; exact hcm
    have H := Lib.hid (show Lies 5 w.heap.size w' (.slice (some ⟨g2, 0, none⟩) l.length l.length) l from .inr ⟨g2, _, cur2, rfl, hb2, hh2, Nat.le_refl _, by omega, by omega, by simpa using htk⟩)
    clear htk hsz hown hh2 HL
    go_wp2_with fail
    refine (clip_any _ g2 l.length c2 ha2 hc2).mono ?_
    rintro e w'' ⟨rfl, rfl⟩
    go_wp2
    go_ret
    exact ⟨_, rfl, H.out, hk, rfl⟩

/-- A reader at block r: all its bytes l, of which 'at' are taken. -/
structure RdAt (B : Nat) (W : World) (r : Nat) (v : Value) (l : List Int) (n : Nat) : Prop where
  blk : W.heap[r]? = some (.cells #[v, .int .i64 n] 171 (0, 0))
  base : B ≤ r
  lies : Lies 5 B W v l

theorem Tryz.size5 : (Tryz.prog.info? 5).map (·.size) = some 1 := by kernel_rfl

def NewReaderPost (l : List Int) (w : World) (e : Ending) (w' : World) : Prop := ∃ r v', e = .returned (.pointer (some ⟨r, 0, none⟩)) ∧ RdAt w.heap.size w' r v' l 0 ∧ Kept (fun _ => False) w w'
theorem newReader_any (v : Value) (l : List Int) (w : World) (hr : Reads w v l) (hl : l.length ≤ 140737488355328) :
    Calls Tryz.prog 41 #[v] w (NewReaderPost l w) := by
  obtain ⟨i0, hi, hz0, hz1, hz2⟩ := info_parts Tryz.info5
  obtain ⟨A, c, rfl, -, hcs⟩ := hr
  have HC := Lib.hid hcs; clear hcs
  go_enter Tryz.func41, Tryz.ntmps41
  go_wp2_with (refine wpList_make_full w rfl _ _ 26 rfl w.heap.size 5 i0 (.int .u8 0) 1 Tryz.underlying26 hi hz0 hz1 .i64 .i64 _ _ l.length rfl rfl rfl rfl ?c1 ?c2 ?c3 ?_)
  case c1 => rw [hz2]; omega
  case c2 => simp [maxLen]; omega
  case c3 => simp
  rintro w1 hown hgr
  obtain ⟨cur, hh, hsz⟩ : ∃ cur, w1.heap[w.heap.size]? = some (.cells cur 5 (0, 0)) ∧ cur.size = l.length := by
    rcases hown.2 with ⟨h, _⟩ | ⟨g', cap, cur, h, hb, hh, h1, h2, h3, h4⟩
    · cases h
    · injection h with ha hb' hc'
      injection ha with ha
      injection ha with ha
      subst ha; subst hc'
      exact ⟨cur, hh, by omega⟩
  have hb1 : Below w.heap.size w w1 := (Below.refl _ _).grown hgr (Nat.le_refl _) (by simp)
  have HS := Lib.hid hsz; clear hsz hown hgr
  have HH := Lib.hid hh; clear hh
  go_wp2_with (with_reducible refine wpList_copy_splice rfl (.tmp 7) (.tmp 8) 26 26 rfl 5 Tryz.underlying26 Tryz.size5 _ _ _ _ _ _ rfl rfl w.heap.size 0 cur.toList 5 (by simpa using HH.out) (nums .u8 l) ?c1 ?c2 ?c3 ?c4 w.heap.size w hb1 (Nat.le_refl _) ?_)
  case c1 => simp [nums]
  case c2 =>
    intro h0
    obtain ⟨ad, hA, -⟩ := HC.out 0 _ (nums_get .u8 l 0 (by simpa [nums] using h0))
    refine ⟨ad, hA, fun j u hu => ?_⟩
    obtain ⟨ad', hA', hc⟩ := HC.out j u hu
    obtain rfl : ad = ad' := Option.some.inj (hA.symm.trans hA')
    exact (hb1.cell (World.block_lt_of_cell? w _ hc)).trans hc
  case c3 => simp [nums, HS.out]
  case c4 => simp [nums, Value.oneCell']
  rintro w2 H2 hb2
  have hs1 := hb1.size
  clear HH HC hb1
  go_wp2
  go_ret
  have hs2 := hb2.size
  have hlt : w.heap.size < w2.heap.size := blk_lt H2.out
  refine ⟨_, _, rfl, ⟨heap_alloc_new w2 _, hs2, .inr ⟨w.heap.size, l.length, _, rfl, Nat.le_refl _, (Below.heap_alloc w2 _ _ hlt).trans H2.out, Nat.le_refl _, ?_, ?_, ?_⟩⟩, (Kept.of_below hb2 _).trans (Kept.alloc _ _ _) (fun _ _ e => e) fun _ _ e => e⟩
  · simp [splice, nums, HS.out]
  · simp [maxLen]; omega
  · simp [splice, nums]

theorem wrong_any (at_ e_ : Int) (w : World) : Calls Tryz.prog 95 #[.int .i64 at_, .int .i64 e_] w fun e w' =>
    e = .returned (.iface 35 (.pointer (some ⟨w.heap.size, 0, none⟩))) ∧ w' = w.alloc (.cells #[.int .i64 at_, .int .i64 e_] 39) := by
  go_enter Tryz.func95, Tryz.ntmps95
  go_wp2
  go_ret
  exact ⟨rfl, rfl⟩

inductive NRes where
  | ok (v n : Nat)
  | form
  | fin
/-- A number at the head of t, n bytes of which lie behind already. -/
def numR : List Int → Nat → Nat → NRes
  | [], n, _ => if n = 10 then .form else .fin
  | b :: t, n, acc => if n = 10 then .form else
      if b < 128 then (if (n + 1 = 10 ∧ 1 < b) ∨ (1 < n + 1 ∧ b = 0) then .form else .ok ((acc + b.toNat % 128 * 128 ^ n) % 18446744073709551616) (n + 1))
      else numR t (n + 1) ((acc + b.toNat % 128 * 128 ^ n) % 18446744073709551616)

def NumPost (l : List Int) (p : Nat) (w : World) (e : Ending) (w' : World) : Prop :=
  match numR (l.drop p) 0 0 with
  | .ok v n => e = .returned (.tuple #[.int .u64 v, .int .i64 (p + n : Nat), .nilIface]) ∧ w' = w
  | .form => e = .returned (.tuple #[.int .u64 0, .int .i64 0, .iface 35 (.pointer (some ⟨w.heap.size, 0, none⟩))]) ∧ w' = w.alloc (.cells #[.int .i64 p, .int .i64 12] 39)
  | .fin => e = .returned (.tuple #[.int .u64 0, .int .i64 0, .iface 35 (.pointer (some ⟨w.heap.size, 0, none⟩))]) ∧ w' = w.alloc (.cells #[.int .i64 l.length, .int .i64 11] 39)

def NumRel (l : List Int) (p g : Nat) (v n b : Value) : Prop := ∃ (a k : Nat) (y : Int), g + k = 10 ∧ v = .int .u64 a ∧ n = .int .i64 k ∧ b = .int .u8 y ∧ a < 128 ^ k ∧ k ≤ 10 ∧ p + k ≤ l.length ∧ numR (l.drop p) 0 0 = numR (l.drop (p + k)) k a

theorem or_low (a x i : Nat) (ha : a < 2 ^ i) (hx : x % 2 ^ i = 0) (ha' : a < 2 ^ 64) (hx' : x < 2 ^ 64) : bits .or .u64 (a : Int) (x : Int) = ((a + x : Nat) : Int) := by
  have hq : x = 2 ^ i * (x / 2 ^ i) := by
    have := Nat.div_add_mod x (2 ^ i)
    omega
  rw [(bits_nat .u64 64 (by decide) wraps_u64 a x ha' hx').2, Nat.or_comm]
  rw [hq, ← Nat.two_pow_add_eq_or_of_lt ha (x / 2 ^ i), Nat.add_comm]
theorem pow7 (k : Nat) : (128 : Nat) ^ k = 2 ^ (7 * k) := by rw [Nat.pow_mul]
theorem num_or (a k : Nat) (b : Int) (hk : k ≤ 9) (ha : a < 128 ^ k) (h0 : 0 ≤ b) (h1 : b < 256) :
    bits .or .u64 (a : Int) (IntKind.u64.wrap (IntKind.u64.wrap (bits .and .u8 b 127) * 2 ^ (7 * k))) = (((a + b.toNat % 128 * 128 ^ k) % 18446744073709551616 : Nat) : Int) := by
  have e1 : bits .and .u8 b 127 = b % 128 := bits_mask .u8 8 (by decide) wraps_u8 7 (by decide) b h0 (by omega)
  have e2 : IntKind.u64.wrap (b % 128) = b % 128 := wraps_u64 _ (by omega) (by omega)
  obtain ⟨m, rfl⟩ := Int.eq_ofNat_of_zero_le h0
  have e3 : ((m : Int) % 128 * 2 ^ (7 * k)) = ((m % 128 * 2 ^ (7 * k) : Nat) : Int) := by simp
  have e4 : IntKind.u64.wrap ((m % 128 * 2 ^ (7 * k) : Nat) : Int) = ((m % 128 * 2 ^ (7 * k) % 18446744073709551616 : Nat) : Int) := by rw [IntKind.wrap_u64]; omega
  rw [e1, e2, e3, e4, pow7 k, Int.toNat_natCast]
  rw [pow7] at ha
  have h128 : (2 : Nat) ^ (7 * k) ≤ 2 ^ 63 := Nat.pow_le_pow_right (by decide) (by omega)
  have hd : (18446744073709551616 : Nat) = 2 ^ (7 * k) * 2 ^ (64 - 7 * k) := by rw [← Nat.pow_add, show 7 * k + (64 - 7 * k) = 64 by omega]
  have hx : (m % 128 * 2 ^ (7 * k) % 18446744073709551616) % 2 ^ (7 * k) = 0 := by
    rw [hd, Nat.mul_comm, Nat.mul_mod_mul_left, Nat.mul_mod_right]
  have hlt : m % 128 * 2 ^ (7 * k) % 18446744073709551616 < 18446744073709551616 := Nat.mod_lt _ (by decide)
  have hsum : (a + m % 128 * 2 ^ (7 * k)) % 18446744073709551616 = a + m % 128 * 2 ^ (7 * k) % 18446744073709551616 := by
    rw [hd, Nat.mul_comm (m % 128), Nat.mul_mod_mul_left, Nat.add_mod, Nat.mul_mod_mul_left, Nat.mod_eq_of_lt (b := 2 ^ (7 * k) * 2 ^ (64 - 7 * k)) (a := a) (by rw [← hd]; omega)]
    refine Nat.mod_eq_of_lt ?_
    have hq : m % 128 % 2 ^ (64 - 7 * k) + 1 ≤ 2 ^ (64 - 7 * k) := Nat.mod_lt _ (Nat.two_pow_pos _)
    calc a + 2 ^ (7 * k) * (m % 128 % 2 ^ (64 - 7 * k)) < 2 ^ (7 * k) + 2 ^ (7 * k) * (m % 128 % 2 ^ (64 - 7 * k)) := by omega
      _ = 2 ^ (7 * k) * (m % 128 % 2 ^ (64 - 7 * k) + 1) := by rw [Nat.mul_add, Nat.mul_one, Nat.add_comm]
      _ ≤ 2 ^ (7 * k) * 2 ^ (64 - 7 * k) := Nat.mul_le_mul_left _ hq
  rw [hsum]
  exact or_low _ _ (7 * k) ha hx (by omega) (by omega)

theorem numR_10 (t : List Int) (a : Nat) : numR t 10 a = .form := by cases t <;> simp [numR]
theorem numR_cons (l : List Int) (q k a : Nat) (hq : q < l.length) (hk : k ≠ 10) : numR (l.drop q) k a = (if l.getD q 0 < 128 then (if (k + 1 = 10 ∧ 1 < l.getD q 0) ∨ (1 < k + 1 ∧ l.getD q 0 = 0) then NRes.form else .ok ((a + (l.getD q 0).toNat % 128 * 128 ^ k) % 18446744073709551616) (k + 1))
      else numR (l.drop (q + 1)) (k + 1) ((a + (l.getD q 0).toNat % 128 * 128 ^ k) % 18446744073709551616)) := by
  rw [List.drop_eq_getElem_cons hq, numR, if_neg hk, List.getD_eq_getElem?_getD, List.getElem?_eq_getElem hq]
  rfl
theorem acc_lt (a k : Nat) (b : Nat) (ha : a < 128 ^ k) : (a + b % 128 * 128 ^ k) % 18446744073709551616 < 128 ^ (k + 1) := by
  refine Nat.lt_of_le_of_lt (Nat.mod_le _ _) ?_
  have : b % 128 + 1 ≤ 128 := Nat.mod_lt _ (by decide)
  calc a + b % 128 * 128 ^ k < 128 ^ k + b % 128 * 128 ^ k := by omega
    _ = (b % 128 + 1) * 128 ^ k := by rw [Nat.add_mul, Nat.one_mul, Nat.add_comm]
    _ ≤ 128 * 128 ^ k := Nat.mul_le_mul_right _ this
    _ = 128 ^ (k + 1) := by rw [Nat.pow_succ, Nat.mul_comm]
theorem NumPost.form {l : List Int} {p : Nat} {w : World} (h : numR (l.drop p) 0 0 = .form) : NumPost l p w (.returned (.tuple #[.int .u64 0, .int .i64 0, .iface 35 (.pointer (some ⟨w.heap.size, 0, none⟩))])) (w.alloc (.cells #[.int .i64 p, .int .i64 12] 39)) := by
  unfold NumPost; rw [h]; exact ⟨rfl, rfl⟩
theorem NumPost.fin {l : List Int} {p : Nat} {w : World} (h : numR (l.drop p) 0 0 = .fin) : NumPost l p w (.returned (.tuple #[.int .u64 0, .int .i64 0, .iface 35 (.pointer (some ⟨w.heap.size, 0, none⟩))])) (w.alloc (.cells #[.int .i64 l.length, .int .i64 11] 39)) := by
  unfold NumPost; rw [h]; exact ⟨rfl, rfl⟩
theorem NumPost.ok {l : List Int} {p v n : Nat} {x y : Int} {w : World} (h : numR (l.drop p) 0 0 = .ok v n) (hx : x = v) (hy : y = (p + n : Nat)) : NumPost l p w (.returned (.tuple #[.int .u64 x, .int .i64 y, .nilIface])) w := by
  subst hx hy; unfold NumPost; rw [h]; exact ⟨rfl, rfl⟩

set_option maxHeartbeats 1000000 in
theorem number_pos (r p : Nat) (A : Addr) (c : Nat) (l : List Int) (w : World) (hp : p ≤ l.length) (hl : l.length ≤ 140737488355328)
    (hb : ∀ x ∈ l, 0 ≤ x ∧ x < 256) (h0 : w.cell? ⟨r, 0, none⟩ = some (.slice (some A) l.length c))
    (hc : ∀ j, j < l.length → w.cell? (A.add j) = some (.int .u8 (l.getD j 0))) :
    Calls Tryz.prog 126 #[.pointer (some ⟨r, 0, none⟩), .int .i64 p] w (NumPost l p w) := by
  go_enter Tryz.func126, Tryz.ntmps126
  go_wp2_with fail
  go_step3
  go_wp2_with fail
  go_step3
  go_wp2_with fail
  go_loopg [7, 8, 9] 10 (fun g v n b w' => w' = w ∧ NumRel l p g v n b)
  case atStart => exact ⟨rfl, 0, 0, 0, rfl, rfl, rfl, rfl, by decide, by decide, by omega, by simp⟩
  case round =>
    obtain ⟨rfl, a, k, y, hgk, rfl, rfl, rfl, ha, hk, hpk, hR⟩ := hrel
    have HA := Lib.hid ha; clear ha
    by_cases hk10 : k = 10
    · subst hk10
      rw [numR_10] at hR
      have HR := Lib.hid hR; clear hR
      go_wp2_with (go_at_call 95; refine (wrong_any _ _ _).mono ?_; rintro e w' ⟨rfl, rfl⟩)
      try rw [Exit.noGoto_ret]
      go_ret3
      exact NumPost.form HR.out
    · have hk10b : ((k : Int) == 10) = false := by rw [beq_eq_false_iff_ne]; omega
      by_cases hend : p + k = l.length
      · have HR : Hid (numR (l.drop p) 0 0 = .fin) := Lib.hid (by rw [hR, hend, List.drop_length]; simp [numR, hk10])
        clear hR
        go_wp2_with (go_at_call 95; refine (wrong_any _ _ _).mono ?_; rintro e w' ⟨rfl, rfl⟩)
        try rw [Exit.noGoto_ret]
        go_ret3
        exact NumPost.fin HR.out
      · have hcell := hc (p + k) (by omega)
        have hbb := hb (l.getD (p + k) 0) (by rw [List.getD_eq_getElem?_getD, List.getElem?_eq_getElem (by omega)]; simp)
        rw [numR_cons l (p + k) k a (by omega) hk10] at hR
        obtain ⟨b, hbd⟩ : ∃ b, b = l.getD (p + k) 0 := ⟨_, rfl⟩
        rw [← hbd] at hR hcell hbb
        have HB := Lib.hid hbd; clear hbd
        have hor := num_or a k b (by omega) HA.out hbb.1 hbb.2
        have hal := acc_lt a k b.toNat HA.out
        obtain ⟨a2, ha2⟩ : ∃ a2, a2 = (a + b.toNat % 128 * 128 ^ k) % 18446744073709551616 := ⟨_, rfl⟩
        have ha2l : a2 < 18446744073709551616 := by rw [ha2]; exact Nat.mod_lt _ (by decide)
        rw [← ha2] at hR hor hal
        clear ha2
        obtain ⟨hb0, hb1⟩ := hbb
        have HAL := Lib.hid hal; clear hal
        by_cases h128 : b < 128
        · rw [if_pos h128] at hR
          by_cases hform : (k + 1 = 10 ∧ 1 < b) ∨ (1 < k + 1 ∧ b = 0)
          · rw [if_pos hform] at hR
            have HR := Lib.hid hR; clear hR
            have hk9 : (k = 9 ∧ 1 < b) ∨ (k = 9 ∧ b = 0) ∨ (0 < k ∧ k < 9 ∧ b = 0) := by omega
            clear hform
            rcases hk9 with ⟨hk9, hb2⟩ | ⟨hk9, hb2⟩ | ⟨hk0, hk9, hb2⟩
            · have hk9b : ((k : Int) + 1 == 10) = true := by rw [beq_iff_eq]; omega
              clear hk9
              go_wp2_with (go_at_call 95; refine (wrong_any _ _ _).mono ?_; rintro e w' ⟨rfl, rfl⟩)
              try rw [Exit.noGoto_ret]
              go_ret3
              exact NumPost.form HR.out
            · have hk9b : ((k : Int) + 1 == 10) = true := by rw [beq_iff_eq]; omega
              have hk9c : 1 < (k : Int) + 1 := by omega
              have hb2b : (b == 0) = true := by rw [beq_iff_eq]; omega
              have hb2c : ¬ 1 < b := by omega
              clear hk9 hb2
              go_wp2_with (go_at_call 95; refine (wrong_any _ _ _).mono ?_; rintro e w' ⟨rfl, rfl⟩)
              try rw [Exit.noGoto_ret]
              go_ret3
              exact NumPost.form HR.out
            · have hk9b : ((k : Int) + 1 == 10) = false := by rw [beq_eq_false_iff_ne]; omega
              have hk9c : 1 < (k : Int) + 1 := by omega
              have hb2b : (b == 0) = true := by rw [beq_iff_eq]; omega
              clear hb2
              go_wp2_with (go_at_call 95; refine (wrong_any _ _ _).mono ?_; rintro e w' ⟨rfl, rfl⟩)
              try rw [Exit.noGoto_ret]
              go_ret3
              exact NumPost.form HR.out
          · rw [if_neg hform] at hR
            have HR := Lib.hid hR; clear hR
            have hk9 : (k = 9 ∧ b = 1) ∨ (k = 0) ∨ (0 < k ∧ k < 9 ∧ 0 < b) := by omega
            clear hform
            rcases hk9 with ⟨hk9, hb2⟩ | hk0 | ⟨hk0, hk9, hb2⟩
            · have hk9b : ((k : Int) + 1 == 10) = true := by rw [beq_iff_eq]; omega
              have hk9c : 1 < (k : Int) + 1 := by omega
              have hb2b : (b == 0) = false := by rw [beq_eq_false_iff_ne]; omega
              have hb2c : ¬ 1 < b := by omega
              clear hk9 hb2
              go_wp2_with fail
              try rw [Exit.noGoto_ret]
              go_ret3
              exact NumPost.ok HR.out rfl (by omega)
            · have hk9b : ((k : Int) + 1 == 10) = false := by rw [beq_eq_false_iff_ne]; omega
              have hk9c : ¬ 1 < (k : Int) + 1 := by omega
              clear hk0
              go_wp2_with fail
              try rw [Exit.noGoto_ret]
              go_ret3
              exact NumPost.ok HR.out rfl (by omega)
            · have hk9b : ((k : Int) + 1 == 10) = false := by rw [beq_eq_false_iff_ne]; omega
              have hb2b : (b == 0) = false := by rw [beq_eq_false_iff_ne]; omega
              go_wp2_with fail
              try rw [Exit.noGoto_ret]
              go_ret3
              exact NumPost.ok HR.out rfl (by omega)
        · rw [if_neg h128] at hR
          have HR := Lib.hid hR; clear hR
          have h128b : ¬ b < 128 := h128
          go_wp2_with fail
          go_roundg (gk - 1)
          case measure => omega
          case rel => exact ⟨rfl, a2, k + 1, b, by omega, rfl, by go_num, rfl, HAL.out, by omega, by omega, HR.out⟩

set_option maxHeartbeats 1000000 in
theorem number_nil (r c : Nat) (A : Option Addr) (w : World) (h0 : w.cell? ⟨r, 0, none⟩ = some (.slice A 0 c)) :
    Calls Tryz.prog 126 #[.pointer (some ⟨r, 0, none⟩), .int .i64 0] w (NumPost [] 0 w) := by
  have HR : Hid (numR (([] : List Int).drop 0) 0 0 = .fin) := Lib.hid rfl
  go_enter Tryz.func126, Tryz.ntmps126
  go_wp2_with fail
  go_step3
  go_wp2_with fail
  go_step3
  go_wp2_with fail
  refine wp_loop_rounds 1 ?_
  rw [rounds_succ]
  go_wp2_with (go_at_call 95; refine (wrong_any _ _ _).mono ?_; rintro e w' ⟨rfl, rfl⟩)
  try rw [Exit.noGoto_ret]
  go_ret3
  exact NumPost.fin HR.out

theorem number_any (B r n : Nat) (v : Value) (l : List Int) (w : World) (h : RdAt B w r v l n) (hn : n ≤ l.length) (hl : l.length ≤ 140737488355328) (hb : Bytes l) :
    Calls Tryz.prog 126 #[.pointer (some ⟨r, 0, none⟩), .int .i64 n] w (NumPost l n w) := by
  have h0 : w.cell? ⟨r, 0, none⟩ = some v := (blk_cell h.blk 0).trans rfl
  have hr := h.lies
  obtain ⟨A, c, rfl⟩ := hr.slice
  cases A with
  | none =>
    rcases hr with ⟨rfl, _⟩ | ⟨g, c', cur, he, _⟩
    · obtain rfl : n = 0 := by simpa using hn
      exact number_nil r c none w (by simpa using h0)
    · cases he
  | some ad => exact number_pos r n ad c l w hn hl hb h0 fun j hj => hr.at_ j hj

def GetPost (B r n : Nat) (v : Value) (l : List Int) (w : World) (e : Ending) (w' : World) : Prop :=
  match numR (l.drop n) 0 0 with
  | .ok x k => e = .returned (.tuple #[.int .u64 x, .nilIface]) ∧ RdAt B w' r v l (n + k) ∧ Kept (fun i => i = r) w w'
  | .form => e = .returned (.tuple #[.int .u64 0, .iface 35 (.pointer (some ⟨w.heap.size, 0, none⟩))]) ∧ w' = w.alloc (.cells #[.int .i64 n, .int .i64 12] 39)
  | .fin => e = .returned (.tuple #[.int .u64 0, .iface 35 (.pointer (some ⟨w.heap.size, 0, none⟩))]) ∧ w' = w.alloc (.cells #[.int .i64 l.length, .int .i64 11] 39)

theorem RdAt.move {B r n : Nat} {v : Value} {l : List Int} {w : World} (h : RdAt B w r v l n) (m : Nat) : RdAt B (w.setCell ⟨r, 1, none⟩ (.int .i64 m)) r v l m ∧ Kept (fun i => i = r) w (w.setCell ⟨r, 1, none⟩ (.int .i64 m)) := by
  have hk : Kept (fun i => i = r) w (w.setCell ⟨r, 1, none⟩ (.int .i64 m)) := Kept.setCell _ _ _ rfl
  refine ⟨⟨by rw [blk_set h.blk]; rfl, h.base, h.lies.kept hk fun k hk' e => ?_⟩, hk⟩
  subst e
  rcases h.lies with ⟨_, hv⟩ | ⟨g, c, cur, hv, _, hh, _⟩
  · rw [hv] at hk'; simp [Value.ownBlock] at hk'
  · rw [hv] at hk'
    have : g = k := by simpa [Value.ownBlock] using hk'
    subst this
    rw [h.blk] at hh
    injection hh with hh
    injection hh with _ h2
    exact absurd h2 (by decide)

set_option maxHeartbeats 1000000 in
theorem get_any (B r n : Nat) (v : Value) (l : List Int) (w : World) (h : RdAt B w r v l n) (hn : n ≤ l.length) (hl : l.length ≤ 140737488355328) (hb : Bytes l) :
    Calls Tryz.prog 86 #[.pointer (some ⟨r, 0, none⟩)] w (GetPost B r n v l w) := by
  have h1 : w.cell? ⟨r, 1, none⟩ = some (.int .i64 n) := (blk_cell h.blk 1).trans rfl
  have hf := blk_frozen h.blk 1
  have H := Lib.hid h; clear h
  obtain ⟨q, hq⟩ : ∃ q, q = numR (l.drop n) 0 0 := ⟨_, rfl⟩
  have HQ := Lib.hid hq; clear hq
  go_enter Tryz.func86, Tryz.ntmps86
  go_wp2_with fail
  refine (number_any B r n v l w H.out hn hl hb).mono ?_
  intro e w' hp
  unfold NumPost at hp
  have hq := HQ.out
  rw [← hq] at hp
  cases q with
  | ok x k =>
    obtain ⟨rfl, rfl⟩ := hp
    have hG : ∀ w2, RdAt B w2 r v l (n + k) ∧ Kept (fun i => i = r) w' w2 → GetPost B r n v l w' (.returned (.tuple #[.int .u64 x, .nilIface])) w2 := fun w2 h2 => by unfold GetPost; rw [← HQ.out]; exact ⟨rfl, h2⟩
    have HG := Lib.hid hG; clear hG hq
    go_wp2_with fail
    go_ret2
    exact HG.out _ (H.out.move (n + k))
  | form =>
    obtain ⟨rfl, rfl⟩ := hp
    have hG : ∀ w2, w2 = w.alloc (.cells #[.int .i64 n, .int .i64 12] 39) → GetPost B r n v l w (.returned (.tuple #[.int .u64 0, .iface 35 (.pointer (some ⟨w.heap.size, 0, none⟩))])) w2 := fun w2 h2 => by unfold GetPost; rw [← HQ.out]; exact ⟨rfl, h2⟩
    have HG := Lib.hid hG; clear hG hq
    go_wp2_with fail
    go_ret2
    exact HG.out _ rfl
  | fin =>
    obtain ⟨rfl, rfl⟩ := hp
    have hG : ∀ w2, w2 = w.alloc (.cells #[.int .i64 l.length, .int .i64 11] 39) → GetPost B r n v l w (.returned (.tuple #[.int .u64 0, .iface 35 (.pointer (some ⟨w.heap.size, 0, none⟩))])) w2 := fun w2 h2 => by unfold GetPost; rw [← HQ.out]; exact ⟨rfl, h2⟩
    have HG := Lib.hid hG; clear hG hq
    go_wp2_with fail
    go_ret2
    exact HG.out _ rfl

theorem RdAt.kept {S : Nat → Prop} {B r n : Nat} {v : Value} {l : List Int} {w w' : World} (h : RdAt B w r v l n) (hk : Kept S w w') (hg : ¬ S r) (hv : ∀ k, v.ownBlock = some k → ¬ S k) : RdAt B w' r v l n :=
  ⟨blk_kept hk h.blk hg, h.base, h.lies.kept hk hv⟩
theorem venc300 : venc 300 = [172, 2] := by rw [venc_ge (by decide), venc_lt (by decide)]; rfl
theorem numR300 : numR (List.drop 0 [172, 2]) 0 0 = .ok 300 2 := by rfl
theorem bytes300 : Bytes [172, 2] := by intro x hx; simp at hx; omega

theorem zagzig (v : Int) : zag (zig v) = v := by unfold zig zag; split <;> split <;> omega
theorem zigzag (u : Int) (h : 0 ≤ u) : zig (zag u) = u := by unfold zig zag; split <;> split <;> omega
theorem zig_range (v : Int) (h0 : -9223372036854775808 ≤ v) (h1 : v < 9223372036854775808) : 0 ≤ zig v ∧ zig v < 18446744073709551616 := by unfold zig; split <;> omega
theorem zag_range (u : Int) (h0 : 0 ≤ u) (h1 : u < 18446744073709551616) : -9223372036854775808 ≤ zag u ∧ zag u < 9223372036854775808 := by unfold zag; split <;> omega

/-! ### the same over a string's length -/
/-- How many sevens of bits. -/
def sev (v : Nat) : Nat := if v = 0 then 0 else (venc v).length
theorem sev_step {v : Nat} (h : 0 < v) : sev v = 1 + sev (v / 128) := by
  unfold sev
  rw [if_neg (by omega)]
  by_cases h1 : v < 128
  · rw [venc_lt h1, if_pos (by omega)]; rfl
  · rw [venc_ge h1, if_neg (by omega)]; simp; omega
theorem venc_len_sev (a : Nat) : (venc a).length = 1 + sev (a / 128) := by
  unfold sev
  by_cases h1 : a < 128
  · rw [venc_lt h1, if_pos (by omega)]; rfl
  · rw [venc_ge h1, if_neg (by omega)]; simp; omega
theorem venc_mono (a : Nat) : ∀ b, a ≤ b → (venc a).length ≤ (venc b).length := by
  induction a using Nat.strongRecOn with
  | _ a ih =>
    intro b h
    by_cases h1 : a < 128
    · rw [venc_lt h1]; exact venc_pos b
    · rw [venc_ge h1, venc_ge (show ¬ b < 128 by omega)]
      have := ih (a / 128) (by omega) (b / 128) (by omega)
      simpa using this
/-- No number's bytes begin another's. -/
theorem venc_apart (a : Nat) : ∀ b k, a ≠ b → min (venc a).length (venc b).length ≤ k → (venc a).take k ≠ (venc b).take k := by
  induction a using Nat.strongRecOn with
  | _ a ih =>
    intro b k h hk e
    obtain ⟨k, rfl⟩ : ∃ m, k = m + 1 := ⟨k - 1, by have := venc_pos a; have := venc_pos b; omega⟩
    by_cases ha : a < 128
    · by_cases hb : b < 128
      · rw [venc_lt ha, venc_lt hb] at e; simp at e; omega
      · rw [venc_lt ha, venc_ge hb] at e; simp at e; omega
    · by_cases hb : b < 128
      · rw [venc_ge ha, venc_lt hb] at e; simp at e; omega
      · rw [venc_ge ha, venc_ge hb] at e hk
        simp only [List.take_succ_cons, List.cons.injEq] at e
        obtain ⟨e1, e2⟩ := e
        refine ih (a / 128) (by omega) (b / 128) k (by omega) (by simp at hk; omega) e2
theorem venc_bytes (a : Nat) : Bytes (venc a) := by
  induction a using Nat.strongRecOn with
  | _ a ih =>
    intro x hx
    by_cases h1 : a < 128
    · rw [venc_lt h1] at hx; simp at hx; omega
    · rw [venc_ge h1] at hx
      rcases List.mem_cons.1 hx with h | h
      · omega
      · exact ih (a / 128) (by omega) x h

end Go.Proofs.YtlcbgklealipoaaGreatDoor
