/- Head answers as it is told here of any bytes. -/
import Derived.Test.YtoolimfdncfgnaaA5
import Derived.Deep.RegionWith
import Derived.BigRegion
import Derived.DataElems
namespace Go.Proofs.Ytoolimfdncfgnaa
open Go.RowKit
set_option linter.unusedVariables false
set_option linter.unusedSimpArgs false

/-! ### a head -/
inductive HRes where
  | torn
  | bad
  | ok (kind seq len sum : Nat)
def magic (l : List Int) : Prop := l.getD 0 0 = 83 ∧ l.getD 1 0 = 80 ∧ l.getD 2 0 = 82
instance (l : List Int) : Decidable (magic l) := by unfold magic; infer_instance
def hKind (l : List Int) : Nat := (l.getD 3 0).toNat
def hLen (l : List Int) : Nat := told ((l.drop 12).take 4)
def hSeq (l : List Int) : Nat := told ((l.drop 4).take 8)
def hSum (l : List Int) : Nat := leS (l.getD 16 0) (l.getD 17 0) (l.getD 18 0) (l.getD 19 0)
def hOwn (l : List Int) : Nat := leS (l.getD 20 0) (l.getD 21 0) (l.getD 22 0) (l.getD 23 0)
def headS (l : List Int) : HRes :=
  if l.length < 24 then .torn else if magic l ∧ 1 ≤ hKind l ∧ hKind l ≤ 9 ∧ hLen l ≤ 1048576 ∧ hOwn l = sumS (l.take 20) then .ok (hKind l) (hSeq l) (hLen l) (hSum l) else .bad

theorem number_at (A : Addr) (n c : Nat) (l : List Int) (w : World) (hn : l.length = n) (hl : n ≤ 8) (hb : Bytes l)
    (hc : ∀ j, j < n → w.cell? (A.add j) = some (.int .u8 (l.getD j 0))) :
    Calls Try.prog 39 #[.slice (some A) n c] w fun e w' => e = .returned (.int .u64 (told l)) ∧ w' = w := by
  subst hn; exact number_pos A c l w hl hb hc

def HeadPost (l : List Int) (w : World) (e : Ending) (w' : World) : Prop :=
  Kept (fun _ => False) w w' ∧ match headS l with
  | .torn => e = .returned (.tuple #[.agg #[.int .i64 0, .int .u64 0, .int .i64 0, .int .u32 0], .int .i64 23])
  | .bad => e = .returned (.tuple #[.agg #[.int .i64 0, .int .u64 0, .int .i64 0, .int .u32 0], .int .i64 24])
  | .ok k s n m => e = .returned (.tuple #[.agg #[.int .i64 k, .int .u64 s, .int .i64 n, .int .u32 m], .int .i64 0])

theorem head_torn (A : Option Addr) (c : Nat) (l : List Int) (w : World) (hl : l.length < 24) :
    Calls Try.prog 22 #[.slice A l.length c] w (HeadPost l w) := by
  have hS : headS l = .torn := by unfold headS; rw [if_pos hl]
  have hP : ∀ w', Kept (fun _ => False) w w' → HeadPost l w (.returned (.tuple #[.agg #[.int .i64 0, .int .u64 0, .int .i64 0, .int .u32 0], .int .i64 23])) w' := fun w' h => by
    unfold HeadPost; rw [hS]; exact ⟨h, rfl⟩
  have HP := Lib.hid hP
  clear hP hS
  have hl' : (l.length : Int) < 24 := by omega
  go_enter Try.func22, Try.ntmps22
  go_wp2_with fail
  exact bodyPost_ret (v := .tuple #[.agg #[.int .i64 0, .int .u64 0, .int .i64 0, .int .u32 0], .int .i64 23]) (by simp [results, Try.results22, go_sem]) rfl (HP.out _ (Kept.alloc _ _ _))

theorem drop_take_getD (l : List Int) (a n j : Nat) (hj : j < n) (h : a + n ≤ l.length) : ((l.drop a).take n).getD j 0 = l.getD (a + j) 0 := by
  simp only [List.getD_eq_getElem?_getD, List.getElem?_take, if_pos hj, List.getElem?_drop]
theorem Bytes.drop {l : List Int} (h : Bytes l) (k : Nat) : Bytes (l.drop k) := fun x hx => h x (List.mem_of_mem_drop hx)

/-- A list that lies at block b from off on. -/
def Here (b off : Nat) (l : List Int) (w : World) : Prop := ∀ j, j < l.length → w.cell? ⟨b, off + j, none⟩ = some (.int .u8 (l.getD j 0))
theorem add_lit' (b off j : Nat) : (⟨b, off, none⟩ : Addr).add j = ⟨b, off + j, none⟩ := by unfold Addr.add; split <;> simp_all
theorem Here.kept {b off : Nat} {l : List Int} {w w' : World} (h : Here b off l w) (hk : Kept (fun _ => False) w w') : Here b off l w' := fun j hj =>
  (World.cell?_of_block (hk.block _ (World.block_lt_of_cell? w _ (h j hj)) id)).trans (h j hj)
theorem Here.reads {b off : Nat} {l : List Int} {w : World} {c : Nat} (h : Here b off l w) (hc : l.length ≤ c) : Reads w (.slice (some ⟨b, off, none⟩) l.length c) l :=
  ⟨some ⟨b, off, none⟩, c, rfl, ⟨fun e => (by cases e), hc⟩, fun j u hu => ⟨⟨b, off, none⟩, rfl, by
    have hj : j < l.length := by
      have := (List.getElem?_eq_some_iff.1 hu).1
      simpa [nums] using this
    rw [nums_get .u8 l j hj] at hu
    injection hu with hu
    rw [← hu, add_lit']; exact h j hj⟩⟩
theorem reads_here {w : World} {v : Value} {l : List Int} (h : Reads w v l) (hl : 0 < l.length) : ∃ b off c, v = .slice (some ⟨b, off, none⟩) l.length c ∧ l.length ≤ c ∧ Here b off l w := by
  obtain ⟨A, c, rfl, h0, hc⟩ := h
  obtain ⟨⟨b, off, spot⟩, rfl, hc0⟩ := hc 0 _ (nums_get .u8 l 0 hl)
  have hspot : spot = none := by simpa [Addr.add] using World.cell?_spot hc0
  subst hspot
  refine ⟨b, off, c, rfl, h0.2, fun j hj => ?_⟩
  obtain ⟨ad, he, hcell⟩ := hc j _ (nums_get .u8 l j hj)
  injection he with he
  subst he
  rwa [add_lit'] at hcell
theorem Here.sub {b off : Nat} {l : List Int} {w : World} (h : Here b off l w) (a n : Nat) (ha : a + n ≤ l.length) : Here b (off + a) ((l.drop a).take n) w := by
  intro j hj
  have hl : ((l.drop a).take n).length = n := by simp; omega
  rw [hl] at hj
  rw [drop_take_getD l a n j hj ha, Nat.add_assoc]
  exact h (a + j) (by omega)
theorem Here.string {P : Program} {w : World} {b off : Nat} {src dst e : TypeId} {l : List Int} {n c : Nat} (hs : P.underlying src = some (.slice e)) (he : P.underlying e = some (.int .u8)) (hd : P.underlying dst = some .string)
    (h : Here b off l w) (hn : l.length = n) : (convert src dst (.slice (some ⟨b, off, none⟩) n c)).run P w = .ok (.string (strOfNums l)) w := by
  subst hn
  exact run_convert_bytes_arg w src e hs he b off _ c l rfl (fun i hi => h i hi) dst hd

theorem magic_str (a b c : Nat) (ha : a < 256) (hb : b < 256) (hc : c < 256) : ((strOfNums [(a : Int), b, c]).toList == [83, 80, 82]) = decide (a = 83 ∧ b = 80 ∧ c = 82) := by
  rw [Bool.eq_iff_iff, beq_iff_eq, decide_eq_true_iff]
  constructor
  · intro h
    have h2 : (strOfNums [(a : Int), b, c]).toList = (strOfNums [83, 80, 82]).toList := h.trans (by decide +kernel)
    have := str_inj (by intro x hx; simp at hx; omega) (by intro x hx; simp at hx; omega) h2
    simp at this
    omega
  · rintro ⟨rfl, rfl, rfl⟩
    decide +kernel

theorem kd {w W : World} (h : Kept (fun _ => False) w W) : Kept (fun _ => False) w W.drew := h.trans (Kept.drew (fun _ => False) W) (fun _ _ e => e) (fun _ _ e => e)
theorem kdn {w W : World} (h : Kept (fun _ => False) w W) (n : Nat) : Kept (fun _ => False) w (W.drewN n) := h.trans (Kept.drewN (fun _ => False) W n) (fun _ _ e => e) (fun _ _ e => e)
theorem kt {w W W' : World} (h : Kept (fun _ => False) w W) (h' : Kept (fun _ => False) W W') : Kept (fun _ => False) w W' := h.trans h' (fun _ _ e => e) (fun _ _ e => e)
def GivesU (x : Nat) (w : World) (e : Ending) (w' : World) : Prop := e = .returned (.int .u32 x) ∧ Kept (fun _ => False) w w'

theorem four {W : World} {g : Nat} {T : TypeId} {x0 x1 x2 x3 : Value} (hb : W.heap[g]? = some (.cells #[x0, x1, x2, x3] T (0, 0))) (a b c d : Value) :
    let W4 := (((W.setCell ⟨g, 0, none⟩ a).setCell ⟨g, 1, none⟩ b).setCell ⟨g, 2, none⟩ c).setCell ⟨g, 3, none⟩ d
    (W4.cell? ⟨g, 0, none⟩ = some a ∧ W4.cell? ⟨g, 1, none⟩ = some b ∧ W4.cell? ⟨g, 2, none⟩ = some c ∧ W4.cell? ⟨g, 3, none⟩ = some d) ∧ W4.heap[g]? = some (.cells #[a, b, c, d] T (0, 0)) ∧ Kept (fun k => k = g) W W4 := by
  have h := blk_set (blk_set (blk_set (blk_set hb 0 a) 1 b) 2 c) 3 d
  refine ⟨⟨(blk_cell h 0).trans rfl, (blk_cell h 1).trans rfl, (blk_cell h 2).trans rfl, (blk_cell h 3).trans rfl⟩, h.trans rfl, ?_⟩
  exact (((Kept.setCell (S := fun k => k = g) W ⟨g, 0, none⟩ a rfl).trans (Kept.setCell (S := fun k => k = g) _ ⟨g, 1, none⟩ b rfl) (fun _ _ e => e) (fun _ _ e => e)).trans (Kept.setCell (S := fun k => k = g) _ ⟨g, 2, none⟩ c rfl) (fun _ _ e => e) (fun _ _ e => e)).trans (Kept.setCell (S := fun k => k = g) _ ⟨g, 3, none⟩ d rfl) (fun _ _ e => e) (fun _ _ e => e)

set_option maxHeartbeats 4000000 in
theorem head_any (bb off : Nat) (c : Nat) (l : List Int) (w : World) (hl : 24 ≤ l.length) (hc : l.length ≤ c) (hcm : c ≤ 9223372036854775807) (hb : Bytes l) (hh : Here bb off l w) :
    Calls Try.prog 22 #[.slice (some ⟨bb, off, none⟩) l.length c] w (HeadPost l w) := by
  have hl' : ¬ (l.length : Int) < 24 := by omega
  have nat : ∀ j, j < 24 → ∃ k : Nat, l.getD j 0 = (k : Int) ∧ k < 256 := fun j hj => ⟨(l.getD j 0).toNat, by have := hb.getD j (by omega); omega, by have := hb.getD j (by omega); omega⟩
  obtain ⟨k, hk, hk256⟩ := nat 3 (by decide)
  obtain ⟨m0, hm0, hm0l⟩ := nat 0 (by decide)
  obtain ⟨m1, hm1, hm1l⟩ := nat 1 (by decide)
  obtain ⟨m2, hm2, hm2l⟩ := nat 2 (by decide)
  have hn := fun w' (hk : Kept (fun _ => False) w w') => number_at ⟨bb, off + 12, none⟩ 4 (c - 12) ((l.drop 12).take 4) w' (by simp; omega) (by decide) ((hb.drop 12).take 4) (by have := (hh.kept hk).sub 12 4 (by omega); intro j hj; rw [add_lit']; exact this j (by simp; omega))
  have h3 := fun w' (hk : Kept (fun _ => False) w w') => (hh.kept hk) 3 (by omega)
  rw [hk] at h3
  have h3' := h3 (w.alloc (.cells #[.int .i64 0, .int .u64 0, .int .i64 0, .int .u32 0] 43)) (.alloc _ _ _)
  have hconv := fun w' (hk : Kept (fun _ => False) w w') => (show Here bb off ((l.drop 0).take 3) w' from (hh.kept hk).sub 0 3 (by omega)).string (P := Try.prog) (c := c) Try.underlying25 Try.underlying5 Try.underlying9 (show ((l.drop 0).take 3).length = 3 by simp; omega)
  have htk : (l.drop 0).take 3 = [(m0 : Int), m1, m2] := by
    rw [← hm0, ← hm1, ← hm2]
    refine List.ext_getElem (by simp; omega) fun i h1 h2 => ?_
    have : i < 3 := by simpa using h2
    rcases i with _ | _ | _ | i
    · simp [List.getD_eq_getElem?_getD]; rw [List.getElem?_eq_getElem (by omega)]; rfl
    · simp [List.getD_eq_getElem?_getD]; rw [List.getElem?_eq_getElem (by omega)]; rfl
    · simp [List.getD_eq_getElem?_getD]; rw [List.getElem?_eq_getElem (by omega)]; rfl
    · omega
  rw [htk] at hconv
  have hms := magic_str m0 m1 m2 hm0l hm1l hm2l
  have hmag : magic l ↔ (m0 = 83 ∧ m1 = 80 ∧ m2 = 82) := by unfold magic; rw [hm0, hm1, hm2]; omega
  have hkk : hKind l = k := by unfold hKind; rw [hk]; rfl
  have HN := Lib.hid hn
  have HH := Lib.hid (And.intro hh (And.intro hconv (And.intro hms (And.intro hmag hkk))))
  clear hn hh h3 hconv hms hmag hkk htk hm0 hm1 hm2 hk nat
  have i0 : (3 : Int) < l.length := by omega
  have i0' : 3 < l.length := by omega
  have i1 : (16 : Int) ≤ c := by omega
  have i2 : 16 ≤ c := by omega
  have i3 : ¬ c = 12 := by omega
  have j3 : (3 : Int) ≤ c := by omega
  have jj3 : 3 ≤ c := by omega
  have j12 : (12 : Int) ≤ c := by omega
  have jj12 : 12 ≤ c := by omega
  have j20 : (20 : Int) ≤ c := by omega
  have jj20 : 20 ≤ c := by omega
  have j24 : (24 : Int) ≤ c := by omega
  have jj24 : 24 ≤ c := by omega
  have jn4 : ¬ c = 4 := by omega
  have jn16 : ¬ c = 16 := by omega
  have jn20 : ¬ c = 20 := by omega
  have hbk : (w.alloc (.cells #[.int .i64 0, .int .u64 0, .int .i64 0, .int .u32 0] 43)).heap[w.heap.size]? = some (.cells #[.int .i64 0, .int .u64 0, .int .i64 0, .int .u32 0] 43 (0, 0)) := heap_alloc_new _ _
  have HBK := Lib.hid hbk
  clear hbk
  go_enter Try.func22, Try.ntmps22
  go_wp2_with fail
  go_quiet ((go_at_call 39; exact Calls.quiet_of_same (HN.out _ ((Kept.alloc _ _ _).trans (.drewN (fun _ => False) _ _) (fun _ _ e => e) (fun _ _ e => e)))))
  go_wp2_with fail
  obtain ⟨W, hW⟩ : ∃ W, W = (w.alloc (.cells #[.int .i64 0, .int .u64 0, .int .i64 0, .int .u32 0] 43)).drewN nq := ⟨_, rfl⟩
  rw [← hW]
  have hK : Kept (fun _ => False) w W := by rw [hW]; exact (Kept.alloc _ _ _).trans (.drewN (fun _ => False) _ _) (fun _ _ e => e) (fun _ _ e => e)
  have hbW : W.heap[w.heap.size]? = some (.cells #[.int .i64 0, .int .u64 0, .int .i64 0, .int .u32 0] 43 (0, 0)) := by rw [hW]; exact HBK.out
  clear hW HBK
  have hq32 : told ((l.drop 12).take 4) < 4294967296 := by
    have := told_lt ((hb.drop 12).take 4) 4 (by simp; omega)
    rw [List.take_take] at this
    simpa using this
  have hqe : hLen l = told ((l.drop 12).take 4) := rfl
  generalize told ((l.drop 12).take 4) = q at *
  obtain ⟨hh, hconv, hms, hmag, hkk⟩ := HH.out
  have hcv := fun n => hconv (W.drewN n) (hK.trans (.drewN (fun _ => False) _ _) (fun _ _ e => e) (fun _ _ e => e))
  have hbad : ¬ (magic l ∧ 1 ≤ hKind l ∧ hKind l ≤ 9 ∧ hLen l ≤ 1048576 ∧ hOwn l = sumS (l.take 20)) → ∀ w', Kept (fun _ => False) w w' → HeadPost l w (.returned (.tuple #[.agg #[.int .i64 0, .int .u64 0, .int .i64 0, .int .u32 0], .int .i64 24])) w' := fun h w' hw => by
    have : headS l = .bad := by unfold headS; rw [if_neg (by omega), if_neg h]
    unfold HeadPost; rw [this]; exact ⟨hw, rfl⟩
  have HB2 := Lib.hid (And.intro hbad (And.intro hmag (And.intro hkk (And.intro hqe hh))))
  clear hbad hmag hkk hqe hh HH
  have hcs0 := fun i => (blk_cell hbW i)
  have hfz := fun i => (blk_frozen hbW i)
  have HCS := Lib.hid hcs0
  have hcs0 : W.cell? ⟨w.heap.size, 0, none⟩ = some (.int .i64 0) := HCS.out 0
  have hcs1 : W.cell? ⟨w.heap.size, 1, none⟩ = some (.int .u64 0) := HCS.out 1
  have hcs2 : W.cell? ⟨w.heap.size, 2, none⟩ = some (.int .i64 0) := HCS.out 2
  have hcs3 : W.cell? ⟨w.heap.size, 3, none⟩ = some (.int .u32 0) := HCS.out 3
  have HBW := Lib.hid hbW
  clear hbW HCS
  by_cases hM : m0 = 83 ∧ m1 = 80 ∧ m2 = 82
  · have hms2 : ((strOfNums [83, 80, 82]).toList == [83, 80, 82]) = true := by decide +kernel
    obtain ⟨rfl, rfl, rfl⟩ := hM
    clear hms hm0l hm1l hm2l
    by_cases hk1 : k < 1
    · have HBAD := Lib.hid (HB2.out.1 (by intro h; have := HB2.out.2.2.1; omega))
      have k1 : (k : Int) < 1 := by omega
      clear HB2 hk1
      go_quiet (fail)
      go_wp2_with fail
      obtain ⟨⟨r0, r1, r2, r3⟩, -, hK4⟩ := four (W := W.drewN nq) (g := w.heap.size) HBW.out (.int .i64 0) (.int .u64 0) (.int .i64 0) (.int .u32 0)
      exact bodyPost_ret (v := .tuple #[.agg #[.int .i64 0, .int .u64 0, .int .i64 0, .int .u32 0], .int .i64 24]) (by simp [results, Try.results22, go_sem, r0, r1, r2, r3]) rfl (HBAD.out _ ((hK.trans (.drewN (fun _ => False) _ _) (fun _ _ e => e) (fun _ _ e => e)).trans hK4 (fun _ _ e => e) (fun k hk e => by omega)))
    · have k1 : ¬ (k : Int) < 1 := by omega
      by_cases hk9 : 9 < k
      · have HBAD := Lib.hid (HB2.out.1 (by intro h; have := HB2.out.2.2.1; omega))
        have k9 : (9 : Int) < k := by omega
        clear HB2
        go_quiet (fail)
        go_wp2_with fail
        obtain ⟨⟨r0, r1, r2, r3⟩, -, hK4⟩ := four (W := W.drewN nq) (g := w.heap.size) HBW.out (.int .i64 0) (.int .u64 0) (.int .i64 0) (.int .u32 0)
        exact bodyPost_ret (v := .tuple #[.agg #[.int .i64 0, .int .u64 0, .int .i64 0, .int .u32 0], .int .i64 24]) (by simp [results, Try.results22, go_sem, r0, r1, r2, r3]) rfl (HBAD.out _ ((hK.trans (.drewN (fun _ => False) _ _) (fun _ _ e => e) (fun _ _ e => e)).trans hK4 (fun _ _ e => e) (fun k hk e => by omega)))
      · have k9 : ¬ (9 : Int) < k := by omega
        by_cases hq9 : 1048576 < q
        · have HBAD := Lib.hid (HB2.out.1 (by intro h; have := HB2.out.2.2.2.1; omega))
          have q9 : (1048576 : Int) < q := by omega
          clear HB2
          go_quiet (fail)
          go_wp2_with fail
          obtain ⟨⟨r0, r1, r2, r3⟩, -, hK4⟩ := four (W := W.drewN nq) (g := w.heap.size) HBW.out (.int .i64 0) (.int .u64 0) (.int .i64 0) (.int .u32 0)
          exact bodyPost_ret (v := .tuple #[.agg #[.int .i64 0, .int .u64 0, .int .i64 0, .int .u32 0], .int .i64 24]) (by simp [results, Try.results22, go_sem, r0, r1, r2, r3]) rfl (HBAD.out _ ((hK.trans (.drewN (fun _ => False) _ _) (fun _ _ e => e) (fun _ _ e => e)).trans hK4 (fun _ _ e => e) (fun k hk e => by omega)))
        · have q9 : ¬ (1048576 : Int) < q := by omega
          have hh := HB2.out.2.2.2.2
          have c40 : ∀ W', Kept (fun _ => False) w W' → Calls Try.prog 40 #[.slice (some ⟨bb, off + 20, none⟩) 4 (c - 20)] W' (GivesU (hOwn l) W') := fun W' hk' => by
            have hs := (hh.kept hk').sub 20 4 (by omega)
            have hs' : ∀ j, j < 4 → ∃ m : Nat, l.getD (20 + j) 0 = (m : Int) ∧ m < 256 ∧ W'.cell? ⟨bb, off + 20 + j, none⟩ = some (.int .u8 m) := fun j hj => by
              have hbj := hb.getD (20 + j) (by omega)
              have hc := hs j (by simp; omega)
              rw [drop_take_getD l 20 4 j hj (by omega)] at hc
              exact ⟨(l.getD (20 + j) 0).toNat, by omega, by omega, by rw [hc]; congr 2; omega⟩
            obtain ⟨a0, e0, l0, g0⟩ := hs' 0 (by decide)
            obtain ⟨a1, e1, l1, g1⟩ := hs' 1 (by decide)
            obtain ⟨a2, e2, l2, g2⟩ := hs' 2 (by decide)
            obtain ⟨a3, e3, l3, g3⟩ := hs' 3 (by decide)
            refine (sumOf_pos ⟨bb, off + 20, none⟩ 4 (c - 20) a0 a1 a2 a3 W' (by decide) (by omega) l0 l1 l2 l3 g0 g1 g2 g3).mono ?_
            rintro e w' ⟨rfl, m, rfl⟩
            refine ⟨ret_eq ?_, .drewN _ _ _⟩
            unfold hOwn
            rw [show l.getD 20 0 = (a0 : Int) from e0, show l.getD 21 0 = (a1 : Int) from e1, show l.getD 22 0 = (a2 : Int) from e2, show l.getD 23 0 = (a3 : Int) from e3]
          have c28 : ∀ W', Kept (fun _ => False) w W' → Calls Try.prog 28 #[.slice (some ⟨bb, off, none⟩) 20 c] W' (GivesU (sumS (l.take 20)) W') := fun W' hk' => by
            have hs := (hh.kept hk').sub 0 20 (by omega)
            have hl20 : (l.take 20).length = 20 := by simp; omega
            have hr : Reads W' (.slice (some ⟨bb, off, none⟩) (l.take 20).length c) (l.take 20) := Here.reads hs (by rw [hl20]; omega)
            rw [hl20] at hr
            exact sum_any _ (l.take 20) W' (hb.take 20) (by omega) hr
          have c40' : ∀ p : Later W, Calls Try.prog 40 #[.slice (some ⟨bb, off + 20, none⟩) 4 (c - 20)] p.w' fun e w2 => e = .returned (.int .u32 (hOwn l)) ∧ ∃ q : Later W, w2 = q.w' := fun p => Calls.later_of (c40 p.w' (p.old hK))
          have c28' : ∀ p : Later W, Calls Try.prog 28 #[.slice (some ⟨bb, off, none⟩) 20 c] p.w' fun e w2 => e = .returned (.int .u32 (sumS (l.take 20))) ∧ ∃ q : Later W, w2 = q.w' := fun p => Calls.later_of (c28 p.w' (p.old hK))
          have HC := Lib.hid (And.intro c40' c28')
          have hcp := fun p : Later W => hconv p.w' (p.old hK)
          clear c40 c28 hh c40' c28' hcv hconv
          refine wp_region_later (by kernel_rfl) (by kernel_rfl) ?_
          repeat (go_big_quiet_step (first | exact HC.out.1 _ | exact HC.out.2 _))
          refine wpQuiet_nil ?_
          intro p
          by_cases hsum : hOwn l = sumS (l.take 20)
          · have HOK : ∀ w', Kept (fun _ => False) w w' → HeadPost l w (.returned (.tuple #[.agg #[.int .i64 k, .int .u64 (hSeq l), .int .i64 q, .int .u32 (hSum l)], .int .i64 0])) w' := fun w' hw => by
              have e : headS l = .ok (hKind l) (hSeq l) (hLen l) (hSum l) := by
                unfold headS
                rw [if_neg (by omega), if_pos ⟨HB2.out.2.1.2 ⟨rfl, rfl, rfl⟩, by rw [HB2.out.2.2.1]; omega, by rw [HB2.out.2.2.1]; omega, by rw [HB2.out.2.2.2.1]; omega, hsum⟩]
              unfold HeadPost; rw [e, HB2.out.2.2.1, HB2.out.2.2.2.1]; exact ⟨hw, rfl⟩
            have hh := HB2.out.2.2.2.2
            have c40 : ∀ W', Kept (fun _ => False) w W' → Calls Try.prog 40 #[.slice (some ⟨bb, off + 16, none⟩) 4 (c - 16)] W' (fun e w' => e = .returned (.int .u32 (hSum l)) ∧ ∃ m, w' = W'.drewN m) := fun W' hk' => by
              have hs := (hh.kept hk').sub 16 4 (by omega)
              have hs' : ∀ j, j < 4 → ∃ m : Nat, l.getD (16 + j) 0 = (m : Int) ∧ m < 256 ∧ W'.cell? ⟨bb, off + 16 + j, none⟩ = some (.int .u8 m) := fun j hj => by
                have hbj := hb.getD (16 + j) (by omega)
                have hc := hs j (by simp; omega)
                rw [drop_take_getD l 16 4 j hj (by omega)] at hc
                exact ⟨(l.getD (16 + j) 0).toNat, by omega, by omega, by rw [hc]; congr 2; omega⟩
              obtain ⟨a0, e0, l0, g0⟩ := hs' 0 (by decide)
              obtain ⟨a1, e1, l1, g1⟩ := hs' 1 (by decide)
              obtain ⟨a2, e2, l2, g2⟩ := hs' 2 (by decide)
              obtain ⟨a3, e3, l3, g3⟩ := hs' 3 (by decide)
              refine (sumOf_pos ⟨bb, off + 16, none⟩ 4 (c - 16) a0 a1 a2 a3 W' (by decide) (by omega) l0 l1 l2 l3 g0 g1 g2 g3).mono ?_
              rintro e w' ⟨rfl, m, rfl⟩
              refine ⟨ret_eq ?_, m, rfl⟩
              unfold hSum
              rw [show l.getD 16 0 = (a0 : Int) from e0, show l.getD 17 0 = (a1 : Int) from e1, show l.getD 18 0 = (a2 : Int) from e2, show l.getD 19 0 = (a3 : Int) from e3]
            have c39 : ∀ W', Kept (fun _ => False) w W' → Calls Try.prog 39 #[.slice (some ⟨bb, off + 4, none⟩) 8 (c - 4)] W' (fun e w' => e = .returned (.int .u64 (hSeq l)) ∧ w' = W') := fun W' hk' =>
              number_at ⟨bb, off + 4, none⟩ 8 (c - 4) ((l.drop 4).take 8) W' (by simp; omega) (by decide) ((hb.drop 4).take 8) (by have := (hh.kept hk').sub 4 8 (by omega); intro j hj; rw [add_lit']; exact this j (by simp; omega))
            have HC2 := Lib.hid (And.intro c40 c39)
            have HK := Lib.hid HOK
            have hK2 := p.old hK
            have hbW2 := blk_kept p.kept HBW.out id
            have HBW2 := Lib.hid hbW2
            have y0 : p.w'.cell? ⟨w.heap.size, 0, none⟩ = some (.int .i64 0) := blk_cell hbW2 0
            have y1 : p.w'.cell? ⟨w.heap.size, 1, none⟩ = some (.int .u64 0) := blk_cell hbW2 1
            have y2 : p.w'.cell? ⟨w.heap.size, 2, none⟩ = some (.int .i64 0) := blk_cell hbW2 2
            have y3 : p.w'.cell? ⟨w.heap.size, 3, none⟩ = some (.int .u32 0) := blk_cell hbW2 3
            have yf := fun i => blk_frozen hbW2 i
            have z1 : (12 : Int) ≤ c := by omega
            have z2 : IntKind.i64.wrap (q : Int) = q := IntWalk.i64_in _ (by omega)
            clear HOK hh c40 c39 HC HB2 hcs0 hcs1 hcs2 hcs3 hfz HBW hbW2 hcp
            go_wp2_with fail
            generalize p.w' = V at *
            go_region_with (first
              | (go_at_call 40; refine (HC2.out.1 _ ?_).mono ?_; (first | exact hK2 | exact kd hK2 | exact kdn (kd hK2) _ | exact kd (kd hK2)); rintro e w' ⟨rfl, m, rfl⟩)
              | (go_at_call 39; refine (HC2.out.2 _ ?_).mono ?_; (first | exact hK2 | exact kd hK2 | exact kdn (kd hK2) _ | exact kd (kd hK2)); rintro e w' ⟨rfl, rfl⟩))
            go_wp2_with fail
            obtain ⟨⟨r0, r1, r2, r3⟩, -, hK4⟩ := four (W := V.drewN (1 + m)) (g := w.heap.size) HBW2.out (.int .i64 k) (.int .u64 (hSeq l)) (.int .i64 q) (.int .u32 (hSum l))
            exact bodyPost_ret (v := .tuple #[.agg #[.int .i64 k, .int .u64 (hSeq l), .int .i64 q, .int .u32 (hSum l)], .int .i64 0]) (by simp [results, Try.results22, go_sem, Act.put, r0, r1, r2, r3]) rfl (HK.out _ ((kdn hK2 (1 + m)).trans hK4 (fun _ _ e => e) (fun k hk e => by omega)))
          · have HBAD := Lib.hid (HB2.out.1 (by intro h; exact hsum h.2.2.2.2))
            have e1 : ((hOwn l : Int) == sumS (l.take 20)) = false := by rw [beq_eq_false_iff_ne]; omega
            have hK2 := p.old hK
            have hbW2 := blk_kept p.kept HBW.out id
            have HBW2 := Lib.hid hbW2
            have y0 : p.w'.cell? ⟨w.heap.size, 0, none⟩ = some (.int .i64 0) := blk_cell hbW2 0
            have y1 : p.w'.cell? ⟨w.heap.size, 1, none⟩ = some (.int .u64 0) := blk_cell hbW2 1
            have y2 : p.w'.cell? ⟨w.heap.size, 2, none⟩ = some (.int .i64 0) := blk_cell hbW2 2
            have y3 : p.w'.cell? ⟨w.heap.size, 3, none⟩ = some (.int .u32 0) := blk_cell hbW2 3
            have yf := fun i => blk_frozen hbW2 i
            clear HC HB2 hbW2
            go_wp2_with fail
            obtain ⟨⟨r0, r1, r2, r3⟩, -, hK4⟩ := four (W := p.w') (g := w.heap.size) HBW2.out (.int .i64 0) (.int .u64 0) (.int .i64 0) (.int .u32 0)
            exact bodyPost_ret (v := .tuple #[.agg #[.int .i64 0, .int .u64 0, .int .i64 0, .int .u32 0], .int .i64 24]) (by simp [results, Try.results22, go_sem, r0, r1, r2, r3]) rfl (HBAD.out _ (hK2.trans hK4 (fun _ _ e => e) (fun k hk e => by omega)))
  · rw [decide_eq_false hM] at hms
    have HBAD := Lib.hid (HB2.out.1 (by intro h; exact hM (HB2.out.2.1.1 h.1)))
    clear HB2 hM
    go_quiet (fail)
    go_wp2_with fail
    obtain ⟨⟨r0, r1, r2, r3⟩, -, hK4⟩ := four (W := W.drewN nq) (g := w.heap.size) HBW.out (.int .i64 0) (.int .u64 0) (.int .i64 0) (.int .u32 0)
    exact bodyPost_ret (v := .tuple #[.agg #[.int .i64 0, .int .u64 0, .int .i64 0, .int .u32 0], .int .i64 24]) (by simp [results, Try.results22, go_sem, r0, r1, r2, r3]) rfl (HBAD.out _ ((hK.trans (.drewN (fun _ => False) _ _) (fun _ _ e => e) (fun _ _ e => e)).trans hK4 (fun _ _ e => e) (fun k hk e => by omega)))

end Go.Proofs.Ytoolimfdncfgnaa
