/- More and Sum give the sum as it is told here, nibble by nibble. -/
import Derived.Test.YtoolimfdncfgnaaA
namespace Go.Proofs.Ytoolimfdncfgnaa
open Go.RowKit
set_option linter.unusedVariables false
set_option linter.unusedSimpArgs false

def nib (s : Nat) : Nat := (s / 16) ^^^ bsteps 4 (s % 16)
def crcB (s : Nat) (x : Int) : Nat := nib (nib (s ^^^ x.toNat))
def crc (s : Nat) (l : List Int) : Nat := l.foldl crcB s
def more (sum : Nat) (l : List Int) : Nat := 4294967295 ^^^ crc (4294967295 ^^^ sum) l
theorem nib_lt {s : Nat} (h : s < 4294967296) : nib s < 4294967296 := xor32_lt (by omega) (bsteps_lt 4 (by omega))
theorem crcB_lt {s : Nat} (h : s < 4294967296) {x : Int} (h0 : 0 ≤ x) (h1 : x < 256) : crcB s x < 4294967296 := nib_lt (nib_lt (xor32_lt h (by omega)))
theorem crc_lt {s : Nat} (h : s < 4294967296) {l : List Int} (hb : Bytes l) : crc s l < 4294967296 := by
  induction l generalizing s with
  | nil => exact h
  | cons x l ih => exact ih (crcB_lt h (hb x (by simp)).1 (hb x (by simp)).2) (fun y hy => hb y (by simp [hy]))
theorem crc_take (s : Nat) (l : List Int) (k : Nat) (h : k < l.length) : crc s (l.take (k + 1)) = crcB (crc s (l.take k)) (l.getD k 0) := by
  rw [List.take_succ_eq_append_getElem h, crc, List.foldl_append, List.getD_eq_getElem?_getD, List.getElem?_eq_getElem h]; rfl

def MorePost (sum : Nat) (l : List Int) (w : World) (e : Ending) (w' : World) : Prop := e = .returned (.int .u32 (more sum l)) ∧ Kept (fun _ => False) w w'
theorem tabs (w2 : World) (g : Nat) (hb : w2.heap[g]? = some (.cells #[.int .u32 0, .int .u32 274646895, .int .u32 549293790, .int .u32 820201905, .int .u32 1098587580, .int .u32 1361435347, .int .u32 1640403810, .int .u32 1905808397, .int .u32 2197175160, .int .u32 2460548119, .int .u32 2722870694, .int .u32 2987750089, .int .u32 3280807620, .int .u32 3553878443, .int .u32 3811616794, .int .u32 4084100981] 74 (0, 0))) : ∀ i, i < 16 → w2.cell? ⟨g, i, none⟩ = some (.int .u32 (bsteps 4 i : Nat)) := by
  intro i hi
  rw [blk_cell hb]
  have h : (tabLits)[i]? = some (.int .u32 (bsteps 4 i : Nat)) := by
    rw [← tab16]
    have := nums_get .u32 (tab 16) i (by rw [tab_len]; exact hi)
    rw [List.getElem?_toArray, this]
    congr 2
    simp [tab, List.getD_eq_getElem?_getD, hi]
  exact h

set_option maxHeartbeats 2000000 in
theorem more_pos (sum : Nat) (A : Addr) (c : Nat) (l : List Int) (w : World) (hsum : sum < 4294967296) (hbt : Bytes l) (hl : l.length ≤ 9223372036854775807)
    (hc : ∀ j, j < l.length → w.cell? (A.add j) = some (.int .u8 (l.getD j 0))) :
    Calls Try.prog 29 #[.int .u32 sum, .slice (some A) l.length c] w (MorePost sum l w) := by
  go_enter Try.func29, Try.ntmps29
  go_wp2_with fail
  refine (table_any w).mono ?_
  rintro e w1 ⟨rfl, hk1⟩
  have hc1 : ∀ j, j < l.length → w1.cell? (A.add j) = some (.int .u8 (l.getD j 0)) := fun j hj =>
    (World.cell?_of_block (hk1.block _ (World.block_lt_of_cell? w _ (hc j hj)) id)).trans (hc j hj)
  clear hc
  have hx : bits .xor .u32 IntKind.u32.max (sum : Int) = ((4294967295 ^^^ sum : Nat) : Int) := xor32 4294967295 sum (by decide) hsum
  have hs0 : 4294967295 ^^^ sum < 4294967296 := xor32_lt (by decide) hsum
  have hbW : (w1.alloc (.cells #[.int .u32 0, .int .u32 274646895, .int .u32 549293790, .int .u32 820201905, .int .u32 1098587580, .int .u32 1361435347, .int .u32 1640403810, .int .u32 1905808397, .int .u32 2197175160, .int .u32 2460548119, .int .u32 2722870694, .int .u32 2987750089, .int .u32 3280807620, .int .u32 3553878443, .int .u32 3811616794, .int .u32 4084100981] 74)).heap[w1.heap.size]? = some (.cells #[.int .u32 0, .int .u32 274646895, .int .u32 549293790, .int .u32 820201905, .int .u32 1098587580, .int .u32 1361435347, .int .u32 1640403810, .int .u32 1905808397, .int .u32 2197175160, .int .u32 2460548119, .int .u32 2722870694, .int .u32 2987750089, .int .u32 3280807620, .int .u32 3553878443, .int .u32 3811616794, .int .u32 4084100981] 74 (0, 0)) := heap_alloc_new _ _
  have hkW : Kept (fun _ => False) w (w1.alloc (.cells #[.int .u32 0, .int .u32 274646895, .int .u32 549293790, .int .u32 820201905, .int .u32 1098587580, .int .u32 1361435347, .int .u32 1640403810, .int .u32 1905808397, .int .u32 2197175160, .int .u32 2460548119, .int .u32 2722870694, .int .u32 2987750089, .int .u32 3280807620, .int .u32 3553878443, .int .u32 3811616794, .int .u32 4084100981] 74)) := hk1.trans (Kept.alloc _ _ _) (fun _ _ e => e) (fun _ _ e => e)
  have hcW : ∀ j, j < l.length → (w1.alloc (.cells #[.int .u32 0, .int .u32 274646895, .int .u32 549293790, .int .u32 820201905, .int .u32 1098587580, .int .u32 1361435347, .int .u32 1640403810, .int .u32 1905808397, .int .u32 2197175160, .int .u32 2460548119, .int .u32 2722870694, .int .u32 2987750089, .int .u32 3280807620, .int .u32 3553878443, .int .u32 3811616794, .int .u32 4084100981] 74)).cell? (A.add j) = some (.int .u8 (l.getD j 0)) := fun j hj =>
    (World.cell?_of_block (Below.heap_alloc w1 _ _ (World.block_lt_of_cell? w1 _ (hc1 j hj)))).trans (hc1 j hj)
  clear hc1
  go_wp2_with fail
  clear hx
  generalize w1.alloc (.cells #[.int .u32 0, .int .u32 274646895, .int .u32 549293790, .int .u32 820201905, .int .u32 1098587580, .int .u32 1361435347, .int .u32 1640403810, .int .u32 1905808397, .int .u32 2197175160, .int .u32 2460548119, .int .u32 2722870694, .int .u32 2987750089, .int .u32 3280807620, .int .u32 3553878443, .int .u32 3811616794, .int .u32 4084100981] 74) = W at *
  have hT := tabs W _ hbW
  have HT := Lib.hid (And.intro hT hcW)
  clear hbW hT hcW
  go_loop [6, 14] (fun s n => ∃ k : Nat, n = .int .i64 k ∧ k ≤ l.length ∧ s = .int .u32 (crc (4294967295 ^^^ sum) (l.take k) : Nat)) (fun _ n => l.length - (intOf n).toNat)
  case atStart => exact ⟨0, rfl, by omega, by simp [crc]⟩
  case round =>
    obtain ⟨k, rfl, hk, rfl⟩ := hrel
    by_cases h : k < l.length
    · have hcell := HT.out.2 k h
      have hsl := crc_lt hs0 (l := l.take k) (fun x hx => hbt x (List.mem_of_mem_take hx))
      have hcs := crc_take (4294967295 ^^^ sum) l k h
      obtain ⟨hx0, hx1⟩ := hbt.getD k h
      generalize hgx : l.getD k 0 = x at *
      obtain ⟨m, rfl⟩ := Int.eq_ofNat_of_zero_le hx0
      generalize hgs : crc (4294967295 ^^^ sum) (l.take k) = s at *
      have hm : m < 256 := by omega
      have e1 : bits .xor .u32 (s : Int) (m : Int) = ((s ^^^ m : Nat) : Int) := xor32 s m hsl (by omega)
      have h1 : s ^^^ m < 4294967296 := xor32_lt hsl (by omega)
      have hcs2 : crc (4294967295 ^^^ sum) (l.take (k + 1)) = nib (nib (s ^^^ m)) := by rw [hcs]; rfl
      clear hcs
      generalize hs1 : s ^^^ m = s1 at *
      have step : ∀ q : Nat, q < 4294967296 → bits .and .u32 (q : Int) 15 = ((q % 16 : Nat) : Int) ∧ bits .xor .u32 ((q : Int) / 16) ((bsteps 4 (q % 16) : Nat) : Int) = ((nib q : Nat) : Int) := fun q hq =>
        ⟨and32 q 4 (by decide) hq, xor32 (q / 16) _ (by omega) (bsteps_lt 4 (by omega))⟩
      obtain ⟨a1, x1⟩ := step s1 h1
      have h2 := nib_lt h1
      generalize hn1 : nib s1 = s2 at *
      obtain ⟨a2, x2⟩ := step s2 h2
      have t1 := HT.out.1 (s1 % 16) (by omega)
      have t2 := HT.out.1 (s2 % 16) (by omega)
      generalize hn2 : nib s2 = s3 at *
      have HC := Lib.hid hcs2
      have m1 : ((s1 % 16 : Nat) : Int) < 16 := by omega
      have m2 : ((s2 % 16 : Nat) : Int) < 16 := by omega
      clear hgx hgs hcs2 hs1 hn1 hn2 step hx0 hx1
      go_wp2_with fail
      exact ⟨⟨k + 1, by go_num, by omega, by rw [HC.out]⟩, by simp [intOf]; omega⟩
    · obtain rfl : k = l.length := by omega
      have hsl := crc_lt hs0 hbt
      have hx : bits .xor .u32 IntKind.u32.max (crc (4294967295 ^^^ sum) l : Nat) = ((more sum l : Nat) : Int) := xor32 4294967295 _ (by decide) hsl
      have HX := Lib.hid hx
      clear hx
      go_wp2_with fail
      go_ret
      exact ⟨ret_eq HX.out, hkW⟩

theorem more_nil (sum : Nat) (A : Option Addr) (c : Nat) (w : World) (hsum : sum < 4294967296) :
    Calls Try.prog 29 #[.int .u32 sum, .slice A 0 c] w (MorePost sum [] w) := by
  go_enter Try.func29, Try.ntmps29
  go_wp2_with fail
  refine (table_any w).mono ?_
  rintro e w1 ⟨rfl, hk1⟩
  have hx : bits .xor .u32 IntKind.u32.max (sum : Int) = ((4294967295 ^^^ sum : Nat) : Int) := xor32 4294967295 sum (by decide) hsum
  have hs0 : 4294967295 ^^^ sum < 4294967296 := xor32_lt (by decide) hsum
  have hx2 : bits .xor .u32 IntKind.u32.max ((4294967295 ^^^ sum : Nat) : Int) = ((4294967295 ^^^ (4294967295 ^^^ sum) : Nat) : Int) := xor32 4294967295 _ (by decide) hs0
  have HX := Lib.hid (And.intro hx hx2)
  clear hx hx2
  go_wp2_with fail
  refine wp_loop_rounds 1 ?_
  rw [rounds_succ]
  go_wp2_with fail
  go_ret
  refine ⟨ret_eq ?_, hk1.trans (Kept.alloc _ _ _) (fun _ _ e => e) (fun _ _ e => e)⟩
  rw [HX.out.1, HX.out.2]; rfl

theorem more_any (sum : Nat) (v : Value) (l : List Int) (w : World) (hsum : sum < 4294967296) (hbt : Bytes l) (hl : l.length ≤ 9223372036854775807) (hr : Reads w v l) :
    Calls Try.prog 29 #[.int .u32 sum, v] w (MorePost sum l w) := by
  obtain ⟨A, c, rfl, -, hc⟩ := hr
  rcases Nat.eq_zero_or_pos l.length with h | h
  · obtain rfl : l = [] := List.eq_nil_of_length_eq_zero h
    exact more_nil sum A c w hsum
  · obtain ⟨ad, rfl, -⟩ := hc 0 _ (nums_get .u8 l 0 h)
    refine more_pos sum ad c l w hsum hbt hl fun j hj => ?_
    obtain ⟨ad', he, hcell⟩ := hc j _ (nums_get .u8 l j hj)
    obtain rfl : ad = ad' := by injection he
    exact hcell
def sumS (l : List Int) : Nat := more 0 l
theorem more_lt {sum : Nat} (h : sum < 4294967296) {l : List Int} (hb : Bytes l) : more sum l < 4294967296 := xor32_lt (by decide) (crc_lt (xor32_lt (by decide) h) hb)
theorem sum_any (v : Value) (l : List Int) (w : World) (hbt : Bytes l) (hl : l.length ≤ 9223372036854775807) (hr : Reads w v l) :
    Calls Try.prog 28 #[v] w (MorePost 0 l w) := by
  have hm := more_any 0 v l w (by decide) hbt hl hr
  go_enter Try.func28, Try.ntmps28
  go_wp2_with fail
  refine hm.mono ?_
  rintro e w' ⟨rfl, hk⟩
  go_wp2_with fail
  go_ret
  exact ⟨rfl, hk⟩
end Go.Proofs.Ytoolimfdncfgnaa
