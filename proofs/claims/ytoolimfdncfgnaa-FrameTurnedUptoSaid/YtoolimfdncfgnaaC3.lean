/- lent: what is handed in, with its owner's marks behind. -/
import Derived.Test.YtoolimfdncfgnaaC2
import Derived.Test.YtoolimfdncfgnaaA8
import Derived.Laws.CopyOwn
namespace Go.Proofs.Ytoolimfdncfgnaa
open Go.RowKit
set_option linter.unusedVariables false
set_option linter.unusedSimpArgs false

def lentL (l : List Int) : List Int := l ++ List.replicate 40 167
theorem lentL_len (l : List Int) : (lentL l).length = l.length + 40 := by simp [lentL]
theorem lentL_lo (l : List Int) (j : Nat) (h : j < l.length) : (lentL l).getD j 0 = l.getD j 0 := by
  simp [lentL, List.getD_eq_getElem?_getD, List.getElem?_append_left h]
theorem lentL_hi (l : List Int) (j : Nat) (h : l.length ≤ j) (h2 : j < l.length + 40) : (lentL l).getD j 0 = 167 := by
  simp only [lentL, List.getD_eq_getElem?_getD, List.getElem?_append_right h]
  rw [List.getElem?_replicate, if_pos (by omega)]; rfl
/-- The block g holds these whole. -/
def Holds (g : Nat) (l : List Int) (n : Nat) (size : Nat) (w : World) : Prop :=
  ∃ arr, w.heap[g]? = some (.cells arr 5 (0, 0)) ∧ arr.size = size ∧ ∀ j, j < n → arr[j]? = some (.int .u8 (l.getD j 0))
def LentPost (l : List Int) (w : World) (e : Ending) (w' : World) : Prop :=
  e = .returned (.slice (some ⟨w.heap.size, 0, none⟩) l.length (l.length + 40)) ∧ Kept (fun _ => False) w w' ∧ Holds w.heap.size (lentL l) (l.length + 40) (l.length + 40) w'
theorem Try.size5 : (Try.prog.info? 5).map (·.size) = some 1 := by kernel_rfl

set_option maxHeartbeats 2000000 in
theorem lent_any (v : Value) (l : List Int) (w : World) (hb : Bytes l) (hl : l.length ≤ 4294967296) (hr : Reads w v l) :
    Calls Try.prog 16 #[v] w (LentPost l w) := by
  obtain ⟨i0, hi, hz0, hz1, hz2⟩ := info_parts Try.info5
  obtain ⟨A, c, rfl, -, hcs⟩ := hr
  have HC := Lib.hid hcs; clear hcs
  have l2 : IntKind.i64.wrap ((l.length : Int) + 40) = (l.length : Int) + 40 := IntWalk.i64_in _ (by omega)
  go_enter Try.func16, Try.ntmps16
  go_wp2_with (refine wpList_make_full w rfl _ _ 25 rfl w.heap.size 5 i0 (.int .u8 0) 1 Try.underlying25 hi hz0 hz1 .i64 .i64 _ _ (l.length + 40) rfl rfl (by simp) (by simp) ?c1 ?c2 ?c3 ?_)
  case c1 => rw [hz2]; omega
  case c2 => simp [maxLen]; omega
  case c3 => simp
  rintro w1 hown hgr
  obtain ⟨cur, hh, hsz⟩ : ∃ cur, w1.heap[w.heap.size]? = some (.cells cur 5 (0, 0)) ∧ cur.size = l.length + 40 := by
    rcases hown.2 with ⟨h, _⟩ | ⟨g', cap, cur, h, hb, hh, h1, h2, h3, h4⟩
    · cases h
    · injection h with ha hb' hc'
      injection ha with ha
      injection ha with ha
      subst ha; subst hc'
      exact ⟨cur, hh, by omega⟩
  have hb1 : Below w.heap.size w w1 := (Below.refl _ _).grown hgr (Nat.le_refl _) (by simp)
  have HS := Lib.hid hsz; clear hsz hown hgr
  have HH := Lib.hid hh; clear hh
  go_wp2_with (with_reducible refine wpList_copy_splice rfl (.tmp 9) (.tmp 10) 25 25 rfl 5 Try.underlying25 Try.size5 _ _ _ _ _ _ rfl rfl w.heap.size 0 cur.toList 5 (by simpa using HH.out) (nums .u8 l) ?c1 ?c2 ?c3 ?c4 w.heap.size w hb1 (Nat.le_refl _) ?_)
  case c1 => simp [nums]
  case c2 =>
    intro h0
    obtain ⟨ad, hA, -⟩ := HC.out 0 _ (nums_get .u8 l 0 (by simpa [nums] using h0))
    refine ⟨ad, hA, fun j u hu => ?_⟩
    obtain ⟨ad', hA', hc⟩ := HC.out j u hu
    obtain rfl : ad = ad' := Option.some.inj (hA.symm.trans hA')
    exact (hb1.cell (World.block_lt_of_cell? w _ hc)).trans hc
  case c3 => simp [nums, HS.out]
  case c4 => simp [nums, Value.oneCell']
  rintro w2 H2 hb2
  clear HH HC hb1
  obtain ⟨arr, harr⟩ : ∃ arr, arr = (splice cur.toList 0 (nums .u8 l)).toArray := ⟨_, rfl⟩
  rw [← harr] at H2
  have ha1 : arr.size = l.length + 40 := by rw [harr]; simp [splice, nums, HS.out]
  have ha2 : ∀ j, j < l.length → arr[j]? = some (.int .u8 ((lentL l).getD j 0)) := fun j hj => by
    rw [lentL_lo l j hj, harr]
    simp [splice, nums, List.getElem?_append_left, hj, List.getD_eq_getElem?_getD]
  have HA := Lib.hid (And.intro ha1 ha2)
  have hk2 : Kept (fun _ => False) w w2 := Kept.of_below hb2 _
  clear harr HS ha1 ha2 hb2
  go_wp2_with fail
  go_loopw [4] (fun i wr => ∃ n : Nat, i = .int .i64 n ∧ l.length ≤ n ∧ n ≤ l.length + 40 ∧ Holds w.heap.size (lentL l) n (l.length + 40) wr ∧ Kept (fun _ => False) w wr) (fun i _ => l.length + 40 - (intOf i).toNat)
  case atStart => exact ⟨l.length, rfl, by omega, by omega, ⟨arr, H2.out, HA.out.1, HA.out.2⟩, hk2⟩
  case round =>
    obtain ⟨n, rfl, hn1, hn2, ⟨ar, hblk, hsz, hcs⟩, hk⟩ := hrel
    clear HA H2
    by_cases h : n < l.length + 40
    · have h1 : (n : Int) < (l.length : Int) + 40 := by omega
      have h2 : (0 : Int) ≤ n := by omega
      have hf := blk_frozen hblk n
      obtain ⟨u, hu⟩ : ∃ u, wr.cell? ⟨w.heap.size, n, none⟩ = some u := by
        rw [blk_cell hblk]; exact ⟨_, Array.getElem?_eq_getElem (by omega)⟩
      have HB := Lib.hid hblk
      have HCS := Lib.hid hcs
      have HSZ := Lib.hid hsz
      clear hblk hcs hsz
      go_wp2_with fail
      have hset := Kept.setCell (S := fun k => k = w.heap.size) wr ⟨w.heap.size, n, none⟩ (.int .u8 167) rfl
      refine ⟨⟨n + 1, by congr 1, by omega, by omega, ⟨ar.setIfInBounds n (.int .u8 167), blk_set HB.out n _, by simp [HSZ.out], fun j hj => ?_⟩, hk.trans hset (fun _ _ e => e) (fun k hk e => by omega)⟩, by simp [intOf]; omega⟩
      by_cases e : j = n
      · subst e
        rw [lentL_hi l j hn1 h, Array.getElem?_setIfInBounds_self_of_lt (by rw [HSZ.out]; omega)]
      · rw [Array.getElem?_setIfInBounds_ne (by omega)]
        exact HCS.out j (by omega)
    · obtain rfl : n = l.length + 40 := by omega
      have HH : Hid (Holds w.heap.size (lentL l) (l.length + 40) (l.length + 40) wr) := Lib.hid ⟨ar, hblk, hsz, hcs⟩
      clear hblk hsz hcs
      have l5 : (l.length : Int) ≤ (l.length : Int) + 40 := by omega
      go_wp2_with fail
      go_ret
      exact ⟨rfl, hk, HH.out⟩
end Go.Proofs.Ytoolimfdncfgnaa
