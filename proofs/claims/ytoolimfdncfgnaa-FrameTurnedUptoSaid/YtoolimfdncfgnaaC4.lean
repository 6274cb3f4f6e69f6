/- back: is it as it was handed in? Then its owner writes over it. -/
import Derived.Test.YtoolimfdncfgnaaC3
namespace Go.Proofs.Ytoolimfdncfgnaa
open Go.RowKit
set_option linter.unusedVariables false
set_option linter.unusedSimpArgs false

def xorL (l : List Int) : List Int := l.map fun x => ((x.toNat ^^^ 51 : Nat) : Int)
theorem xorL_len (l : List Int) : (xorL l).length = l.length := by simp [xorL]
theorem xorL_get (l : List Int) (j : Nat) (h : j < l.length) : (xorL l).getD j 0 = (((l.getD j 0).toNat ^^^ 51 : Nat) : Int) := by
  simp [xorL, List.getD_eq_getElem?_getD, h]
theorem xor8_lt {a b : Nat} (ha : a < 256) (hb : b < 256) : a ^^^ b < 256 := Nat.xor_lt_two_pow (n := 8) ha hb
theorem xorL_bytes {l : List Int} (hb : Bytes l) : Bytes (xorL l) := by
  intro x hx
  obtain ⟨y, hy, rfl⟩ := List.mem_map.1 hx
  have := hb y hy
  have := xor8_lt (show y.toNat < 256 by omega) (show 51 < 256 by decide)
  omega
theorem lentL_bytes {l : List Int} (hb : Bytes l) : Bytes (lentL l) := hb.append fun x hx => by
  rw [List.eq_of_mem_replicate hx]; decide
theorem xor8 (a b : Nat) (ha : a < 256) (hb : b < 256) : bits .xor .u8 (a : Int) (b : Int) = ((a ^^^ b : Nat) : Int) :=
  xor_nat .u8 8 (by decide) (fun n h0 h1 => by rw [IntKind.wrap_u8]; omega) a b ha hb
def BackPost (g : Nat) (l : List Int) (w : World) (e : Ending) (w' : World) : Prop :=
  e = .returned (.bool true) ∧ Kept (fun k => k = g) w w' ∧ Holds g (xorL (lentL l)) (l.length + 40) (l.length + 40) w'

set_option maxHeartbeats 2000000 in
theorem back_any (g : Nat) (v : Value) (l : List Int) (w : World) (hb : Bytes l) (hl : l.length ≤ 4294967296) (hg : Holds g (lentL l) (l.length + 40) (l.length + 40) w)
    (hr : ∀ W, Kept (fun k => k = g) w W → Reads W v l) :
    Calls Try.prog 19 #[.slice (some ⟨g, 0, none⟩) l.length (l.length + 40), v] w (BackPost g l w) := by
  obtain ⟨A, c, rfl, -⟩ := hr w (.refl _ _)
  have HR := Lib.hid hr; clear hr
  have HG := Lib.hid hg; clear hg
  have l2 : IntKind.i64.wrap ((l.length : Int) + 40) = (l.length : Int) + 40 := IntWalk.i64_in _ (by omega)
  have l3 : (0 : Int) ≤ (l.length : Int) + 40 := by omega
  have l4 : ((l.length : Int) + 40).toNat = l.length + 40 := by omega
  go_enter Try.func19, Try.ntmps19
  go_wp2_with fail
  go_loopw [6, 7] (fun o i wr => ∃ n : Nat, o = .bool true ∧ i = .int .i64 n ∧ n ≤ l.length + 40 ∧ Kept (fun k => k = g) w wr ∧
      ∃ arr, wr.heap[g]? = some (.cells arr 5 (0, 0)) ∧ arr.size = l.length + 40 ∧ (∀ j, j < n → arr[j]? = some (.int .u8 ((xorL (lentL l)).getD j 0))) ∧ (∀ j, n ≤ j → j < l.length + 40 → arr[j]? = some (.int .u8 ((lentL l).getD j 0))))
    (fun _ i _ => l.length + 40 - (intOf i).toNat)
  case atStart =>
    obtain ⟨arr, h1, h2, h3⟩ := HG.out
    exact ⟨0, rfl, rfl, by omega, .refl _ _, arr, h1, h2, fun j hj => by omega, fun j _ hj => h3 j hj⟩
  case round =>
    obtain ⟨n, rfl, rfl, hn, hk, arr, hblk, hsz, hlo, hhi⟩ := hrel
    clear HG
    by_cases h : n < l.length + 40
    · have h1 : (n : Int) < (l.length : Int) + 40 := by omega
      have h2 : (0 : Int) ≤ n := by omega
      have hf := blk_frozen hblk n
      have hlb := (lentL_bytes hb).getD n (by rw [lentL_len]; exact h)
      obtain ⟨x, hx⟩ : ∃ x : Nat, (lentL l).getD n 0 = x := ⟨_, (Int.toNat_of_nonneg hlb.1).symm⟩
      have hu : wr.cell? ⟨g, n, none⟩ = some (.int .u8 x) := by rw [blk_cell hblk, hhi n (Nat.le_refl _) h, hx]
      rw [hx] at hlb
      have hX : bits .xor .u8 (x : Int) 51 = ((x ^^^ 51 : Nat) : Int) := xor8 x 51 (by omega) (by decide)
      have hend : ∀ q W, W = wr.drewN q → (∃ n' : Nat, Value.bool true = .bool true ∧ Value.int .i64 ((n : Int) + 1) = .int .i64 n' ∧ n' ≤ l.length + 40 ∧ Kept (fun k => k = g) w (W.setCell ⟨g, n, none⟩ (.int .u8 ((x ^^^ 51 : Nat) : Int))) ∧
          ∃ arr, (W.setCell ⟨g, n, none⟩ (.int .u8 ((x ^^^ 51 : Nat) : Int))).heap[g]? = some (.cells arr 5 (0, 0)) ∧ arr.size = l.length + 40 ∧ (∀ j, j < n' → arr[j]? = some (.int .u8 ((xorL (lentL l)).getD j 0))) ∧ (∀ j, n' ≤ j → j < l.length + 40 → arr[j]? = some (.int .u8 ((lentL l).getD j 0)))) := by
        rintro q W rfl
        have hbd : (wr.drewN q).heap[g]? = some (.cells arr 5 (0, 0)) := hblk
        have hset := Kept.setCell (S := fun k => k = g) (wr.drewN q) ⟨g, n, none⟩ (.int .u8 ((x ^^^ 51 : Nat) : Int)) rfl
        refine ⟨n + 1, rfl, by congr 1, by omega, (hk.trans (Kept.drewN _ _ _) (fun _ _ e => e) (fun _ _ e => e)).trans hset (fun _ _ e => e) (fun _ _ e => e), _, blk_set hbd n _, by simp [hsz], fun j hj => ?_, fun j hj1 hj2 => ?_⟩
        · by_cases e : j = n
          · subst e
            rw [Array.getElem?_setIfInBounds_self_of_lt (by rw [hsz]; omega), xorL_get _ _ (by rw [lentL_len]; exact h), hx]; rfl
          · rw [Array.getElem?_setIfInBounds_ne (by omega)]
            exact hlo j (by omega)
        · rw [Array.getElem?_setIfInBounds_ne (by omega)]
          exact hhi j (by omega) hj2
      have HE := Lib.hid hend
      have HK := Lib.hid hk
      have HX := Lib.hid hx
      clear hend hblk hsz hlo hhi hk hx
      by_cases hlt : n < l.length
      · have h4 : (n : Int) < l.length := by omega
        have h5 : ¬ (l.length : Int) ≤ n := by omega
        obtain ⟨ad, hA, hbc⟩ : ∃ ad, A = some ad ∧ wr.cell? (ad.add n) = some (.int .u8 x) := by
          obtain ⟨A', c', he, -, hcs⟩ := HR.out wr HK.out
          injection he with he
          subst he
          obtain ⟨ad, e, h⟩ := hcs n _ (nums_get .u8 l n hlt)
          refine ⟨ad, e, ?_⟩
          rw [h, ← lentL_lo l n hlt, HX.out]
        subst hA
        clear h
        go_wp2_with fail
        go_quiet (fail)
        go_wp2_with fail
        refine ⟨?_, by simp [intOf]; omega⟩
        obtain ⟨n', -, e1, e2⟩ := HE.out _ _ rfl
        exact ⟨n', rfl, e1, e2⟩
      · have h4 : (l.length : Int) ≤ n := by omega
        have h5 : ¬ (n : Int) < l.length := by omega
        have hx167 : (x : Int) = 167 := by rw [← HX.out]; exact lentL_hi l n (by omega) h
        obtain rfl : x = 167 := by omega
        go_wp2_with fail
        go_quiet (fail)
        go_wp2_with fail
        refine ⟨?_, by simp [intOf]; omega⟩
        obtain ⟨n', -, e1, e2⟩ := HE.out _ _ rfl
        exact ⟨n', rfl, e1, e2⟩
    · obtain rfl : n = l.length + 40 := by omega
      have HP : Hid (BackPost g l w (.returned (.bool true)) wr) := Lib.hid ⟨rfl, hk, arr, hblk, hsz, hlo⟩
      clear hblk hsz hlo hhi
      go_wp2_with fail
      go_ret
      exact HP.out
end Go.Proofs.Ytoolimfdncfgnaa
