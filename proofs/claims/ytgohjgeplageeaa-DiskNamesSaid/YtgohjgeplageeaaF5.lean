/- kept: a file's bytes with so many units of what is pending. -/
import Derived.Test.YtgohjgeplageeaaF4
namespace Go.Proofs.Ytgohjgeplageeaa
open Go Go.RowKit
set_option linter.unusedVariables false
set_option linter.unusedSimpArgs false
attribute [local go_sem] Try.meth80 Try.meth107

theorem own_kept0 {w w' : World} {B e size n : Nat} {v : Value} {xs : List Value} (h : w.ownsRow B e size v n xs) (hk : Kept (fun _ => False) w w') : w'.ownsRow B e size v n xs := own_kept h hk fun _ _ e => e
theorem kept_any {w : World} {C : Col} {δ k a : Nat} {vl vp vs : Value} {us : List Value} {F : Fil} (h : FAt w C δ k a vl vp vs us F) (hok : okL F.pen F.las) (hn : F.las.length + allL F.pen ≤ 140737488355328) (hn2 : F.pen.length ≤ 140737488355328) (u : Nat) (hu : u < 9223372036854775808) :
    Calls Try.prog 36 #[.pointer (some ⟨a, 0, none⟩), .int .i64 u] w (ClonePost (F.kept u) w) := by
  obtain ⟨A, c, rfl, hc, hcell⟩ := own_at1 h.pen
  have q0 := (show FBlk w a vl (.slice A F.pen.length c) vs from h.blk).c0
  have hl2 : F.las.length ≤ 140737488355328 := by omega
  obtain ⟨A1, c1, rfl⟩ := own_slice h.las.own
  have H := Lib.hid (And.intro h (And.intro hcell (And.intro hok hn)))
  have HU := Lib.hid hu
  clear h hcell hok hn hu
  go_enter Try.func36, Try.ntmps36
  go_wp2_with (go_at_call 31; refine (clone_any _ _ F.las H.out.1.las.reads hl2).mono ?_; rintro e w1 ⟨v, rfl, r1, r2⟩; obtain ⟨A2, c2, rfl⟩ := own_slice r1; have q1 := (show FBlk w1 a _ (.slice A F.pen.length c) vs from blk_kept r2 H.out.1.blk (fun e => e)).c1; have R := Lib.hid (And.intro r1 r2); clear r1 r2)
  go_loopw [19, 1, 5] (fun i n b wr => ∃ j : Nat, ∃ x : Int, i = .int .i64 j ∧ j ≤ F.pen.length ∧ n = .int .i64 x ∧ x = (u : Int) - allL (F.pen.take j) ∧ wr.ownsRow w.heap.size 5 1 b (keptL (F.pen.take j) u F.las).length (nums .u8 (keptL (F.pen.take j) u F.las)) ∧ Kept (fun _ => False) w wr) (fun i _ _ _ => F.pen.length - (intOf i).toNat)
  case atStart => exact ⟨0, u, rfl, Nat.zero_le _, rfl, by simp [allL], R.out.1, R.out.2⟩
  case round =>
    obtain ⟨j, x, rfl, hj, rfl, hx, hb, hk⟩ := hrel
    obtain ⟨A3, c3, rfl⟩ := own_slice hb
    by_cases hlt : j < F.pen.length
    · have j1 : (j : Int) < F.pen.length := by omega
      have j0 : (0 : Int) ≤ j := by omega
      obtain ⟨s, hs⟩ : ∃ s, F.pen[j]? = some s := ⟨_, List.getElem?_eq_getElem hlt⟩
      obtain ⟨uv, huv, hst⟩ := H.out.1.st j s hs
      obtain ⟨ad, rfl, hcl⟩ := H.out.2.1 j uv huv
      have e1 := allL_take_succ hs
      have e2 := allL_take_le F.pen (j + 1)
      have e3 : keptL (F.pen.take (j + 1)) u F.las = s.part (keptL (F.pen.take j) u F.las) (min (u - allL (F.pen.take j)) s.units) := keptL_take_succ hs
      have e4 := keptL_len (F.pen.take j) u F.las
      have e5 : 0 < min (u - allL (F.pen.take j)) s.units → ∀ n, s = .cut n → n ≤ (keptL (F.pen.take j) u F.las).length := fun h0 n e => okL_take H.out.2.2.1 (e ▸ hs) (by omega)
      obtain ⟨m, hm⟩ : ∃ m, m = allL (F.pen.take j) := ⟨_, rfl⟩
      obtain ⟨lj, hlj⟩ : ∃ lj, lj = keptL (F.pen.take j) u F.las := ⟨_, rfl⟩
      rw [← hlj] at hb e3 e4 e5 ⊢
      rw [← hm] at e1 e3 e4 e5 hx
      obtain ⟨t, ht⟩ : ∃ t, t = min (u - m) s.units := ⟨_, rfl⟩
      rw [← ht] at e3 e5
      have hHu := HU.out
      have hHn := H.out.2.2.2
      have e6 : lj.length + s.units ≤ 140737488355328 := by omega
      have e7 : t < 9223372036854775808 := by omega
      have hmx : max 0 (min x (s.units : Int)) = (t : Int) := by omega
      have x0 : -140737488355328 ≤ x := by omega
      have x1 : x < 9223372036854775808 := by omega
      have x2 : x - s.units = (u : Int) - allL (F.pen.take (j + 1)) := by rw [hx, e1]; omega
      have E := Lib.hid (And.intro e3 (And.intro hk (And.intro hb (And.intro e5 (And.intro hst (And.intro x2 e6))))))
      cases s with
      | app l =>
        obtain ⟨b, rfl, hb1⟩ := hst
        obtain ⟨A', c', rfl⟩ := own_slice hb1.own
        have q2 : wr.cell? (ad.add j) = some (.iface 80 (.agg #[.slice A' l.length c'])) := kept_cell hk hcl (fun e => e)
        have hmx : max 0 (min x (l.length : Int)) = (t : Int) := hmx
        have hul : (l.length : Int) ≤ 140737488355328 := by simp only [Stp.units] at e6; omega
        clear e1 e2 e3 e4 e5 e6 hk hm hb hb1 huv hs hcl hx x2 ht hHu hHn hlj
        go_wp2_with (first
          | (go_at_call 101; refine (units_app _ _ _ _).mono ?_; rintro e w2 ⟨rfl, hk2⟩)
          | (go_at_call 50; refine (part_any (E.out.2.2.2.2.1.kept (kept0 E.out.2.1 hk2) (fun _ _ e => e) (Agr.refl _ _)) w.heap.size _ lj t (own_kept0 E.out.2.2.1 hk2) (Nat.le_trans E.out.2.1.size hk2.size) E.out.2.2.2.1 E.out.2.2.2.2.2.2 e7).mono ?_; rintro e w3 ⟨v3, rfl, r3⟩))
        rename_i w2a hk2a
        obtain ⟨e3, hk, hb, e5, hst, x2, e6⟩ := E.out
        exact ⟨⟨j + 1, _, by congr 1, by omega, rfl, x2, by rw [e3]; exact own_kept0 r3.own hk2, kept0 (r3.old (kept0 hk hk2a) fun i hi => (hb.lt i hi).1) hk2⟩, by simp [intOf]; omega⟩
      | cut n =>
        obtain rfl := hst
        have q2 : wr.cell? (ad.add j) = some (.iface 107 (.agg #[.int .i64 n])) := kept_cell hk hcl (fun e => e)
        have hmx : max 0 (min x 1) = (t : Int) := hmx
        clear e1 e2 e3 e4 e5 e6 hk hm hb huv hs hcl hx x2 ht hHu hHn hlj
        go_wp2_with (first
          | (go_at_call 102; refine (units_cut _ _).mono ?_; rintro e w2 ⟨rfl, hk2⟩)
          | (go_at_call 50; refine (part_any (E.out.2.2.2.2.1.kept (kept0 E.out.2.1 hk2) (fun _ _ e => e) (Agr.refl _ _)) w.heap.size _ lj t (own_kept0 E.out.2.2.1 hk2) (Nat.le_trans E.out.2.1.size hk2.size) E.out.2.2.2.1 E.out.2.2.2.2.2.2 e7).mono ?_; rintro e w3 ⟨v3, rfl, r3⟩))
        rename_i w2a hk2a
        obtain ⟨e3, hk, hb, e5, hst, x2, e6⟩ := E.out
        exact ⟨⟨j + 1, _, by congr 1, by omega, rfl, x2, by rw [e3]; exact own_kept0 r3.own hk2, kept0 (r3.old (kept0 hk hk2a) fun i hi => (hb.lt i hi).1) hk2⟩, by simp [intOf]; omega⟩
    · have j1 : ¬ (j : Int) < F.pen.length := by omega
      obtain rfl : j = F.pen.length := by omega
      have e1 : keptL (F.pen.take F.pen.length) u F.las = F.kept u := by rw [List.take_length]; rfl
      rw [e1] at hb ⊢
      go_wp2_with fail
      go_ret
      exact ⟨_, rfl, hb, hk⟩
end Go.Proofs.Ytgohjgeplageeaa
