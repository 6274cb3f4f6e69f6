/- Lists against lists (the walks). -/
import Derived.Test.YtniigjfimggobaaDoorT2
namespace Go.Proofs.YtniigjfimggobaaDoor
open Go.RowKit
set_option linter.unusedVariables false
set_option linter.unusedSimpArgs false

/-- Links that lie somewhere. -/
def LReads (w : World) (v : Value) (l : List Nat) : Prop :=
  ∃ A c, v = .slice A l.length c ∧ (0 < l.length → ∃ b off, A = some ⟨b, off, none⟩ ∧ ∀ (i : Nat) x, l[i]? = some x → w.cell? ⟨b, off + i, none⟩ = some (.int .u64 x))
def TReads (w : World) (v : Value) (l : List Atr) : Prop :=
  ∃ A c, v = .slice A l.length c ∧ (0 < l.length → ∃ b off, A = some ⟨b, off, none⟩ ∧ ∀ (i : Nat) x, l[i]? = some x → w.cell? ⟨b, off + i * 4, none⟩ = some (.string x.key) ∧ w.cell? ⟨b, off + i * 4 + 1, none⟩ = some (.int .i64 x.k) ∧ w.cell? ⟨b, off + i * 4 + 2, none⟩ = some (.string x.t) ∧ w.cell? ⟨b, off + i * 4 + 3, none⟩ = some (.int .i64 x.i))
def EReads (w : World) (v : Value) (l : List Evt) : Prop :=
  ∃ A c, v = .slice A l.length c ∧ (0 < l.length → ∃ b off, A = some ⟨b, off, none⟩ ∧ ∀ (i : Nat) x, l[i]? = some x → w.cell? ⟨b, off + i * 2, none⟩ = some (.int .i64 x.at_) ∧ w.cell? ⟨b, off + i * 2 + 1, none⟩ = some (.string x.n))
theorem LReads.kept {w w' : World} {v : Value} {l : List Nat} (h : LReads w v l) (hk : Kept (fun _ => False) w w') : LReads w' v l := by
  obtain ⟨A, c, rfl, hc⟩ := h
  refine ⟨A, c, rfl, fun h0 => ?_⟩
  obtain ⟨b, off, rfl, hq⟩ := hc h0
  exact ⟨b, off, rfl, fun i x hi => cell_kept hk (hq i x hi)⟩
theorem TReads.kept {w w' : World} {v : Value} {l : List Atr} (h : TReads w v l) (hk : Kept (fun _ => False) w w') : TReads w' v l := by
  obtain ⟨A, c, rfl, hc⟩ := h
  refine ⟨A, c, rfl, fun h0 => ?_⟩
  obtain ⟨b, off, rfl, hq⟩ := hc h0
  exact ⟨b, off, rfl, fun i x hi => have h := hq i x hi; ⟨cell_kept hk h.1, cell_kept hk h.2.1, cell_kept hk h.2.2.1, cell_kept hk h.2.2.2⟩⟩
theorem EReads.kept {w w' : World} {v : Value} {l : List Evt} (h : EReads w v l) (hk : Kept (fun _ => False) w w') : EReads w' v l := by
  obtain ⟨A, c, rfl, hc⟩ := h
  refine ⟨A, c, rfl, fun h0 => ?_⟩
  obtain ⟨b, off, rfl, hq⟩ := hc h0
  exact ⟨b, off, rfl, fun i x hi => have h := hq i x hi; ⟨cell_kept hk h.1, cell_kept hk h.2⟩⟩
theorem drop_get {α : Type} {l : List α} {k : Nat} {x : α} (h : l[k]? = some x) : l.drop k = x :: l.drop (k + 1) := by
  have h1 := (List.getElem?_eq_some_iff.1 h).1
  have h2 := (List.getElem?_eq_some_iff.1 h).2
  rw [← h2, ← List.drop_eq_getElem_cons h1]
theorem listC_step {α : Type} {c : α → α → Int} {l m : List α} {k : Nat} {x y : α} (hx : l[k]? = some x) (hy : m[k]? = some y) : listC c (l.drop k) (m.drop k) = if c x y = 0 then listC c (l.drop (k + 1)) (m.drop (k + 1)) else c x y := by
  rw [drop_get hx, drop_get hy]; rfl
theorem listC_more {α : Type} {c : α → α → Int} {l m : List α} {k : Nat} {x : α} (hx : l[k]? = some x) (hm : m.length ≤ k) : listC c (l.drop k) (m.drop k) = 1 := by
  rw [drop_get hx, List.drop_eq_nil_of_le hm]; rfl
theorem listC_end {α : Type} {c : α → α → Int} {l m : List α} {k : Nat} (hk : l.length ≤ k) : listC c (l.drop k) (m.drop k) = if k < m.length then -1 else 0 := by
  rw [List.drop_eq_nil_of_le hk]
  split
  · rename_i h
    rw [drop_get (List.getElem?_eq_getElem h)]; rfl
  · rw [List.drop_eq_nil_of_le (by omega)]; rfl

set_option maxHeartbeats 4000000 in
theorem cmpLinks_any (l m : List Nat) (v u : Value) (w : World) (hl : LReads w v l) (hm : LReads w u m) (h1 : l.length ≤ 9223372036854775807) (h2 : m.length ≤ 9223372036854775807) : Calls Tryd.prog 31 #[v, u] w fun e w' => e = .returned (.int .i64 (listC natC l m)) ∧ w' = w := by
  obtain ⟨A, c, rfl, hca⟩ := hl
  obtain ⟨B, d, rfl, hcb⟩ := hm
  have HC := Lib.hid (And.intro hca hcb)
  clear hca hcb
  go_enter Tryd.func31, Tryd.ntmps31
  go_wp2_with fail
  go_loopw [11] (fun i wr => ∃ k : Nat, i = .int .i64 k ∧ k ≤ l.length ∧ listC natC l m = listC natC (l.drop k) (m.drop k) ∧ wr = w ∧ k ≤ m.length) (fun i _ => l.length - (intOf i).toNat)
  case atStart => exact ⟨0, rfl, by omega, by simp, rfl, by omega⟩
  case round =>
    obtain ⟨k, rfl, hk, ho, rfl, hkm⟩ := hrel
    have k0 : (0 : Int) ≤ k := by omega
    by_cases h : k < l.length
    · obtain ⟨x, hx⟩ : ∃ x, l[k]? = some x := ⟨_, List.getElem?_eq_getElem h⟩
      obtain ⟨b, off, rfl, hcs⟩ := HC.out.1 (by omega)
      have hcell := hcs k x hx
      have k1 : (k : Int) < l.length := by omega
      by_cases hM : k < m.length
      · obtain ⟨y, hy⟩ : ∃ y, m[k]? = some y := ⟨_, List.getElem?_eq_getElem hM⟩
        obtain ⟨b2, off2, rfl, hcs2⟩ := HC.out.2 (by omega)
        have hcell2 := hcs2 k y hy
        have k2 : (k : Int) < m.length := by omega
        have k3 : ¬ (k : Int) ≥ m.length := by omega
        have hst := listC_step (c := natC) hx hy
        by_cases hz : natC x y = 0
        · have HO : Hid (listC natC l m = listC natC (l.drop (k + 1)) (m.drop (k + 1))) := Lib.hid (by rw [ho, hst, if_pos hz])
          have hz2 : Lib.compareInt (x : Int) (y : Int) = 0 := hz
          clear ho hx hy hcs hcs2 hst hz h hM
          go_wp2_with (go_at_call 28; refine (cmp28 _ _ _).mono ?_; rintro e w' ⟨rfl, rfl⟩)
          exact ⟨⟨k + 1, by congr 1, by omega, HO.out, trivial, by omega⟩, by simp [intOf]; omega⟩
        · have HO : Hid (listC natC l m = Lib.compareInt (x : Int) (y : Int)) := Lib.hid (by rw [ho, hst, if_neg hz]; rfl)
          have hz2 : (Lib.compareInt (x : Int) (y : Int) != 0) = true := by rw [bne_iff_ne]; exact hz
          obtain ⟨z, hzz⟩ : ∃ z, z = Lib.compareInt (x : Int) (y : Int) := ⟨_, rfl⟩
          rw [← hzz] at hz2 HO
          have HZ := Lib.hid hzz
          clear ho hx hy hcs hcs2 hst hz hzz h hM
          go_wp2_with (go_at_call 28; refine (cmp28 _ _ _).mono ?_; rintro e w' ⟨rfl, rfl⟩; rw [← HZ.out])
          go_ret
          exact ⟨by rw [HO.out]; rfl, rfl⟩
      · have HO : Hid (listC natC l m = 1) := Lib.hid (by rw [ho, listC_more hx (by omega)])
        have k3 : (k : Int) ≥ m.length := by omega
        clear ho hx hcs h hM
        go_wp2_with fail
        go_ret
        exact ⟨by rw [HO.out]; rfl, rfl⟩
    · have k1 : ¬ (k : Int) < l.length := by omega
      have he := listC_end (c := natC) (l := l) (m := m) (k := k) (by omega)
      by_cases hM : k < m.length
      · have HO : Hid (listC natC l m = -1) := Lib.hid (by rw [ho, he, if_pos hM])
        have k2 : (l.length : Int) < m.length := by omega
        clear ho he h hM
        go_wp2_with fail
        go_ret
        exact ⟨by rw [HO.out]; rfl, rfl⟩
      · have HO : Hid (listC natC l m = 0) := Lib.hid (by rw [ho, he, if_neg hM])
        have k2 : ¬ (l.length : Int) < m.length := by omega
        clear ho he h hM
        go_wp2_with fail
        go_ret
        exact ⟨by rw [HO.out]; rfl, rfl⟩
end Go.Proofs.YtniigjfimggobaaDoor
