/- slices.Clone of bytes; settle. -/
import Derived.Test.YtgohjgeplageeaaE3
import Derived.Deep.DrawnRows
namespace Go.Proofs.Ytgohjgeplageeaa
open Go Go.RowKit
set_option linter.unusedVariables false
set_option linter.unusedSimpArgs false

theorem Try.info5 : (Try.prog.info? 5).map (fun i => (i.zero, i.size, i.bytes)) = some (some (.int .u8 0), 1, 1) := by kernel_rfl
theorem info_parts {p : Program} {t n b : Nat} {z : Value} (h : (p.info? t).map (fun i => (i.zero, i.size, i.bytes)) = some (some z, n, b)) : ∃ i, p.info? t = some i ∧ i.zero = some z ∧ i.size = n ∧ i.bytes = b := by
  cases hi : p.info? t with
  | none => rw [hi] at h; cases h
  | some i => rw [hi] at h; simp at h; exact ⟨i, rfl, h⟩
def ClonePost (l : List Int) (w : World) (e : Ending) (w' : World) : Prop := ∃ v, e = .returned v ∧ w'.ownsRow w.heap.size 5 1 v l.length (nums .u8 l) ∧ Kept (fun _ => False) w w'
theorem clone_nil (w : World) : Calls Try.prog 31 #[.slice none 0 0] w fun e w' => e = .returned (.slice none 0 0) ∧ w' = w := by
  have hnil := fun (w : World) => Lib.run_eql_slice_nil (P := Try.prog) w 38 5 none 0 0 0 0 Try.underlying38
  go_enter Try.func31, Try.ntmps31
  go_wp2
  go_ret
  exact ⟨rfl, rfl⟩
theorem clone_some (w : World) (A : Addr) (c : Nat) (l : List Int) (h : ∀ j u, (nums .u8 l)[j]? = some u → w.cell? (A.add j) = some u) (hl : l.length ≤ 140737488355328) :
    Calls Try.prog 31 #[.slice (some A) l.length c] w (ClonePost l w) := by
  obtain ⟨i0, hi, hz0, hz1, hz2⟩ := info_parts Try.info5
  have HL := Lib.hid h; clear h
  have hnil := fun (w : World) => Lib.run_eql_slice_nil (P := Try.prog) w 38 5 (some A) l.length c 0 0 Try.underlying38
  go_enter Try.func31, Try.ntmps31
  go_wp2_with (at_builtin; refine wpList_append_own_at _ rfl _ _ 38 rfl w.heap.size 5 i0 (.int .u8 0) 1 1 Try.underlying38 hi hz0 hz1 hz2 rfl (by decide) _ _ _ rfl (own_empty w _ _ (Nat.le_refl _)) A l.length c (nums .u8 l) rfl ?c1 ?c0 ?c2 ?c3 ?c4 ?c5 ?_)
  case c1 => simp [nums]
  case c0 => exact news_alloc (fun j u hu => HL.out j u hu) _
  case c2 => simp [nums, Value.oneCell']
  case c3 => simp [maxLen]; omega
  case c4 => simp; omega
  case c5 => simp
  rintro v' w1 hown hgr hnn -
  have hk : Kept (fun _ => False) w w1 := (Kept.alloc (fun _ => False) w _).trans (Kept.of_grown (S := fun k => k = w.heap.size) hgr (by intro k hk; simpa [Value.ownBlock] using hk.symm)) (fun _ _ e => e) fun i hi e => by omega
  have hv : ∃ g c', v' = .slice (some ⟨g, 0, none⟩) l.length c' := by
    rcases hown.2 with ⟨rfl, _⟩ | ⟨g, cap, cur, rfl, _⟩
    · exact absurd rfl hnn
    · exact ⟨g, cap, rfl⟩
  obtain ⟨g, c', hv⟩ := hv
  rw [hv]
  rw [hv] at hown
  clear hnn hgr
  go_wp2
  go_ret
  exact ⟨_, rfl, hown, hk⟩
theorem clone_any (w : World) (v : Value) (l : List Int) (h : Reads w v l) (hl : l.length ≤ 140737488355328) : Calls Try.prog 31 #[v] w (ClonePost l w) := by
  obtain ⟨A, c, rfl, h0, hc⟩ := h
  cases A with
  | none =>
    obtain ⟨rfl⟩ := h0.1 rfl
    have hl0 : l = [] := by
      rcases Nat.eq_zero_or_pos l.length with hp | hp
      · exact List.eq_nil_of_length_eq_zero hp
      · obtain ⟨ad, he, -⟩ := hc 0 _ (nums_get .u8 l 0 hp)
        cases he
    subst hl0
    refine (clone_nil w).mono ?_
    rintro e w' ⟨rfl, rfl⟩
    exact ⟨_, rfl, World.ownsRow_nil _ _ _ _, .refl _ _⟩
  | some A =>
    refine clone_some w A c l (fun j u hu => ?_) hl
    obtain ⟨ad, he, hcell⟩ := hc j u hu
    injection he with he
    subst he
    exact hcell
end Go.Proofs.Ytgohjgeplageeaa
