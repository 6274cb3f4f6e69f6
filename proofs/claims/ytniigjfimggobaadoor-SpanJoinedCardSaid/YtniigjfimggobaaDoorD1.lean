/- A source of a span's numbers and texts (the walks). -/
import Derived.Test.YtniigjfimggobaaDoorS4
import Derived.Test.YtniigjfimggobaaDoorRx
import Derived.Test.YtniigjfimggobaaDoorU1
namespace Go.Proofs.YtniigjfimggobaaDoor
open Go.RowKit
set_option linter.unusedVariables false
set_option linter.unusedSimpArgs false

theorem blk_ne {w : World} {g h : Nat} {cs cs' : Array Value} {t t' : TypeId} {fr fr' : Nat × Nat} (h1 : w.heap[g]? = some (.cells cs t fr)) (h2 : w.heap[h]? = some (.cells cs' t' fr')) (ht : t ≠ t') : g ≠ h := by
  rintro rfl
  rw [h1] at h2
  injection h2 with h2
  injection h2 with _ h3 _
  exact ht h3
theorem Lies.block {E B : Nat} {w : World} {v : Value} {l : List Int} (h : Lies E B w v l) (k : Nat) (hk : v.ownBlock = some k) : ∃ cur, w.heap[k]? = some (.cells cur E (0, 0)) := by
  rcases h with ⟨_, rfl⟩ | ⟨g, c, cur, rfl, hb, hh, _⟩
  · cases hk
  · have : g = k := by simpa [Value.ownBlock] using hk
    subst this
    exact ⟨cur, hh⟩
def StE (w : World) (e : Value) (n : Nat) : DSt → Prop
  | .ok m => e = .nilIface ∧ m = n
  | .bad a no => ∃ g, e = .iface 102 (.pointer (some ⟨g, 0, none⟩)) ∧ w.heap[g]? = some (.cells #[.int .i64 a, .int .i64 no] 104 (0, 0))
/-- A source: its reader, and what was wrong first. -/
def SrcAt (B : Nat) (w : World) (q r : Nat) (v : Value) (L : List Int) (st : DSt) : Prop :=
  ∃ e n, w.heap[q]? = some (.cells #[.pointer (some ⟨r, 0, none⟩), e] 94 (0, 0)) ∧ RdAt B w r v L n ∧ n ≤ L.length ∧ StE w e n st
/-- Blocks of other kinds than a source's. -/
def Other (w : World) (k : Nat) : Prop := ∀ cs (t : Nat) fr, w.heap[k]? = some (.cells cs t fr) → t ≠ 94 ∧ t ≠ 124 ∧ t ≠ 104 ∧ t ≠ 5
theorem SrcAt.kept {S : Nat → Prop} {B q r : Nat} {w w' : World} {v : Value} {L : List Int} {st : DSt} (h : SrcAt B w q r v L st) (hk : Kept S w w') (hS : ∀ k, S k → Other w k) : SrcAt B w' q r v L st := by
  obtain ⟨e, n, hq, hr, hn, hst⟩ := h
  refine ⟨e, n, blk_kept hk hq (fun h => (hS q h _ _ _ hq).1 rfl), hr.kept hk (fun h => (hS r h _ _ _ hr.blk).2.1 rfl) (fun k hk' h => ?_), hn, ?_⟩
  · obtain ⟨cur, hc⟩ := hr.lies.block k hk'
    exact (hS k h _ _ _ hc).2.2.2 rfl
  · cases st with
    | ok m => exact hst
    | bad a no =>
      obtain ⟨g, he, hg⟩ := hst
      exact ⟨g, he, blk_kept hk hg (fun h => (hS g h _ _ _ hg).2.2.1 rfl)⟩
theorem SrcAt.stored {B q r n : Nat} {w : World} {v e0 e : Value} {L : List Int} {st : DSt} (hq : w.heap[q]? = some (.cells #[.pointer (some ⟨r, 0, none⟩), e0] 94 (0, 0))) (hr : RdAt B w r v L n) (hn : n ≤ L.length) (hst : StE w e n st) : SrcAt B (w.setCell ⟨q, 1, none⟩ e) q r v L st := by
  have hk : Kept (fun i => i = q) w (w.setCell ⟨q, 1, none⟩ e) := Kept.setCell _ _ _ rfl
  refine ⟨e, n, (blk_set hq 1 e).trans rfl, hr.kept hk (fun h => blk_ne hr.blk hq (by decide) h) (fun k hk' h => ?_), hn, ?_⟩
  · obtain ⟨cur, hc⟩ := hr.lies.block k hk'
    exact blk_ne hc hq (by decide) h
  · cases st with
    | ok m => exact hst
    | bad a no =>
      obtain ⟨g, he, hg⟩ := hst
      exact ⟨g, he, blk_kept hk hg (fun h => blk_ne hg hq (by decide) h)⟩
def SrcPost (B q r : Nat) (v : Value) (L : List Int) (x : Value) (st : DSt) (w : World) (e : Ending) (w' : World) : Prop := e = .returned x ∧ SrcAt B w' q r v L st ∧ Kept (fun i => i = q ∨ i = r) w w'
theorem stored_kept {q r : Nat} {w w1 : World} {e : Value} (hk : Kept (fun i => i = r) w w1) : Kept (fun i => i = q ∨ i = r) w (w1.setCell ⟨q, 1, none⟩ e) :=
  hk.trans (Kept.setCell (S := fun i => i = q) _ _ _ rfl) (fun _ _ e => .inr e) (fun _ _ e => .inl e)
theorem numP_bad {L : List Int} {a no : Int} : numP L (.bad a no) = (0, .bad a no) := rfl

set_option maxHeartbeats 4000000 in
set_option maxRecDepth 100000 in
theorem num_any (B q r : Nat) (v : Value) (L : List Int) (st : DSt) (w : World) (h : SrcAt B w q r v L st) (hl : L.length ≤ 140737488355328) (hb : Bytes L) :
    Calls Tryd.prog 47 #[.pointer (some ⟨q, 0, none⟩)] w (SrcPost B q r v L (.int .u64 (numP L st).1) (numP L st).2 w) := by
  have h' := Lib.hid h
  obtain ⟨e, n, hq, hr, hn, hst⟩ := h
  have c0 : w.cell? ⟨q, 0, none⟩ = some (.pointer (some ⟨r, 0, none⟩)) := (blk_cell hq 0).trans rfl
  have c1 : w.cell? ⟨q, 1, none⟩ = some e := (blk_cell hq 1).trans rfl
  cases st with
  | bad a no =>
    obtain ⟨g, rfl, hg⟩ := hst
    clear hq hr hg
    go_enter Tryd.func47, Tryd.ntmps47
    go_wp2_with fail
    go_ret
    exact ⟨rfl, h'.out, Kept.refl _ _⟩
  | ok m =>
    obtain ⟨rfl, rfl⟩ := hst
    have hqr : q ≠ r := blk_ne hq hr.blk (by decide)
    have HR := Lib.hid hr
    have HQ := Lib.hid hq
    clear hq hr
    cases hN : numR (L.drop m) 0 0 with
    | ok x k =>
      have hP : numP L (.ok m) = (x, (.ok (m + k))) := by simp only [numP, hN]
      have HP := Lib.hid hP
      have HN := Lib.hid hN
      clear hP hN
      go_enter Tryd.func47, Tryd.ntmps47
      go_wp2_with ((with_reducible refine (get_any B r m v L w HR.out hn hl hb).mono ?_); rintro e w1 hp; unfold GetPost at hp; rw [HN.out] at hp; obtain ⟨rfl, hr1, hk1⟩ := hp; have g1 := blk_frozen (blk_kept hk1 HQ.out hqr) 1; have g2 := (blk_cell (blk_kept hk1 HQ.out hqr) 1).trans rfl; have HR1 := Lib.hid hr1)
      go_ret
      rw [HP.out]
      have hsz := (numR_size (L.drop m) 0 0 x k HN.out).1
      rw [List.length_drop] at hsz
      exact ⟨rfl, SrcAt.stored (blk_kept hk1 HQ.out hqr) HR1.out (by omega) ⟨rfl, rfl⟩, stored_kept hk1⟩
    | form =>
      have hP : numP L (.ok m) = (0, (.bad m 12)) := by simp only [numP, hN]
      have HP := Lib.hid hP
      have HN := Lib.hid hN
      clear hP hN
      go_enter Tryd.func47, Tryd.ntmps47
      go_wp2_with ((with_reducible refine (get_any B r m v L w HR.out hn hl hb).mono ?_); rintro e w1 hp; unfold GetPost at hp; rw [HN.out] at hp; obtain ⟨rfl, hw1⟩ := hp; have hk1 : Kept (fun _ => False) w w1 := (by rw [hw1]; exact .alloc _ _ _); have hg := (by have h := heap_alloc_new w (.cells #[.int .i64 m, .int .i64 12] 104); rw [← hw1] at h; exact h); have HG := Lib.hid hg; clear hg hw1; have g1 := blk_frozen (blk_kept hk1 HQ.out (fun h => h)) 1; have g2 := (blk_cell (blk_kept hk1 HQ.out (fun h => h)) 1).trans rfl)
      go_ret
      rw [HP.out]
      exact ⟨rfl, SrcAt.stored (blk_kept hk1 HQ.out (fun h => h)) (HR.out.kept hk1 (fun h => h) (fun _ _ h => h)) hn ⟨_, rfl, HG.out⟩, stored_kept (hk1.mono (fun _ _ h => h.elim))⟩
    | fin =>
      have hP : numP L (.ok m) = (0, (.bad L.length 11)) := by simp only [numP, hN]
      have HP := Lib.hid hP
      have HN := Lib.hid hN
      clear hP hN
      go_enter Tryd.func47, Tryd.ntmps47
      go_wp2_with ((with_reducible refine (get_any B r m v L w HR.out hn hl hb).mono ?_); rintro e w1 hp; unfold GetPost at hp; rw [HN.out] at hp; obtain ⟨rfl, hw1⟩ := hp; have hk1 : Kept (fun _ => False) w w1 := (by rw [hw1]; exact .alloc _ _ _); have hg := (by have h := heap_alloc_new w (.cells #[.int .i64 L.length, .int .i64 11] 104); rw [← hw1] at h; exact h); have HG := Lib.hid hg; clear hg hw1; have g1 := blk_frozen (blk_kept hk1 HQ.out (fun h => h)) 1; have g2 := (blk_cell (blk_kept hk1 HQ.out (fun h => h)) 1).trans rfl)
      go_ret
      rw [HP.out]
      exact ⟨rfl, SrcAt.stored (blk_kept hk1 HQ.out (fun h => h)) (HR.out.kept hk1 (fun h => h) (fun _ _ h => h)) hn ⟨_, rfl, HG.out⟩, stored_kept (hk1.mono (fun _ _ h => h.elim))⟩

set_option maxHeartbeats 4000000 in
set_option maxRecDepth 100000 in
theorem sig_any (B q r : Nat) (v : Value) (L : List Int) (st : DSt) (w : World) (h : SrcAt B w q r v L st) (hl : L.length ≤ 140737488355328) (hb : Bytes L) :
    Calls Tryd.prog 49 #[.pointer (some ⟨q, 0, none⟩)] w (SrcPost B q r v L (.int .i64 (sigP L st).1) (sigP L st).2 w) := by
  have h' := Lib.hid h
  obtain ⟨e, n, hq, hr, hn, hst⟩ := h
  have c0 : w.cell? ⟨q, 0, none⟩ = some (.pointer (some ⟨r, 0, none⟩)) := (blk_cell hq 0).trans rfl
  have c1 : w.cell? ⟨q, 1, none⟩ = some e := (blk_cell hq 1).trans rfl
  cases st with
  | bad a no =>
    obtain ⟨g, rfl, hg⟩ := hst
    clear hq hr hg
    go_enter Tryd.func49, Tryd.ntmps49
    go_wp2_with fail
    go_ret
    exact ⟨rfl, h'.out, Kept.refl _ _⟩
  | ok m =>
    obtain ⟨rfl, rfl⟩ := hst
    have hqr : q ≠ r := blk_ne hq hr.blk (by decide)
    have HR := Lib.hid hr
    have HQ := Lib.hid hq
    clear hq hr
    cases hN : numR (L.drop m) 0 0 with
    | ok x k =>
      have hP : sigP L (.ok m) = (zag x, (.ok (m + k))) := by simp only [sigP, hN]
      have HP := Lib.hid hP
      have HN := Lib.hid hN
      clear hP hN
      go_enter Tryd.func49, Tryd.ntmps49
      go_wp2_with ((with_reducible refine (getInt_any B r m v L w HR.out hn hl hb).mono ?_); rintro e w1 hp; unfold GetIntPost at hp; rw [HN.out] at hp; obtain ⟨rfl, hr1, hk1⟩ := hp; have g1 := blk_frozen (blk_kept hk1 HQ.out hqr) 1; have g2 := (blk_cell (blk_kept hk1 HQ.out hqr) 1).trans rfl; have HR1 := Lib.hid hr1)
      go_ret
      rw [HP.out]
      have hsz := (numR_size (L.drop m) 0 0 x k HN.out).1
      rw [List.length_drop] at hsz
      exact ⟨rfl, SrcAt.stored (blk_kept hk1 HQ.out hqr) HR1.out (by omega) ⟨rfl, rfl⟩, stored_kept hk1⟩
    | form =>
      have hP : sigP L (.ok m) = (0, (.bad m 12)) := by simp only [sigP, hN]
      have HP := Lib.hid hP
      have HN := Lib.hid hN
      clear hP hN
      go_enter Tryd.func49, Tryd.ntmps49
      go_wp2_with ((with_reducible refine (getInt_any B r m v L w HR.out hn hl hb).mono ?_); rintro e w1 hp; unfold GetIntPost at hp; rw [HN.out] at hp; obtain ⟨rfl, hw1⟩ := hp; have hk1 : Kept (fun _ => False) w w1 := (by rw [hw1]; exact .alloc _ _ _); have hg := (by have h := heap_alloc_new w (.cells #[.int .i64 m, .int .i64 12] 104); rw [← hw1] at h; exact h); have HG := Lib.hid hg; clear hg hw1; have g1 := blk_frozen (blk_kept hk1 HQ.out (fun h => h)) 1; have g2 := (blk_cell (blk_kept hk1 HQ.out (fun h => h)) 1).trans rfl)
      go_ret
      rw [HP.out]
      exact ⟨rfl, SrcAt.stored (blk_kept hk1 HQ.out (fun h => h)) (HR.out.kept hk1 (fun h => h) (fun _ _ h => h)) hn ⟨_, rfl, HG.out⟩, stored_kept (hk1.mono (fun _ _ h => h.elim))⟩
    | fin =>
      have hP : sigP L (.ok m) = (0, (.bad L.length 11)) := by simp only [sigP, hN]
      have HP := Lib.hid hP
      have HN := Lib.hid hN
      clear hP hN
      go_enter Tryd.func49, Tryd.ntmps49
      go_wp2_with ((with_reducible refine (getInt_any B r m v L w HR.out hn hl hb).mono ?_); rintro e w1 hp; unfold GetIntPost at hp; rw [HN.out] at hp; obtain ⟨rfl, hw1⟩ := hp; have hk1 : Kept (fun _ => False) w w1 := (by rw [hw1]; exact .alloc _ _ _); have hg := (by have h := heap_alloc_new w (.cells #[.int .i64 L.length, .int .i64 11] 104); rw [← hw1] at h; exact h); have HG := Lib.hid hg; clear hg hw1; have g1 := blk_frozen (blk_kept hk1 HQ.out (fun h => h)) 1; have g2 := (blk_cell (blk_kept hk1 HQ.out (fun h => h)) 1).trans rfl)
      go_ret
      rw [HP.out]
      exact ⟨rfl, SrcAt.stored (blk_kept hk1 HQ.out (fun h => h)) (HR.out.kept hk1 (fun h => h) (fun _ _ h => h)) hn ⟨_, rfl, HG.out⟩, stored_kept (hk1.mono (fun _ _ h => h.elim))⟩
end Go.Proofs.YtniigjfimggobaaDoor
