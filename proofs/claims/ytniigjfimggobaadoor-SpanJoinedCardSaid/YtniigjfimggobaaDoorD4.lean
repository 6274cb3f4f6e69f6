/- What Decode has in hand (memory laws; End). -/
import Derived.Test.YtniigjfimggobaaDoorD3
import Derived.Test.YtniigjfimggobaaDoorU5
namespace Go.Proofs.YtniigjfimggobaaDoor
open Go.RowKit
set_option linter.unusedVariables false
set_option linter.unusedSimpArgs false

def linkV (x : Nat) : List Value := [Value.int .u64 x]
/-- A source, a span that is being read, and the lists of this span. -/
structure DecAt (B q r : Nat) (v : Value) (L : List Int) (sb rb : Nat) (w0 w : World) (s : Spn) (lv av ev : Value) (st : DSt) : Prop where
  src : SrcAt B w q r v L st
  sp : w.heap[sb]? = some (.cells (s.cells lv av ev) 33 (0, 0))
  res : w.heap[rb]? = some (.cells zcells 33 (0, 0))
  ne : sb ≠ rb
  kept : Kept (fun _ => False) w0 w
  ge : w0.heap.size ≤ q ∧ w0.heap.size ≤ r ∧ w0.heap.size ≤ sb ∧ w0.heap.size ≤ rb
  ll : w.ownsRow w0.heap.size 26 1 lv s.links.length (s.links.flatMap linkV)
  la : w.ownsRow w0.heap.size 66 4 av s.ats.length (s.ats.flatMap Atr.cells)
  le : w.ownsRow w0.heap.size 68 2 ev s.evs.length (s.evs.flatMap Evt.cells)
section
variable {B q r : Nat} {v : Value} {L : List Int} {sb rb : Nat} {w0 w : World} {s : Spn} {lv av ev : Value} {st : DSt}
theorem own_keptT {S : Nat → Prop} {w w' : World} {base : Nat} {e : TypeId} {size n : Nat} {v : Value} {xs : List Value} (h : w.ownsRow base e size v n xs) (hk : Kept S w w') (hS : ∀ k, S k → ∀ cs (t : Nat) fr, w.heap[k]? = some (.cells cs t fr) → t ≠ (e : Nat)) : w'.ownsRow base e size v n xs := by
  refine own_kept h hk (fun k hv hs => ?_)
  rcases h.2 with ⟨rfl, _⟩ | ⟨g, cap, cur, rfl, _, hh, _⟩
  · cases hv
  · have : g = k := by simpa [Value.ownBlock] using hv
    subst this
    exact hS g hs _ _ _ hh rfl
theorem typ_of {w : World} {k : Nat} {cs cs' : Array Value} {t t' : TypeId} {fr fr' : Nat × Nat} (h : w.heap[k]? = some (.cells cs t fr)) (h' : w.heap[k]? = some (.cells cs' t' fr')) : @Eq Nat t' t := by
  rw [h] at h'
  injection h' with h'
  injection h' with _ h2 _
  exact h2.symm
theorem DecAt.read {st' : DSt} {w1 : World} (h : DecAt B q r v L sb rb w0 w s lv av ev st) (hs : SrcAt B w1 q r v L st') (hk : Kept (fun i => i = q ∨ i = r) w w1) : DecAt B q r v L sb rb w0 w1 s lv av ev st' := by
  obtain ⟨e, n, hq, hr, hn, hst⟩ := h.src
  have ty : ∀ k, (k = q ∨ k = r) → ∀ cs (t : Nat) fr, w.heap[k]? = some (.cells cs t fr) → t = 94 ∨ t = 124 := by
    rintro k (rfl | rfl) cs t fr hb
    · exact .inl (typ_of hq hb)
    · exact .inr (typ_of hr.blk hb)
  refine ⟨hs, blk_kept hk h.sp (fun hh => ?_), blk_kept hk h.res (fun hh => ?_), h.ne, h.kept.trans hk (fun _ _ e => e) (fun i hi e => ?_), h.ge, own_keptT h.ll hk ?_, own_keptT h.la hk ?_, own_keptT h.le hk ?_⟩
  · have := ty _ hh _ _ _ h.sp; omega
  · have := ty _ hh _ _ _ h.res; omega
  · have := h.ge; rcases e with rfl | rfl <;> omega
  all_goals
    intro k hk' cs t fr hb
    have := ty k hk' cs t fr hb
    omega
theorem DecAt.alloc (h : DecAt B q r v L sb rb w0 w s lv av ev st) (o : Obj) : DecAt B q r v L sb rb w0 (w.alloc o) s lv av ev st :=
  have hk := Kept.alloc (fun _ => False) w o
  ⟨h.src.kept hk (fun _ h => h.elim), blk_kept hk h.sp (fun h => h), blk_kept hk h.res (fun h => h), h.ne, h.kept.trans hk (fun _ _ e => e) (fun _ _ e => e), h.ge, own_keptT h.ll hk (fun _ h => h.elim), own_keptT h.la hk (fun _ h => h.elim), own_keptT h.le hk (fun _ h => h.elim)⟩
/-- A block of another kind, of one's own, is written. -/
theorem DecAt.other {w1 : World} (h : DecAt B q r v L sb rb w0 w s lv av ev st) {S : Nat → Prop} (hk : Kept S w w1) (hS : ∀ k, S k → w0.heap.size ≤ k ∧ ∀ cs (t : Nat) fr, w.heap[k]? = some (.cells cs t fr) → t ≠ 94 ∧ t ≠ 124 ∧ t ≠ 104 ∧ t ≠ 5 ∧ t ≠ 33 ∧ t ≠ 26 ∧ t ≠ 66 ∧ t ≠ 68) : DecAt B q r v L sb rb w0 w1 s lv av ev st := by
  refine ⟨h.src.kept hk (fun k hs cs t fr hb => ?_), blk_kept hk h.sp (fun hs => ?_), blk_kept hk h.res (fun hs => ?_), h.ne, h.kept.trans hk (fun _ _ e => e) (fun i hi e => ?_), h.ge, own_keptT h.ll hk ?_, own_keptT h.la hk ?_, own_keptT h.le hk ?_⟩
  · have := (hS k hs).2 cs t fr hb; exact ⟨this.1, this.2.1, this.2.2.1, this.2.2.2.1⟩
  · exact ((hS _ hs).2 _ _ _ h.sp).2.2.2.2.1 rfl
  · exact ((hS _ hs).2 _ _ _ h.res).2.2.2.2.1 rfl
  · have := (hS i e).1; omega
  · exact fun k hs cs t fr hb => ((hS k hs).2 cs t fr hb).2.2.2.2.2.1
  · exact fun k hs cs t fr hb => ((hS k hs).2 cs t fr hb).2.2.2.2.2.2.1
  · exact fun k hs cs t fr hb => ((hS k hs).2 cs t fr hb).2.2.2.2.2.2.2
/-- A field that is no list. -/
theorem DecAt.put (h : DecAt B q r v L sb rb w0 w s lv av ev st) (j : Nat) (u : Value) (s' : Spn) (hset : (s.cells lv av ev).setIfInBounds j u = s'.cells lv av ev) (h1 : s'.links = s.links) (h2 : s'.ats = s.ats) (h3 : s'.evs = s.evs) : DecAt B q r v L sb rb w0 (w.setCell ⟨sb, j, none⟩ u) s' lv av ev st := by
  have hk : Kept (fun i => i = sb) w (w.setCell ⟨sb, j, none⟩ u) := Kept.setCell _ _ _ rfl
  have ty : ∀ k, k = sb → ∀ cs (t : Nat) fr, w.heap[k]? = some (.cells cs t fr) → t = 33 := by
    rintro k rfl cs t fr hb
    exact typ_of h.sp hb
  refine ⟨h.src.kept hk (fun k hs cs t fr hb => ?_), by rw [← hset]; exact blk_set h.sp j u, blk_kept hk h.res (fun hs => h.ne hs.symm), h.ne, h.kept.trans hk (fun _ _ e => e) (fun i hi e => ?_), h.ge, by rw [h1]; exact own_keptT h.ll hk (fun k hk' cs t fr hb => by have := ty k hk' cs t fr hb; omega), by rw [h2]; exact own_keptT h.la hk (fun k hk' cs t fr hb => by have := ty k hk' cs t fr hb; omega), by rw [h3]; exact own_keptT h.le hk (fun k hk' cs t fr hb => by have := ty k hk' cs t fr hb; omega)⟩
  · have := ty k hs cs t fr hb; omega
  · have := h.ge; omega
/-- One more link. -/
theorem DecAt.pushL {w2 : World} {lv' : Value} {x : Nat} (h : DecAt B q r v L sb rb w0 w s lv av ev st) (hown : w2.ownsRow w0.heap.size 26 1 lv' (s.links.length + 1) (s.links.flatMap linkV ++ linkV x)) (hg : w.grownBy w2 lv.ownBlock) : DecAt B q r v L sb rb w0 (w2.setCell ⟨sb, 4, none⟩ lv') { s with links := s.links ++ [x] } lv' av ev st := by
  have hk : Kept (fun k => lv.ownBlock = some k) w w2 := Kept.of_grown hg (fun k hk => hk)
  have ty : ∀ k, lv.ownBlock = some k → w0.heap.size ≤ k ∧ ∀ cs (t : Nat) fr, w.heap[k]? = some (.cells cs t fr) → t = 26 := by
    intro k hk'
    rcases h.ll.2 with ⟨rfl, _⟩ | ⟨g, cap, cur, rfl, hb, hh, _⟩
    · cases hk'
    · have : g = k := by simpa [Value.ownBlock] using hk'
      subst this
      exact ⟨hb, fun cs t fr hb' => typ_of hh hb'⟩
  have hsp2 := blk_kept hk h.sp (fun hs => by have := (ty _ hs).2 _ _ _ h.sp; omega)
  have hk2 : Kept (fun i => i = sb) w2 (w2.setCell ⟨sb, 4, none⟩ lv') := Kept.setCell _ _ _ rfl
  have ty2 : ∀ k, k = sb → ∀ cs (t : Nat) fr, w2.heap[k]? = some (.cells cs t fr) → t = 33 := by
    rintro k rfl cs t fr hb
    exact typ_of hsp2 hb
  have hsr := h.src.kept hk (fun k hs cs t fr hb => by have := (ty k hs).2 cs t fr hb; omega)
  refine ⟨hsr.kept hk2 (fun k hs cs t fr hb => ?_), (blk_set hsp2 4 lv').trans rfl, blk_kept hk2 (blk_kept hk h.res (fun hs => by have := (ty _ hs).2 _ _ _ h.res; omega)) (fun hs => h.ne hs.symm), h.ne, (h.kept.trans hk (fun _ _ e => e) (fun i hi e => by have := (ty i e).1; omega)).trans hk2 (fun _ _ e => e) (fun i hi e => by have := h.ge; omega), h.ge, ?_, own_keptT (own_keptT h.la hk ?_) hk2 ?_, own_keptT (own_keptT h.le hk ?_) hk2 ?_⟩
  · have := ty2 k hs cs t fr hb; omega
  · show _ ∧ _
    rw [show ({ s with links := s.links ++ [x] } : Spn).links = s.links ++ [x] from rfl, List.length_append, List.flatMap_append]
    exact own_keptT (by simpa using hown) hk2 (fun k hs cs t fr hb => by have := ty2 k hs cs t fr hb; omega)
  · exact fun k hs cs t fr hb => by have := (ty k hs).2 cs t fr hb; omega
  · exact fun k hs cs t fr hb => by have := ty2 k hs cs t fr hb; omega
  · exact fun k hs cs t fr hb => by have := (ty k hs).2 cs t fr hb; omega
  · exact fun k hs cs t fr hb => by have := ty2 k hs cs t fr hb; omega
theorem DecAt.pushA {w2 : World} {av' : Value} {x : Atr} (h : DecAt B q r v L sb rb w0 w s lv av ev st) (hown : w2.ownsRow w0.heap.size 66 4 av' (s.ats.length + 1) (s.ats.flatMap Atr.cells ++ x.cells)) (hg : w.grownBy w2 av.ownBlock) : DecAt B q r v L sb rb w0 (w2.setCell ⟨sb, 11, none⟩ av') { s with ats := s.ats ++ [x] } lv av' ev st := by
  have hk : Kept (fun k => av.ownBlock = some k) w w2 := Kept.of_grown hg (fun k hk => hk)
  have ty : ∀ k, av.ownBlock = some k → w0.heap.size ≤ k ∧ ∀ cs (t : Nat) fr, w.heap[k]? = some (.cells cs t fr) → t = 66 := by
    intro k hk'
    rcases h.la.2 with ⟨rfl, _⟩ | ⟨g, cap, cur, rfl, hb, hh, _⟩
    · cases hk'
    · have : g = k := by simpa [Value.ownBlock] using hk'
      subst this
      exact ⟨hb, fun cs t fr hb' => typ_of hh hb'⟩
  have hsp2 := blk_kept hk h.sp (fun hs => by have := (ty _ hs).2 _ _ _ h.sp; omega)
  have hk2 : Kept (fun i => i = sb) w2 (w2.setCell ⟨sb, 11, none⟩ av') := Kept.setCell _ _ _ rfl
  have ty2 : ∀ k, k = sb → ∀ cs (t : Nat) fr, w2.heap[k]? = some (.cells cs t fr) → t = 33 := by
    rintro k rfl cs t fr hb
    exact typ_of hsp2 hb
  have hsr := h.src.kept hk (fun k hs cs t fr hb => by have := (ty k hs).2 cs t fr hb; omega)
  refine ⟨hsr.kept hk2 (fun k hs cs t fr hb => ?_), (blk_set hsp2 11 av').trans rfl, blk_kept hk2 (blk_kept hk h.res (fun hs => by have := (ty _ hs).2 _ _ _ h.res; omega)) (fun hs => h.ne hs.symm), h.ne, (h.kept.trans hk (fun _ _ e => e) (fun i hi e => by have := (ty i e).1; omega)).trans hk2 (fun _ _ e => e) (fun i hi e => by have := h.ge; omega), h.ge, own_keptT (own_keptT h.ll hk ?_) hk2 ?_, ?_, own_keptT (own_keptT h.le hk ?_) hk2 ?_⟩
  · have := ty2 k hs cs t fr hb; omega
  · exact fun k hs cs t fr hb => by have := (ty k hs).2 cs t fr hb; omega
  · exact fun k hs cs t fr hb => by have := ty2 k hs cs t fr hb; omega
  · show _ ∧ _
    rw [show ({ s with ats := s.ats ++ [x] } : Spn).ats = s.ats ++ [x] from rfl, List.length_append, List.flatMap_append]
    exact own_keptT (by simpa using hown) hk2 (fun k hs cs t fr hb => by have := ty2 k hs cs t fr hb; omega)
  · exact fun k hs cs t fr hb => by have := (ty k hs).2 cs t fr hb; omega
  · exact fun k hs cs t fr hb => by have := ty2 k hs cs t fr hb; omega
theorem DecAt.pushE {w2 : World} {ev' : Value} {x : Evt} (h : DecAt B q r v L sb rb w0 w s lv av ev st) (hown : w2.ownsRow w0.heap.size 68 2 ev' (s.evs.length + 1) (s.evs.flatMap Evt.cells ++ x.cells)) (hg : w.grownBy w2 ev.ownBlock) : DecAt B q r v L sb rb w0 (w2.setCell ⟨sb, 12, none⟩ ev') { s with evs := s.evs ++ [x] } lv av ev' st := by
  have hk : Kept (fun k => ev.ownBlock = some k) w w2 := Kept.of_grown hg (fun k hk => hk)
  have ty : ∀ k, ev.ownBlock = some k → w0.heap.size ≤ k ∧ ∀ cs (t : Nat) fr, w.heap[k]? = some (.cells cs t fr) → t = 68 := by
    intro k hk'
    rcases h.le.2 with ⟨rfl, _⟩ | ⟨g, cap, cur, rfl, hb, hh, _⟩
    · cases hk'
    · have : g = k := by simpa [Value.ownBlock] using hk'
      subst this
      exact ⟨hb, fun cs t fr hb' => typ_of hh hb'⟩
  have hsp2 := blk_kept hk h.sp (fun hs => by have := (ty _ hs).2 _ _ _ h.sp; omega)
  have hk2 : Kept (fun i => i = sb) w2 (w2.setCell ⟨sb, 12, none⟩ ev') := Kept.setCell _ _ _ rfl
  have ty2 : ∀ k, k = sb → ∀ cs (t : Nat) fr, w2.heap[k]? = some (.cells cs t fr) → t = 33 := by
    rintro k rfl cs t fr hb
    exact typ_of hsp2 hb
  have hsr := h.src.kept hk (fun k hs cs t fr hb => by have := (ty k hs).2 cs t fr hb; omega)
  refine ⟨hsr.kept hk2 (fun k hs cs t fr hb => ?_), (blk_set hsp2 12 ev').trans rfl, blk_kept hk2 (blk_kept hk h.res (fun hs => by have := (ty _ hs).2 _ _ _ h.res; omega)) (fun hs => h.ne hs.symm), h.ne, (h.kept.trans hk (fun _ _ e => e) (fun i hi e => by have := (ty i e).1; omega)).trans hk2 (fun _ _ e => e) (fun i hi e => by have := h.ge; omega), h.ge, own_keptT (own_keptT h.ll hk ?_) hk2 ?_, own_keptT (own_keptT h.la hk ?_) hk2 ?_, ?_⟩
  · have := ty2 k hs cs t fr hb; omega
  · exact fun k hs cs t fr hb => by have := (ty k hs).2 cs t fr hb; omega
  · exact fun k hs cs t fr hb => by have := ty2 k hs cs t fr hb; omega
  · exact fun k hs cs t fr hb => by have := (ty k hs).2 cs t fr hb; omega
  · exact fun k hs cs t fr hb => by have := ty2 k hs cs t fr hb; omega
  · show _ ∧ _
    rw [show ({ s with evs := s.evs ++ [x] } : Spn).evs = s.evs ++ [x] from rfl, List.length_append, List.flatMap_append]
    exact own_keptT (by simpa using hown) hk2 (fun k hs cs t fr hb => by have := ty2 k hs cs t fr hb; omega)
end
theorem end_left (B r n : Nat) (v : Value) (l : List Int) (w : World) (h : RdAt B w r v l n) (hn : n < l.length) (hl : l.length ≤ 140737488355328) :
    Calls Tryd.prog 50 #[.pointer (some ⟨r, 0, none⟩)] w fun e w' => ∃ err, e = .returned err ∧ ErrPost n 15 w err w' := by
  go_enter Tryd.func50, Tryd.ntmps50
  go_wp2_with fail
  refine (left_any B r n v l w h (Nat.le_of_lt hn) hl).mono ?_
  rintro e w1 ⟨rfl, hk⟩
  have h0 : 0 < l.length - n := by omega
  have hc1 : w1.cell? ⟨r, 1, none⟩ = some (.int .i64 n) := (blk_cell (blk_kept hk h.blk (fun h => h)) 1).trans rfl
  go_wp2_with fail
  refine (wrong_any n 15 w1).mono ?_
  rintro e w2 ⟨rfl, hw⟩
  have HW := Lib.hid hw
  clear hw
  go_wp2_with fail
  go_ret
  exact ⟨_, rfl, by rw [HW.out]; exact .new hk⟩
end Go.Proofs.YtniigjfimggobaaDoor
