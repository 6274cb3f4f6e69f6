/- A book of lists: keep. -/
import Derived.Test.YtoolimfdncfgnaaE1
import Derived.Test.YtoolimfdncfgnaaP3
import Derived.Deep.RegionLaw
namespace Go.Proofs.Ytoolimfdncfgnaa
open Go.RowKit
set_option linter.unusedVariables false
set_option linter.unusedSimpArgs false

theorem Try.info25 : (Try.prog.info? 25).map (fun i => (i.zero, i.size, i.bytes)) = some (some (.slice none 0 0), 1, 24) := by kernel_rfl
/-- What a book holds: the lists, and what each was when it came. -/
structure BookR (gB : Nat) (w0 : World) (vs us : List Value) (ls : List (List Int)) (vl vw : Value) (w : World) : Prop where
  lt : gB < w0.heap.size
  blk : w.heap[gB]? = some (.cells #[vl, vw] 35 (0, 0))
  hl : w.ownsRow w0.heap.size 25 1 vl vs.length vs
  hw : w.ownsRow w0.heap.size 25 1 vw us.length us
  apart : ∀ k, vl.ownBlock = some k → vw.ownBlock ≠ some k
  kept : Kept (fun k => k = gB) w0 w
  vlen : vs.length = ls.length
  ulen : us.length = ls.length
  small : ls.length ≤ 8
  rows : ∀ (i : Nat) l, ls[i]? = some l → ∃ u, us[i]? = some u ∧ w.ownsRow w0.heap.size 5 1 u l.length (nums .u8 l)
def KeepPost (gB : Nat) (w0 : World) (vs us : List Value) (ls : List (List Int)) (e : Ending) (w' : World) : Prop :=
  e = .returned (.tuple #[]) ∧ ∃ u vl vw, BookR gB w0 vs (us ++ [u]) ls vl vw w'
/-- What keep leaves. -/
theorem keep_end {gB : Nat} {w0 : World} {vs us : List Value} {ls : List (List Int)} {vl vw v3 v4 v : Value} {w2 w3 w4 : World} {l : List Int}
    (lt : gB < w0.heap.size) (hb2 : w2.heap[gB]? = some (.cells #[vl, vw] 35 (0, 0))) (ho2 : w2.ownsRow w0.heap.size 25 1 vl (vs.length + 1) (vs ++ [v])) (hw2 : w2.ownsRow w0.heap.size 25 1 vw us.length us)
    (ap2 : ∀ k, vl.ownBlock = some k → vw.ownBlock ≠ some k) (k02 : Kept (fun k => k = gB) w0 w2) (rows2 : ∀ (i : Nat) l, ls[i]? = some l → ∃ u, us[i]? = some u ∧ w2.ownsRow w0.heap.size 5 1 u l.length (nums .u8 l))
    (st3 : OwnStep .u8 5 w2.heap.size (.slice (some ⟨w2.heap.size, 0, none⟩) 0 0) (w2.alloc (.cells #[] 5)).drew v3 l w3) (k23 : Kept (fun _ => False) w2 w3)
    (ho4 : w4.ownsRow w0.heap.size 25 1 v4 (us.length + 1) (us ++ [v3])) (at4 : AppAt 25 1 (w3.alloc (.cells #[v3] 25)) vw us.length [v3] v4 w4) (hb4 : w4.heap[gB]? = some (.cells #[vl, vw] 35 (0, 0)))
    (hvl : vs.length = ls.length) (hul : us.length = ls.length) (h8 : ls.length < 8) :
    BookR gB w0 (vs ++ [v]) (us ++ [v3]) (ls ++ [l]) vl v4 (w4.setCell ⟨gB, 1, none⟩ v4) := by
  have hw3 := own_kept hw2 k23 (fun _ _ => id)
  have at4' := at4.behind (fun k hk => (hw3.lt k hk).2)
  have k45 : Kept (fun k => k = gB) w4 (w4.setCell ⟨gB, 1, none⟩ v4) := Kept.setCell (S := fun k => k = gB) _ _ _ rfl
  have h02 := k02.size
  have h23 := k23.size
  have e5 : ∀ {B E n : Nat} {u : Value} {xs : List Value}, w4.ownsRow B E 1 u n xs → E ≠ 35 → (w4.setCell ⟨gB, 1, none⟩ v4).ownsRow B E 1 u n xs := fun h hE => own_kept h k45 (fun k hk e => own_ne h hb4 (Ne.symm hE) (e ▸ hk))
  have ho3 := own_kept ho2 k23 (fun _ _ => id)
  have ho4l := own_kept ho3 at4'.kept (fun k hk e => ap2 k hk e)
  refine ⟨lt, (blk_set hb4 1 _).trans rfl, by simpa using e5 ho4l (by decide), by simpa using e5 ho4 (by decide), fun k hk e => ?_, ?_, by simp [hvl], by simp [hul], by simp; omega, fun i m hi => ?_⟩
  · rcases at4'.moved with q | q
    · exact ap2 k hk (q ▸ e)
    · have h1 := q k e
      have h2 := (ho3.lt k hk).2
      omega
  · refine (k02.trans (k23.trans at4'.kept (U := fun b => vw.ownBlock = some b) (fun _ _ e => e.elim) (fun _ _ e => e)) (fun _ _ e => e) (fun k hk e => ?_)).trans k45 (fun _ _ e => e) (fun _ _ e => e)
    have := (hw2.lt k e).1
    omega
  · rcases Nat.lt_or_ge i ls.length with h | h
    · rw [List.getElem?_append_left h] at hi
      obtain ⟨u, hu, ho⟩ := rows2 i m hi
      have hlt := (List.getElem?_eq_some_iff.1 hu).1
      refine ⟨u, by rw [List.getElem?_append_left hlt]; exact hu, e5 (own_kept (own_kept ho k23 (fun _ _ => id)) at4'.kept (fun k hk e => own_apart hw2 ho (by decide) e hk)) (by decide)⟩
    · rw [List.getElem?_append_right h] at hi
      obtain rfl : i = ls.length := by
        rcases hr : i - ls.length with _ | r
        · omega
        · rw [hr] at hi; simp at hi
      rw [Nat.sub_self] at hi
      simp at hi
      subst hi
      refine ⟨v3, by rw [List.getElem?_append_right (by omega), hul, Nat.sub_self]; rfl, e5 (own_kept (own_lower st3.own h02) at4'.kept (fun k hk e => own_apart hw3 st3.own (by decide) e hk)) (by decide)⟩
theorem Moved.new {v v' : Value} {w w' w0 : World} {k : Nat} (h : Moved v w v') (hk : v'.ownBlock = some k) (hv : v.ownBlock ≠ some k) : w.heap.size ≤ k := by
  rcases h with e | e
  · exact absurd (e ▸ hk) hv
  · exact e k hk

set_option maxHeartbeats 4000000 in
theorem keep_any (gB : Nat) (w0 : World) (vs us : List Value) (ls : List (List Int)) (vl vw : Value) (A : Option Addr) (l : List Int) (n c : Nat) (w : World) (h : BookR gB w0 vs us ls vl vw w) (hn : l.length = n)
    (hb : Bytes l) (hl : l.length ≤ 4294967296) (hr : Reads w0 (.slice A n c) l) (hne : ∀ a, A = some a → a.block ≠ gB) (h8 : ls.length < 8) :
    Calls Try.prog 20 #[.pointer (some ⟨gB, 0, none⟩), .slice A n c] w (KeepPost gB w0 (vs ++ [.slice A n c]) us (ls ++ [l])) := by
  subst hn
  obtain ⟨i0, hi0, hz0, hz1, hz2⟩ := info_u8
  obtain ⟨i1, hi1, hy0, hy1, hy2⟩ := info_parts Try.info25
  have H := Lib.hid h
  have HR := Lib.hid (And.intro hr hne)
  have c0 : w.cell? ⟨gB, 0, none⟩ = some vl := blk_cell h.blk 0
  have hol := h.hl
  have hs0 := h.kept.size
  obtain ⟨Al, cl, rfl, _, _, _⟩ := own_at h.hl
  have hvl := h.vlen
  have hf0 := blk_frozen h.blk 0
  have q3 : vs.length + 1 ≤ maxLen := by unfold maxLen; omega
  have q4 : (vs.length + 1) * 24 ≤ 140737488355328 := by omega
  clear h hr hne hvl
  go_enter Try.func20, Try.ntmps20
  go_wp2_with (at_builtin; refine wpList_append_paint rfl _ _ 33 rfl w0.heap.size 25 i1 (.slice none 0 0) 1 24 Try.underlying33 hi1 hy0 hy1 hy2 rfl (by decide) _ vs.length vs [.slice A l.length c] _ 1 1 (by rfl) (by rfl) (by rfl) (by rfl) (by decide) (by intro u hu; simp at hu; subst hu; rfl) hol q3 q4 hs0 ?_)
  rintro v1 w1 ho1 hat1
  have hgl : ∀ k, (Value.slice Al vs.length cl).ownBlock = some k → k ≠ gB := fun k hk e => own_ne H.out.hl H.out.blk (by decide) (e ▸ hk)
  have hb1 := blk_kept hat1.kept H.out.blk (fun e => hgl _ e rfl)
  have d0 : w1.cell? ⟨gB, 0, none⟩ = some (.slice Al vs.length cl) := blk_cell hb1 0
  have hf1 := blk_frozen hb1 0
  obtain ⟨A1, c1, rfl, _, _, _⟩ := own_at ho1
  have hb2 : (w1.setCell ⟨gB, 0, none⟩ (.slice A1 (vs.length + 1) c1)).heap[gB]? = some (.cells #[.slice A1 (vs.length + 1) c1, vw] 35 (0, 0)) := (blk_set hb1 0 _).trans rfl
  have k12 : Kept (fun k => k = gB) w1 (w1.setCell ⟨gB, 0, none⟩ (.slice A1 (vs.length + 1) c1)) := Kept.setCell (S := fun k => k = gB) _ _ _ rfl
  have ho2 := own_kept ho1 k12 (fun k hk e => own_ne ho1 hb1 (by decide) (e ▸ hk))
  have ks1 : Kept (fun k => k = gB) w0 w1 := H.out.kept.trans hat1.kept (fun _ _ e => e) (fun k hk e => by have := (H.out.hl.lt k e).1; omega)
  have hw1 := own_kept H.out.hw hat1.kept (fun k hk e => H.out.apart k e hk)
  have hw2 := own_kept hw1 k12 (fun k hk e => own_ne hw1 hb1 (by decide) (e ▸ hk))
  have ap2 : ∀ k, (Value.slice A1 (vs.length + 1) c1).ownBlock = some k → vw.ownBlock ≠ some k := fun k hk e => by
    rcases hat1.moved with q | q
    · exact H.out.apart k (q ▸ hk) e
    · have h1 := q k hk
      have h2 := (H.out.hw.lt k e).2
      omega
  have ks2 : Kept (fun k => k = gB) w0 (w1.setCell ⟨gB, 0, none⟩ (.slice A1 (vs.length + 1) c1)) := ks1.trans k12 (fun _ _ e => e) (fun _ _ e => e)
  have rows2 : ∀ (i : Nat) l, ls[i]? = some l → ∃ u, us[i]? = some u ∧ (w1.setCell ⟨gB, 0, none⟩ (.slice A1 (vs.length + 1) c1)).ownsRow w0.heap.size 5 1 u l.length (nums .u8 l) := fun i l hi => by
    obtain ⟨u, hu, ho⟩ := H.out.rows i l hi
    have o1 := own_kept ho hat1.kept (fun k hk e => own_apart H.out.hl ho (by decide) e hk)
    exact ⟨u, hu, own_kept o1 k12 (fun k hk e => own_ne o1 hb1 (by decide) (e ▸ hk))⟩
  have H2 := Lib.hid (And.intro hb2 (And.intro ho2 (And.intro hw2 (And.intro ap2 (And.intro ks2 rows2)))))
  clear ho1 hat1 hgl hb1 hb2 k12 ho2 ks1 hw1 hw2 ap2 ks2 rows2 c0 hf0 hol q3 q4
  go_upto_region 1 with fail
  generalize (w1.setCell ⟨gB, 0, none⟩ (.slice A1 (vs.length + 1) c1)) = w2 at *
  have c1' : w2.cell? ⟨gB, 1, none⟩ = some vw := blk_cell H2.out.1 1
  have k02 : Kept (fun k => k = gB) w0 w2 := H2.out.2.2.2.2.1
  have rl2 : Reads w2 (.slice A l.length c) l := by
    obtain ⟨A', c', he, h0, hcs⟩ := HR.out.1
    injection he with hA _ hc
    subst hA; subst hc
    refine ⟨A, c, rfl, h0, fun j u hu => ?_⟩
    obtain ⟨ad, hA, hcell⟩ := hcs j u hu
    refine ⟨ad, hA, (World.cell?_of_block (k02.block _ (World.block_lt_of_cell? w0 _ hcell) ?_)).trans hcell⟩
    have := HR.out.2 ad hA
    unfold Addr.add
    split <;> simpa using this
  have ow3 : (w2.alloc (.cells #[] 5)).drew.ownsRow w2.heap.size 5 1 (.slice (some ⟨w2.heap.size, 0, none⟩) 0 0) ([] : List Int).length (nums .u8 []) := own_empty' w2 5
  have rl3 := rl2.kept (kd (Kept.alloc (fun _ => False) w2 (.cells #[] 5)))
  have hmax : ([] : List Int).length + l.length ≤ maxLen := by unfold maxLen; simp; omega
  have hbys : (([] : List Int).length + l.length) * 1 ≤ 140737488355328 := by simp; omega
  have hszs : w2.heap.size ≤ (w2.alloc (.cells #[] 5)).drew.heap.size := by simp
  clear d0 hf1 rl2
  have HC1 := Lib.hid c1'
  have c1a := cell_alloc c1' (.cells #[] 5)
  have ql : us.length + 1 ≤ maxLen := by have := H.out.ulen; unfold maxLen; omega
  have qb : (us.length + 1) * 24 ≤ 140737488355328 := by have := H.out.ulen; omega
  have HB : Hid (w0.heap.size ≤ w2.heap.size) := Lib.hid k02.size
  clear k02
  go_region_law (first
    | (refine step_append_reads rfl _ _ 25 rfl w2.heap.size 5 i0 (.int .u8 0) 1 Try.underlying25 hi0 hz0 hz1 hz2 rfl (.slice (some ⟨w2.heap.size, 0, none⟩) 0 0) (.slice A l.length c) [] l rfl rfl rl3 ow3 hmax hbys hszs ?_; intro v3 w3 st3; rw [List.nil_append] at st3; obtain ⟨A3, c3, rfl, _, _, _⟩ := own_at st3.own; have k23 : Kept (fun _ => False) w2 w3 := st3.old (kd (Kept.alloc _ _ _)) (fun i hi => by simp [Value.ownBlock] at hi; omega); have c3' : w3.cell? ⟨gB, 1, none⟩ = some vw := cell_kept k23 HC1.out; have c3a := cell_alloc c3' (.cells #[.slice A3 l.length c3] 25); have ow4 := own_kept H2.out.2.2.1 k23 (fun _ _ => id); have hs4 : w0.heap.size ≤ (w3.alloc (.cells #[.slice A3 l.length c3] 25)).heap.size := Nat.le_trans HB.out (Nat.le_trans k23.size (by simp)); have ST3 := Lib.hid st3; have K23 := Lib.hid k23; clear st3 k23)
    | (refine step_append_paint rfl _ _ 33 rfl w0.heap.size 25 i1 (.slice none 0 0) 1 24 Try.underlying33 hi1 hy0 hy1 hy2 rfl (by decide) vw us.length us rfl (ow4.alloc _) ⟨w3.heap.size, 0, none⟩ 1 1 [.slice A3 l.length c3] rfl rfl (by decide) (World.news_of_block (heap_alloc_new _ _)) (by intro u hu; simp at hu; subst hu; rfl) ql qb hs4 ?_; intro v4 w4 ho4 at4; obtain ⟨A4, c4, rfl, _, _, _⟩ := own_at ho4; have hb4 := blk_kept (at4.behind (fun k hk => (ow4.lt k hk).2)).kept (blk_kept K23.out H2.out.1 id) (fun e => own_ne ow4 (blk_kept K23.out H2.out.1 id) (by decide) e); have c4' : w4.cell? ⟨gB, 1, none⟩ = some vw := blk_cell hb4 1; have f4' := blk_frozen hb4 1; have A4 := Lib.hid (And.intro ho4 (And.intro at4 (And.intro hb4 ow4))); clear ho4 at4 hb4 ow4))
  all_goals
    go_wp2_with fail
    refine bodyPost_ret (v := .tuple #[]) (by simp [results, Try.results20, go_sem]) rfl ⟨rfl, _, _, _, keep_end H.out.lt H2.out.1 H2.out.2.1 H2.out.2.2.1 H2.out.2.2.2.1 H2.out.2.2.2.2.1 H2.out.2.2.2.2.2 ST3.out K23.out A4.out.1 A4.out.2.1 A4.out.2.2.1 H.out.vlen H.out.ulen h8⟩
end Go.Proofs.Ytoolimfdncfgnaa
