/- Equal, Clip, Clone (the walks). -/
import Derived.Test.YtniigjfimggobaaDoorT7
import Derived.Test.YtniigjfimggobaaDoorU2
namespace Go.Proofs.YtniigjfimggobaaDoor
open Go.RowKit
set_option linter.unusedVariables false
set_option linter.unusedSimpArgs false

theorem flat_get {α : Type} {f : α → List Value} {m : Nat} (hf : ∀ x, (f x).length = m) : ∀ (l : List α) (j : Nat) (u : Value), (l.flatMap f)[j]? = some u → ∃ i x r, l[i]? = some x ∧ r < m ∧ j = i * m + r ∧ (f x)[r]? = some u
  | [], j, u, h => by simp at h
  | y :: l, j, u, h => by
    rw [List.flatMap_cons] at h
    by_cases hj : j < m
    · rw [List.getElem?_append_left (by rw [hf]; exact hj)] at h
      exact ⟨0, y, j, rfl, hj, by simp, h⟩
    · rw [List.getElem?_append_right (by rw [hf]; omega), hf] at h
      obtain ⟨i, x, r, h1, h2, h3, h4⟩ := flat_get hf l _ u h
      exact ⟨i + 1, x, r, h1, h2, by rw [Nat.add_mul]; omega, h4⟩
theorem flat_at {α : Type} {f : α → List Value} {m : Nat} (hf : ∀ x, (f x).length = m) : ∀ (l : List α) (i r : Nat) (x : α), l[i]? = some x → r < m → (l.flatMap f)[i * m + r]? = (f x)[r]?
  | [], i, r, x, h, _ => by simp at h
  | y :: l, 0, r, x, h, hr => by
    injection h with h
    subst h
    rw [List.flatMap_cons, List.getElem?_append_left (by rw [hf]; omega)]
    simp
  | y :: l, i + 1, r, x, h, hr => by
    rw [List.flatMap_cons, List.getElem?_append_right (by rw [hf, Nat.add_mul]; omega), hf, ← flat_at hf l i r x h hr]
    congr 1
    rw [Nat.add_mul]; omega
theorem flat_len {α : Type} {f : α → List Value} {m : Nat} (hf : ∀ x, (f x).length = m) : ∀ l : List α, (l.flatMap f).length = l.length * m
  | [] => by simp
  | y :: l => by rw [List.flatMap_cons, List.length_append, hf, flat_len hf l, List.length_cons, Nat.add_mul]; omega
theorem inf26 : (Tryd.prog.info? 26).map (fun i => (i.zero, i.size, i.bytes)) = some (some (.int .u64 0), 1, 8) := by kernel_rfl
theorem inf66 : (Tryd.prog.info? 66).map (fun i => (i.zero, i.size, i.bytes)) = some (some (.agg #[.string ⟨#[]⟩, .int .i64 0, .string ⟨#[]⟩, .int .i64 0]), 4, 48) := by kernel_rfl
theorem inf68 : (Tryd.prog.info? 68).map (fun i => (i.zero, i.size, i.bytes)) = some (some (.agg #[.int .i64 0, .string ⟨#[]⟩]), 2, 24) := by kernel_rfl
theorem cell_keptS {S : Nat → Prop} {w w' : World} (hk : Kept S w w') {a : Addr} {u : Value} (h : w.cell? a = some u) (hS : ¬ S a.block) : w'.cell? a = some u :=
  (World.cell?_of_block (hk.block _ (World.block_lt_of_cell? w a h) hS)).trans h
theorem own_reads {w : World} {base n : Nat} {e : TypeId} {size : Nat} {v : Value} {xs : List Value} (h : w.ownsRow base e size v n xs) : ∃ A c, v = .slice A n c ∧ n ≤ c ∧ (∀ A', A = some A' → base ≤ A'.block) ∧ (0 < n → ∃ g, A = some ⟨g, 0, none⟩ ∧ ∀ (j : Nat) (u : Value), xs[j]? = some u → w.cell? ⟨g, j, none⟩ = some u) := by
  rcases h.2 with ⟨rfl, rfl⟩ | ⟨g, cap, cur, rfl, hbase, hh, hn, _, hs, ht⟩
  · exact ⟨none, 0, rfl, Nat.le_refl _, (fun _ h => by cases h), fun h => by omega⟩
  · refine ⟨_, cap, rfl, hn, (fun _ h => by injection h with h; subst h; exact hbase), fun _ => ⟨g, rfl, fun j u hj => ?_⟩⟩
    rw [blk_cell hh]
    rw [← ht] at hj
    have hjn : j < n * size := by
      have := (List.getElem?_eq_some_iff.1 hj).1
      simp at this
      omega
    rw [List.getElem?_take_of_lt hjn] at hj
    simpa using hj
theorem own_made0 (w : World) (E z : Nat) : (w.alloc (.cells #[] E)).ownsRow w.heap.size E z (.slice (some ⟨w.heap.size, 0, none⟩) 0 0) 0 [] :=
  World.ownsRow_made w #[] 0 (Nat.le_refl _) (Nat.zero_le _) (by simp)

set_option maxHeartbeats 4000000 in
theorem equal_any (s t : Spn) (lv av ev lu au eu : Value) (w : World) (hs : SReads w s lv av ev) (ht : SReads w t lu au eu) : Calls Tryd.prog 16 #[.agg (s.cells lv av ev), .agg (t.cells lu au eu)] w (BoolPost (decide (spnC s t = 0)) w) := by
  have hs0 := hs
  have ht0 := ht
  obtain ⟨⟨slA, slc, rfl, -⟩, ⟨saA, sac, rfl, -⟩, ⟨seA, sec, rfl, -⟩, -, -, -⟩ := hs
  obtain ⟨⟨tlA, tlc, rfl, -⟩, ⟨taA, tac, rfl, -⟩, ⟨teA, tec, rfl, -⟩, -, -, -⟩ := ht
  obtain ⟨X, hX⟩ : ∃ X, X = s.cells (.slice slA s.links.length slc) (.slice saA s.ats.length sac) (.slice seA s.evs.length sec) := ⟨_, rfl⟩
  obtain ⟨Y, hY⟩ : ∃ Y, Y = t.cells (.slice tlA t.links.length tlc) (.slice taA t.ats.length tac) (.slice teA t.evs.length tec) := ⟨_, rfl⟩
  obtain ⟨W, hW⟩ : ∃ W, W = (w.alloc (.cells X 33)).alloc (.cells Y 33) := ⟨_, rfl⟩
  obtain ⟨hk, ha, hb⟩ := box2 w (.cells X 33) (.cells Y 33)
  rw [← hW] at hk ha hb
  have hW2 := hW.symm
  have hsw := hs0.kept hk
  have htw := ht0.kept hk
  rw [hX] at ha
  rw [hY] at hb
  have HK := Lib.hid hk
  have a0 : W.cell? ⟨w.heap.size, 0, none⟩ = some (.int .u64 s.hi) := (blk_cell ha 0).trans rfl
  have b0 : W.cell? ⟨w.heap.size + 1, 0, none⟩ = some (.int .u64 t.hi) := (blk_cell hb 0).trans rfl
  have a1 : W.cell? ⟨w.heap.size, 1, none⟩ = some (.int .u64 s.lo) := (blk_cell ha 1).trans rfl
  have b1 : W.cell? ⟨w.heap.size + 1, 1, none⟩ = some (.int .u64 t.lo) := (blk_cell hb 1).trans rfl
  have a2 : W.cell? ⟨w.heap.size, 2, none⟩ = some (.int .u64 s.id) := (blk_cell ha 2).trans rfl
  have b2 : W.cell? ⟨w.heap.size + 1, 2, none⟩ = some (.int .u64 t.id) := (blk_cell hb 2).trans rfl
  have a3 : W.cell? ⟨w.heap.size, 3, none⟩ = some (.int .u64 s.par) := (blk_cell ha 3).trans rfl
  have b3 : W.cell? ⟨w.heap.size + 1, 3, none⟩ = some (.int .u64 t.par) := (blk_cell hb 3).trans rfl
  have a4 : W.cell? ⟨w.heap.size, 4, none⟩ = some (.slice slA s.links.length slc) := (blk_cell ha 4).trans rfl
  have b4 : W.cell? ⟨w.heap.size + 1, 4, none⟩ = some (.slice tlA t.links.length tlc) := (blk_cell hb 4).trans rfl
  have a5 : W.cell? ⟨w.heap.size, 5, none⟩ = some (.string s.svc) := (blk_cell ha 5).trans rfl
  have b5 : W.cell? ⟨w.heap.size + 1, 5, none⟩ = some (.string t.svc) := (blk_cell hb 5).trans rfl
  have a6 : W.cell? ⟨w.heap.size, 6, none⟩ = some (.string s.op) := (blk_cell ha 6).trans rfl
  have b6 : W.cell? ⟨w.heap.size + 1, 6, none⟩ = some (.string t.op) := (blk_cell hb 6).trans rfl
  have a7 : W.cell? ⟨w.heap.size, 7, none⟩ = some (.int .i64 s.kind) := (blk_cell ha 7).trans rfl
  have b7 : W.cell? ⟨w.heap.size + 1, 7, none⟩ = some (.int .i64 t.kind) := (blk_cell hb 7).trans rfl
  have a8 : W.cell? ⟨w.heap.size, 8, none⟩ = some (.int .i64 s.st) := (blk_cell ha 8).trans rfl
  have b8 : W.cell? ⟨w.heap.size + 1, 8, none⟩ = some (.int .i64 t.st) := (blk_cell hb 8).trans rfl
  have a9 : W.cell? ⟨w.heap.size, 9, none⟩ = some (.int .i64 s.start) := (blk_cell ha 9).trans rfl
  have b9 : W.cell? ⟨w.heap.size + 1, 9, none⟩ = some (.int .i64 t.start) := (blk_cell hb 9).trans rfl
  have a10 : W.cell? ⟨w.heap.size, 10, none⟩ = some (.int .i64 s.fin) := (blk_cell ha 10).trans rfl
  have b10 : W.cell? ⟨w.heap.size + 1, 10, none⟩ = some (.int .i64 t.fin) := (blk_cell hb 10).trans rfl
  have a11 : W.cell? ⟨w.heap.size, 11, none⟩ = some (.slice saA s.ats.length sac) := (blk_cell ha 11).trans rfl
  have b11 : W.cell? ⟨w.heap.size + 1, 11, none⟩ = some (.slice taA t.ats.length tac) := (blk_cell hb 11).trans rfl
  have a12 : W.cell? ⟨w.heap.size, 12, none⟩ = some (.slice seA s.evs.length sec) := (blk_cell ha 12).trans rfl
  have b12 : W.cell? ⟨w.heap.size + 1, 12, none⟩ = some (.slice teA t.evs.length tec) := (blk_cell hb 12).trans rfl
  have HC : Hid (Calls Tryd.prog 13 #[.agg #[.int .u64 s.hi, .int .u64 s.lo, .int .u64 s.id, .int .u64 s.par, .slice slA s.links.length slc, .string s.svc, .string s.op, .int .i64 s.kind, .int .i64 s.st, .int .i64 s.start, .int .i64 s.fin, .slice saA s.ats.length sac, .slice seA s.evs.length sec], .agg #[.int .u64 t.hi, .int .u64 t.lo, .int .u64 t.id, .int .u64 t.par, .slice tlA t.links.length tlc, .string t.svc, .string t.op, .int .i64 t.kind, .int .i64 t.st, .int .i64 t.start, .int .i64 t.fin, .slice taA t.ats.length tac, .slice teA t.evs.length tec]] W (IntPost (spnC s t) W)) := Lib.hid (compare_any s t _ _ _ _ _ _ W hsw htw)
  rw [← hX, ← hY]
  clear hX hY hs0 ht0 hsw htw hW hk ha hb
  go_enter Tryd.func16, Tryd.ntmps16
  go_wp2_with (go_at_call 13; (with_reducible refine HC.out.mono ?_); rintro e w' ⟨rfl, hk1⟩)
  go_ret
  exact ⟨rfl, HK.out.trans hk1 (fun _ _ e => e) (fun _ _ e => e)⟩

theorem clip54 (A : Option Addr) (n c : Nat) (w : World) (hn : n ≤ c) : Calls Tryd.prog 54 #[.slice A n c] w fun e w' => e = .returned (.slice A n n) ∧ w' = w := by
  go_enter Tryd.func54, Tryd.ntmps54
  go_wp2_with fail
  go_ret
  exact ⟨rfl, rfl⟩

theorem LReads.news {w : World} {A : Addr} {l : List Nat} {c : Nat} (h : LReads w (.slice (some A) l.length c) l) : ∀ (j : Nat) (u : Value), (l.flatMap (fun x : Nat => [Value.int .u64 x]))[j]? = some u → w.cell? (A.add j) = some u := by
  intro j u hju
  obtain ⟨i, x, r, hi, hr, hj, hu⟩ := flat_get (m := 1) (fun _ => rfl) l j u hju
  obtain ⟨A', c', hA, hc⟩ := h
  injection hA with hA _ _
  obtain ⟨b, off, hb, hq⟩ := hc (by have := (List.getElem?_eq_some_iff.1 hi).1; omega)
  rw [hb] at hA
  injection hA with hA
  subst hA
  rw [Addr.add_lit]
  have hr0 : r = 0 := by omega
  subst hr0
  have hu' : some (Value.int .u64 x) = some u := hu
  rw [← hu', hj]
  have := hq i x hi
  simpa using this
theorem LReads.of_own {w : World} {base : Nat} {v : Value} {l : List Nat} (h : w.ownsRow base 26 1 v l.length (l.flatMap (fun x : Nat => [Value.int .u64 x]))) : ∃ A c, v = .slice A l.length c ∧ l.length ≤ c ∧ (∀ A', A = some A' → base ≤ A'.block) ∧ LReads w v l := by
  obtain ⟨A, c, rfl, hn, hab, hc⟩ := own_reads h
  refine ⟨A, c, rfl, hn, hab, A, c, rfl, fun h0 => ?_⟩
  obtain ⟨g, rfl, hcs⟩ := hc h0
  · refine ⟨g, 0, rfl, fun i x hi => ?_⟩
    have := hcs (i * 1 + 0) (.int .u64 x) (by rw [flat_at (m := 1) (fun _ => rfl) l i 0 x hi (by omega)]; rfl)
    simpa using this
theorem LReads.keptS {S : Nat → Prop} {w w' : World} {A : Option Addr} {n c : Nat} {l : List Nat} (h : LReads w (.slice A n c) l) (hk : Kept S w w') (hS : ∀ A', A = some A' → ¬ S A'.block) : LReads w' (.slice A n c) l := by
  obtain ⟨A', c', hA, hc⟩ := h
  injection hA with hA hn hc'
  subst hA hn hc'
  refine ⟨A, c, rfl, fun h0 => ?_⟩
  obtain ⟨b, off, rfl, hq⟩ := hc h0
  have hb := hS _ rfl
  exact ⟨b, off, rfl, fun i x hi => cell_keptS hk (hq i x hi) hb⟩
theorem LReads.clipped {w : World} {A : Option Addr} {n c d : Nat} {l : List Nat} (h : LReads w (.slice A n c) l) : LReads w (.slice A n d) l := by
  obtain ⟨A', c', hA, hc⟩ := h
  injection hA with hA hn hc'
  subst hA hn
  exact ⟨A, d, rfl, hc⟩
set_option maxHeartbeats 4000000 in
set_option maxRecDepth 100000 in
theorem clone55 (l : List Nat) (A : Option Addr) (c : Nat) (w : World) (hl : LReads w (.slice A l.length c) l) (h0 : l.length ≤ 1000) : Calls Tryd.prog 55 #[.slice A l.length c] w fun e w' => (∃ B d, e = .returned (.slice B l.length d) ∧ l.length ≤ d ∧ (∀ A', B = some A' → w.heap.size ≤ A'.block) ∧ LReads w' (.slice B l.length d) l) ∧ Kept (fun _ => False) w w' := by
  cases A with
  | none =>
    have hl0 : l.length = 0 := by
      rcases Nat.eq_zero_or_pos l.length with h | h
      · exact h
      · obtain ⟨A', c', hA, hc⟩ := hl
        injection hA with hA _ _
        obtain ⟨b, off, hb, _⟩ := hc h
        rw [hb] at hA
        cases hA
    have hnil := fun (w : World) => Lib.run_eql_slice_nil (P := Tryd.prog) w 27 26 none l.length c 0 0 Tryd.underlying27
    have HZ := Lib.hid hl0
    clear hl0
    go_enter Tryd.func55, Tryd.ntmps55
    go_wp2_with fail
    go_ret
    exact ⟨⟨none, 0, by rw [HZ.out]; rfl, by rw [HZ.out]; omega, (fun _ h => by cases h), none, 0, rfl, fun h => by have := HZ.out; omega⟩, Kept.refl _ _⟩
  | some A =>
    obtain ⟨i0, hi, hz0, hz1, hz2⟩ := info_parts inf26
    have HL := Lib.hid hl.news
    clear hl
    have hnil := fun (w : World) => Lib.run_eql_slice_nil (P := Tryd.prog) w 27 26 (some A) l.length c 0 0 Tryd.underlying27
    go_enter Tryd.func55, Tryd.ntmps55
    go_wp2_with (at_builtin; refine wpList_append_own_at _ rfl _ _ 27 rfl w.heap.size 26 i0 (.int .u64 0) 1 8 Tryd.underlying27 hi hz0 hz1 hz2 rfl (by decide) _ _ _ rfl (own_made0 w 26 1) A l.length c (l.flatMap (fun x : Nat => [Value.int .u64 x])) rfl ?c1 ?c0 ?c2 ?c3 ?c4 ?c5 ?_)
    case c1 => exact flat_len (m := 1) (fun _ => rfl) l
    case c0 => exact fun j u hu => Lib.cell?_alloc_some _ (HL.out j u hu)
    case c2 =>
      intro u hu
      obtain ⟨x, _, hx⟩ := List.mem_flatMap.1 hu
      simp at hx
      subst hx; rfl
    case c3 => simp [maxLen]; omega
    case c4 => simp; omega
    case c5 => simp
    intro v' w1 hown hg hnl hat
    have hk : Kept (fun _ => False) w w1 := (Kept.alloc (fun _ => False) w _).trans (Kept.of_grown (S := fun k => k = w.heap.size) hg (fun k hk => by simpa [Value.ownBlock, eq_comm] using hk)) (fun _ _ e => e) (fun i hi e => by omega)
    obtain ⟨B, d, rfl, hd, hab, hR⟩ := LReads.of_own hown
    have HR := Lib.hid hR
    have HKk := Lib.hid hk
    clear hown hR hk hg hat hnl
    go_wp2_with fail
    go_ret
    exact ⟨⟨B, d, rfl, hd, hab, HR.out⟩, HKk.out⟩

theorem clip56 (A : Option Addr) (n c : Nat) (w : World) (hn : n ≤ c) : Calls Tryd.prog 56 #[.slice A n c] w fun e w' => e = .returned (.slice A n n) ∧ w' = w := by
  go_enter Tryd.func56, Tryd.ntmps56
  go_wp2_with fail
  go_ret
  exact ⟨rfl, rfl⟩

theorem TReads.news {w : World} {A : Addr} {l : List Atr} {c : Nat} (h : TReads w (.slice (some A) l.length c) l) : ∀ (j : Nat) (u : Value), (l.flatMap Atr.cells)[j]? = some u → w.cell? (A.add j) = some u := by
  intro j u hju
  obtain ⟨i, x, r, hi, hr, hj, hu⟩ := flat_get (m := 4) (fun _ => rfl) l j u hju
  obtain ⟨A', c', hA, hc⟩ := h
  injection hA with hA _ _
  obtain ⟨b, off, hb, hq⟩ := hc (by have := (List.getElem?_eq_some_iff.1 hi).1; omega)
  rw [hb] at hA
  injection hA with hA
  subst hA
  rw [Addr.add_lit]
  have h := hq i x hi
  have hr4 : r = 0 ∨ r = 1 ∨ r = 2 ∨ r = 3 := by omega
  rw [hj]
  rcases hr4 with rfl | rfl | rfl | rfl
  · have hu' : some (Value.string x.key) = some u := hu
    rw [← hu']; exact h.1
  · have hu' : some (Value.int .i64 x.k) = some u := hu
    rw [← hu']; exact h.2.1
  · have hu' : some (Value.string x.t) = some u := hu
    rw [← hu']; exact h.2.2.1
  · have hu' : some (Value.int .i64 x.i) = some u := hu
    rw [← hu']; exact h.2.2.2
theorem TReads.of_own {w : World} {base : Nat} {v : Value} {l : List Atr} (h : w.ownsRow base 66 4 v l.length (l.flatMap Atr.cells)) : ∃ A c, v = .slice A l.length c ∧ l.length ≤ c ∧ (∀ A', A = some A' → base ≤ A'.block) ∧ TReads w v l := by
  obtain ⟨A, c, rfl, hn, hab, hc⟩ := own_reads h
  refine ⟨A, c, rfl, hn, hab, A, c, rfl, fun h0 => ?_⟩
  obtain ⟨g, rfl, hcs⟩ := hc h0
  · refine ⟨g, 0, rfl, fun i x hi => ?_⟩
    have h := fun r (hr : r < 4) u (hu : (x.cells)[r]? = some u) => hcs (i * 4 + r) u (by rw [flat_at (m := 4) (fun _ => rfl) l i r x hi hr]; exact hu)
    simp only [Nat.zero_add]
    exact ⟨h 0 (by omega) _ rfl, h 1 (by omega) _ rfl, h 2 (by omega) _ rfl, h 3 (by omega) _ rfl⟩
theorem TReads.keptS {S : Nat → Prop} {w w' : World} {A : Option Addr} {n c : Nat} {l : List Atr} (h : TReads w (.slice A n c) l) (hk : Kept S w w') (hS : ∀ A', A = some A' → ¬ S A'.block) : TReads w' (.slice A n c) l := by
  obtain ⟨A', c', hA, hc⟩ := h
  injection hA with hA hn hc'
  subst hA hn hc'
  refine ⟨A, c, rfl, fun h0 => ?_⟩
  obtain ⟨b, off, rfl, hq⟩ := hc h0
  have hb := hS _ rfl
  exact ⟨b, off, rfl, fun i x hi => have h := hq i x hi; ⟨cell_keptS hk h.1 hb, cell_keptS hk h.2.1 hb, cell_keptS hk h.2.2.1 hb, cell_keptS hk h.2.2.2 hb⟩⟩
theorem TReads.clipped {w : World} {A : Option Addr} {n c d : Nat} {l : List Atr} (h : TReads w (.slice A n c) l) : TReads w (.slice A n d) l := by
  obtain ⟨A', c', hA, hc⟩ := h
  injection hA with hA hn hc'
  subst hA hn
  exact ⟨A, d, rfl, hc⟩
set_option maxHeartbeats 4000000 in
set_option maxRecDepth 100000 in
theorem clone57 (l : List Atr) (A : Option Addr) (c : Nat) (w : World) (hl : TReads w (.slice A l.length c) l) (h0 : l.length ≤ 1000) : Calls Tryd.prog 57 #[.slice A l.length c] w fun e w' => (∃ B d, e = .returned (.slice B l.length d) ∧ l.length ≤ d ∧ (∀ A', B = some A' → w.heap.size ≤ A'.block) ∧ TReads w' (.slice B l.length d) l) ∧ Kept (fun _ => False) w w' := by
  cases A with
  | none =>
    have hl0 : l.length = 0 := by
      rcases Nat.eq_zero_or_pos l.length with h | h
      · exact h
      · obtain ⟨A', c', hA, hc⟩ := hl
        injection hA with hA _ _
        obtain ⟨b, off, hb, _⟩ := hc h
        rw [hb] at hA
        cases hA
    have hnil := fun (w : World) => Lib.run_eql_slice_nil (P := Tryd.prog) w 30 66 none l.length c 0 0 Tryd.underlying30
    have HZ := Lib.hid hl0
    clear hl0
    go_enter Tryd.func57, Tryd.ntmps57
    go_wp2_with fail
    go_ret
    exact ⟨⟨none, 0, by rw [HZ.out]; rfl, by rw [HZ.out]; omega, (fun _ h => by cases h), none, 0, rfl, fun h => by have := HZ.out; omega⟩, Kept.refl _ _⟩
  | some A =>
    obtain ⟨i0, hi, hz0, hz1, hz2⟩ := info_parts inf66
    have HL := Lib.hid hl.news
    clear hl
    have hnil := fun (w : World) => Lib.run_eql_slice_nil (P := Tryd.prog) w 30 66 (some A) l.length c 0 0 Tryd.underlying30
    go_enter Tryd.func57, Tryd.ntmps57
    go_wp2_with (at_builtin; refine wpList_append_own_at _ rfl _ _ 30 rfl w.heap.size 66 i0 (.agg #[.string ⟨#[]⟩, .int .i64 0, .string ⟨#[]⟩, .int .i64 0]) 4 48 Tryd.underlying30 hi hz0 hz1 hz2 rfl (by decide) _ _ _ rfl (own_made0 w 66 4) A l.length c (l.flatMap Atr.cells) rfl ?c1 ?c0 ?c2 ?c3 ?c4 ?c5 ?_)
    case c1 => exact flat_len (m := 4) (fun _ => rfl) l
    case c0 => exact fun j u hu => Lib.cell?_alloc_some _ (HL.out j u hu)
    case c2 =>
      intro u hu
      obtain ⟨x, _, hx⟩ := List.mem_flatMap.1 hu
      simp [Atr.cells] at hx
      rcases hx with rfl | rfl | rfl | rfl <;> rfl
    case c3 => simp [maxLen]; omega
    case c4 => simp; omega
    case c5 => simp
    intro v' w1 hown hg hnl hat
    have hk : Kept (fun _ => False) w w1 := (Kept.alloc (fun _ => False) w _).trans (Kept.of_grown (S := fun k => k = w.heap.size) hg (fun k hk => by simpa [Value.ownBlock, eq_comm] using hk)) (fun _ _ e => e) (fun i hi e => by omega)
    obtain ⟨B, d, rfl, hd, hab, hR⟩ := TReads.of_own hown
    have HR := Lib.hid hR
    have HKk := Lib.hid hk
    clear hown hR hk hg hat hnl
    go_wp2_with fail
    go_ret
    exact ⟨⟨B, d, rfl, hd, hab, HR.out⟩, HKk.out⟩

theorem clip58 (A : Option Addr) (n c : Nat) (w : World) (hn : n ≤ c) : Calls Tryd.prog 58 #[.slice A n c] w fun e w' => e = .returned (.slice A n n) ∧ w' = w := by
  go_enter Tryd.func58, Tryd.ntmps58
  go_wp2_with fail
  go_ret
  exact ⟨rfl, rfl⟩

theorem EReads.news {w : World} {A : Addr} {l : List Evt} {c : Nat} (h : EReads w (.slice (some A) l.length c) l) : ∀ (j : Nat) (u : Value), (l.flatMap Evt.cells)[j]? = some u → w.cell? (A.add j) = some u := by
  intro j u hju
  obtain ⟨i, x, r, hi, hr, hj, hu⟩ := flat_get (m := 2) (fun _ => rfl) l j u hju
  obtain ⟨A', c', hA, hc⟩ := h
  injection hA with hA _ _
  obtain ⟨b, off, hb, hq⟩ := hc (by have := (List.getElem?_eq_some_iff.1 hi).1; omega)
  rw [hb] at hA
  injection hA with hA
  subst hA
  rw [Addr.add_lit]
  have h := hq i x hi
  have hr4 : r = 0 ∨ r = 1 := by omega
  rw [hj]
  rcases hr4 with rfl | rfl
  · have hu' : some (Value.int .i64 x.at_) = some u := hu
    rw [← hu']; exact h.1
  · have hu' : some (Value.string x.n) = some u := hu
    rw [← hu']; exact h.2
theorem EReads.of_own {w : World} {base : Nat} {v : Value} {l : List Evt} (h : w.ownsRow base 68 2 v l.length (l.flatMap Evt.cells)) : ∃ A c, v = .slice A l.length c ∧ l.length ≤ c ∧ (∀ A', A = some A' → base ≤ A'.block) ∧ EReads w v l := by
  obtain ⟨A, c, rfl, hn, hab, hc⟩ := own_reads h
  refine ⟨A, c, rfl, hn, hab, A, c, rfl, fun h0 => ?_⟩
  obtain ⟨g, rfl, hcs⟩ := hc h0
  · refine ⟨g, 0, rfl, fun i x hi => ?_⟩
    have h := fun r (hr : r < 2) u (hu : (x.cells)[r]? = some u) => hcs (i * 2 + r) u (by rw [flat_at (m := 2) (fun _ => rfl) l i r x hi hr]; exact hu)
    simp only [Nat.zero_add]
    exact ⟨h 0 (by omega) _ rfl, h 1 (by omega) _ rfl⟩
theorem EReads.keptS {S : Nat → Prop} {w w' : World} {A : Option Addr} {n c : Nat} {l : List Evt} (h : EReads w (.slice A n c) l) (hk : Kept S w w') (hS : ∀ A', A = some A' → ¬ S A'.block) : EReads w' (.slice A n c) l := by
  obtain ⟨A', c', hA, hc⟩ := h
  injection hA with hA hn hc'
  subst hA hn hc'
  refine ⟨A, c, rfl, fun h0 => ?_⟩
  obtain ⟨b, off, rfl, hq⟩ := hc h0
  have hb := hS _ rfl
  exact ⟨b, off, rfl, fun i x hi => have h := hq i x hi; ⟨cell_keptS hk h.1 hb, cell_keptS hk h.2 hb⟩⟩
theorem EReads.clipped {w : World} {A : Option Addr} {n c d : Nat} {l : List Evt} (h : EReads w (.slice A n c) l) : EReads w (.slice A n d) l := by
  obtain ⟨A', c', hA, hc⟩ := h
  injection hA with hA hn hc'
  subst hA hn
  exact ⟨A, d, rfl, hc⟩
set_option maxHeartbeats 4000000 in
set_option maxRecDepth 100000 in
theorem clone59 (l : List Evt) (A : Option Addr) (c : Nat) (w : World) (hl : EReads w (.slice A l.length c) l) (h0 : l.length ≤ 1000) : Calls Tryd.prog 59 #[.slice A l.length c] w fun e w' => (∃ B d, e = .returned (.slice B l.length d) ∧ l.length ≤ d ∧ (∀ A', B = some A' → w.heap.size ≤ A'.block) ∧ EReads w' (.slice B l.length d) l) ∧ Kept (fun _ => False) w w' := by
  cases A with
  | none =>
    have hl0 : l.length = 0 := by
      rcases Nat.eq_zero_or_pos l.length with h | h
      · exact h
      · obtain ⟨A', c', hA, hc⟩ := hl
        injection hA with hA _ _
        obtain ⟨b, off, hb, _⟩ := hc h
        rw [hb] at hA
        cases hA
    have hnil := fun (w : World) => Lib.run_eql_slice_nil (P := Tryd.prog) w 31 68 none l.length c 0 0 Tryd.underlying31
    have HZ := Lib.hid hl0
    clear hl0
    go_enter Tryd.func59, Tryd.ntmps59
    go_wp2_with fail
    go_ret
    exact ⟨⟨none, 0, by rw [HZ.out]; rfl, by rw [HZ.out]; omega, (fun _ h => by cases h), none, 0, rfl, fun h => by have := HZ.out; omega⟩, Kept.refl _ _⟩
  | some A =>
    obtain ⟨i0, hi, hz0, hz1, hz2⟩ := info_parts inf68
    have HL := Lib.hid hl.news
    clear hl
    have hnil := fun (w : World) => Lib.run_eql_slice_nil (P := Tryd.prog) w 31 68 (some A) l.length c 0 0 Tryd.underlying31
    go_enter Tryd.func59, Tryd.ntmps59
    go_wp2_with (at_builtin; refine wpList_append_own_at _ rfl _ _ 31 rfl w.heap.size 68 i0 (.agg #[.int .i64 0, .string ⟨#[]⟩]) 2 24 Tryd.underlying31 hi hz0 hz1 hz2 rfl (by decide) _ _ _ rfl (own_made0 w 68 2) A l.length c (l.flatMap Evt.cells) rfl ?c1 ?c0 ?c2 ?c3 ?c4 ?c5 ?_)
    case c1 => exact flat_len (m := 2) (fun _ => rfl) l
    case c0 => exact fun j u hu => Lib.cell?_alloc_some _ (HL.out j u hu)
    case c2 =>
      intro u hu
      obtain ⟨x, _, hx⟩ := List.mem_flatMap.1 hu
      simp [Evt.cells] at hx
      rcases hx with rfl | rfl <;> rfl
    case c3 => simp [maxLen]; omega
    case c4 => simp; omega
    case c5 => simp
    intro v' w1 hown hg hnl hat
    have hk : Kept (fun _ => False) w w1 := (Kept.alloc (fun _ => False) w _).trans (Kept.of_grown (S := fun k => k = w.heap.size) hg (fun k hk => by simpa [Value.ownBlock, eq_comm] using hk)) (fun _ _ e => e) (fun i hi e => by omega)
    obtain ⟨B, d, rfl, hd, hab, hR⟩ := EReads.of_own hown
    have HR := Lib.hid hR
    have HKk := Lib.hid hk
    clear hown hR hk hg hat hnl
    go_wp2_with fail
    go_ret
    exact ⟨⟨B, d, rfl, hd, hab, HR.out⟩, HKk.out⟩
end Go.Proofs.YtniigjfimggobaaDoor
