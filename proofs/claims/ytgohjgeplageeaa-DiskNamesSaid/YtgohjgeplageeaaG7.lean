/- Pending. -/
import Derived.Test.YtgohjgeplageeaaG2
namespace Go.Proofs.Ytgohjgeplageeaa
open Go Go.RowKit
set_option linter.unusedVariables false
set_option linter.unusedSimpArgs false
attribute [local go_sem ↓] Go.wp_at_zero Go.wp_at_succ

/-- A row that is read. -/
def Row (w : World) (v : Value) (xs : List Value) : Prop := ∃ A c, v = .slice A xs.length c ∧ (A = none → c = 0) ∧ xs.length ≤ c ∧ ∀ j u, xs[j]? = some u → ∃ ad, A = some ad ∧ w.cell? (ad.add j) = some u
def Dsk.pendL (S : Dsk) : List Int := S.made.mapIdx fun i b => if b = true then ((S.fs.getD i ⟨[], [], []⟩).all : Int) else 0
def PendPost (S : Dsk) (w : World) (e : Ending) (w' : World) : Prop :=
  ∃ g c, e = .returned (.agg #[.int .i64 S.mvs.length, .slice (some ⟨g, 0, none⟩) S.made.length c]) ∧ Row w' (.slice (some ⟨g, 0, none⟩) S.made.length c) (nums .i64 S.pendL) ∧ w.heap.size ≤ g ∧ Kept (fun _ => False) w w'
theorem Try.info3 : (Try.prog.info? 3).map (fun i => (i.zero, i.size, i.bytes)) = some (some (.int .i64 0), 1, 8) := by kernel_rfl
def zeros (n : Nat) : Array Value := madeCells (Value.int .i64 0).cells n
theorem zeros_list (n : Nat) : (zeros n).toList = List.replicate n (.int .i64 0) := toList_madeCells_one _ _
theorem mk_ints (W : World) (n : Nat) (hn : n ≤ 1000000000000) : (Instr.makeSlice 24 (.int .i64 (n : Int)) (.int .i64 (n : Int))).run Try.prog W = .ok (.slice (some ⟨W.heap.size, 0, none⟩) n n) (W.alloc (.cells (zeros n) 3)) := by
  obtain ⟨i, hi, hz, h1, h2⟩ := info_parts Try.info3
  have := run_make (P := Try.prog) W 24 3 i (.int .i64 0) Try.underlying24 hi hz .i64 .i64 n n (by omega) (Int.le_refl _) (by rw [h2]; omega) (by omega)
  rw [h1] at this
  simpa [zeros] using this
theorem pend_same {cs : Array Value} {P : List Int} {j L : Nat} (h : cs.toList = nums .i64 (P.take j) ++ List.replicate (L - j) (.int .i64 0)) (hj : j < L) (hp : P[j]? = some 0) : cs.toList = nums .i64 (P.take (j + 1)) ++ List.replicate (L - (j + 1)) (.int .i64 0) := by
  rw [h, take_snoc hp, show L - j = (L - (j + 1)) + 1 by omega, List.replicate_succ]
  unfold nums
  rw [List.map_append, List.append_assoc]
  rfl
theorem pend_store {cs : Array Value} {P : List Int} {j L : Nat} {x : Int} (h : cs.toList = nums .i64 (P.take j) ++ List.replicate (L - j) (.int .i64 0)) (hj : j < L) (hp : P[j]? = some x) : (cs.setIfInBounds j (.int .i64 x)).toList = nums .i64 (P.take (j + 1)) ++ List.replicate (L - (j + 1)) (.int .i64 0) := by
  have hl : (nums .i64 (P.take j)).length = j := by
    have := (List.getElem?_eq_some_iff.1 hp).1
    simp [nums]; omega
  rw [Array.toList_setIfInBounds, h, take_snoc hp, show L - j = (L - (j + 1)) + 1 by omega, List.replicate_succ, List.set_append_right _ _ (by omega), hl, Nat.sub_self, List.set_cons_zero]
  unfold nums
  rw [List.map_append, List.append_assoc]
  rfl
theorem Try.size26 : (Try.prog.info? 26).map (·.size) = some 2 := by kernel_rfl
theorem ret26 {a : Act} {fn : Func} {Q : Ending → World → Prop} {W : World} {p : Tmp} (h : fn.results = #[.cell p 26]) (g : Nat) (cs : Array Value) {t : TypeId} {fr : Nat × Nat} (hd : a.defers = [])
    (hp : a.tmps.getD p undef = .pointer (some ⟨g, 0, none⟩)) (hb : W.heap[g]? = some (.cells cs t fr)) (hn : cs.size = 2) (hR : Q (.returned (.agg cs)) W) : bodyPost Try.prog fn Q .ret a W :=
  bodyPost_ret_by (results_cell_row h a.tmps W g t cs fr _ hp hb Try.underlying26 rfl (by rw [Try.size26, hn])) hd hR
/-- Two cells of a block are stored. -/
theorem set_two {W : World} {q : Nat} {a b c d : Value} {t : TypeId} (h : W.heap[q]? = some (.cells #[a, b] t (0, 0))) : ((W.setCell ⟨q, 0, none⟩ c).setCell ⟨q, 1, none⟩ d).heap[q]? = some (.cells #[c, d] t (0, 0)) ∧ Kept (fun k => k = q) W ((W.setCell ⟨q, 0, none⟩ c).setCell ⟨q, 1, none⟩ d) :=
  ⟨blk_set (blk_set h 0 c) 1 d, (Kept.setCell (S := fun k => k = q) _ _ _ rfl).trans (Kept.setCell (S := fun k => k = q) _ _ _ rfl) (fun _ _ e => e) (fun _ _ e => e)⟩
/-- Where the answer lies, ahead of the loop. -/
def PStart (S : Dsk) (Z : Array Value) (W wx : World) (k : Value) : Prop :=
  ∃ r g, k = .pointer (some ⟨r, 0, none⟩) ∧ wx.heap[r]? = some (.cells #[.int .i64 S.mvs.length, .slice (some ⟨g, 0, none⟩) S.made.length S.made.length] 26 (0, 0)) ∧ wx.heap[g]? = some (.cells Z 3 (0, 0)) ∧ W.heap.size ≤ r ∧ W.heap.size ≤ g ∧ r ≠ g ∧ Kept (fun _ => False) W wx
theorem pstart1 (S : Dsk) (Z : Array Value) (W : World) : PStart S Z W ((W.alloc (.cells Z 3)).alloc (.cells #[.int .i64 S.mvs.length, .slice (some ⟨W.heap.size, 0, none⟩) S.made.length S.made.length] 26)).drew (.pointer (some ⟨W.heap.size + 1, 0, none⟩)) := by
  have e : (W.alloc (.cells Z 3)).heap.size = W.heap.size + 1 := by simp
  have h1 := heap_alloc_new (W.alloc (.cells Z 3)) (.cells #[.int .i64 S.mvs.length, .slice (some ⟨W.heap.size, 0, none⟩) S.made.length S.made.length] 26)
  rw [e] at h1
  have h2 := blk_kept (Kept.alloc (fun _ => False) (W.alloc (.cells Z 3)) (.cells #[.int .i64 S.mvs.length, .slice (some ⟨W.heap.size, 0, none⟩) S.made.length S.made.length] 26)) (heap_alloc_new W (.cells Z 3)) (fun e => e)
  exact ⟨_, W.heap.size, rfl, h1, h2, by omega, Nat.le_refl _, by omega, kept0 (kept0 (Kept.alloc _ _ _) (Kept.alloc _ _ _)) (Kept.drew _ _)⟩
theorem pstart2 (S : Dsk) (Z : Array Value) (W : World) : PStart S Z W ((W.alloc (.cells #[.int .i64 S.mvs.length, .slice (some ⟨W.heap.size + 1, 0, none⟩) S.made.length S.made.length] 26)).alloc (.cells Z 3)).drew (.pointer (some ⟨W.heap.size, 0, none⟩)) := by
  have e : (W.alloc (.cells #[.int .i64 S.mvs.length, .slice (some ⟨W.heap.size + 1, 0, none⟩) S.made.length S.made.length] 26)).heap.size = W.heap.size + 1 := by simp
  have h1 := heap_alloc_new (W.alloc (.cells #[.int .i64 S.mvs.length, .slice (some ⟨W.heap.size + 1, 0, none⟩) S.made.length S.made.length] 26)) (.cells Z 3)
  rw [e] at h1
  have h2 := blk_kept (Kept.alloc (fun _ => False) (W.alloc (.cells #[.int .i64 S.mvs.length, .slice (some ⟨W.heap.size + 1, 0, none⟩) S.made.length S.made.length] 26)) (.cells Z 3)) (heap_alloc_new W (.cells #[.int .i64 S.mvs.length, .slice (some ⟨W.heap.size + 1, 0, none⟩) S.made.length S.made.length] 26)) (fun e => e)
  exact ⟨_, W.heap.size + 1, rfl, h2, h1, Nat.le_refl _, by omega, by omega, kept0 (kept0 (Kept.alloc _ _ _) (Kept.alloc _ _ _)) (Kept.drew _ _)⟩
set_option maxHeartbeats 4000000 in
set_option maxRecDepth 100000 in
theorem pend_any {w : World} {C : Col} {δ d N : Nat} {S : Dsk} (h : DskAt w C δ d N S) (hN : N ≤ 1000000000000) :
    Calls Try.prog 23 #[.pointer (some ⟨d, 0, none⟩)] w (PendPost S w) := by
  obtain ⟨h0, ml, ms, vm, vd, ad, h⟩ := h
  have hb : DBlk w d ml ms vm vd S.off S.arm S.how S.uni := h.blk
  obtain ⟨Am, cm, rfl⟩ := own_slice h.mv
  obtain ⟨Ad, cd, rfl⟩ := own_slice h.md
  have q1 := hb.c1
  have q3 := hb.c3
  have hlen : S.made.length ≤ 1000000000000 := by have := h0.nfs; have := h0.len; omega
  have hlm : S.mvs.length ≤ 1000000000000 := by have := h0.nmv; omega
  have H := Lib.hid (And.intro h0 h)
  have HB := Lib.hid hb
  clear h0 h hb
  go_enter Try.func23, Try.ntmps23
  go_upto_region 1 with fail
  obtain ⟨Z, hmk, hZ⟩ : ∃ Z, (∀ W, (Instr.makeSlice 24 (.int .i64 (S.made.length : Int)) (.int .i64 (S.made.length : Int))).run Try.prog W = .ok (.slice (some ⟨W.heap.size, 0, none⟩) S.made.length S.made.length) (W.alloc (.cells Z 3))) ∧ Hid (Z = zeros S.made.length) := ⟨_, fun W => mk_ints W S.made.length hlen, Lib.hid rfl⟩
  have B1 := HB.out.kept (Kept.alloc (fun _ => False) w (.cells #[.int .i64 0, .slice none 0 0] 26)) (fun e => e)
  obtain ⟨W, hW⟩ : ∃ W, W = w.alloc (.cells #[.int .i64 0, .slice none 0 0] 26) := ⟨_, rfl⟩
  have HW := Lib.hid hW
  rw [← hW] at B1 ⊢
  clear hW q1 q3
  have p1 := B1.c1
  have p3 := B1.c3
  have p1d : W.drew.cell? ⟨d, 1, none⟩ = _ := B1.c1
  have p3d : W.drew.cell? ⟨d, 3, none⟩ = _ := B1.c3
  have p1a := fun o => (show DBlk (W.alloc o) _ _ _ _ _ _ _ _ _ from B1.kept (Kept.alloc (fun _ => False) W o) (fun e => e)).c1
  have p3a := fun o => (show DBlk (W.alloc o) _ _ _ _ _ _ _ _ _ from B1.kept (Kept.alloc (fun _ => False) W o) (fun e => e)).c3
  have p1b := fun o => (show DBlk (W.drew.alloc o) _ _ _ _ _ _ _ _ _ from (show DBlk W.drew _ _ _ _ _ _ _ _ _ from B1).kept (Kept.alloc (fun _ => False) W.drew o) (fun e => e)).c1
  have p3b := fun o => (show DBlk (W.drew.alloc o) _ _ _ _ _ _ _ _ _ from (show DBlk W.drew _ _ _ _ _ _ _ _ _ from B1).kept (Kept.alloc (fun _ => False) W.drew o) (fun e => e)).c3
  have p1c := fun o o' => (show DBlk ((W.alloc o).alloc o') _ _ _ _ _ _ _ _ _ from (B1.kept (Kept.alloc (fun _ => False) W o) (fun e => e)).kept (Kept.alloc (fun _ => False) _ o') (fun e => e)).c1
  have p3c := fun o o' => (show DBlk ((W.alloc o).alloc o') _ _ _ _ _ _ _ _ _ from (B1.kept (Kept.alloc (fun _ => False) W o) (fun e => e)).kept (Kept.alloc (fun _ => False) _ o') (fun e => e)).c3
  have HB1 := Lib.hid B1
  clear B1
  go_cut [3] (fun k wx => PStart S Z W wx k)
  case first =>
    go_region_law (fail)
    all_goals (go_wp2_with fail; go_meet; first | exact pstart1 S Z W | exact pstart2 S Z W)
  case rest =>
    obtain ⟨r, g, rfl, hr, hg, hrW, hgW, hrg, hkW⟩ := hcut
    have hsW : w.heap.size < W.heap.size := by rw [HW.out]; simp
    have k0 : Kept (fun _ => False) w wc := kept0 (by rw [HW.out]; exact Kept.alloc _ _ _) hkW
    have B2 := HB1.out.kept hkW (fun e => e)
    have q3 := B2.c3
    have hres := blk_kept hkW (show W.heap[w.heap.size]? = some (.cells #[.int .i64 0, .slice none 0 0] 26 (0, 0)) by rw [HW.out]; exact heap_alloc_new _ _) (fun e => e)
    have hne1 : r ≠ w.heap.size := by omega
    have hne2 : g ≠ w.heap.size := by omega
    have G := Lib.hid (And.intro hr (And.intro hg (And.intro hrW (And.intro hgW (And.intro hrg (And.intro k0 (And.intro hsW hres)))))))
    clear hr hg hrW hgW hrg k0 B2 hkW hres HW hsW p1 p3 p1d p3d p1a p3a p1b p3b p1c p3c hmk
    go_wp2_with fail
    go_loopw [23] (fun i wr => ∃ j : Nat, i = .int .i64 j ∧ j ≤ S.made.length ∧ wr.heap[r]? = some (.cells #[.int .i64 S.mvs.length, .slice (some ⟨g, 0, none⟩) S.made.length S.made.length] 26 (0, 0)) ∧ (∃ cs : Array Value, wr.heap[g]? = some (.cells cs 3 (0, 0)) ∧ cs.toList = nums .i64 (S.pendL.take j) ++ List.replicate (S.made.length - j) (.int .i64 0)) ∧ wr.heap[w.heap.size]? = some (.cells #[.int .i64 0, .slice none 0 0] 26 (0, 0)) ∧ Kept (fun _ => False) w wr) (fun i _ => S.made.length - (intOf i).toNat)
    case atStart =>
      obtain ⟨hr, hg, hrW, hgW, hrg, k0, hsW, hres⟩ := G.out
      exact ⟨0, rfl, Nat.zero_le _, hr, ⟨Z, hg, by rw [hZ.out, zeros_list]; rfl⟩, hres, k0⟩
    case round =>
      obtain ⟨j, rfl, hj, hr, ⟨cs, hg, hcs⟩, hres, hk⟩ := hrel
      by_cases hlt : j < S.made.length
      · have j1 : (j : Int) < S.made.length := by omega
        have j0 : (0 : Int) ≤ j := by omega
        obtain ⟨b, hb⟩ : ∃ b, S.made[j]? = some b := ⟨_, List.getElem?_eq_getElem hlt⟩
        obtain ⟨Ad', cd', eA, hcA, hcell⟩ := own_at1 H.out.2.md
        injection eA with e1 e2 e3
        subst e1 e3
        have hmc : (mdC ad S.made)[j]? = some (mdV ad j b) := by unfold mdC; rw [List.getElem?_mapIdx, hb]; rfl
        obtain ⟨adr, rfl, hcl⟩ := hcell j _ hmc
        replace hcl := kept_cell hk hcl (fun e => e)
        have hpj : S.pendL[j]? = some (if b = true then ((S.fs.getD j ⟨[], [], []⟩).all : Int) else 0) := by unfold Dsk.pendL; rw [List.getElem?_mapIdx, hb]; rfl
        cases b with
        | false =>
          replace hcl : wr.cell? (adr.add j) = some (.pointer none) := hcl
          have E := Lib.hid (And.intro hr (And.intro (pend_same hcs hlt hpj) (And.intro hg (And.intro hres hk))))
          clear hr hcs hg hres hk hpj hmc hb hcell e2
          go_wp2_with fail
          obtain ⟨hr, hcs, hg, hres, hk⟩ := E.out
          exact ⟨⟨j + 1, by congr 1, by omega, hr, ⟨cs, hg, hcs⟩, hres, hk⟩, by simp [intOf]; omega⟩
        | true =>
          replace hcl : wr.cell? (adr.add j) = some (.pointer (some ⟨ad j, 0, none⟩)) := hcl
          have hlf : j < S.fs.length := by have := H.out.1.len; omega
          have hF := List.getElem?_eq_getElem hlf
          obtain ⟨F, hFF⟩ : ∃ F, F = S.fs[j]'hlf := ⟨_, rfl⟩
          rw [← hFF] at hF
          obtain ⟨vl, vp, vs, us, hFA⟩ := H.out.2.fl j F hF (by rw [List.getD_eq_getElem?_getD, hb]; rfl)
          have hall : (if true = true then ((S.fs.getD j ⟨[], [], []⟩).all : Int) else 0) = (F.all : Int) := by rw [if_pos rfl, List.getD_eq_getElem?_getD, hF]; rfl
          rw [hall] at hpj
          have hnb := H.out.1.nby F (List.mem_of_getElem? hF)
          have hn1 : allL F.pen ≤ 140737488355328 := by omega
          have hn2 : F.pen.length ≤ 140737488355328 := by omega
          have hPl : S.pendL.length = S.made.length := by simp [Dsk.pendL]
          have hsz : j < cs.size := by
            have := congrArg List.length hcs
            simp only [Array.length_toList, List.length_append, List.length_replicate, nums, List.length_map, List.length_take] at this
            omega
          have r0 := (blk_cell hr 1).trans (show _ = some (.slice (some ⟨g, 0, none⟩) S.made.length S.made.length) from rfl)
          have r0d : wr.drew.cell? ⟨r, 1, none⟩ = _ := r0
          obtain ⟨u, hu⟩ : ∃ u, cs[j]? = some u := ⟨_, Array.getElem?_eq_getElem hsz⟩
          have E := Lib.hid (And.intro hr (And.intro (pend_store hcs hlt hpj) (And.intro hg (And.intro hres (And.intro hk (And.intro hFA hu))))))
          clear hr hcs hg hres hk hpj hmc hb hcell e2 hFA hF hnb hFF hall hu hPl hsz
          go_upto_region 6 with fail
          go_region_law (go_simp; go_at_call 42; refine (all_any (E.out.2.2.2.2.2.1.kept (kept0 E.out.2.2.2.2.1 (Kept.drew _ _)) (fun _ _ _ e => e) (Agr.refl _ _)) hn1 hn2).mono ?_; rintro e w2 ⟨rfl, hk2⟩; have y2 := (blk_cell (blk_kept (kept0 (Kept.drew _ _) hk2) E.out.1 (fun e => e)) 1).trans (show _ = some (.slice (some ⟨g, 0, none⟩) S.made.length S.made.length) from rfl); have hg2 := blk_kept (kept0 (Kept.drew _ _) hk2) E.out.2.2.1 (fun e => e); have y3 := (blk_cell hg2 j).trans E.out.2.2.2.2.2.2; have y4 := blk_frozen hg2 j; have K2 := Lib.hid (kept0 (Kept.drew _ _) hk2); clear hg2)
          all_goals
            clear r0 r0d y2 y3 y4
            go_wp2_with fail
            obtain ⟨hr, hcs, hg, hres, hk, -, -⟩ := E.out
            obtain ⟨-, -, hrW, hgW, hrg, -, hsW, -⟩ := G.out
            have hk2 := K2.out
            have hg2 := blk_kept hk2 hg (fun e => e)
            have ks := fun (wz : World) => (Kept.setCell (S := fun k => k = g) wz ⟨g, j, none⟩ (.int .i64 F.all) rfl)
            refine ⟨⟨j + 1, by congr 1, by omega, blk_kept (ks _) (blk_kept hk2 hr (fun e => e)) hrg, ⟨_, blk_set hg2 j _, hcs⟩, blk_kept (ks _) (blk_kept hk2 hres (fun e => e)) (fun e => hne2 e.symm), (kept0 hk hk2).trans (ks _) (fun _ _ e => e) (fun b hb e => by omega)⟩, by simp [intOf]; omega⟩
      · have j1 : ¬ (j : Int) < S.made.length := by omega
        obtain rfl : j = S.made.length := by omega
        have c0 := (blk_cell hr 0).trans (show _ = some (.int .i64 S.mvs.length) from rfl)
        have c1 := (blk_cell hr 1).trans (show _ = some (.slice (some ⟨g, 0, none⟩) S.made.length S.made.length) from rfl)
        have d0 := (blk_cell hres 0).trans (show _ = some (.int .i64 0) from rfl)
        have d1 := (blk_cell hres 1).trans (show _ = some (.slice none 0 0) from rfl)
        have f0 := blk_frozen hres 0
        have f1 := blk_frozen hres 1
        have E := Lib.hid (And.intro hr (And.intro hcs (And.intro hg (And.intro hres hk))))
        clear hr hcs hg hres hk
        go_wp2_with fail
        obtain ⟨hr, hcs, hg, hres, hk⟩ := E.out
        obtain ⟨-, -, hrW, hgW, hrg, -, hsW, -⟩ := G.out
        obtain ⟨t1, t2⟩ := set_two hres (c := .int .i64 S.mvs.length) (d := .slice (some ⟨g, 0, none⟩) S.made.length S.made.length)
        refine ret26 (p := 2) rfl w.heap.size #[.int .i64 S.mvs.length, .slice (some ⟨g, 0, none⟩) S.made.length S.made.length] rfl rfl t1 rfl ?_
        have hPl : S.pendL.length = S.made.length := by simp [Dsk.pendL]
        have hcs2 : cs.toList = nums .i64 S.pendL := by rw [hcs, Nat.sub_self, List.replicate_zero, List.append_nil, ← hPl, List.take_length]
        have hg2 := blk_kept t2 hg hne2
        have hlen2 : (nums .i64 S.pendL).length = S.made.length := by simp [nums, hPl]
        refine ⟨g, S.made.length, rfl, ⟨some ⟨g, 0, none⟩, S.made.length, by rw [hlen2], (fun e => by cases e), by omega, fun j u hu => ⟨_, rfl, ?_⟩⟩, by omega, hk.trans t2 (fun _ _ e => e) (fun b hb e => by omega)⟩
        rw [Addr.add_lit, Nat.zero_add, blk_cell hg2, ← hu, ← hcs2, Array.getElem?_toList]
end Go.Proofs.Ytgohjgeplageeaa
