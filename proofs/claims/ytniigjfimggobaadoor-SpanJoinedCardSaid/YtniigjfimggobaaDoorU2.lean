/- Check: linked, carried, told (the walks). -/
import Derived.Test.YtniigjfimggobaaDoorU1
import Derived.Test.YtniigjfimggobaaDoorT5
namespace Go.Proofs.YtniigjfimggobaaDoor
open Go.RowKit
set_option linter.unusedVariables false
set_option linter.unusedSimpArgs false

set_option maxHeartbeats 4000000 in
theorem linked_any (s : Spn) (lv av ev : Value) (w : World) (hs : SReads w s lv av ev) : Calls Tryd.prog 19 #[.agg (s.cells lv av ev)] w (BoolPost (linkedS s) w) := by
  obtain ⟨X, hX⟩ : ∃ X, X = s.cells lv av ev := ⟨_, rfl⟩
  obtain ⟨W, hW⟩ : ∃ W, W = w.alloc (.cells X 33) := ⟨_, rfl⟩
  have hk : Kept (fun _ => False) w W := by rw [hW]; exact .alloc _ _ _
  have hb : W.heap[w.heap.size]? = some (.cells X 33 (0, 0)) := by rw [hW]; exact heap_alloc_new w _
  have hL := hs.links.kept hk
  have hl0 := hs.l0
  obtain ⟨A, c, rfl, hca⟩ := hL
  have c2 : W.cell? ⟨w.heap.size, 2, none⟩ = some (.int .u64 s.id) := (blk_cell hb 2).trans (by rw [hX]; rfl)
  have c4 : W.cell? ⟨w.heap.size, 4, none⟩ = some (.slice A s.links.length c) := (blk_cell hb 4).trans (by rw [hX]; rfl)
  have hW2 := hW.symm
  rw [← hX]
  have HC := Lib.hid hca
  have HK := Lib.hid hk
  clear hca hW hX hb hs hk
  have hdef : linkedS s = (risesS s.id 0 s.links && decide (s.links.length ≤ 16)) := rfl
  go_enter Tryd.func19, Tryd.ntmps19
  go_wp2_with fail
  go_loopw [3, 9] (fun t i wr => ∃ (k last : Nat), i = .int .i64 k ∧ t = .int .u64 last ∧ k ≤ s.links.length ∧ risesS s.id 0 s.links = risesS s.id last (s.links.drop k) ∧ wr = W) (fun t i _ => s.links.length - (intOf i).toNat)
  case atStart => exact ⟨0, 0, rfl, rfl, by omega, by simp, rfl⟩
  case round =>
    obtain ⟨k, last, rfl, rfl, hk, ho, rfl⟩ := hrel
    have k0 : (0 : Int) ≤ k := by omega
    by_cases h : k < s.links.length
    · obtain ⟨x, hx⟩ : ∃ x, s.links[k]? = some x := ⟨_, List.getElem?_eq_getElem h⟩
      obtain ⟨b, off, rfl, hcs⟩ := HC.out (by omega)
      have hcell := hcs k x hx
      have k1 : (k : Int) < s.links.length := by omega
      rw [drop_get' hx] at ho
      have ho2 : risesS s.id 0 s.links = (decide (last < x ∧ x ≠ s.id) && risesS s.id x (s.links.drop (k + 1))) := ho
      clear ho
      by_cases e1 : last < x
      case neg =>
        have HO := Lib.hid (show linkedS s = false by rw [hdef, ho2]; simp [e1])
        have f1 : (x ≤ last) = True := eq_true (by omega)
        clear ho2 hx hcs hdef
        go_wp2_with fail
        go_ret
        exact ⟨by rw [HO.out]; rfl, HK.out⟩
      have f1 : (x ≤ last) = False := eq_false (by omega)
      by_cases e2 : x = s.id
      case pos =>
        have HO := Lib.hid (show linkedS s = false by rw [hdef, ho2]; simp [e2])
        have f2 : ((x : Int) == s.id) = true := by rw [e2]; simp
        have E2 := Lib.hid e2
        clear ho2 hx hcs hdef e2
        go_wp2_with fail
        go_ret
        exact ⟨by rw [HO.out]; rfl, HK.out⟩
      have f2 : ((x : Int) == s.id) = false := by simp; omega
      have HO := Lib.hid (show risesS s.id 0 s.links = risesS s.id x (s.links.drop (k + 1)) by rw [ho2]; simp [e1, e2])
      clear ho2 hx hcs e2
      go_wp2_with fail
      exact ⟨⟨k + 1, x, by congr 1, rfl, by omega, HO.out, trivial⟩, by simp [intOf]; omega⟩
    · have k1 : ¬ (k : Int) < s.links.length := by omega
      have HO := Lib.hid (show linkedS s = decide ((s.links.length : Int) ≤ 16) by
        have e : decide ((s.links.length : Int) ≤ 16) = decide (s.links.length ≤ 16) := decide_eq_decide.2 (by omega)
        rw [e, hdef, ho, List.drop_eq_nil_of_le (by omega)]; rfl)
      clear ho h hdef
      go_wp2_with fail
      go_ret
      exact ⟨by rw [HO.out]; rfl, HK.out⟩

theorem less_c : ∀ (a b : List UInt8), Op.bytesLess a b = decide (Lib.compareBytes a b < 0)
  | [], [] => rfl
  | [], _ :: _ => rfl
  | _ :: _, [] => rfl
  | a :: x, b :: y => by
    simp only [Op.bytesLess, Lib.compareBytes]
    by_cases h1 : a < b
    · simp [h1]
    · by_cases h2 : b < a
      · have h3 : a ≠ b := fun e => by subst e; exact h1 h2
        simp [h1, h2, h3]
      · have h3 : a = b := by
          have g1 : ¬ a.toNat < b.toNat := fun h => h1 (UInt8.lt_iff_toNat_lt.2 h)
          have g2 : ¬ b.toNat < a.toNat := fun h => h2 (UInt8.lt_iff_toNat_lt.2 h)
          exact UInt8.toNat_inj.1 (by omega)
        subst h3
        simp [h1, less_c x y]
theorem less_str (a b : ByteArray) : Op.bytesLess a.toList b.toList = decide (strC a b < 0) := by
  rw [ByteArray.toList_eq, ByteArray.toList_eq]; exact less_c _ _
def prevOf {α : Type} (l : List α) (k : Nat) : Option α := if k = 0 then none else l[k - 1]?
set_option maxHeartbeats 4000000 in
theorem carried_any (l : List Atr) (v : Value) (w : World) (hl : TReads w v l) (h0 : l.length ≤ 9223372036854775807) (hz : ∀ x ∈ l, x.key.size ≤ 9223372036854775807 ∧ x.t.size ≤ 9223372036854775807) (hU : Lib.Utf8Tabs 0 1 w) : Calls Tryd.prog 20 #[v] w (BoolPost (carriedS l) w) := by
  have hdef : carriedS l = (carriesS none l && decide (l.length ≤ 32)) := rfl
  have hl2 := hl
  obtain ⟨A, c, rfl, -⟩ := hl2
  have HL := Lib.hid hl
  have HU := Lib.hid hU
  clear hl hU
  go_enter Tryd.func20, Tryd.ntmps20
  go_wp2_with fail
  go_loopw [7] (fun i wr => ∃ (k : Nat), i = .int .i64 k ∧ k ≤ l.length ∧ carriesS none l = carriesS (prevOf l k) (l.drop k) ∧ Kept (fun _ => False) w wr) (fun i _ => l.length - (intOf i).toNat)
  case atStart => exact ⟨0, rfl, by omega, by simp [prevOf], Kept.refl _ _⟩
  case round =>
    obtain ⟨k, rfl, hk, ho, hkw⟩ := hrel
    have k0 : (0 : Int) ≤ k := by omega
    by_cases h : k < l.length
    · obtain ⟨x, hx⟩ : ∃ x, l[k]? = some x := ⟨_, List.getElem?_eq_getElem h⟩
      have hT := HL.out.kept hkw
      obtain ⟨A', c', hA', hca⟩ := id hT
      injection hA' with ea _ ec
      subst ea ec
      obtain ⟨b, off, rfl, hcs⟩ := hca (by omega)
      obtain ⟨c0, c1, c2, c3⟩ := hcs k x hx
      have k1 : (k : Int) < l.length := by omega
      obtain ⟨W, hW⟩ : ∃ W, W = wr.alloc (.cells #[.string x.key, .int .i64 x.k, .string x.t, .int .i64 x.i] 66) := ⟨_, rfl⟩
      have hkW : Kept (fun _ => False) wr W := by rw [hW]; exact .alloc _ _ _
      have hb : W.heap[wr.heap.size]? = some (.cells #[.string x.key, .int .i64 x.k, .string x.t, .int .i64 x.i] 66 (0, 0)) := by rw [hW]; exact heap_alloc_new wr _
      have hT2 := hT.kept hkW
      have a0 : W.cell? ⟨wr.heap.size, 0, none⟩ = some (.string x.key) := (blk_cell hb 0).trans rfl
      have a1 : W.cell? ⟨wr.heap.size, 1, none⟩ = some (.int .i64 x.k) := (blk_cell hb 1).trans rfl
      have a2 : W.cell? ⟨wr.heap.size, 2, none⟩ = some (.string x.t) := (blk_cell hb 2).trans rfl
      have a3 : W.cell? ⟨wr.heap.size, 3, none⟩ = some (.int .i64 x.i) := (blk_cell hb 3).trans rfl
      have A0 := fun p : Later W => p.cell a0
      have A1 := fun p : Later W => p.cell a1
      have A2 := fun p : Later W => p.cell a2
      have A3 := fun p : Later W => p.cell a3
      have hW2 := hW.symm
      have HX := Lib.hid hx
      have HKW := Lib.hid (hkw.trans hkW (fun _ _ e => e) (fun _ _ e => e))
      have cK := fun p : Later W => Calls.later_of (keyed_any x.key p.w' (hz x (List.mem_of_getElem? hx)).1)
      have cV := fun p : Later W => Calls.later_of (valued_any x p.w' (hz x (List.mem_of_getElem? hx)).2 (Utf8Tabs.kept HU.out (p.old HKW.out) (fun h => h) (fun h => h)))
      have HC := Lib.hid (And.intro cK cV)
      have hst : carriesS none l = ((keyedS x.key && valuedS x && (match prevOf l k with | none => true | some y => decide (strC y.key x.key < 0))) && carriesS (some x) (l.drop (k + 1))) := by
        rw [ho, drop_get' hx]
        cases prevOf l k <;> rfl
      clear hx hcs hca hT hkw hkW a0 a1 a2 a3 hW cK cV hb ho
      cases hke : keyedS x.key with
      | false =>
        have HO := Lib.hid (show carriedS l = false by rw [hdef, hst, hke]; rfl)
        rw [hke] at HC
        clear hst hke hdef hT2
        go_wp2_with fail
        refine wp_region_later (by kernel_rfl) (by kernel_rfl) ?_
        repeat (go_big_quiet_step (first | exact HC.out.1 _ | exact HC.out.2 _))
        refine wpQuiet_nil ?_
        intro p
        go_wp2_with fail
        go_ret
        exact ⟨by rw [HO.out]; rfl, p.old HKW.out⟩
      | true =>
        cases hva : valuedS x with
        | false =>
          have HO := Lib.hid (show carriedS l = false by rw [hdef, hst, hke, hva]; rfl)
          rw [hke, hva] at HC
          clear hst hke hva hdef hT2
          go_wp2_with fail
          refine wp_region_later (by kernel_rfl) (by kernel_rfl) ?_
          repeat (go_big_quiet_step (first | exact HC.out.1 _ | exact HC.out.2 _))
          refine wpQuiet_nil ?_
          intro p
          go_wp2_with fail
          go_ret
          exact ⟨by rw [HO.out]; rfl, p.old HKW.out⟩
        | true =>
          rw [hke, hva] at HC
          rw [hke, hva] at hst
          have hnx : prevOf l (k + 1) = some x := by unfold prevOf; rw [if_neg (by omega)]; exact HX.out
          by_cases hk0 : k = 0
          · have HO := Lib.hid (show carriesS none l = carriesS (prevOf l (k + 1)) (l.drop (k + 1)) by rw [hst, hnx]; unfold prevOf; rw [if_pos hk0]; rfl)
            have HD := Lib.hid hdef
            have e0 : (0 < k) = False := eq_false (by omega)
            clear hst hke hva hdef hT2 hk0 hnx
            go_wp2_with fail
            refine wp_region_later (by kernel_rfl) (by kernel_rfl) ?_
            repeat (go_big_quiet_step (first | exact HC.out.1 _ | exact HC.out.2 _))
            refine wpQuiet_nil ?_
            intro p
            go_wp2_with fail
            exact ⟨⟨k + 1, by congr 1, by omega, HO.out, p.old HKW.out⟩, by simp [intOf]; omega⟩
          · obtain ⟨j, hj⟩ : ∃ j, k = j + 1 := ⟨k - 1, by omega⟩
            obtain ⟨y, hy⟩ : ∃ y, l[j]? = some y := ⟨_, List.getElem?_eq_getElem (by omega)⟩
            have hpv : prevOf l k = some y := by unfold prevOf; rw [if_neg hk0, hj]; exact hy
            have hst2 : carriesS none l = (decide (strC y.key x.key < 0) && carriesS (prevOf l (k + 1)) (l.drop (k + 1))) := by rw [hst, hnx, hpv]; rfl
            have hbl := less_str y.key x.key
            obtain ⟨A2', c2', hA2, hca2⟩ := id hT2
            injection hA2 with ea2 _ ec2
            subst ea2 ec2
            obtain ⟨b2, off2, hbo, hcs2⟩ := hca2 (by omega)
            injection hbo with hbo
            injection hbo with hb1 hb2 hb3
            subst hb1 hb2
            have B0 := fun p : Later W => p.cell (hcs2 j y hy).1
            have e0 : (0 < k) = True := eq_true (by omega)
            have e1 : (k : Int) - 1 = j := by omega
            have j0 : (0 : Int) ≤ j := by omega
            have j1 : (j : Int) < l.length := by omega
            have HD := Lib.hid hdef
            cases hd : decide (strC y.key x.key < 0) with
            | false =>
              have HO := Lib.hid (show carriedS l = false by rw [hdef, hst2, hd]; rfl)
              rw [hd] at hbl
              clear hst hst2 hke hva hdef hT2 hcs2 hca2 hpv hnx hk0 hj hy hd HD
              go_wp2_with fail
              refine wp_region_later (by kernel_rfl) (by kernel_rfl) ?_
              repeat (go_big_quiet_step (first | exact HC.out.1 _ | exact HC.out.2 _))
              refine wpQuiet_nil ?_
              intro p
              go_wp2_with fail
              go_ret
              exact ⟨by rw [HO.out]; rfl, p.old HKW.out⟩
            | true =>
              have HO := Lib.hid (show carriesS none l = carriesS (prevOf l (k + 1)) (l.drop (k + 1)) by rw [hst2, hd]; rfl)
              rw [hd] at hbl
              clear hst hst2 hke hva hdef hT2 hcs2 hca2 hpv hnx hk0 hj hy hd
              go_wp2_with fail
              refine wp_region_later (by kernel_rfl) (by kernel_rfl) ?_
              repeat (go_big_quiet_step (first | exact HC.out.1 _ | exact HC.out.2 _))
              refine wpQuiet_nil ?_
              intro p
              go_wp2_with fail
              exact ⟨⟨k + 1, by congr 1, by omega, HO.out, p.old HKW.out⟩, by simp [intOf]; omega⟩
    · have k1 : ¬ (k : Int) < l.length := by omega
      have HO := Lib.hid (show carriedS l = decide ((l.length : Int) ≤ 32) by
        have e : decide ((l.length : Int) ≤ 32) = decide (l.length ≤ 32) := decide_eq_decide.2 (by omega)
        rw [e, hdef, ho, List.drop_eq_nil_of_le (by omega)]; rfl)
      have HKW := Lib.hid hkw
      clear ho h hdef hkw
      go_wp2_with fail
      go_ret
      exact ⟨by rw [HO.out]; rfl, HKW.out⟩

set_option maxHeartbeats 4000000 in
theorem told_any (l : List Evt) (v : Value) (w : World) (hl : EReads w v l) (h0 : l.length ≤ 9223372036854775807) (hz : ∀ x ∈ l, x.n.size ≤ 9223372036854775807) (hU : Lib.Utf8Tabs 0 1 w) : Calls Tryd.prog 21 #[v] w (BoolPost (toldS l) w) := by
  have hdef : toldS l = (tellsS none l && decide (l.length ≤ 32)) := rfl
  have hl2 := hl
  obtain ⟨A, c, rfl, -⟩ := hl2
  have HL := Lib.hid hl
  have HU := Lib.hid hU
  clear hl hU
  go_enter Tryd.func21, Tryd.ntmps21
  go_wp2_with fail
  go_loopw [7] (fun i wr => ∃ (k : Nat), i = .int .i64 k ∧ k ≤ l.length ∧ tellsS none l = tellsS (prevOf l k) (l.drop k) ∧ Kept (fun _ => False) w wr) (fun i _ => l.length - (intOf i).toNat)
  case atStart => exact ⟨0, rfl, by omega, by simp [prevOf], Kept.refl _ _⟩
  case round =>
    obtain ⟨k, rfl, hk, ho, hkw⟩ := hrel
    have k0 : (0 : Int) ≤ k := by omega
    by_cases h : k < l.length
    · obtain ⟨x, hx⟩ : ∃ x, l[k]? = some x := ⟨_, List.getElem?_eq_getElem h⟩
      have hT := HL.out.kept hkw
      obtain ⟨A', c', hA', hca⟩ := id hT
      injection hA' with ea _ ec
      subst ea ec
      obtain ⟨b, off, rfl, hcs⟩ := hca (by omega)
      obtain ⟨c0, c1⟩ := hcs k x hx
      have k1 : (k : Int) < l.length := by omega
      obtain ⟨W, hW⟩ : ∃ W, W = wr.alloc (.cells #[.int .i64 x.at_, .string x.n] 68) := ⟨_, rfl⟩
      have hkW : Kept (fun _ => False) wr W := by rw [hW]; exact .alloc _ _ _
      have hb : W.heap[wr.heap.size]? = some (.cells #[.int .i64 x.at_, .string x.n] 68 (0, 0)) := by rw [hW]; exact heap_alloc_new wr _
      have hT2 := hT.kept hkW
      have a0 : W.cell? ⟨wr.heap.size, 0, none⟩ = some (.int .i64 x.at_) := (blk_cell hb 0).trans rfl
      have a1 : W.cell? ⟨wr.heap.size, 1, none⟩ = some (.string x.n) := (blk_cell hb 1).trans rfl
      have A0 := fun p : Later W => p.cell a0
      have A1 := fun p : Later W => p.cell a1
      have hW2 := hW.symm
      have HX := Lib.hid hx
      have HKW := Lib.hid (hkw.trans hkW (fun _ _ e => e) (fun _ _ e => e))
      have cP := fun p : Later W => Calls.later_of (plain_any x.n 100 32 p.w' (hz x (List.mem_of_getElem? hx)) (by omega) (by omega) (Utf8Tabs.kept HU.out (p.old HKW.out) (fun h => h) (fun h => h)))
      have cE := fun (y : Evt) (p : Later W) => Calls.later_of (events_any y x p.w')
      have HC := Lib.hid (And.intro cP cE)
      have hst : tellsS none l = ((decide (0 ≤ x.at_ ∧ x.at_ ≤ 4611686018427387904) && plainS x.n 100 32 && (match prevOf l k with | none => true | some y => decide (evtC y x < 0))) && tellsS (some x) (l.drop (k + 1))) := by
        rw [ho, drop_get' hx]
        cases prevOf l k <;> rfl
      clear hx hcs hca hT hkw hkW a0 a1 hW cP cE hb ho
      by_cases e1 : 0 ≤ x.at_
      case neg =>
        have HO := Lib.hid (show toldS l = false by rw [hdef, hst]; simp [e1])
        have f1 : (x.at_ < 0) = True := eq_true (by omega)
        clear hst hdef hT2 e1
        go_wp2_with fail
        refine wp_region_later (by kernel_rfl) (by kernel_rfl) ?_
        repeat (go_big_quiet_step (first | exact HC.out.1 _ | exact HC.out.2 _))
        refine wpQuiet_nil ?_
        intro p
        go_wp2_with fail
        go_ret
        exact ⟨by rw [HO.out]; rfl, p.old HKW.out⟩
      have f1 : (x.at_ < 0) = False := eq_false (by omega)
      by_cases e2 : x.at_ ≤ 4611686018427387904
      case neg =>
        have HO := Lib.hid (show toldS l = false by rw [hdef, hst]; simp [e2])
        have f2 : ((4611686018427387904 : Int) < x.at_) = True := eq_true (by omega)
        clear hst hdef hT2 e1 e2
        go_wp2_with fail
        refine wp_region_later (by kernel_rfl) (by kernel_rfl) ?_
        repeat (go_big_quiet_step (first | exact HC.out.1 _ | exact HC.out.2 _))
        refine wpQuiet_nil ?_
        intro p
        go_wp2_with fail
        go_ret
        exact ⟨by rw [HO.out]; rfl, p.old HKW.out⟩
      have f2 : ((4611686018427387904 : Int) < x.at_) = False := eq_false (by omega)
      rw [decide_eq_true (And.intro e1 e2)] at hst
      clear e1 e2
      cases hp : plainS x.n 100 32 with
      | false =>
        have HO := Lib.hid (show toldS l = false by rw [hdef, hst, hp]; simp)
        rw [hp] at HC
        clear hst hdef hT2 hp
        go_wp2_with fail
        refine wp_region_later (by kernel_rfl) (by kernel_rfl) ?_
        repeat (go_big_quiet_step (first | exact HC.out.1 _ | exact HC.out.2 _))
        refine wpQuiet_nil ?_
        intro p
        go_wp2_with fail
        go_ret
        exact ⟨by rw [HO.out]; rfl, p.old HKW.out⟩
      | true =>
        rw [hp] at HC hst
        have hnx : prevOf l (k + 1) = some x := by unfold prevOf; rw [if_neg (by omega)]; exact HX.out
        by_cases hk0 : k = 0
        · have HO := Lib.hid (show tellsS none l = tellsS (prevOf l (k + 1)) (l.drop (k + 1)) by rw [hst, hnx]; unfold prevOf; rw [if_pos hk0]; rfl)
          have HD := Lib.hid hdef
          have e0 : (0 < k) = False := eq_false (by omega)
          clear hst hp hdef hT2 hk0 hnx
          go_wp2_with fail
          refine wp_region_later (by kernel_rfl) (by kernel_rfl) ?_
          repeat (go_big_quiet_step (first | exact HC.out.1 _ | exact HC.out.2 _))
          refine wpQuiet_nil ?_
          intro p
          go_wp2_with fail
          exact ⟨⟨k + 1, by congr 1, by omega, HO.out, p.old HKW.out⟩, by simp [intOf]; omega⟩
        · obtain ⟨j, hj⟩ : ∃ j, k = j + 1 := ⟨k - 1, by omega⟩
          obtain ⟨y, hy⟩ : ∃ y, l[j]? = some y := ⟨_, List.getElem?_eq_getElem (by omega)⟩
          have hpv : prevOf l k = some y := by unfold prevOf; rw [if_neg hk0, hj]; exact hy
          have hst2 : tellsS none l = (decide (evtC y x < 0) && tellsS (prevOf l (k + 1)) (l.drop (k + 1))) := by rw [hst, hnx, hpv]; simp
          obtain ⟨A2', c2', hA2, hca2⟩ := id hT2
          injection hA2 with ea2 _ ec2
          subst ea2 ec2
          obtain ⟨b2, off2, hbo, hcs2⟩ := hca2 (by omega)
          injection hbo with hbo
          injection hbo with hb1 hb2 hb3
          subst hb1 hb2
          have B0 := fun p : Later W => p.cell (hcs2 j y hy).1
          have B1 := fun p : Later W => p.cell (hcs2 j y hy).2
          have e0 : (0 < k) = True := eq_true (by omega)
          have e1 : (k : Int) - 1 = j := by omega
          have j0 : (0 : Int) ≤ j := by omega
          have j1 : (j : Int) < l.length := by omega
          have HD := Lib.hid hdef
          have HE := Lib.hid (And.intro HC.out.1 (HC.out.2 y))
          clear HC
          have HC := HE
          clear HE
          by_cases hd : evtC y x < 0
          case neg =>
            have HO := Lib.hid (show toldS l = false by rw [hdef, hst2, decide_eq_false hd]; rfl)
            have f3 : (0 ≤ evtC y x) = True := eq_true (by omega)
            clear hst hst2 hp hdef hT2 hcs2 hca2 hpv hnx hk0 hj hy hd HD
            go_wp2_with fail
            refine wp_region_later (by kernel_rfl) (by kernel_rfl) ?_
            repeat (go_big_quiet_step (first | exact HC.out.1 _ | exact HC.out.2 _))
            refine wpQuiet_nil ?_
            intro p
            go_wp2_with fail
            go_ret
            exact ⟨by rw [HO.out]; rfl, p.old HKW.out⟩
          case pos =>
            have HO := Lib.hid (show tellsS none l = tellsS (prevOf l (k + 1)) (l.drop (k + 1)) by rw [hst2, decide_eq_true hd]; rfl)
            have f3 : (0 ≤ evtC y x) = False := eq_false (by omega)
            clear hst hst2 hp hdef hT2 hcs2 hca2 hpv hnx hk0 hj hy hd
            go_wp2_with fail
            refine wp_region_later (by kernel_rfl) (by kernel_rfl) ?_
            repeat (go_big_quiet_step (first | exact HC.out.1 _ | exact HC.out.2 _))
            refine wpQuiet_nil ?_
            intro p
            go_wp2_with fail
            exact ⟨⟨k + 1, by congr 1, by omega, HO.out, p.old HKW.out⟩, by simp [intOf]; omega⟩
    · have k1 : ¬ (k : Int) < l.length := by omega
      have HO := Lib.hid (show toldS l = decide ((l.length : Int) ≤ 32) by
        have e : decide ((l.length : Int) ≤ 32) = decide (l.length ≤ 32) := decide_eq_decide.2 (by omega)
        rw [e, hdef, ho, List.drop_eq_nil_of_le (by omega)]; rfl)
      have HKW := Lib.hid hkw
      clear ho h hdef hkw
      go_wp2_with fail
      go_ret
      exact ⟨by rw [HO.out]; rfl, HKW.out⟩
end Go.Proofs.YtniigjfimggobaaDoor
