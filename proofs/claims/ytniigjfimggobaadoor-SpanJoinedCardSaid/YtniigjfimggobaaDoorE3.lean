/- Encode (the walk). -/
import Derived.Test.YtniigjfimggobaaDoorE2
namespace Go.Proofs.YtniigjfimggobaaDoor
open Go.RowKit
set_option linter.unusedVariables false
set_option linter.unusedSimpArgs false

theorem flat_take {α β : Type} (f : α → List β) {l : List α} {k : Nat} {x : α} (h : l[k]? = some x) : (l.take (k + 1)).flatMap f = (l.take k).flatMap f ++ f x := by
  rw [List.take_add_one, h, Option.toList_some, List.flatMap_append]; simp
theorem map_get {f : Nat → Value} {l : List Nat} {k x : Nat} (h : l[k]? = some x) : (l.map f).toArray[k]? = some (f x) := by simp [h]
set_option maxHeartbeats 32000000 in
set_option maxRecDepth 100000 in
theorem encode_any (s : Spn) (lv av ev : Value) (w : World) (hs : SReads w s lv av ev) (hr : Fits s) (hz : Sized s) (hU : Lib.Utf8Tabs 0 1 w) : Calls Tryd.prog 14 #[.agg (s.cells lv av ev)] w (EncodePost s w) := by
  have hs0 := hs
  obtain ⟨⟨slA, slc, rfl, -⟩, ⟨saA, sac, rfl, -⟩, ⟨seA, sec, rfl, -⟩, -, -, -⟩ := hs
  have HS := Lib.hid hs0
  have HU := Lib.hid hU
  have HR := Lib.hid hr
  clear hs0 hU hr
  obtain ⟨lv, hlv⟩ : ∃ v, v = Value.slice slA s.links.length slc := ⟨_, rfl⟩
  obtain ⟨av, hav⟩ : ∃ v, v = Value.slice saA s.ats.length sac := ⟨_, rfl⟩
  obtain ⟨ev, hev⟩ : ∃ v, v = Value.slice seA s.evs.length sec := ⟨_, rfl⟩
  rw [← hlv, ← hav, ← hev] at HS
  obtain ⟨X, hX⟩ : ∃ X, X = s.cells (.slice slA s.links.length slc) (.slice saA s.ats.length sac) (.slice seA s.evs.length sec) := ⟨_, rfl⟩
  rw [← hX]
  have HX := Lib.hid (show X = s.cells lv av ev by rw [hX, hlv, hav, hev])
  clear hX
  have HV := Lib.hid (And.intro hlv (And.intro hav hev))
  clear hlv hav hev
  obtain ⟨W, hW⟩ : ∃ W, W = w.alloc (.cells X 33) := ⟨_, rfl⟩
  have hk : Kept (fun _ => False) w W := by rw [hW]; exact .alloc _ _ _
  have hb : W.heap[w.heap.size]? = some (.cells (s.cells lv av ev) 33 (0, 0)) := by rw [hW, ← HX.out]; exact heap_alloc_new w _
  have HB := Lib.hid (And.intro hk hb)
  have hsz : (s.cells lv av ev).size = 13 := rfl
  have hchk := check_any s lv av ev W (HS.out.kept hk) hz (Utf8Tabs.kept HU.out hk (fun h => h) (fun h => h))
  obtain ⟨cz, hcz⟩ : ∃ c, c = checkS s := ⟨_, rfl⟩
  rw [← hcz] at hchk
  have HC := Lib.hid hchk
  have HCZ := Lib.hid hcz
  have HW := Lib.hid hW
  clear hk hb hchk hcz hW
  go_enter Tryd.func14, Tryd.ntmps14
  go_upto_region 1 with fail
  rw [← HW.out]
  go_upto_region 2 with (first | (refine wpList_load33 rfl _ rfl w.heap.size (s.cells lv av ev) rfl HB.out.2 rfl ?_) | (go_at_call 10; (with_reducible refine HC.out.mono ?_); rintro e w1 ⟨rfl, hk1⟩; have HK := Lib.hid hk1; clear hk1))
  by_cases hc : cz = 0
  case neg =>
    have e1 : (cz == 0) = false := by simpa using hc
    have HC2 := Lib.hid hc
    clear hc
    go_wp2_with fail
    go_ret2
    unfold EncodePost
    rw [← HCZ.out, if_neg HC2.out]
    exact ⟨rfl, HB.out.1.trans HK.out (fun _ _ e => e) (fun _ _ e => e)⟩
  subst hc
  have HF := Lib.hid (fine_of HCZ.out.symm)
  clear HC
  go_upto_region 5 with (go_at_call 36; (with_reducible refine (newWriter_any w1).mono ?_); rintro e w' ⟨rfl, rfl⟩)
  obtain ⟨g, hg⟩ : ∃ g, g = w1.heap.size := ⟨_, rfl⟩
  obtain ⟨W2, hW2⟩ : ∃ W2, W2 = w1.alloc (.cells #[.slice none 0 0] 117) := ⟨_, rfl⟩
  rw [← hW2, ← hg]
  have hE : EncAt g g w.heap.size s lv av ev w W2 [] 0 := by
    have hkA : Kept (fun _ => False) w1 W2 := by rw [hW2]; exact .alloc _ _ _
    have hge : w.heap.size ≤ g := by rw [hg]; exact Nat.le_trans HB.out.1.size HK.out.size
    exact ⟨⟨.slice none 0 0, by rw [hW2, hg]; exact WrAt.new 117 5 w1⟩, blk_kept hkA (blk_kept HK.out HB.out.2 (fun h => h)) (fun h => h), (HB.out.1.trans HK.out (U := fun _ => False) (fun _ _ e => e) (fun _ _ e => e)).trans hkA (fun _ _ e => e) (fun _ _ e => e), ⟨hge, hge⟩, Nat.le_refl _⟩
  have HE := Lib.hid hE
  clear hE hW2 hg HB HK HX HW hsz
  have c0 : W2.cell? ⟨w.heap.size, 0, none⟩ = some (.int .u64 s.hi) := (blk_cell HE.out.sp 0).trans rfl
  have c1 : W2.cell? ⟨w.heap.size, 1, none⟩ = some (.int .u64 s.lo) := (blk_cell HE.out.sp 1).trans rfl
  have c2 : W2.cell? ⟨w.heap.size, 2, none⟩ = some (.int .u64 s.id) := (blk_cell HE.out.sp 2).trans rfl
  have c3 : W2.cell? ⟨w.heap.size, 3, none⟩ = some (.int .u64 s.par) := (blk_cell HE.out.sp 3).trans rfl
  obtain ⟨vb, hvb⟩ : ∃ v, v = W2.heap.size := ⟨_, rfl⟩
  obtain ⟨W3, hW3⟩ : ∃ W3, W3 = W2.alloc (.cells #[.int .u64 s.hi, .int .u64 s.lo, .int .u64 s.id, .int .u64 s.par] 23) := ⟨_, rfl⟩
  go_wp2_with fail
  rw [← hW3, ← hvb]
  have hb3 : W3.heap[vb]? = some (.cells (([s.hi, s.lo, s.id, s.par].map fun n : Nat => Value.int .u64 n).toArray) 23 (0, 0)) := by rw [hW3, hvb]; exact heap_alloc_new W2 _
  have hE := HE.out.alloc (.cells #[.int .u64 s.hi, .int .u64 s.lo, .int .u64 s.id, .int .u64 s.par] 23)
  rw [← hW3] at hE
  clear c0 c1 c2 c3 hW3 hvb HE
  have h4 : ∀ x ∈ [s.hi, s.lo, s.id, s.par], x < 18446744073709551616 := by
    intro x hx
    have := HR.out
    simp only [List.mem_cons, List.not_mem_nil, or_false] at hx
    rcases hx with rfl | rfl | rfl | rfl
    · exact this.hi
    · exact this.lo
    · exact this.id
    · exact this.par
  have HH := Lib.hid h4
  clear h4
  obtain ⟨hd, hhd⟩ : ∃ l, l = [s.hi, s.lo, s.id, s.par] := ⟨_, rfl⟩
  rw [← hhd] at hb3 HH
  have h4l : hd.length = 4 := by rw [hhd]; rfl
  have HHD := Lib.hid hhd
  have H4L := Lib.hid h4l
  clear hhd h4l
  go_loopw [34] (fun i wr => ∃ k : Nat, i = .int .i64 k ∧ k ≤ 4 ∧ EncAt g g w.heap.size s lv av ev w wr ((hd.take k).flatMap raw8) (8 * k) ∧ wr.heap[vb]? = some (.cells ((hd.map fun n : Nat => Value.int .u64 n).toArray) 23 (0, 0))) (fun i _ => 4 - (intOf i).toNat)
  case atStart => exact ⟨0, rfl, by omega, hE, hb3⟩
  obtain ⟨k, rfl, hk, hE1, hb1⟩ := hrel
  clear hE hb3
  have k0 : (0 : Int) ≤ k := by omega
  by_cases hk4 : k < 4
  · obtain ⟨x, hx⟩ : ∃ x, hd[k]? = some x := ⟨_, List.getElem?_eq_getElem (by rw [H4L.out]; exact hk4)⟩
    have k1 : (k : Int) < 4 := by omega
    have f1 : wr.cell? ⟨vb, k, none⟩ = some (.int .u64 x) := (blk_cell hb1 k).trans (map_get hx)
    have hx64 := HH.out x (List.mem_of_getElem? hx)
    have HE := Lib.hid hE1
    have HB1 := Lib.hid hb1
    have HX := Lib.hid hx
    have k2 : 8 * k ≤ 1000000 := by omega
    clear hE1 hb1 hx hk4
    go_upto_region 9 with (go_at_call 37; (with_reducible refine (encRaw HE.out x hx64 k2).mono ?_); rintro e w3 ⟨rfl, hE3, ha3⟩; have HE3 := Lib.hid hE3; have HA3 := Lib.hid ha3; clear hE3 ha3)
    go_wp2_with fail
    refine ⟨⟨k + 1, by congr 1, by omega, ?_, HA3.out _ _ _ _ HB1.out (by decide) (by decide)⟩, by simp [intOf]; omega⟩
    rw [flat_take raw8 HX.out, show 8 * (k + 1) = 8 * k + 8 by omega]
    exact HE3.out
  have hk4' : k = 4 := by omega
  have k1 : ¬ (k : Int) < 4 := by omega
  have hE2 : EncAt g g w.heap.size s lv av ev w wr (hd.flatMap raw8) 32 := by
    rw [hk4', List.take_of_length_le (by rw [H4L.out]; omega)] at hE1
    exact hE1
  obtain ⟨V, rfl⟩ : ∃ V : World, V = wr := ⟨_, rfl⟩
  have HE := Lib.hid hE2
  clear hE1 hb1 hk4 hk4' hE2
  have c4 : V.cell? ⟨w.heap.size, 4, none⟩ = some (.slice slA s.links.length slc) := (blk_cell HE.out.sp 4).trans (by show some lv = _; rw [HV.out.1])
  have hl16 := HF.out.links
  go_upto_region 11 with (go_at_call 38; (with_reducible refine (encUint HE.out s.links.length (by omega) (by omega)).mono ?_); rintro e w3 ⟨rfl, hE3, ha3⟩; have HE3 := Lib.hid hE3; have HA3 := Lib.hid ha3; clear hE3 ha3)
  obtain ⟨V1, rfl⟩ : ∃ V : World, V = w3 := ⟨_, rfl⟩
  clear HE HA3 c4
  have HE := HE3
  clear HE3
  have c4 : V1.cell? ⟨w.heap.size, 4, none⟩ = some (.slice slA s.links.length slc) := (blk_cell HE.out.sp 4).trans (by show some lv = _; rw [HV.out.1])
  have HLR := HS
  obtain ⟨L2, hL2⟩ : ∃ l, l = hd.flatMap raw8 ++ venc s.links.length := ⟨_, rfl⟩
  rw [← hL2] at HE
  have HL2 := Lib.hid hL2
  clear hL2 k1 k0 hk
  go_wp2_with fail
  go_loopw [51] (fun i wr => ∃ k : Nat, i = .int .i64 k ∧ k ≤ s.links.length ∧ EncAt g g w.heap.size s lv av ev w wr (L2 ++ (s.links.take k).flatMap raw8) (32 + 10 + 8 * k)) (fun i _ => s.links.length - (intOf i).toNat)
  case atStart => exact ⟨0, rfl, Nat.zero_le _, by simpa using HE.out⟩
  obtain ⟨k, rfl, hk, hE1⟩ := hrel
  clear HE c4
  have k0 : (0 : Int) ≤ k := by omega
  by_cases hk4 : k < s.links.length
  · obtain ⟨x, hx⟩ : ∃ x, s.links[k]? = some x := ⟨_, List.getElem?_eq_getElem hk4⟩
    have k1 : (k : Int) < s.links.length := by omega
    obtain ⟨A, c, hA, hca⟩ := HS.out.links.kept hE1.kept
    rw [HV.out.1] at hA
    injection hA with eA _ ec
    subst eA ec
    obtain ⟨b, off, rfl, hcs⟩ := hca (by omega)
    have f1 := hcs k x hx
    have hx64 := HR.out.links x (List.mem_of_getElem? hx)
    have HE := Lib.hid hE1
    have HX := Lib.hid hx
    have k2 : 32 + 10 + 8 * k ≤ 1000000 := by omega
    clear hE1 hx hk4 hcs hca
    go_upto_region 15 with (go_at_call 37; (with_reducible refine (encRaw HE.out x hx64 k2).mono ?_); rintro e w3 ⟨rfl, hE3, ha3⟩; have HE3 := Lib.hid hE3; have HA3 := Lib.hid ha3; clear hE3 ha3)
    go_wp2_with fail
    refine ⟨⟨k + 1, by congr 1, by omega, ?_⟩, by simp [intOf]; omega⟩
    rw [flat_take raw8 HX.out, ← List.append_assoc, show 32 + 10 + 8 * (k + 1) = 32 + 10 + 8 * k + 8 by omega]
    exact HE3.out
  have hk4' : k = s.links.length := by omega
  have k1 : ¬ (k : Int) < s.links.length := by omega
  have hE2 : EncAt g g w.heap.size s lv av ev w wr (L2 ++ s.links.flatMap raw8) 1000 := by
    rw [hk4', List.take_of_length_le (Nat.le_refl _)] at hE1
    exact { hE1 with len := by have := hE1.len; omega }
  obtain ⟨VA, rfl⟩ : ∃ V : World, V = wr := ⟨_, rfl⟩
  have HE := Lib.hid hE2
  clear hE1 hk4 hk4' hE2
  have c5 : VA.cell? ⟨w.heap.size, 5, none⟩ = some (.string s.svc) := (blk_cell HE.out.sp 5).trans rfl
  have hs1 : s.svc.size ≤ 1000 := by have := (plain_size HF.out.svc).2.1; omega
  go_upto_region 17 with (go_at_call 39; (with_reducible refine (encText HE.out s.svc hs1 (by omega)).mono ?_); rintro e w3 ⟨rfl, hE3, ha3⟩; have HE3 := Lib.hid hE3; have HA3 := Lib.hid ha3; clear hE3 ha3)
  obtain ⟨V2, rfl⟩ : ∃ V : World, V = w3 := ⟨_, rfl⟩
  clear HE HA3 c5
  have HE := HE3
  clear HE3
  clear k0 k1 hk hs1
  have c6 : V2.cell? ⟨w.heap.size, 6, none⟩ = some (.string s.op) := (blk_cell HE.out.sp 6).trans rfl
  have hs2 : s.op.size ≤ 1000 := by have := (plain_size HF.out.op).2.1; omega
  go_upto_region 18 with (go_at_call 39; (with_reducible refine (encText HE.out s.op hs2 (by omega)).mono ?_); rintro e w3 ⟨rfl, hE3, ha3⟩; have HE3 := Lib.hid hE3; have HA3 := Lib.hid ha3; clear hE3 ha3)
  obtain ⟨V3, rfl⟩ : ∃ V : World, V = w3 := ⟨_, rfl⟩
  clear HE HA3 c6
  have HE := HE3
  clear HE3
  clear hs2
  obtain ⟨kd, hkd⟩ : ∃ n : Nat, s.kind = n := ⟨s.kind.toNat, by have := HF.out.kind; omega⟩
  obtain ⟨sn, hsn⟩ : ∃ n : Nat, s.st = n := ⟨s.st.toNat, by have := HF.out.st; omega⟩
  obtain ⟨sa, hsa⟩ : ∃ n : Nat, s.start = n := ⟨s.start.toNat, by have := HF.out.start; omega⟩
  obtain ⟨fi, hfi⟩ : ∃ n : Nat, s.fin = n := ⟨s.fin.toNat, by have := HF.out.start; omega⟩
  have c7 : V3.cell? ⟨w.heap.size, 7, none⟩ = some (.int .i64 kd) := (blk_cell HE.out.sp 7).trans (by show some (Value.int .i64 s.kind) = _; rw [hkd])
  have c8 : V3.cell? ⟨w.heap.size, 8, none⟩ = some (.int .i64 sn) := (blk_cell HE.out.sp 8).trans (by show some (Value.int .i64 s.st) = _; rw [hsn])
  have c9 : V3.cell? ⟨w.heap.size, 9, none⟩ = some (.int .i64 sa) := (blk_cell HE.out.sp 9).trans (by show some (Value.int .i64 s.start) = _; rw [hsa])
  have c10 : V3.cell? ⟨w.heap.size, 10, none⟩ = some (.int .i64 fi) := (blk_cell HE.out.sp 10).trans (by show some (Value.int .i64 s.fin) = _; rw [hfi])
  have c11 : V3.cell? ⟨w.heap.size, 11, none⟩ = some (.slice saA s.ats.length sac) := (blk_cell HE.out.sp 11).trans (by show some av = _; rw [HV.out.2.1])
  have HNN := Lib.hid (And.intro hkd (And.intro hsn (And.intro hsa hfi)))
  clear hkd hsn hsa hfi
  obtain ⟨vc, hvc⟩ : ∃ v, v = V3.heap.size := ⟨_, rfl⟩
  obtain ⟨Y, hY⟩ : ∃ Y, Y = V3.alloc (.cells #[.int .i64 kd, .int .i64 sn, .int .i64 sa, .int .i64 fi, .int .i64 s.ats.length] 2) := ⟨_, rfl⟩
  go_wp2_with fail
  rw [← hY, ← hvc]
  have hb3 : Y.heap[vc]? = some (.cells (([kd, sn, sa, fi, s.ats.length].map fun n : Nat => Value.int .i64 n).toArray) 2 (0, 0)) := by rw [hY, hvc]; exact heap_alloc_new V3 _
  have hE := HE.out.alloc (.cells #[.int .i64 kd, .int .i64 sn, .int .i64 sa, .int .i64 fi, .int .i64 s.ats.length] 2)
  rw [← hY] at hE
  clear c7 c8 c9 c10 c11 hY hvc HE
  have h4 : ∀ x ∈ [kd, sn, sa, fi, s.ats.length], x ≤ 4611686018427387904 := by
    intro x hx
    have h1 := HF.out.kind
    have h2 := HF.out.st
    have h3 := HF.out.start
    have h4 := HF.out.ats.1
    have ⟨e1, e2, e3, e4⟩ := HNN.out
    simp only [List.mem_cons, List.not_mem_nil, or_false] at hx
    rcases hx with rfl | rfl | rfl | rfl | rfl <;> omega
  have HH5 := Lib.hid h4
  clear h4
  obtain ⟨h5, hh5⟩ : ∃ l, l = [kd, sn, sa, fi, s.ats.length] := ⟨_, rfl⟩
  rw [← hh5] at hb3 HH5
  have h5l : h5.length = 5 := by rw [hh5]; rfl
  have HH5D := Lib.hid hh5
  have H5L := Lib.hid h5l
  clear hh5 h5l
  obtain ⟨L5, hL5⟩ : ∃ l, l = L2 ++ s.links.flatMap raw8 ++ txt s.svc ++ txt s.op := ⟨_, rfl⟩
  rw [← hL5] at hE
  have HL5 := Lib.hid hL5
  clear hL5
  go_loopw [80] (fun i wr => ∃ k : Nat, i = .int .i64 k ∧ k ≤ 5 ∧ EncAt g g w.heap.size s lv av ev w wr (L5 ++ (h5.take k).flatMap venc) (1000 + 1010 + 1010 + 10 * k) ∧ wr.heap[vc]? = some (.cells ((h5.map fun n : Nat => Value.int .i64 n).toArray) 2 (0, 0))) (fun i _ => 5 - (intOf i).toNat)
  case atStart => exact ⟨0, rfl, by omega, by simpa using hE, hb3⟩
  obtain ⟨k, rfl, hk, hE1, hb1⟩ := hrel
  clear hE hb3
  have k0 : (0 : Int) ≤ k := by omega
  by_cases hk4 : k < 5
  · obtain ⟨x, hx⟩ : ∃ x, h5[k]? = some x := ⟨_, List.getElem?_eq_getElem (by rw [H5L.out]; exact hk4)⟩
    have k1 : (k : Int) < 5 := by omega
    have f1 : wr.cell? ⟨vc, k, none⟩ = some (.int .i64 x) := (blk_cell hb1 k).trans (map_get hx)
    have hx64 := HH5.out x (List.mem_of_getElem? hx)
    have HE := Lib.hid hE1
    have HB1 := Lib.hid hb1
    have HX := Lib.hid hx
    have k2 : 1000 + 1010 + 1010 + 10 * k ≤ 1000000 := by omega
    have hx65 : x < 18446744073709551616 := by omega
    have hx66 : (x : Int) < 18446744073709551616 := by omega
    clear hE1 hb1 hx hk4
    go_upto_region 22 with (go_at_call 38; (with_reducible refine (encUint HE.out x hx65 k2).mono ?_); rintro e w3 ⟨rfl, hE3, ha3⟩; have HE3 := Lib.hid hE3; have HA3 := Lib.hid ha3; clear hE3 ha3)
    go_wp2_with fail
    refine ⟨⟨k + 1, by congr 1, by omega, ?_, HA3.out _ _ _ _ HB1.out (by decide) (by decide)⟩, by simp [intOf]; omega⟩
    rw [flat_take venc HX.out, ← List.append_assoc, show 1000 + 1010 + 1010 + 10 * (k + 1) = 1000 + 1010 + 1010 + 10 * k + 10 by omega]
    exact HE3.out
  have hk4' : k = 5 := by omega
  have k1 : ¬ (k : Int) < 5 := by omega
  have hE2 : EncAt g g w.heap.size s lv av ev w wr (L5 ++ h5.flatMap venc) 4000 := by
    rw [hk4', List.take_of_length_le (by rw [H5L.out]; omega)] at hE1
    exact { hE1 with len := by have := hE1.len; omega }
  obtain ⟨VB, rfl⟩ : ∃ V : World, V = wr := ⟨_, rfl⟩
  have HE := Lib.hid hE2
  clear hE1 hb1 hk4 hk4' hE2
  have c11 : VB.cell? ⟨w.heap.size, 11, none⟩ = some (.slice saA s.ats.length sac) := (blk_cell HE.out.sp 11).trans (by show some av = _; rw [HV.out.2.1])
  obtain ⟨L7, hL7⟩ : ∃ l, l = L5 ++ h5.flatMap venc := ⟨_, rfl⟩
  rw [← hL7] at HE
  have HL7 := Lib.hid hL7
  clear hL7
  have hl32 := HF.out.ats.1
  go_wp2_with fail
  go_loopw [92] (fun i wr => ∃ k : Nat, i = .int .i64 k ∧ k ≤ s.ats.length ∧ EncAt g g w.heap.size s lv av ev w wr (L7 ++ (s.ats.take k).flatMap encA) (4000 + 2040 * k)) (fun i _ => s.ats.length - (intOf i).toNat)
  case atStart => exact ⟨0, rfl, Nat.zero_le _, by simpa using HE.out⟩
  clear k0 k1 hk
  obtain ⟨k, rfl, hk, hE1⟩ := hrel
  clear HE c11
  have k0 : (0 : Int) ≤ k := by omega
  by_cases hk4 : k < s.ats.length
  · obtain ⟨x, hx⟩ : ∃ x, s.ats[k]? = some x := ⟨_, List.getElem?_eq_getElem hk4⟩
    have k1 : (k : Int) < s.ats.length := by omega
    obtain ⟨A, c, hA, hca⟩ := HS.out.ats.kept hE1.kept
    rw [HV.out.2.1] at hA
    injection hA with eA _ ec
    subst eA ec
    obtain ⟨b, off, rfl, hcs⟩ := hca (by omega)
    obtain ⟨f0, f1, f2, f3⟩ := hcs k x hx
    have hmem := List.mem_of_getElem? hx
    have HX := Lib.hid (And.intro hx hmem)
    have HE := Lib.hid hE1
    clear hE1 hx hk4 hcs hca hmem
    have hfa := HF.out.ats.2 x HX.out.2
    have hka := keyed_size hfa.1
    have hva := valued_ok hfa.2
    have hia := (HR.out.ats x HX.out.2).2
    obtain ⟨xk, hxk⟩ : ∃ n : Nat, x.k = n := ⟨x.k.toNat, by omega⟩
    rw [hxk] at f1
    have HXK := Lib.hid hxk
    have xk1 : xk ≤ 2 := by omega
    have xs1 : x.key.size ≤ 1000 := by omega
    have xs2 : x.t.size ≤ 1000 := by omega
    have xi1 := hia.1
    have xi2 := hia.2
    clear hfa hka hva hia hxk
    obtain ⟨xb, hxb⟩ : ∃ v, v = wr.heap.size := ⟨_, rfl⟩
    obtain ⟨Y1, hY1⟩ : ∃ Y, Y = wr.alloc (.cells #[.string x.key, .int .i64 xk, .string x.t, .int .i64 x.i] 66) := ⟨_, rfl⟩
    go_upto_region 26 with fail
    rw [← hY1, ← hxb]
    have HB1 := Lib.hid (show Y1.heap[xb]? = some (.cells #[.string x.key, .int .i64 xk, .string x.t, .int .i64 x.i] 66 (0, 0)) by rw [hY1, hxb]; exact heap_alloc_new wr _)
    have hE := HE.out.alloc (.cells #[.string x.key, .int .i64 xk, .string x.t, .int .i64 x.i] 66)
    rw [← hY1] at hE
    clear HE f0 f1 f2 f3 hY1 hxb
    have HE := Lib.hid hE
    clear hE
    have g0 : Y1.cell? ⟨xb, 0, none⟩ = some (.string x.key) := (blk_cell HB1.out 0).trans rfl
    have k2 : 4000 + 2040 * k ≤ 900000 := by omega
    go_upto_region 27 with (go_at_call 39; (with_reducible refine (encText HE.out x.key xs1 (by omega)).mono ?_); rintro e w3 ⟨rfl, hE3, ha3⟩; have HE3 := Lib.hid hE3; have HA3 := Lib.hid ha3; clear hE3 ha3)
    obtain ⟨Y2, rfl⟩ : ∃ V : World, V = w3 := ⟨_, rfl⟩
    have HB2 := Lib.hid (HA3.out _ _ _ _ HB1.out (by decide) (by decide))
    clear HE HA3 HB1 g0
    have HE := HE3
    clear HE3
    have g1 : Y2.cell? ⟨xb, 1, none⟩ = some (.int .i64 xk) := (blk_cell HB2.out 1).trans rfl
    go_upto_region 28 with (go_at_call 38; (with_reducible refine (encUint HE.out xk (by omega) (by omega)).mono ?_); rintro e w3 ⟨rfl, hE3, ha3⟩; have HE3 := Lib.hid hE3; have HA3 := Lib.hid ha3; clear hE3 ha3)
    obtain ⟨Y3, rfl⟩ : ∃ V : World, V = w3 := ⟨_, rfl⟩
    have HB3 := Lib.hid (HA3.out _ _ _ _ HB2.out (by decide) (by decide))
    clear HE HA3 HB2 g1
    have HE := HE3
    clear HE3
    have g2 : Y3.cell? ⟨xb, 2, none⟩ = some (.string x.t) := (blk_cell HB3.out 2).trans rfl
    go_upto_region 29 with (go_at_call 39; (with_reducible refine (encText HE.out x.t xs2 (by omega)).mono ?_); rintro e w3 ⟨rfl, hE3, ha3⟩; have HE3 := Lib.hid hE3; have HA3 := Lib.hid ha3; clear hE3 ha3)
    obtain ⟨Y4, rfl⟩ : ∃ V : World, V = w3 := ⟨_, rfl⟩
    have HB4 := Lib.hid (HA3.out _ _ _ _ HB3.out (by decide) (by decide))
    clear HE HA3 HB3 g2
    have HE := HE3
    clear HE3
    have g3 : Y4.cell? ⟨xb, 3, none⟩ = some (.int .i64 x.i) := (blk_cell HB4.out 3).trans rfl
    go_upto_region 30 with (go_at_call 40; (with_reducible refine (encInt HE.out x.i xi1 xi2 (by omega)).mono ?_); rintro e w3 ⟨rfl, hE3, ha3⟩; have HE3 := Lib.hid hE3; have HA3 := Lib.hid ha3; clear hE3 ha3)
    go_wp2_with fail
    refine ⟨⟨k + 1, by congr 1, by omega, ?_⟩, by simp [intOf]; omega⟩
    have hE5 := HE3.out
    have e1 : L7 ++ (s.ats.take k).flatMap encA ++ txt x.key ++ venc xk ++ txt x.t ++ venc (zig x.i).toNat = L7 ++ (s.ats.take (k + 1)).flatMap encA := by
      rw [flat_take encA HX.out.1]
      simp only [encA, HXK.out, Int.toNat_natCast, List.append_assoc]
    rw [e1] at hE5
    exact { hE5 with len := by have := hE5.len; omega }
  have hk4' : k = s.ats.length := by omega
  have k1 : ¬ (k : Int) < s.ats.length := by omega
  have hE2 : EncAt g g w.heap.size s lv av ev w wr (L7 ++ s.ats.flatMap encA) 100000 := by
    rw [hk4', List.take_of_length_le (Nat.le_refl _)] at hE1
    exact { hE1 with len := by have := hE1.len; omega }
  obtain ⟨VC, rfl⟩ : ∃ V : World, V = wr := ⟨_, rfl⟩
  have HE := Lib.hid hE2
  clear hE1 hk4 hk4' hE2
  have c12 : VC.cell? ⟨w.heap.size, 12, none⟩ = some (.slice seA s.evs.length sec) := (blk_cell HE.out.sp 12).trans (by show some ev = _; rw [HV.out.2.2])
  have he32 := HF.out.evs.1
  go_upto_region 32 with (go_at_call 38; (with_reducible refine (encUint HE.out s.evs.length (by omega) (by omega)).mono ?_); rintro e w3 ⟨rfl, hE3, ha3⟩; have HE3 := Lib.hid hE3; have HA3 := Lib.hid ha3; clear hE3 ha3)
  obtain ⟨V4, rfl⟩ : ∃ V : World, V = w3 := ⟨_, rfl⟩
  clear HE HA3 c12
  have HE := HE3
  clear HE3
  have c12 : V4.cell? ⟨w.heap.size, 12, none⟩ = some (.slice seA s.evs.length sec) := (blk_cell HE.out.sp 12).trans (by show some ev = _; rw [HV.out.2.2])
  obtain ⟨L9, hL9⟩ : ∃ l, l = L7 ++ s.ats.flatMap encA ++ venc s.evs.length := ⟨_, rfl⟩
  rw [← hL9] at HE
  have HL9 := Lib.hid hL9
  clear hL9
  have hl32 := HF.out.evs.1
  go_wp2_with fail
  go_loopw [126] (fun i wr => ∃ k : Nat, i = .int .i64 k ∧ k ≤ s.evs.length ∧ EncAt g g w.heap.size s lv av ev w wr (L9 ++ (s.evs.take k).flatMap encE) (100010 + 1020 * k)) (fun i _ => s.evs.length - (intOf i).toNat)
  case atStart => exact ⟨0, rfl, Nat.zero_le _, by simpa using HE.out⟩
  clear k0 k1 hk
  obtain ⟨k, rfl, hk, hE1⟩ := hrel
  clear HE c12
  have k0 : (0 : Int) ≤ k := by omega
  by_cases hk4 : k < s.evs.length
  · obtain ⟨x, hx⟩ : ∃ x, s.evs[k]? = some x := ⟨_, List.getElem?_eq_getElem hk4⟩
    have k1 : (k : Int) < s.evs.length := by omega
    obtain ⟨A, c, hA, hca⟩ := HS.out.evs.kept hE1.kept
    rw [HV.out.2.2] at hA
    injection hA with eA _ ec
    subst eA ec
    obtain ⟨b, off, rfl, hcs⟩ := hca (by omega)
    obtain ⟨f0, f1⟩ := hcs k x hx
    have hmem := List.mem_of_getElem? hx
    have HX := Lib.hid (And.intro hx hmem)
    have HE := Lib.hid hE1
    clear hE1 hx hk4 hcs hca hmem
    have hfa := HF.out.evs.2 x HX.out.2
    obtain ⟨xa, hxa⟩ : ∃ n : Nat, x.at_ = n := ⟨x.at_.toNat, by omega⟩
    rw [hxa] at f0
    have HXA := Lib.hid hxa
    have xa1 : xa ≤ 4611686018427387904 := by omega
    have xa2 : (xa : Int) ≤ 4611686018427387904 := by omega
    have xs1 : x.n.size ≤ 1000 := by have := (plain_size hfa.2.2).2.1; omega
    clear hfa hxa
    obtain ⟨xb, hxb⟩ : ∃ v, v = wr.heap.size := ⟨_, rfl⟩
    obtain ⟨Y1, hY1⟩ : ∃ Y, Y = wr.alloc (.cells #[.int .i64 xa, .string x.n] 68) := ⟨_, rfl⟩
    go_upto_region 35 with fail
    rw [← hY1, ← hxb]
    have HB1 := Lib.hid (show Y1.heap[xb]? = some (.cells #[.int .i64 xa, .string x.n] 68 (0, 0)) by rw [hY1, hxb]; exact heap_alloc_new wr _)
    have hE := HE.out.alloc (.cells #[.int .i64 xa, .string x.n] 68)
    rw [← hY1] at hE
    clear HE f0 f1 hY1 hxb
    have HE := Lib.hid hE
    clear hE
    have g0 : Y1.cell? ⟨xb, 0, none⟩ = some (.int .i64 xa) := (blk_cell HB1.out 0).trans rfl
    have k2 : 100010 + 1020 * k ≤ 900000 := by omega
    go_upto_region 36 with (go_at_call 38; (with_reducible refine (encUint HE.out xa (by omega) (by omega)).mono ?_); rintro e w3 ⟨rfl, hE3, ha3⟩; have HE3 := Lib.hid hE3; have HA3 := Lib.hid ha3; clear hE3 ha3)
    obtain ⟨Y2, rfl⟩ : ∃ V : World, V = w3 := ⟨_, rfl⟩
    have HB2 := Lib.hid (HA3.out _ _ _ _ HB1.out (by decide) (by decide))
    clear HE HA3 HB1 g0
    have HE := HE3
    clear HE3
    have g1 : Y2.cell? ⟨xb, 1, none⟩ = some (.string x.n) := (blk_cell HB2.out 1).trans rfl
    go_upto_region 37 with (go_at_call 39; (with_reducible refine (encText HE.out x.n xs1 (by omega)).mono ?_); rintro e w3 ⟨rfl, hE3, ha3⟩; have HE3 := Lib.hid hE3; have HA3 := Lib.hid ha3; clear hE3 ha3)
    go_wp2_with fail
    refine ⟨⟨k + 1, by congr 1, by omega, ?_⟩, by simp [intOf]; omega⟩
    have hE5 := HE3.out
    have e1 : L9 ++ (s.evs.take k).flatMap encE ++ venc xa ++ txt x.n = L9 ++ (s.evs.take (k + 1)).flatMap encE := by
      rw [flat_take encE HX.out.1]
      simp only [encE, HXA.out, Int.toNat_natCast, List.append_assoc]
    rw [e1] at hE5
    exact { hE5 with len := by have := hE5.len; omega }
  have hk4' : k = s.evs.length := by omega
  have k1 : ¬ (k : Int) < s.evs.length := by omega
  have hE2 : EncAt g g w.heap.size s lv av ev w wr (L9 ++ s.evs.flatMap encE) 200000 := by
    rw [hk4', List.take_of_length_le (Nat.le_refl _)] at hE1
    exact { hE1 with len := by have := hE1.len; omega }
  obtain ⟨VD, rfl⟩ : ∃ V : World, V = wr := ⟨_, rfl⟩
  have hfin : L9 ++ s.evs.flatMap encE = encS s := by
    have ⟨e1, e2, e3, e4⟩ := HNN.out
    rw [HL9.out, HL7.out, HL5.out, HL2.out, HHD.out, HH5D.out]
    simp only [encS, e1, e2, e3, e4, Int.toNat_natCast, List.flatMap_cons, List.flatMap_nil, List.append_nil, List.append_assoc]
  rw [hfin] at hE2
  obtain ⟨v, hv⟩ := hE2.wr
  have hlen := hE2.len
  have hby := bytes_any g g v (encS s) VD hv (by omega)
  have HBY := Lib.hid hby
  have HE := Lib.hid hE2
  clear hE1 hk4 hk4' hE2 hv hby hfin hlen
  go_wp2_with (go_at_call 41; (with_reducible refine HBY.out.mono ?_); rintro e w4 ⟨v4, rfl, hl4, hk4, -⟩; have H4 := Lib.hid (And.intro hl4 hk4); clear hl4 hk4)
  go_ret2
  unfold EncodePost
  rw [← HCZ.out, if_pos rfl]
  exact ⟨v4, rfl, H4.out.1.mono HE.out.kept.size, HE.out.kept.trans H4.out.2 (fun _ _ e => e) (fun _ _ e => e)⟩

end Go.Proofs.YtniigjfimggobaaDoor
