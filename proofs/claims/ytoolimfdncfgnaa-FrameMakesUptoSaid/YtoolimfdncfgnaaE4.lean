/- FrameMakes: the document's Make, whatever is handed in. -/
import Derived.Test.YtoolimfdncfgnaaE3
namespace Go.Proofs.Ytoolimfdncfgnaa
open Go.RowKit
set_option linter.unusedVariables false
set_option linter.unusedSimpArgs false

theorem own_str {w W : World} {B : Nat} {v : Value} {l : List Int} (h : w.ownsRow B 5 1 v l.length (nums .u8 l)) (hk : Kept (fun _ => False) w W) : (convert 25 9 v).run Try.prog W = .ok (.string (strOfNums l)) W := nums_string (n := 0) (own_kept h hk (fun _ _ => id))
theorem book_new {gB : Nat} {w : World} (h : w.heap[gB]? = some (.cells #[.slice none 0 0, .slice none 0 0] 35 (0, 0))) : BookR gB w [] [] [] (.slice none 0 0) (.slice none 0 0) w :=
  ⟨blk_lt h, h, World.ownsRow_nil _ _ _ _, World.ownsRow_nil _ _ _ _, fun k hk => by simp [Value.ownBlock] at hk, .refl _ _, rfl, rfl, by simp, fun i l hl => by simp at hl⟩

set_option maxHeartbeats 32000000 in
set_option maxRecDepth 100000 in
theorem makes_any (kx ky : Int) (sx sy : Nat) (Ax Ay : Option Addr) (nx cx ny cy : Nat) (l m : List Int) (w : World) (hsx : sx < 18446744073709551616) (hsy : sy < 18446744073709551616)
    (hb : Bytes l) (hl : l.length ≤ 1048576) (hr : Reads w (.slice Ax nx cx) l) (hb2 : Bytes m) (hl2 : m.length ≤ 1048576) (hr2 : Reads w (.slice Ay ny cy) m) :
    Calls Try.prog 5 #[.agg #[.int .i64 kx, .int .u64 sx, .slice Ax nx cx], .agg #[.int .i64 ky, .int .u64 sy, .slice Ay ny cy]] w (True1 w) := by
  obtain ⟨i0, hi, hz0, hz1, hz2⟩ := info_u8
  have hm : maxLen = 9223372036854775807 := rfl
  have HM := Lib.hid hm
  clear hm
  obtain ⟨la, qa, s1⟩ := make_is kx sx l
  obtain ⟨lo, qo, s2⟩ := make_is ky sy m
  obtain ⟨lk, qk, s3⟩ := make_is kx sx (xorL l)
  have hx3 := s3.len (by rw [xorL_len]; omega)
  have HP := Lib.hid (And.intro (s1.len (by omega)) (And.intro (s2.len (by omega)) hx3))
  have HBY := Lib.hid (And.intro (s1.bytes hb) (And.intro (s2.bytes hb2) (s3.bytes (xorL_bytes hb))))
  have HI := Lib.hid (And.intro s1 (And.intro s2 s3))
  clear s1 s2 s3 hx3
  obtain ⟨hn1, hn2⟩ : nx = l.length ∧ ny = m.length := by
    obtain ⟨_, _, e, _⟩ := hr
    obtain ⟨_, _, e2, _⟩ := hr2
    injection e with _ e _
    injection e2 with _ e2 _
    exact ⟨e, e2⟩
  subst hn1 hn2
  obtain ⟨bx, hbx⟩ : ∃ bx : Obj, bx = .cells #[.int .i64 kx, .int .u64 sx, .slice Ax l.length cx] 31 := ⟨_, rfl⟩
  obtain ⟨bY, hbY⟩ : ∃ bY : Obj, bY = .cells #[.int .i64 ky, .int .u64 sy, .slice Ay m.length cy] 31 := ⟨_, rfl⟩
  have k00 : Kept (fun _ => False) w ((w.alloc bx).alloc bY) := kt (Kept.alloc _ _ _) (Kept.alloc _ _ _)
  have bk1 : ((w.alloc bx).alloc bY).heap[w.heap.size]? = some bx := heap_alloc2_old _ _ _
  have bk2 : ((w.alloc bx).alloc bY).heap[w.heap.size + 1]? = some bY := by
    have := heap_alloc_new (w.alloc bx) bY
    simpa using this
  subst hbx
  subst hbY
  have HR := Lib.hid (And.intro (hr.kept k00) (hr2.kept k00))
  have hsz0 : ((w.alloc (.cells #[.int .i64 kx, .int .u64 sx, .slice Ax l.length cx] 31)).alloc (.cells #[.int .i64 ky, .int .u64 sy, .slice Ay m.length cy] 31)).heap.size = w.heap.size + 2 := by simp
  have HXY : Hid (∀ W, Kept (fun _ => False) ((w.alloc (.cells #[.int .i64 kx, .int .u64 sx, .slice Ax l.length cx] 31)).alloc (.cells #[.int .i64 ky, .int .u64 sy, .slice Ay m.length cy] 31)) W →
      (W.cell? ⟨w.heap.size, 0, none⟩ = some (.int .i64 kx) ∧ W.cell? ⟨w.heap.size, 1, none⟩ = some (.int .u64 sx) ∧ W.cell? ⟨w.heap.size, 2, none⟩ = some (.slice Ax l.length cx)) ∧
      (W.cell? ⟨w.heap.size + 1, 0, none⟩ = some (.int .i64 ky) ∧ W.cell? ⟨w.heap.size + 1, 1, none⟩ = some (.int .u64 sy) ∧ W.cell? ⟨w.heap.size + 1, 2, none⟩ = some (.slice Ay m.length cy))) := Lib.hid fun W hW =>
    ⟨⟨blk_cell (blk_kept hW bk1 id) 0, blk_cell (blk_kept hW bk1 id) 1, blk_cell (blk_kept hW bk1 id) 2⟩, ⟨blk_cell (blk_kept hW bk2 id) 0, blk_cell (blk_kept hW bk2 id) 1, blk_cell (blk_kept hW bk2 id) 2⟩⟩
  have K00 := Lib.hid (And.intro k00 hsz0)
  clear hr hr2 bk1 bk2 k00 hsz0
  go_enter Try.func5, Try.ntmps5
  go_wp2_with fail
  obtain ⟨W0, hW0⟩ : ∃ W0, W0 = ((w.alloc (.cells #[.int .i64 kx, .int .u64 sx, .slice Ax l.length cx] 31)).alloc (.cells #[.int .i64 ky, .int .u64 sy, .slice Ay m.length cy] 31)) := ⟨_, rfl⟩
  rw [← hW0] at HR HXY K00 ⊢
  clear hW0
  refine (shown_any W0).mono ?_
  rintro e w1 ⟨rfl, hk1⟩
  have K1 := Lib.hid hk1
  obtain ⟨⟨x0, x1, x2⟩, y0, y1, y2⟩ := HXY.out _ (kt hk1 (Kept.alloc (fun _ => False) w1 (.cells #[.slice none 0 0, .slice none 0 0] 35)))
  clear hk1
  go_wp2_with fail
  have hbB := heap_alloc_new w1 (.cells #[.slice none 0 0, .slice none 0 0] 35)
  have k2' : Kept (fun _ => False) w1 (w1.alloc (.cells #[.slice none 0 0, .slice none 0 0] 35)) := .alloc _ _ _
  obtain ⟨gB, hgB⟩ : ∃ g, g = w1.heap.size := ⟨_, rfl⟩
  rw [← hgB] at hbB ⊢
  have HG := Lib.hid hgB
  generalize w1.alloc (.cells #[.slice none 0 0, .slice none 0 0] 35) = w2 at *
  have K2 := Lib.hid (And.intro k2' hbB)
  clear k2' hbB hgB
  refine (lent_any _ l w2 hb (by omega) (HR.out.1.kept (kt K1.out K2.out.1))).mono ?_
  rintro e w3 ⟨rfl, hk3, hh3⟩
  have K3 := Lib.hid (And.intro hk3 (And.intro hh3 (blk_lt hh3.choose_spec.1)))
  clear hk3 hh3
  clear x0 x1 x2 y0 y1 y2
  obtain ⟨⟨x0, x1, x2⟩, y0, y1, y2⟩ := HXY.out _ (kt (kt K1.out K2.out.1) K3.out.1)
  go_wp2_with fail
  refine (makeG kx sx _ l la w3 HI.out.1 hsx (by omega) hb K3.out.2.1.lent).mono ?_
  rintro e w4 ⟨A4, c4, rfl, ho4, hk4⟩
  have K4 := Lib.hid (And.intro hk4 ho4)
  clear hk4 ho4
  clear x0 x1 x2 y0 y1 y2
  obtain ⟨⟨x0, x1, x2⟩, y0, y1, y2⟩ := HXY.out _ (kt (kt (kt K1.out K2.out.1) K3.out.1) K4.out.1)
  go_wp2_with fail
  refine (makeG kx sx _ l la w4 HI.out.1 hsx (by omega) hb (K3.out.2.1.kept K4.out.1).lent).mono ?_
  rintro e w5 ⟨A5, c5, rfl, ho5, hk5⟩
  have K5 := Lib.hid (And.intro hk5 ho5)
  clear hk5 ho5
  clear x0 x1 x2 y0 y1 y2
  obtain ⟨⟨x0, x1, x2⟩, y0, y1, y2⟩ := HXY.out _ (kt (kt (kt (kt K1.out K2.out.1) K3.out.1) K4.out.1) K5.out.1)
  go_wp2_with fail
  refine (makeG ky sy _ m lo w5 HI.out.2.1 hsy (by omega) hb2 (HR.out.2.kept (kt (kt (kt (kt K1.out K2.out.1) K3.out.1) K4.out.1) K5.out.1))).mono ?_
  rintro e w6 ⟨A6, c6, rfl, ho6, hk6⟩
  have K6 := Lib.hid (And.intro hk6 ho6)
  clear hk6 ho6
  clear x0 x1 x2 y0 y1 y2
  obtain ⟨⟨x0, x1, x2⟩, y0, y1, y2⟩ := HXY.out _ (kt (kt (kt (kt (kt K1.out K2.out.1) K3.out.1) K4.out.1) K5.out.1) K6.out.1)
  go_wp2_with fail
  refine (makeG kx sx _ l la w6 HI.out.1 hsx (by omega) hb (K3.out.2.1.kept (kt (kt K4.out.1 K5.out.1) K6.out.1)).lent).mono ?_
  rintro e w7 ⟨A7, c7, rfl, ho7, hk7⟩
  have K7 := Lib.hid (And.intro hk7 ho7)
  clear hk7 ho7
  clear x0 x1 x2 y0 y1 y2
  obtain ⟨⟨x0, x1, x2⟩, y0, y1, y2⟩ := HXY.out _ (kt (kt (kt (kt (kt (kt K1.out K2.out.1) K3.out.1) K4.out.1) K5.out.1) K6.out.1) K7.out.1)
  go_wp2_with fail
  refine (refMakeG kx sx _ l la w7 HI.out.1 hsx (by omega) hb (HR.out.1.kept (kt (kt (kt (kt (kt (kt K1.out K2.out.1) K3.out.1) K4.out.1) K5.out.1) K6.out.1) K7.out.1))).mono ?_
  rintro e w8 ⟨A8, c8, rfl, ho8, hk8⟩
  have K8 := Lib.hid (And.intro hk8 ho8)
  clear hk8 ho8
  clear x0 x1 x2 y0 y1 y2
  obtain ⟨⟨x0, x1, x2⟩, y0, y1, y2⟩ := HXY.out _ (kt (kt (kt (kt (kt (kt (kt K1.out K2.out.1) K3.out.1) K4.out.1) K5.out.1) K6.out.1) K7.out.1) K8.out.1)
  go_wp2_with fail
  refine (refMakeG ky sy _ m lo w8 HI.out.2.1 hsy (by omega) hb2 (HR.out.2.kept (kt (kt (kt (kt (kt (kt (kt K1.out K2.out.1) K3.out.1) K4.out.1) K5.out.1) K6.out.1) K7.out.1) K8.out.1))).mono ?_
  rintro e w9 ⟨A9, c9, rfl, ho9, hk9⟩
  have K9 := Lib.hid (And.intro hk9 ho9)
  clear hk9 ho9
  clear x0 x1 x2 y0 y1 y2
  obtain ⟨⟨x0, x1, x2⟩, y0, y1, y2⟩ := HXY.out _ (kt (kt (kt (kt (kt (kt (kt (kt K1.out K2.out.1) K3.out.1) K4.out.1) K5.out.1) K6.out.1) K7.out.1) K8.out.1) K9.out.1)
  have z4 := own_str K4.out.2 (kt (kt (kt (kt K5.out.1 K6.out.1) K7.out.1) K8.out.1) K9.out.1)
  have z5 := own_str K5.out.2 (kt (kt (kt K6.out.1 K7.out.1) K8.out.1) K9.out.1)
  have z6 := own_str K6.out.2 (kt (kt K7.out.1 K8.out.1) K9.out.1)
  have z7 := own_str K7.out.2 (kt K8.out.1 K9.out.1)
  have z8 := own_str K8.out.2 K9.out.1
  have z9 := own_str K9.out.2 (.refl _ _)
  go_wp2_with fail
  refine (back_any w2.heap.size _ l w9 hb (by omega) (K3.out.2.1.kept (kt (kt (kt (kt (kt K4.out.1 K5.out.1) K6.out.1) K7.out.1) K8.out.1) K9.out.1)) (HR.out.1.beside (kt (kt (kt (kt (kt (kt (kt (kt K1.out K2.out.1) K3.out.1) K4.out.1) K5.out.1) K6.out.1) K7.out.1) K8.out.1) K9.out.1) (Nat.le_trans K1.out.size K2.out.1.size))).mono ?_
  rintro e w10 ⟨rfl, hk10, hh10⟩
  clear z4 z5 z6 z7 z8 z9
  have hs3 := K3.out.1.size
  have hs4 := K4.out.1.size
  have hs5 := K5.out.1.size
  have hs6 := K6.out.1.size
  have hs7 := K7.out.1.size
  have g3 := K3.out.2.2
  have R4 := own_kept (own_kept K4.out.2 (kt (kt (kt (kt K5.out.1 K6.out.1) K7.out.1) K8.out.1) K9.out.1) (fun _ _ => id)) hk10 (fun k hk e => by have := (K4.out.2.lt k hk).1; omega)
  have R5 := own_kept (own_kept K5.out.2 (kt (kt (kt K6.out.1 K7.out.1) K8.out.1) K9.out.1) (fun _ _ => id)) hk10 (fun k hk e => by have := (K5.out.2.lt k hk).1; omega)
  have R6 := own_kept (own_kept K6.out.2 (kt (kt K7.out.1 K8.out.1) K9.out.1) (fun _ _ => id)) hk10 (fun k hk e => by have := (K6.out.2.lt k hk).1; omega)
  have R7 := own_kept (own_kept K7.out.2 (kt K8.out.1 K9.out.1) (fun _ _ => id)) hk10 (fun k hk e => by have := (K7.out.2.lt k hk).1; omega)
  have B10 := blk_kept hk10 (blk_kept (kt (kt (kt (kt (kt (kt K3.out.1 K4.out.1) K5.out.1) K6.out.1) K7.out.1) K8.out.1) K9.out.1) K2.out.2 id) (fun e => by have := blk_lt K2.out.2; omega)
  have k10' : Kept (fun _ => False) W0 w10 := (kt (kt (kt (kt (kt (kt (kt (kt K1.out K2.out.1) K3.out.1) K4.out.1) K5.out.1) K6.out.1) K7.out.1) K8.out.1) K9.out.1).trans hk10 (fun _ _ e => e) (fun i hi e => by have := K1.out.size; have := K2.out.1.size; omega)
  have hs10 := hk10.size
  have hs9 := (kt K8.out.1 K9.out.1).size
  have K10 := Lib.hid (And.intro k10' (And.intro hh10 (And.intro R4 (And.intro R5 (And.intro R6 (And.intro R7 (And.intro (Nat.le_trans hs9 hs10) B10)))))))
  clear hk10 hh10 k10' R4 R5 R6 R7 g3 hs3 hs4 hs5 hs6 hs7 hs9 hs10 B10
  clear x0 x1 x2 y0 y1 y2
  have hxl : (xorL l).length = l.length := xorL_len l
  have hxb := xorL_bytes hb
  obtain ⟨X, hX⟩ : ∃ X, X = xorL l := ⟨_, rfl⟩
  have HRX := Lib.hid (fun W (h : Kept (fun _ => False) w10 W) => (K10.out.2.1.kept h).over)
  rw [← hX] at hxl hxb HRX
  have HI2 := Lib.hid (hX ▸ HI.out.2.2)
  have ow1 := own_empty' w10 5
  have ra1 := (HRX.out _ (.refl _ _)).kept (Kept.alloc _ w10 (.cells #[] 5))
  rw [hxl] at ra1 HRX
  clear hX
  have HXL := Lib.hid hxl
  go_wp2_with (at_builtin; refine wpList_append_reads rfl _ _ 25 rfl w10.heap.size 5 i0 (.int .u8 0) 1 Try.underlying25 hi hz0 hz1 hz2 rfl (.slice (some ⟨w10.heap.size, 0, none⟩) 0 0) (.slice (some ⟨w2.heap.size, 0, none⟩) l.length (l.length + 40)) [] X rfl rfl ra1 ow1 ?c2 ?c3 ?c4 ?_)
  case c2 => have := HM.out; simp; omega
  case c3 => simp; omega
  case c4 => simp
  rintro v11 w11 st11
  have k11' := st11.old (Kept.alloc (fun _ => False) w10 _) (fun i hi => by simp [Value.ownBlock] at hi; omega)
  have S11 := Lib.hid (And.intro st11 k11')
  clear st11 k11' ra1 ow1
  have HRO := Lib.hid (fun W (h : Kept (fun _ => False) w11 W) => And.intro (HRX.out _ (kt S11.out.2 h)) (show Reads W v11 X from S11.out.1.reads.kept h))
  obtain ⟨⟨x0, x1, x2⟩, y0, y1, y2⟩ := HXY.out _ (kt K10.out.1 S11.out.2)
  go_wp2_with fail
  refine (makeG kx sx _ X lk w11 HI2.out hsx (by omega) hxb (by have := (HRO.out _ (.refl _ _)).1; exact this)).mono ?_
  rintro e w12 ⟨A12, c12, rfl, ho12, hk12⟩
  have K12 := Lib.hid (And.intro hk12 ho12)
  clear hk12 ho12 x0 x1 x2 y0 y1 y2
  obtain ⟨⟨x0, x1, x2⟩, y0, y1, y2⟩ := HXY.out _ (kt (kt K10.out.1 S11.out.2) K12.out.1)
  go_wp2_with fail
  refine (refMakeG kx sx _ X lk w12 HI2.out hsx (by omega) hxb (HRO.out _ K12.out.1).2).mono ?_
  rintro e w13 ⟨A13, c13, rfl, ho13, hk13⟩
  have K13 := Lib.hid (And.intro hk13 ho13)
  clear hk13 ho13 x0 x1 x2 y0 y1 y2
  have z12 := own_str K12.out.2 K13.out.1
  have z13 := own_str K13.out.2 (.refl _ _)
  go_wp2_with fail
  clear z12 z13
  have kk : Kept (fun _ => False) w10 w13 := kt S11.out.2 (kt K12.out.1 K13.out.1)
  have O4 := own_kept K10.out.2.2.1 kk (fun _ _ => id)
  have O5 := own_kept K10.out.2.2.2.1 kk (fun _ _ => id)
  have O6 := own_kept K10.out.2.2.2.2.1 kk (fun _ _ => id)
  have O7 := own_kept K10.out.2.2.2.2.2.1 kk (fun _ _ => id)
  have O8 := own_kept K12.out.2 K13.out.1 (fun _ _ => id)
  have BK := blk_kept kk K10.out.2.2.2.2.2.2.2 id
  have KW := Lib.hid (kt K10.out.1 kk)
  have HO := Lib.hid (And.intro O4 (And.intro O5 (And.intro O6 (And.intro O7 (And.intro O8 BK)))))
  clear kk O4 O5 O6 O7 O8 BK
  have hne : ∀ {A : Option Addr} {n c B : Nat} {xs : List Value}, w13.ownsRow B 5 1 (.slice A n c) n xs → ∀ a, A = some a → a.block ≠ gB := fun h a ha e => own_ne h HO.out.2.2.2.2.2 (by decide) (by rw [ha]; simp [Value.ownBlock, e])
  have HNE := Lib.hid (And.intro (hne HO.out.1) (And.intro (hne HO.out.2.1) (And.intro (hne HO.out.2.2.1) (And.intro (hne HO.out.2.2.2.1) (hne HO.out.2.2.2.2.1)))))
  clear hne
  have B0 := Lib.hid (book_new HO.out.2.2.2.2.2)
  refine (keep_any gB w13 _ _ _ _ _ A4 la la.length c4 w13 B0.out rfl HBY.out.1 HP.out.1 (Lies.of_own HO.out.1).reads HNE.out.1 (by simp)).mono ?_
  rintro e w14 ⟨rfl, u0, vl0, vw0, hbk0⟩
  have B1 := Lib.hid hbk0
  clear hbk0
  go_wp2_with fail
  refine (keep_any gB w13 _ _ _ _ _ A5 la la.length c5 w14 B1.out rfl HBY.out.1 HP.out.1 (Lies.of_own HO.out.2.1).reads HNE.out.2.1 (by simp)).mono ?_
  rintro e w15 ⟨rfl, u1, vl1, vw1, hbk1⟩
  have B2 := Lib.hid hbk1
  clear hbk1
  go_wp2_with fail
  refine (keep_any gB w13 _ _ _ _ _ A6 lo lo.length c6 w15 B2.out rfl HBY.out.2.1 HP.out.2.1 (Lies.of_own HO.out.2.2.1).reads HNE.out.2.2.1 (by simp)).mono ?_
  rintro e w16 ⟨rfl, u2, vl2, vw2, hbk2⟩
  have B3 := Lib.hid hbk2
  clear hbk2
  go_wp2_with fail
  refine (keep_any gB w13 _ _ _ _ _ A7 la la.length c7 w16 B3.out rfl HBY.out.1 HP.out.1 (Lies.of_own HO.out.2.2.2.1).reads HNE.out.2.2.2.1 (by simp)).mono ?_
  rintro e w17 ⟨rfl, u3, vl3, vw3, hbk3⟩
  have B4 := Lib.hid hbk3
  clear hbk3
  go_wp2_with fail
  refine (keep_any gB w13 _ _ _ _ _ A12 lk lk.length c12 w17 B4.out rfl HBY.out.2.2 HP.out.2.2 (Lies.of_own HO.out.2.2.2.2.1).reads HNE.out.2.2.2.2 (by simp)).mono ?_
  rintro e w18 ⟨rfl, u4, vl4, vw4, hbk4⟩
  have B5 := Lib.hid hbk4
  clear hbk4
  go_wp2_with fail
  have hs4 := K4.out.1.size
  have hs5 := K5.out.1.size
  have hs6 := K6.out.1.size
  have hs7 := K7.out.1.size
  have hs7' := K10.out.2.2.2.2.2.2.1
  have hs11 := S11.out.2.size
  have hs12 := K12.out.1.size
  have hs13 := K13.out.1.size
  have hchn : Chn [.slice A4 la.length c4, .slice A5 la.length c5, .slice A6 lo.length c6, .slice A7 la.length c7, .slice A12 lk.length c12] w3.heap.size w12.heap.size :=
    .cons (K4.out.2.lt) hs4 (.cons (K5.out.2.lt) hs5 (.cons (K6.out.2.lt) hs6 (.cons (c := w11.heap.size) (fun k hk => by have := K7.out.2.lt k hk; omega) (by omega) (.cons (c := w12.heap.size) (fun k hk => K12.out.2.lt k hk) (by omega) (.nil (Nat.le_refl _))))))
  have hB5 : BookR gB w13 [.slice A4 la.length c4, .slice A5 la.length c5, .slice A6 lo.length c6, .slice A7 la.length c7, .slice A12 lk.length c12] _ [la, la, lo, la, lk] vl4 vw4 w18 := B5.out
  have hks := hB5.kept
  have hk18 := hks.size
  have hlift : ∀ {n B : Nat} {v : Value} {xs : List Value}, w13.ownsRow B 5 1 v n xs → w3.heap.size ≤ B → w18.ownsRow w3.heap.size 5 1 v n xs := fun h hB => own_lower (own_kept h hks (fun k hk e => own_ne h HO.out.2.2.2.2.2 (by decide) (e ▸ hk))) hB
  have l1 := HP.out.1
  have l2 := HP.out.2.1
  have l3 := HP.out.2.2
  have hE := ends_any w3.heap.size gB w13 _ _ _ _ _ w18 hB5 (by omega) (fun i v hv => by
    rcases i with _ | _ | _ | _ | _ | i
    · simp at hv; subst hv; exact ⟨la, rfl, l1, hlift HO.out.1 (Nat.le_refl _)⟩
    · simp at hv; subst hv; exact ⟨la, rfl, l1, hlift HO.out.2.1 (by omega)⟩
    · simp at hv; subst hv; exact ⟨lo, rfl, l2, hlift HO.out.2.2.1 (by omega)⟩
    · simp at hv; subst hv; exact ⟨la, rfl, l1, hlift HO.out.2.2.2.1 (by omega)⟩
    · simp at hv; subst hv; exact ⟨lk, rfl, l3, hlift HO.out.2.2.2.2.1 (by omega)⟩
    · simp at hv) hchn.sep
  have HE := Lib.hid hE
  have hgB : W0.heap.size ≤ gB := by
    have := K1.out.size
    have := HG.out
    omega
  have hend : Hid (∀ W, Kept (fun k => k = gB ∨ Blocks [.slice A4 la.length c4, .slice A5 la.length c5, .slice A6 lo.length c6, .slice A7 la.length c7, .slice A12 lk.length c12] k) w18 W → Kept (fun _ => False) w W) := Lib.hid fun W hW => by
    have k1 : Kept (fun _ => False) W0 w18 := KW.out.trans hks (fun _ _ e => e) (fun k hk e => by omega)
    refine kt K00.out.1 (k1.trans hW (fun _ _ e => e) fun k hk hbk => ?_)
    rcases hbk with rfl | ⟨i, v, hv, hb⟩
    · omega
    · have h1 := (hchn.lo.2 i v k hv hb).1
      have h2 := K1.out.size
      have h3 := K2.out.1.size
      have h4 := K3.out.1.size
      omega
  clear hs4 hs5 hs6 hs7 hs7' hs11 hs12 hs13 hchn hB5 hks hk18 hlift hE hgB
  refine HE.out.mono ?_
  rintro e w19 ⟨rfl, hk19⟩
  have K19 := Lib.hid (hend.out _ hk19)
  clear hk19 hend
  go_wp2_with fail
  go_ret
  exact ⟨rfl, K19.out⟩
end Go.Proofs.Ytoolimfdncfgnaa
