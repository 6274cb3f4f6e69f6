/- FrameHeads: the document's Head, whatever is handed in. -/
import Derived.Test.YtoolimfdncfgnaaC5
import Derived.Test.YtoolimfdncfgnaaC9
namespace Go.Proofs.Ytoolimfdncfgnaa
open Go.RowKit
set_option linter.unusedVariables false
set_option linter.unusedSimpArgs false

def HeadIs (l : List Int) (k s n m q : Nat) : Prop :=
  match headS l with
  | .torn => k = 0 ∧ s = 0 ∧ n = 0 ∧ m = 0 ∧ q = 23
  | .bad => k = 0 ∧ s = 0 ∧ n = 0 ∧ m = 0 ∧ q = 24
  | .ok k' s' n' m' => k = k' ∧ s = s' ∧ n = n' ∧ m = m' ∧ q = 0
theorem head_is (l : List Int) : ∃ k s n m q, HeadIs l k s n m q := by
  unfold HeadIs
  cases headS l with
  | torn => exact ⟨_, _, _, _, _, rfl, rfl, rfl, rfl, rfl⟩
  | bad => exact ⟨_, _, _, _, _, rfl, rfl, rfl, rfl, rfl⟩
  | ok a b c d => exact ⟨_, _, _, _, _, rfl, rfl, rfl, rfl, rfl⟩
def Gives43 (k s n m q : Nat) (w : World) (e : Ending) (w' : World) : Prop :=
  e = .returned (.tuple #[.agg #[.int .i64 k, .int .u64 s, .int .i64 n, .int .u32 m], .int .i64 q]) ∧ Kept (fun _ => False) w w'
theorem HeadPost.gives {l : List Int} {k s n m q : Nat} {w w' : World} {e : Ending} (hi : HeadIs l k s n m q) (h : HeadPost l w e w') : Gives43 k s n m q w e w' := by
  obtain ⟨hk, h⟩ := h
  unfold HeadIs at hi
  refine ⟨?_, hk⟩
  cases hs : headS l with
  | torn => rw [hs] at h hi; obtain ⟨rfl, rfl, rfl, rfl, rfl⟩ := hi; exact h
  | bad => rw [hs] at h hi; obtain ⟨rfl, rfl, rfl, rfl, rfl⟩ := hi; exact h
  | ok a b c d => rw [hs] at h hi; obtain ⟨rfl, rfl, rfl, rfl, rfl⟩ := hi; exact h
theorem head_any2 (v : Value) (l : List Int) (w : World) (hb : Bytes l) (hr : Reads w v l) (hcap : ∀ A n c, v = .slice A n c → c ≤ 9223372036854775807) :
    Calls Try.prog 22 #[v] w (HeadPost l w) := by
  by_cases hl : l.length < 24
  · obtain ⟨A, c, rfl, _⟩ := hr
    exact head_torn A c l w hl
  · obtain ⟨b, off, c, rfl, hc, hh⟩ := reads_here hr (by omega)
    exact head_any b off c l w (by omega) hc (hcap _ _ _ rfl) hb hh
theorem headG (v : Value) (l : List Int) (w : World) {k s n m q : Nat} (hi : HeadIs l k s n m q) (hb : Bytes l) (hr : Reads w v l) (hcap : ∀ A n c, v = .slice A n c → c ≤ 9223372036854775807) :
    Calls Try.prog 22 #[v] w (Gives43 k s n m q w) := (head_any2 v l w hb hr hcap).mono fun _ _ h => h.gives hi
theorem refHeadG (v : Value) (l : List Int) (w : World) {k s n m q : Nat} (hi : HeadIs l k s n m q) (hb : Bytes l) (hr : Reads w v l) (hcap : ∀ A n c, v = .slice A n c → c ≤ 9223372036854775807) :
    Calls Try.prog 23 #[v] w (Gives43 k s n m q w) := (refHead_any2 v l w hb hr hcap).mono fun _ _ h => h.gives hi

theorem heap_alloc_later {w : World} {g : Nat} {o : Obj} (h : w.heap[g]? = some o) (o' : Obj) : (w.alloc o').heap[g]? = some o := by rw [Below.heap_alloc w o' g (blk_lt h)]; exact h
theorem own_capm {w : World} {B E n : Nat} {v : Value} {xs : List Value} (h : w.ownsRow B E 1 v n xs) : ∀ A k c, v = .slice A k c → c ≤ 9223372036854775807 := by
  intro A k c hv
  rcases h.2 with ⟨e, _⟩ | ⟨g', cap', cur, e, _, _, _, h2, _⟩
  · rw [e] at hv; injection hv; omega
  · rw [e] at hv; injection hv with _ _ e3; unfold maxLen at h2; omega

set_option maxHeartbeats 8000000 in
theorem heads_any (v : Value) (l : List Int) (w : World) (hb : Bytes l) (hl : l.length ≤ 4294967296) (hr : Reads w v l) (hcap : ∀ A n c, v = .slice A n c → c ≤ 9223372036854775807) :
    Calls Try.prog 6 #[v] w (True1 w) := by
  obtain ⟨i0, hi, hz0, hz1, hz2⟩ := info_u8
  have hm : maxLen = 9223372036854775807 := rfl
  have HM := Lib.hid hm
  clear hm
  obtain ⟨k, s, n, m, q, hi1⟩ := head_is l
  obtain ⟨k', s', n', m', q', hi2⟩ := head_is (xorL l)
  have HI := Lib.hid (And.intro hi1 hi2)
  have HR := Lib.hid hr
  have HCAP := Lib.hid hcap
  clear hr hi1 hi2 hcap
  go_enter Try.func6, Try.ntmps6
  go_wp2_with fail
  refine (shown_any w).mono ?_
  rintro e w1 ⟨rfl, hk1⟩
  have K1 := Lib.hid hk1
  clear hk1
  go_wp2_with fail
  refine (lent_any v l w1 hb hl (HR.out.kept K1.out)).mono ?_
  rintro e w2 ⟨rfl, hk2, hh2⟩
  have K2 := Lib.hid (And.intro hk2 hh2)
  clear hk2 hh2
  go_wp2_with fail
  refine (headG _ l w2 HI.out.1 hb K2.out.2.lent (by intro A n c h; injection h; omega)).mono ?_
  rintro e w3 ⟨rfl, hk3⟩
  go_wp2_with fail
  have hb3 := heap_alloc_new w3 (.cells #[.int .i64 k, .int .u64 s, .int .i64 n, .int .u32 m] 43)
  have hk3' : Kept (fun _ => False) w2 (w3.alloc (.cells #[.int .i64 k, .int .u64 s, .int .i64 n, .int .u32 m] 43)) := kt hk3 (.alloc _ _ _)
  obtain ⟨g3, hg3⟩ : ∃ g, g = w3.heap.size := ⟨_, rfl⟩
  rw [← hg3] at hb3 ⊢
  have hs3 := hk3.size
  rw [← hg3] at hs3
  generalize w3.alloc (.cells #[.int .i64 k, .int .u64 s, .int .i64 n, .int .u32 m] 43) = W3 at *
  have K3 := Lib.hid (And.intro hk3' (And.intro hb3 hs3))
  clear hk3 hb3 hk3' hg3 hs3
  refine (headG _ l W3 HI.out.1 hb (K2.out.2.kept K3.out.1).lent (by intro A n c h; injection h; omega)).mono ?_
  rintro e w4 ⟨rfl, hk4⟩
  go_wp2_with fail
  have hb4 := heap_alloc_new w4 (.cells #[.int .i64 k, .int .u64 s, .int .i64 n, .int .u32 m] 43)
  have hk4' : Kept (fun _ => False) W3 (w4.alloc (.cells #[.int .i64 k, .int .u64 s, .int .i64 n, .int .u32 m] 43)) := kt hk4 (.alloc _ _ _)
  obtain ⟨g4, hg4⟩ : ∃ g, g = w4.heap.size := ⟨_, rfl⟩
  rw [← hg4] at hb4 ⊢
  have hs4 := hk4.size
  rw [← hg4] at hs4
  generalize w4.alloc (.cells #[.int .i64 k, .int .u64 s, .int .i64 n, .int .u32 m] 43) = W4 at *
  have K4 := Lib.hid (And.intro hk4' (And.intro hb4 hs4))
  clear hk4 hb4 hk4' hg4 hs4
  refine (refHeadG _ l W4 HI.out.1 hb (HR.out.kept (kt K1.out (kt K2.out.1 (kt K3.out.1 K4.out.1)))) HCAP.out).mono ?_
  rintro e w5 ⟨rfl, hk5⟩
  go_wp2_with fail
  have hb5 := heap_alloc_new w5 (.cells #[.int .i64 k, .int .u64 s, .int .i64 n, .int .u32 m] 43)
  have hk5' : Kept (fun _ => False) W4 (w5.alloc (.cells #[.int .i64 k, .int .u64 s, .int .i64 n, .int .u32 m] 43)) := kt hk5 (.alloc _ _ _)
  obtain ⟨g5, hg5⟩ : ∃ g, g = w5.heap.size := ⟨_, rfl⟩
  rw [← hg5] at hb5 ⊢
  have hs5 := hk5.size
  rw [← hg5] at hs5
  generalize w5.alloc (.cells #[.int .i64 k, .int .u64 s, .int .i64 n, .int .u32 m] 43) = W5 at *
  have K5 := Lib.hid (And.intro hk5' (And.intro hb5 hs5))
  clear hk5 hb5 hk5' hg5 hs5
  refine (back_any w1.heap.size _ l W5 hb hl (K2.out.2.kept (kt K3.out.1 (kt K4.out.1 K5.out.1))) (HR.out.beside (kt K1.out (kt K2.out.1 (kt K3.out.1 (kt K4.out.1 K5.out.1)))) K1.out.size)).mono ?_
  rintro e w6 ⟨rfl, hk6, hh6⟩
  have h2s := K2.out.1.size
  have B3 := blk_kept hk6 (blk_kept (kt K4.out.1 K5.out.1) K3.out.2.1 id) (fun e => by have := K3.out.2.2; have := blk_lt K2.out.2.choose_spec.1; omega)
  have B4 := blk_kept hk6 (blk_kept K5.out.1 K4.out.2.1 id) (fun e => by have := K4.out.2.2; have := K3.out.1.size; have := blk_lt K2.out.2.choose_spec.1; omega)
  have B5 := blk_kept hk6 K5.out.2.1 (fun e => by have := K5.out.2.2; have := K4.out.1.size; have := K3.out.1.size; have := blk_lt K2.out.2.choose_spec.1; omega)
  have k6' : Kept (fun _ => False) w w6 := (kt K1.out (kt K2.out.1 (kt K3.out.1 (kt K4.out.1 K5.out.1)))).trans hk6 (fun _ _ e => e) (fun i hi e => by have := K1.out.size; omega)
  have K6 := Lib.hid (And.intro k6' (And.intro hh6 (And.intro B3 (And.intro B4 B5))))
  clear hk6 hh6 B3 B4 B5 k6' h2s
  have hxl : (xorL l).length = l.length := xorL_len l
  have hxb := xorL_bytes hb
  obtain ⟨X, hX⟩ : ∃ X, X = xorL l := ⟨_, rfl⟩
  have HRX := Lib.hid (fun W (h : Kept (fun _ => False) w6 W) => (K6.out.2.1.kept h).over)
  rw [← hX] at hxl hxb HRX
  have HI2 := Lib.hid (hX ▸ HI.out.2)
  have ow1 := own_empty' w6 5
  have ra1 := (HRX.out _ (.refl _ _)).kept (Kept.alloc _ w6 (.cells #[] 5))
  rw [hxl] at ra1 HRX
  clear hX
  have HXL := Lib.hid hxl
  go_wp2_with (at_builtin; refine wpList_append_reads rfl _ _ 25 rfl w6.heap.size 5 i0 (.int .u8 0) 1 Try.underlying25 hi hz0 hz1 hz2 rfl (.slice (some ⟨w6.heap.size, 0, none⟩) 0 0) (.slice (some ⟨w1.heap.size, 0, none⟩) l.length (l.length + 40)) [] X rfl rfl ra1 ow1 ?c2 ?c3 ?c4 ?_)
  case c2 => have := HM.out; simp; omega
  case c3 => simp; omega
  case c4 => simp
  rintro v7 W7 st7
  have k7' := st7.old (Kept.alloc (fun _ => False) w6 _) (fun i hi => by simp [Value.ownBlock] at hi; omega)
  have S7 := Lib.hid (And.intro st7 k7')
  clear st7 k7' ra1 ow1
  have HRO := Lib.hid (fun W (h : Kept (fun _ => False) W7 W) => And.intro (HRX.out _ (kt S7.out.2 h)) (show Reads W v7 X from S7.out.1.reads.kept h))
  have HC7 : Hid (∀ A n c, v7 = .slice A n c → c ≤ 9223372036854775807) := Lib.hid (own_capm S7.out.1.own)
  go_wp2_with fail
  refine (headG _ X W7 HI2.out hxb (by have := (HRO.out _ (.refl _ _)).1; exact this) (by intro A n c h; injection h; omega)).mono ?_
  rintro e w8 ⟨rfl, hk8⟩
  go_wp2_with fail
  have hb8 := heap_alloc_new w8 (.cells #[.int .i64 k', .int .u64 s', .int .i64 n', .int .u32 m'] 43)
  have hk8' : Kept (fun _ => False) W7 (w8.alloc (.cells #[.int .i64 k', .int .u64 s', .int .i64 n', .int .u32 m'] 43)) := kt hk8 (.alloc _ _ _)
  obtain ⟨g8, hg8⟩ : ∃ g, g = w8.heap.size := ⟨_, rfl⟩
  rw [← hg8] at hb8 ⊢
  have hs8 := hk8.size
  rw [← hg8] at hs8
  generalize w8.alloc (.cells #[.int .i64 k', .int .u64 s', .int .i64 n', .int .u32 m'] 43) = W8 at *
  have K8 := Lib.hid (And.intro hk8' (And.intro hb8 hs8))
  clear hk8 hb8 hk8' hg8 hs8
  refine (refHeadG _ X W8 HI2.out hxb (HRO.out _ K8.out.1).2 HC7.out).mono ?_
  rintro e w9 ⟨rfl, hk9⟩
  have k69 := kt S7.out.2 (kt K8.out.1 hk9)
  have kend := kt K6.out.1 k69
  obtain ⟨o, ho⟩ : ∃ o : Obj, o = .cells #[.int .i64 k', .int .u64 s', .int .i64 n', .int .u32 m'] 43 := ⟨_, rfl⟩
  have b3 := heap_alloc_later (blk_kept k69 K6.out.2.2.1 id) o
  have b4 := heap_alloc_later (blk_kept k69 K6.out.2.2.2.1 id) o
  have b5 := heap_alloc_later (blk_kept k69 K6.out.2.2.2.2 id) o
  have b8 := heap_alloc_later (blk_kept hk9 K8.out.2.1 id) o
  rw [ho] at b3 b4 b5 b8
  have KE := Lib.hid (kt kend (Kept.alloc _ w9 o))
  rw [ho] at KE
  clear ho k69 kend hk9
  have c30 := blk_cell b3 0
  have c31 := blk_cell b3 1
  have c32 := blk_cell b3 2
  have c33 := blk_cell b3 3
  have c40 := blk_cell b4 0
  have c41 := blk_cell b4 1
  have c42 := blk_cell b4 2
  have c43 := blk_cell b4 3
  have c50 := blk_cell b5 0
  have c51 := blk_cell b5 1
  have c52 := blk_cell b5 2
  have c53 := blk_cell b5 3
  have c80 := blk_cell b8 0
  have c81 := blk_cell b8 1
  have c82 := blk_cell b8 2
  have c83 := blk_cell b8 3
  clear b3 b4 b5 b8
  go_wp2_with fail
  go_ret
  exact ⟨rfl, KE.out⟩
end Go.Proofs.Ytoolimfdncfgnaa
