/- FrameParts: sums go on, in whatever parts a text is summed. -/
import Derived.Test.YtoolimfdncfgnaaA8
namespace Go.Proofs.Ytoolimfdncfgnaa
open Go.RowKit
set_option linter.unusedVariables false
set_option linter.unusedSimpArgs false

theorem reads_le {w : World} {A : Option Addr} {n c : Nat} {l : List Int} (h : Reads w (.slice A n c) l) : l.length = n ∧ n ≤ c := by
  obtain ⟨A', c', he, hc, _⟩ := h
  injection he with _ h1 h2
  subst h1 h2
  exact ⟨rfl, hc.2⟩
theorem parts_row_len {n c : Nat} (h : n ≤ c) (hm : c ≤ maxLen) : n ≤ 9223372036854775807 := Nat.le_trans h (by unfold maxLen at hm; exact hm)
theorem xor_twice (n s : Nat) : n ^^^ (n ^^^ s) = s := by rw [← Nat.xor_assoc, Nat.xor_self, Nat.zero_xor]
theorem crc_append (s : Nat) (a b : List Int) : crc s (a ++ b) = crc (crc s a) b := by simp [crc, List.foldl_append]
theorem more_append (s : Nat) (a b : List Int) : more s (a ++ b) = more (more s a) b := by
  unfold more; rw [crc_append, xor_twice]
theorem more_empty (s : Nat) : more s [] = s := by unfold more; simp [crc, xor_twice]

theorem info_u8 : ∃ i0, Try.prog.info? 5 = some i0 ∧ i0.zero = some (.int .u8 0) ∧ i0.size = 1 ∧ i0.bytes = 1 := info_parts Try.info5
theorem own_empty' (w : World) (E : Nat) : (w.alloc (.cells #[] E)).ownsRow w.heap.size E 1 (.slice (some ⟨w.heap.size, 0, none⟩) 0 0) ([] : List Int).length (nums .u8 []) := own_empty w w.heap.size E (Nat.le_refl _)

set_option maxHeartbeats 4000000 in
theorem parts_big (v0 v1 v2 : Value) (a b c : List Int) (w : World) (h : 2147483647 < a.length + b.length + c.length) (ra : Reads w v0 a) (rb : Reads w v1 b) (rc : Reads w v2 c)
    (la : a.length ≤ 9223372036854775807) (lb : b.length ≤ 9223372036854775807) (lc : c.length ≤ 9223372036854775807) :
    Calls Try.prog 8 #[v0, v1, v2] w (True1 w) := by
  obtain ⟨A0, c0, rfl, -⟩ := ra
  obtain ⟨A1, c1, rfl, -⟩ := rb
  obtain ⟨A2, c2, rfl, -⟩ := rc
  have hcase : 2147483647 < a.length ∨ (a.length ≤ 2147483647 ∧ 2147483647 - a.length < b.length) ∨ (a.length ≤ 2147483647 ∧ b.length ≤ 2147483647 - a.length ∧ 2147483647 - a.length - b.length < c.length) := by omega
  rcases hcase with h1 | ⟨h1, h2⟩ | ⟨h1, h2, h3⟩
  · have k1 : (2147483647 : Int) < a.length := by omega
    go_enter Try.func8, Try.ntmps8
    go_wp2_with fail
    refine (shown_any w).mono ?_
    rintro e w1 ⟨rfl, hk1⟩
    go_wp2_with fail
    go_ret
    exact ⟨rfl, hk1⟩
  · have k1 : ¬ (2147483647 : Int) < a.length := by omega
    have k2 : (2147483647 : Int) - a.length < b.length := by omega
    go_enter Try.func8, Try.ntmps8
    go_wp2_with fail
    refine (shown_any w).mono ?_
    rintro e w1 ⟨rfl, hk1⟩
    go_wp2_with fail
    go_ret
    exact ⟨rfl, hk1⟩
  · have k1 : ¬ (2147483647 : Int) < a.length := by omega
    have k2 : ¬ (2147483647 : Int) - a.length < b.length := by omega
    have k3 : (2147483647 : Int) - a.length - b.length < c.length := by omega
    go_enter Try.func8, Try.ntmps8
    go_wp2_with fail
    refine (shown_any w).mono ?_
    rintro e w1 ⟨rfl, hk1⟩
    go_wp2_with fail
    go_ret
    exact ⟨rfl, hk1⟩

set_option maxHeartbeats 8000000 in
theorem parts_any (v0 v1 v2 : Value) (a b c : List Int) (w : World) (h : a.length + b.length + c.length ≤ 2147483647) (ra : Reads w v0 a) (rb : Reads w v1 b) (rc : Reads w v2 c) (ba : Bytes a) (bb : Bytes b) (bc : Bytes c) :
    Calls Try.prog 8 #[v0, v1, v2] w (True1 w) := by
  obtain ⟨i0, hi, hz0, hz1, hz2⟩ := info_u8
  have HR := Lib.hid (And.intro ra (And.intro rb rc))
  obtain ⟨A0, c0, rfl, -⟩ := ra
  obtain ⟨A1, c1, rfl, -⟩ := rb
  obtain ⟨A2, c2, rfl, -⟩ := rc
  have hm : maxLen = 9223372036854775807 := rfl
  have HM := Lib.hid hm
  clear hm
  have k1 : ¬ (2147483647 : Int) < a.length := by omega
  have k2 : ¬ (2147483647 : Int) - a.length < b.length := by omega
  have k3 : ¬ (2147483647 : Int) - a.length - b.length < c.length := by omega
  go_enter Try.func8, Try.ntmps8
  go_wp2_with fail
  refine (shown_any w).mono ?_
  rintro e w1 ⟨rfl, hk1⟩
  have HK1 := Lib.hid hk1
  have ow1 := own_empty' w1 5
  have ra1 := (HR.out.1.kept hk1).kept (Kept.alloc _ w1 (.cells #[] 5))
  clear hk1
  go_wp2_with (at_builtin; refine wpList_append_reads rfl _ _ 25 rfl w1.heap.size 5 i0 (.int .u8 0) 1 Try.underlying25 hi hz0 hz1 hz2 rfl (.slice (some ⟨w1.heap.size, 0, none⟩) 0 0) (.slice A0 a.length c0) [] a rfl rfl ra1 ow1 ?c2 ?c3 ?c4 ?_)
  case c2 => have := HM.out; simp; omega
  case c3 => simp; omega
  case c4 => simp
  rintro v3 w2 st2
  have k2' := st2.old (Kept.alloc (fun _ => False) w1 _) (fun i hi => by simp [Value.ownBlock] at hi; omega)
  have rb2 := (HR.out.2.1.kept HK1.out).kept k2'
  have own2 := st2.own
  have hs2 := k2'.size
  have S2 := Lib.hid (And.intro st2 k2')
  clear st2 k2' ra1 ow1
  go_wp2_with (at_builtin; refine wpList_append_reads rfl _ _ 25 rfl w1.heap.size 5 i0 (.int .u8 0) 1 Try.underlying25 hi hz0 hz1 hz2 rfl v3 (.slice A1 b.length c1) a b rfl rfl rb2 own2 ?c2 ?c3 ?c4 ?_)
  case c2 => have := HM.out; omega
  case c3 => omega
  case c4 => exact hs2
  rintro v4 w3 st3
  have k3' := st3.old S2.out.2 S2.out.1.lo
  have rc3 := (HR.out.2.2.kept HK1.out).kept k3'
  have own3 := st3.own
  have hs3 := k3'.size
  have S3 := Lib.hid (And.intro st3 k3')
  clear st3 k3' rb2 own2 S2 hs2
  go_wp2_with (at_builtin; refine wpList_append_reads rfl _ _ 25 rfl w1.heap.size 5 i0 (.int .u8 0) 1 Try.underlying25 hi hz0 hz1 hz2 rfl v4 (.slice A2 c.length c2) (a ++ b) c rfl rfl rc3 own3 ?c2 ?c3 ?c4 ?_)
  case c2 => have := HM.out; simp; omega
  case c3 => simp; omega
  case c4 => exact hs3
  rintro v5 w4 st4
  have k4' := kt HK1.out (st4.old S3.out.2 S3.out.1.lo)
  have hall : Bytes (a ++ (b ++ c)) := ba.append (bb.append bc)
  have s4 := Lib.hid (sum_any v5 _ w4 hall (by simp; omega) st4.reads)
  have K4 := Lib.hid k4'
  clear st4 k4' rc3 own3 S3 hs3
  go_wp2_with fail
  refine s4.out.mono ?_
  rintro e w5 ⟨rfl, hk5⟩
  have K5 := Lib.hid (kt K4.out hk5)
  clear hk5 s4 K4
  go_wp2_with fail
  refine (sum_any _ a w5 ba (by omega) (HR.out.1.kept K5.out)).mono ?_
  rintro e w6 ⟨rfl, hk6⟩
  have K6 := Lib.hid (kt K5.out hk6)
  clear hk6 K5
  go_wp2_with fail
  refine (more_any (more 0 a) _ b w6 (more_lt (by decide) ba) bb (by omega) (HR.out.2.1.kept K6.out)).mono ?_
  rintro e w7 ⟨rfl, hk7⟩
  have K7 := Lib.hid (kt K6.out hk7)
  clear hk7 K6
  go_wp2_with fail
  refine (more_any (more (more 0 a) b) _ c w7 (more_lt (more_lt (by decide) ba) bb) bc (by omega) (HR.out.2.2.kept K7.out)).mono ?_
  rintro e w8 ⟨rfl, hk8⟩
  have K8 := Lib.hid (kt K7.out hk8)
  clear hk8 K7
  go_wp2_with fail
  refine (sum_any _ a w8 ba (by omega) (HR.out.1.kept K8.out)).mono ?_
  rintro e w9 ⟨rfl, hk9⟩
  have K9 := Lib.hid (kt K8.out hk9)
  clear hk9 K8
  have ow9 := own_empty' w9 5
  have rb9 := (HR.out.2.1.kept K9.out).kept (Kept.alloc _ w9 (.cells #[] 5))
  go_wp2_with (at_builtin; refine wpList_append_reads rfl _ _ 25 rfl w9.heap.size 5 i0 (.int .u8 0) 1 Try.underlying25 hi hz0 hz1 hz2 rfl (.slice (some ⟨w9.heap.size, 0, none⟩) 0 0) (.slice A1 b.length c1) [] b rfl rfl rb9 ow9 ?c2 ?c3 ?c4 ?_)
  case c2 => have := HM.out; simp; omega
  case c3 => simp; omega
  case c4 => simp
  rintro v10 w10 st10
  have k10 := st10.old (Kept.alloc (fun _ => False) w9 _) (fun i hi => by simp [Value.ownBlock] at hi; omega)
  have rc10 := (HR.out.2.2.kept K9.out).kept k10
  have own10 := st10.own
  have hs10 := k10.size
  have S10 := Lib.hid (And.intro st10 k10)
  clear st10 k10 rb9 ow9
  go_wp2_with (at_builtin; refine wpList_append_reads rfl _ _ 25 rfl w9.heap.size 5 i0 (.int .u8 0) 1 Try.underlying25 hi hz0 hz1 hz2 rfl v10 (.slice A2 c.length c2) b c rfl rfl rc10 own10 ?c2 ?c3 ?c4 ?_)
  case c2 => have := HM.out; omega
  case c3 => omega
  case c4 => exact hs10
  rintro v11 w11 st11
  have k11 := kt K9.out (st11.old S10.out.2 S10.out.1.lo)
  have s11 := Lib.hid (more_any (more 0 a) v11 _ w11 (more_lt (by decide) ba) (bb.append bc) (by simp; omega) st11.reads)
  have K11 := Lib.hid k11
  clear st11 k11 rc10 own10 S10 hs10 K9
  go_wp2_with fail
  refine s11.out.mono ?_
  rintro e w12 ⟨rfl, hk12⟩
  have K12 := Lib.hid (kt K11.out hk12)
  clear hk12 s11 K11
  have e1 : more (more (more 0 a) b) c = more 0 (a ++ (b ++ c)) := by rw [more_append, more_append]
  have e2 : more (more 0 a) (b ++ c) = more 0 (a ++ (b ++ c)) := by rw [more_append 0 a (b ++ c)]
  rw [e1, e2]
  clear e1 e2
  have hsl := more_lt (sum := 0) (by decide) hall
  generalize more 0 (a ++ (b ++ c)) = s at *
  have nr : ∀ w, Reads w (.slice none 0 0) [] := fun w => ⟨none, 0, rfl, ⟨fun _ => rfl, Nat.le_refl _⟩, fun j u hu => by simp [nums] at hu⟩
  have m0 : more 0 [] = 0 := more_empty 0
  have ms : more s [] = s := more_empty s
  have sn := Lib.hid (fun w => sum_any (.slice none 0 0) [] w (fun x hx => (by cases hx)) (by decide) (nr w))
  have mn := Lib.hid (fun w => more_any s (.slice none 0 0) [] w hsl (fun x hx => (by cases hx)) (by decide) (nr w))
  clear nr HR hall
  go_wp2_with fail
  refine (sn.out _).mono ?_
  rintro e w13 ⟨rfl, hk13⟩
  have K13 := Lib.hid (kt K12.out hk13)
  clear hk13 K12
  rw [m0]
  go_wp2_with fail
  refine (mn.out _).mono ?_
  rintro e w14 ⟨rfl, hk14⟩
  have K14 := Lib.hid (kt K13.out hk14)
  clear hk14 K13
  rw [ms]
  go_wp2_with fail
  go_ret
  exact ⟨rfl, K14.out⟩
end Go.Proofs.Ytoolimfdncfgnaa
