import Derived.Test.YtlcbgklealipoaaGreatDoorZX
import Derived.Test.YtlcbgklealipoaaGreatDoorR6
section
/- The reader: how many, and a moment (the walks; printed by gen_g3.py). -/
namespace Go.Proofs.YtlcbgklealipoaaGreatDoor
open Go Go.RowKit
set_option linter.unusedVariables false
set_option linter.unusedSimpArgs false

theorem uintR_lt {L : List Int} {s s1 : BSt} {n : Nat} (h : uintR L s = .ok n s1) : n < 18446744073709551616 := by
  unfold uintR at h
  split at h
  · rename_i x k hq
    injection h with h1 h2
    have := numR_lt _ _ _ _ _ hq
    omega
  · cases h
  · cases h
section
variable {rb r : Nat} {w0 w : World} {L : List Int} {T : TT} {R : RR} {tv : TV} {s : BSt}
theorem qat (h : QAt rb r w0 L T R tv s w) (hl : L.length ≤ 65536) : Calls Tryz.prog 44 #[.pointer (some ⟨r, 0, none⟩)] w fun e w' => e = .returned (.int .i64 s.n) ∧ w' = w := by
  obtain ⟨v, hv⟩ := h.rd
  exact at_any w0.heap.size r s.n v L w hv h.le (by omega)
set_option maxHeartbeats 1000000 in
theorem qmany (h : QAt rb r w0 L T R tv s w) (hl : L.length ≤ 65536) (hb : Bytes L) (most : Nat) (hm : most ≤ 1000) :
    Calls Tryz.prog 92 #[.pointer (some ⟨rb, 0, none⟩), .int .i64 most] w (QPost rb r w0 L T R tv (countR most L s) (fun x v _ => v = .int .i64 x) w) := by
  have c0 := h.c0
  have H := Lib.hid h
  cases hu : uintR L s with
  | err a no =>
    have hres : countR most L s = .err a no := by unfold countR Rdr.chk; rw [hu]
    have HRES := Lib.hid hres
    have HU := Lib.hid hu
    clear h hu hres
    go_enter Tryz.func92, Tryz.ntmps92
    go_wp2_with (first
      | (go_at_call 44; (with_reducible refine (qat H.out hl).mono ?_); rintro e w' ⟨rfl, rfl⟩)
      | (go_at_call 45; (with_reducible refine (quint H.out hl hb).mono ?_); rintro e w1 hp; unfold QPost at hp; rw [HU.out] at hp; obtain ⟨q1, f1, rfl, hs⟩ := hp; have HS := Lib.hid hs; clear hs))
    refine ⟨rfl, ?_⟩
    unfold QPost
    rw [HRES.out]
    exact ⟨q1, f1, rfl, HS.out⟩
  | ok n s1 =>
    have hn64 := uintR_lt hu
    have HU := Lib.hid hu
    by_cases hbad : most < n
    · have hres : countR most L s = .err s.n 55 := by unfold countR Rdr.chk; rw [hu]; simp only [if_pos hbad]
      have HRES := Lib.hid hres
      have b1 : (most < n) = True := eq_true hbad
      have b2 : ((most : Int) < n) := by omega
      clear h hu hres hbad
      go_enter Tryz.func92, Tryz.ntmps92
      go_wp2_with (first
      | (go_at_call 44; (with_reducible refine (qat H.out hl).mono ?_); rintro e w' ⟨rfl, rfl⟩)
      | (go_at_call 45; (with_reducible refine (quint H.out hl hb).mono ?_); rintro e w1 hp; unfold QPost at hp; rw [HU.out] at hp; obtain ⟨v1, rfl, rfl, h1, a1⟩ := hp; have H1 := Lib.hid (And.intro h1 a1); clear h1 a1)
      | (go_at_call 46; (with_reducible refine (wrong_yes (w0 := w0) s.n 55 H1.out.1.kept).mono ?_); rintro e w2 ⟨q1, f1, rfl, hs⟩; have HS := Lib.hid hs; clear hs))
      refine ⟨rfl, ?_⟩
      unfold QPost
      rw [HRES.out]
      exact ⟨q1, f1, rfl, HS.out⟩
    · have hres : countR most L s = .ok (n) s1 := by unfold countR Rdr.chk; rw [hu]; simp only [if_neg hbad]
      have HRES := Lib.hid hres
      have b1 : (most < n) = False := eq_false hbad
      have b2 : (n : Int) ≤ most := by omega
      clear h hu hres hbad
      go_enter Tryz.func92, Tryz.ntmps92
      go_wp2_with (first
      | (go_at_call 44; (with_reducible refine (qat H.out hl).mono ?_); rintro e w' ⟨rfl, rfl⟩)
      | (go_at_call 45; (with_reducible refine (quint H.out hl hb).mono ?_); rintro e w1 hp; unfold QPost at hp; rw [HU.out] at hp; obtain ⟨v1, rfl, rfl, h1, a1⟩ := hp; have H1 := Lib.hid (And.intro h1 a1); clear h1 a1)
      | (go_at_call 46; (with_reducible refine (wrong_no _ _ _).mono ?_); rintro e w' ⟨rfl, rfl⟩))
      go_ret
      unfold QPost
      rw [HRES.out]
      exact ⟨_, rfl, rfl, H1.out.1, H1.out.2⟩
set_option maxHeartbeats 1000000 in
theorem qlater (h : QAt rb r w0 L T R tv s w) (hl : L.length ≤ 65536) (hb : Bytes L) (fr : Int) (hf0 : 0 ≤ fr) (hf1 : fr ≤ 9223372036854775807) :
    Calls Tryz.prog 91 #[.pointer (some ⟨rb, 0, none⟩), .int .i64 fr] w (QPost rb r w0 L T R tv (laterR fr L s) (fun x v _ => v = .int .i64 x) w) := by
  have c0 := h.c0
  have H := Lib.hid h
  cases hu : uintR L s with
  | err a no =>
    have hres : laterR fr L s = .err a no := by unfold laterR Rdr.map Rdr.mapS Rdr.chk; rw [hu]
    have HRES := Lib.hid hres
    have HU := Lib.hid hu
    clear h hu hres
    go_enter Tryz.func91, Tryz.ntmps91
    go_wp2_with (first
      | (go_at_call 44; (with_reducible refine (qat H.out hl).mono ?_); rintro e w' ⟨rfl, rfl⟩)
      | (go_at_call 45; (with_reducible refine (quint H.out hl hb).mono ?_); rintro e w1 hp; unfold QPost at hp; rw [HU.out] at hp; obtain ⟨q1, f1, rfl, hs⟩ := hp; have HS := Lib.hid hs; clear hs))
    refine ⟨rfl, ?_⟩
    unfold QPost
    rw [HRES.out]
    exact ⟨q1, f1, rfl, HS.out⟩
  | ok n s1 =>
    have hn64 := uintR_lt hu
    have HU := Lib.hid hu
    by_cases hbad : 9223372036854775807 - fr < (n : Int)
    · have hres : laterR fr L s = .err s.n 55 := by unfold laterR Rdr.map Rdr.mapS Rdr.chk; rw [hu]; simp only [if_pos hbad]
      have HRES := Lib.hid hres
      have b1 : (9223372036854775807 - fr < (n : Int)) = True := eq_true hbad
      have b2 : (9223372036854775807 - fr < (n : Int)) := by omega
      clear h hu hres hbad
      go_enter Tryz.func91, Tryz.ntmps91
      go_wp2_with (first
      | (go_at_call 44; (with_reducible refine (qat H.out hl).mono ?_); rintro e w' ⟨rfl, rfl⟩)
      | (go_at_call 45; (with_reducible refine (quint H.out hl hb).mono ?_); rintro e w1 hp; unfold QPost at hp; rw [HU.out] at hp; obtain ⟨v1, rfl, rfl, h1, a1⟩ := hp; have H1 := Lib.hid (And.intro h1 a1); clear h1 a1)
      | (go_at_call 46; (with_reducible refine (wrong_yes (w0 := w0) s.n 55 H1.out.1.kept).mono ?_); rintro e w2 ⟨q1, f1, rfl, hs⟩; have HS := Lib.hid hs; clear hs))
      refine ⟨rfl, ?_⟩
      unfold QPost
      rw [HRES.out]
      exact ⟨q1, f1, rfl, HS.out⟩
    · have hres : laterR fr L s = .ok (fr + n) s1 := by unfold laterR Rdr.map Rdr.mapS Rdr.chk; rw [hu]; simp only [if_neg hbad]
      have HRES := Lib.hid hres
      have b1 : (9223372036854775807 - fr < (n : Int)) = False := eq_false hbad
      have b2 : fr + (n : Int) ≤ 9223372036854775807 := by omega
      clear h hu hres hbad
      go_enter Tryz.func91, Tryz.ntmps91
      go_wp2_with (first
      | (go_at_call 44; (with_reducible refine (qat H.out hl).mono ?_); rintro e w' ⟨rfl, rfl⟩)
      | (go_at_call 45; (with_reducible refine (quint H.out hl hb).mono ?_); rintro e w1 hp; unfold QPost at hp; rw [HU.out] at hp; obtain ⟨v1, rfl, rfl, h1, a1⟩ := hp; have H1 := Lib.hid (And.intro h1 a1); clear h1 a1)
      | (go_at_call 46; (with_reducible refine (wrong_no _ _ _).mono ?_); rintro e w' ⟨rfl, rfl⟩))
      go_ret
      unfold QPost
      rw [HRES.out]
      exact ⟨_, rfl, rfl, H1.out.1, H1.out.2⟩
end
end Go.Proofs.YtlcbgklealipoaaGreatDoor
end

section
/- The reader: a moment behind one below 0 (the walks; printed by gen_g3b.py). -/
namespace Go.Proofs.YtlcbgklealipoaaGreatDoor
open Go Go.RowKit
set_option linter.unusedVariables false
set_option linter.unusedSimpArgs false

section
variable {rb r : Nat} {w0 w : World} {L : List Int} {T : TT} {R : RR} {tv : TV} {s : BSt}
set_option maxHeartbeats 1000000 in
theorem qlaterA (h : QAt rb r w0 L T R tv s w) (hl : L.length ≤ 65536) (hb : Bytes L) (fr : Int) (hf0 : fr < 0) (hf1 : -9223372036854775808 ≤ fr) (hx : ∀ n s1, uintR L s = .ok n s1 → n < 9223372036854775808) :
    Calls Tryz.prog 91 #[.pointer (some ⟨rb, 0, none⟩), .int .i64 fr] w (QPost rb r w0 L T R tv (laterR fr L s) (fun x v _ => v = .int .i64 x) w) := by
  have c0 := h.c0
  have H := Lib.hid h
  cases hu : uintR L s with
  | err a no =>
    have hres : laterR fr L s = .err a no := by unfold laterR Rdr.map Rdr.mapS Rdr.chk; rw [hu]
    have HRES := Lib.hid hres
    have HU := Lib.hid hu
    clear h hu hres
    go_enter Tryz.func91, Tryz.ntmps91
    go_wp2_with (first
      | (go_at_call 44; (with_reducible refine (qat H.out hl).mono ?_); rintro e w' ⟨rfl, rfl⟩)
      | (go_at_call 45; (with_reducible refine (quint H.out hl hb).mono ?_); rintro e w1 hp; unfold QPost at hp; rw [HU.out] at hp; obtain ⟨q1, f1, rfl, hs⟩ := hp; have HS := Lib.hid hs; clear hs))
    refine ⟨rfl, ?_⟩
    unfold QPost
    rw [HRES.out]
    exact ⟨q1, f1, rfl, HS.out⟩
  | ok n s1 =>
    have hn64 := uintR_lt hu
    have hx1 := hx n s1 hu
    have HU := Lib.hid hu
    by_cases hbad : 9223372036854775807 - fr < (n : Int)
    · exfalso; omega
    · have hres : laterR fr L s = .ok (fr + n) s1 := by unfold laterR Rdr.map Rdr.mapS Rdr.chk; rw [hu]; simp only [if_neg hbad]
      have HRES := Lib.hid hres
      have b1 : (9223372036854775807 - fr < (n : Int)) = False := eq_false hbad
      have b2 : fr + (n : Int) ≤ 9223372036854775807 := by omega
      clear h hu hres hbad
      have hw1 : IntKind.u64.wrap fr = fr + 18446744073709551616 := by rw [IntKind.wrap_u64]; omega
      have hw2 : IntKind.u64.wrap (9223372036854775807 - (fr + 18446744073709551616)) = 9223372036854775807 - fr := by rw [IntKind.wrap_u64]; omega
      have hw3 : IntKind.i64.wrap (n : Int) = n := by rw [IntKind.wrap_i64]; omega
      have hw4 : IntKind.i64.wrap (fr + (n : Int)) = fr + n := by rw [IntKind.wrap_i64]; omega
      clear hx
      go_enter Tryz.func91, Tryz.ntmps91
      go_wp2_with (first
      | (go_at_call 44; (with_reducible refine (qat H.out hl).mono ?_); rintro e w' ⟨rfl, rfl⟩)
      | (go_at_call 45; (with_reducible refine (quint H.out hl hb).mono ?_); rintro e w1 hp; unfold QPost at hp; rw [HU.out] at hp; obtain ⟨v1, rfl, rfl, h1, a1⟩ := hp; have H1 := Lib.hid (And.intro h1 a1); clear h1 a1)
      | (go_at_call 46; (with_reducible refine (wrong_no _ _ _).mono ?_); rintro e w' ⟨rfl, rfl⟩))
      go_ret
      unfold QPost
      rw [HRES.out]
      exact ⟨_, rfl, rfl, H1.out.1, H1.out.2⟩
set_option maxHeartbeats 1000000 in
theorem qlaterB (h : QAt rb r w0 L T R tv s w) (hl : L.length ≤ 65536) (hb : Bytes L) (fr : Int) (hf0 : fr < 0) (hf1 : -9223372036854775808 ≤ fr) (hx : ∀ n s1, uintR L s = .ok n s1 → 9223372036854775808 ≤ n) :
    Calls Tryz.prog 91 #[.pointer (some ⟨rb, 0, none⟩), .int .i64 fr] w (QPost rb r w0 L T R tv (laterR fr L s) (fun x v _ => v = .int .i64 x) w) := by
  have c0 := h.c0
  have H := Lib.hid h
  cases hu : uintR L s with
  | err a no =>
    have hres : laterR fr L s = .err a no := by unfold laterR Rdr.map Rdr.mapS Rdr.chk; rw [hu]
    have HRES := Lib.hid hres
    have HU := Lib.hid hu
    clear h hu hres
    go_enter Tryz.func91, Tryz.ntmps91
    go_wp2_with (first
      | (go_at_call 44; (with_reducible refine (qat H.out hl).mono ?_); rintro e w' ⟨rfl, rfl⟩)
      | (go_at_call 45; (with_reducible refine (quint H.out hl hb).mono ?_); rintro e w1 hp; unfold QPost at hp; rw [HU.out] at hp; obtain ⟨q1, f1, rfl, hs⟩ := hp; have HS := Lib.hid hs; clear hs))
    refine ⟨rfl, ?_⟩
    unfold QPost
    rw [HRES.out]
    exact ⟨q1, f1, rfl, HS.out⟩
  | ok n s1 =>
    have hn64 := uintR_lt hu
    have hx1 := hx n s1 hu
    have HU := Lib.hid hu
    by_cases hbad : 9223372036854775807 - fr < (n : Int)
    · have hres : laterR fr L s = .err s.n 55 := by unfold laterR Rdr.map Rdr.mapS Rdr.chk; rw [hu]; simp only [if_pos hbad]
      have HRES := Lib.hid hres
      have b1 : (9223372036854775807 - fr < (n : Int)) = True := eq_true hbad
      have b2 : (9223372036854775807 - fr < (n : Int)) := by omega
      clear h hu hres hbad
      have hw1 : IntKind.u64.wrap fr = fr + 18446744073709551616 := by rw [IntKind.wrap_u64]; omega
      have hw2 : IntKind.u64.wrap (9223372036854775807 - (fr + 18446744073709551616)) = 9223372036854775807 - fr := by rw [IntKind.wrap_u64]; omega
      have hw3 : IntKind.i64.wrap (n : Int) = n - 18446744073709551616 := by rw [IntKind.wrap_i64]; omega
      clear hx
      go_enter Tryz.func91, Tryz.ntmps91
      go_wp2_with (first
      | (go_at_call 44; (with_reducible refine (qat H.out hl).mono ?_); rintro e w' ⟨rfl, rfl⟩)
      | (go_at_call 45; (with_reducible refine (quint H.out hl hb).mono ?_); rintro e w1 hp; unfold QPost at hp; rw [HU.out] at hp; obtain ⟨v1, rfl, rfl, h1, a1⟩ := hp; have H1 := Lib.hid (And.intro h1 a1); clear h1 a1)
      | (go_at_call 46; (with_reducible refine (wrong_yes (w0 := w0) s.n 55 H1.out.1.kept).mono ?_); rintro e w2 ⟨q1, f1, rfl, hs⟩; have HS := Lib.hid hs; clear hs))
      refine ⟨rfl, ?_⟩
      unfold QPost
      rw [HRES.out]
      exact ⟨q1, f1, rfl, HS.out⟩
    · have hres : laterR fr L s = .ok (fr + n) s1 := by unfold laterR Rdr.map Rdr.mapS Rdr.chk; rw [hu]; simp only [if_neg hbad]
      have HRES := Lib.hid hres
      have b1 : (9223372036854775807 - fr < (n : Int)) = False := eq_false hbad
      have b2 : fr + (n : Int) ≤ 9223372036854775807 := by omega
      clear h hu hres hbad
      have hw1 : IntKind.u64.wrap fr = fr + 18446744073709551616 := by rw [IntKind.wrap_u64]; omega
      have hw2 : IntKind.u64.wrap (9223372036854775807 - (fr + 18446744073709551616)) = 9223372036854775807 - fr := by rw [IntKind.wrap_u64]; omega
      have hw3 : IntKind.i64.wrap (n : Int) = n - 18446744073709551616 := by rw [IntKind.wrap_i64]; omega
      have hw4 : IntKind.i64.wrap (fr + ((n : Int) - 18446744073709551616)) = fr + n := by rw [IntKind.wrap_i64]; omega
      clear hx
      go_enter Tryz.func91, Tryz.ntmps91
      go_wp2_with (first
      | (go_at_call 44; (with_reducible refine (qat H.out hl).mono ?_); rintro e w' ⟨rfl, rfl⟩)
      | (go_at_call 45; (with_reducible refine (quint H.out hl hb).mono ?_); rintro e w1 hp; unfold QPost at hp; rw [HU.out] at hp; obtain ⟨v1, rfl, rfl, h1, a1⟩ := hp; have H1 := Lib.hid (And.intro h1 a1); clear h1 a1)
      | (go_at_call 46; (with_reducible refine (wrong_no _ _ _).mono ?_); rintro e w' ⟨rfl, rfl⟩))
      go_ret
      unfold QPost
      rw [HRES.out]
      exact ⟨_, rfl, rfl, H1.out.1, H1.out.2⟩
theorem qlater_any (h : QAt rb r w0 L T R tv s w) (hl : L.length ≤ 65536) (hb : Bytes L) (fr : Int) (hf0 : -9223372036854775808 ≤ fr) (hf1 : fr ≤ 9223372036854775807) :
    Calls Tryz.prog 91 #[.pointer (some ⟨rb, 0, none⟩), .int .i64 fr] w (QPost rb r w0 L T R tv (laterR fr L s) (fun x v _ => v = .int .i64 x) w) := by
  by_cases h0 : 0 ≤ fr
  · exact qlater h hl hb fr h0 hf1
  · cases hu : uintR L s with
    | err a no => exact qlaterA h hl hb fr (by omega) hf0 fun n s1 he => by rw [hu] at he; cases he
    | ok n s1 =>
      by_cases hn : n < 9223372036854775808
      · exact qlaterA h hl hb fr (by omega) hf0 fun n' s1' he => by rw [hu] at he; injection he with e1 _; omega
      · exact qlaterB h hl hb fr (by omega) hf0 fun n' s1' he => by rw [hu] at he; injection he with e1 _; omega
end
end Go.Proofs.YtlcbgklealipoaaGreatDoor
end

section
/- The reader: bytes, a small number, a span's begin (the walks; printed by gen_g4.py). -/
namespace Go.Proofs.YtlcbgklealipoaaGreatDoor
open Go Go.RowKit
set_option linter.unusedVariables false
set_option linter.unusedSimpArgs false

theorem raw_rest {l : List Int} {p : Nat} {n : Int} {q : List Int} {m : Nat} (hp : p ≤ l.length) (h : rawR l p n = .ok q m) : q.length = n.toNat ∧ m ≤ l.length ∧ ∀ x ∈ q, x ∈ l := by
  unfold rawR at h
  split at h
  · cases h
  · split at h
    · cases h
    · injection h with h1 h2
      refine ⟨by rw [← h1, List.length_take, List.length_drop]; omega, by omega, fun x hx => ?_⟩
      rw [← h1] at hx
      exact List.mem_of_mem_drop (List.mem_of_mem_take hx)
theorem own_low {w : World} {B B' : Nat} {e : TypeId} {size n : Nat} {v : Value} {xs : List Value} (h : w.ownsRow B e size v n xs) (hB : B' ≤ B) : w.ownsRow B' e size v n xs := by
  refine ⟨h.1, ?_⟩
  rcases h.2 with hn | ⟨g, cap, cur, rfl, hb, rest⟩
  · exact .inl hn
  · exact .inr ⟨g, cap, cur, rfl, by omega, rest⟩
section
variable {rb r : Nat} {w0 w : World} {L : List Int} {T : TT} {R : RR} {tv : TV} {s : BSt}
set_option maxHeartbeats 1000000 in
theorem qraw (h : QAt rb r w0 L T R tv s w) (hl : L.length ≤ 65536) (n : Nat) (hn : n ≤ 100) :
    Calls Tryz.prog 42 #[.pointer (some ⟨rb, 0, none⟩), .int .i64 n] w (QPost rb r w0 L T R tv (bytesR n L s) (fun q v w' => w'.ownsRow w0.heap.size 5 1 v q.length (nums .u8 q)) w) := by
  obtain ⟨v, hv⟩ := h.rd
  have c0 := h.c0
  have H := Lib.hid h
  have HV := Lib.hid hv
  have hle := h.le
  have hl2 : L.length ≤ 140737488355328 := by omega
  have n0 : (-9223372036854775808 : Int) ≤ n := by omega
  have n1 : (n : Int) ≤ 9223372036854775807 := by omega
  cases hq : rawR L s.n n with
  | ok q m =>
    have hres : bytesR n L s = .ok q { s with n := m } := by unfold bytesR; rw [hq]
    have HRES := Lib.hid hres
    have HM := Lib.hid (raw_rest hle hq).2.1
    have HQ := Lib.hid hq
    clear h hv hq hres
    go_enter Tryz.func42, Tryz.ntmps42
    go_wp2_with (first
      | (go_at_call 84; (with_reducible refine (getRaw_any w0.heap.size r s.n v L n w HV.out hle hl2 n0 n1).mono ?_); rintro e w1 hp; unfold RawPost at hp; rw [HQ.out] at hp; obtain ⟨v2, rfl, ho, h2, hk⟩ := hp; have H2 := Lib.hid (And.intro ho (And.intro h2 hk)); clear ho h2 hk)
      | (go_at_call 48; (with_reducible refine (stop_nil w1).mono ?_); rintro e w' ⟨rfl, rfl⟩))
    go_ret
    unfold QPost
    rw [HRES.out]
    obtain ⟨m1, m2⟩ := H.out.moved HV.out H2.out.2.1 H2.out.2.2 HM.out
    exact ⟨_, rfl, own_low H2.out.1 H.out.kept.size, m1, m2⟩
  | err a no =>
    have hres : bytesR n L s = .err a no := by unfold bytesR; rw [hq]
    have HRES := Lib.hid hres
    have HQ := Lib.hid hq
    clear h hv hq hres
    go_enter Tryz.func42, Tryz.ntmps42
    go_wp2_with (first
      | (go_at_call 84; (with_reducible refine (getRaw_any w0.heap.size r s.n v L n w HV.out hle hl2 n0 n1).mono ?_); rintro e w1 hp; unfold RawPost at hp; rw [HQ.out] at hp; obtain ⟨err, rfl, g, rfl, _, hg, hk⟩ := hp; have HW1 := Lib.hid (And.intro hg hk); clear hg hk)
      | (go_at_call 48; (with_reducible refine (stop_err (a := a) (no := no) (w0 := w0) (H.out.kept.trans HW1.out.2 (fun _ _ e => e) (fun _ _ e => e)) HW1.out.1).mono ?_); rintro e w' ⟨q1, f1, rfl, hs⟩; have HS := Lib.hid hs; clear hs))
    refine ⟨rfl, ?_⟩
    unfold QPost
    rw [HRES.out]
    exact ⟨q1, f1, rfl, HS.out⟩
theorem bytesR_ok {n : Nat} {q : List Int} {s1 : BSt} (hp : s.n ≤ L.length) (h : bytesR n L s = .ok q s1) : q.length = n ∧ ∀ x ∈ q, x ∈ L := by
  unfold bytesR at h
  split at h
  · rename_i hq
    injection h with h1 h2
    obtain ⟨g1, _, g3⟩ := raw_rest hp hq
    rw [← h1]
    exact ⟨by omega, g3⟩
  · cases h
theorem row_at {W : World} {B : Nat} {v : Value} {q : List Int} (h : W.ownsRow B 5 1 v q.length (nums .u8 q)) (h0 : 0 < q.length) : ∃ g c, v = .slice (some ⟨g, 0, none⟩) q.length c ∧ ∀ (j : Nat) x, q[j]? = some x → W.cell? ⟨g, j, none⟩ = some (.int .u8 x) := by
  obtain ⟨A, c, rfl⟩ := own_slice h
  obtain ⟨g, rfl, _, hc⟩ := own_elem h (by rw [nums_length]; exact h0)
  exact ⟨g, c, rfl, fun j x hx => hc j _ (by simp [nums, hx])⟩
set_option maxHeartbeats 1000000 in
theorem qsmall (h : QAt rb r w0 L T R tv s w) (hl : L.length ≤ 65536) (hb : Bytes L) (most : Nat) (hm : most ≤ 255) :
    Calls Tryz.prog 129 #[.pointer (some ⟨rb, 0, none⟩), .int .u8 most] w (QPost rb r w0 L T R tv (smallR most L s) (fun x v _ => v = .int .u8 x) w) := by
  have c0 := h.c0
  have H := Lib.hid h
  have hraw : Calls Tryz.prog 42 #[.pointer (some ⟨rb, 0, none⟩), .int .i64 1] w (QPost rb r w0 L T R tv (bytesR 1 L s) (fun q v w' => w'.ownsRow w0.heap.size 5 1 v q.length (nums .u8 q)) w) := qraw h hl 1 (by omega)
  have HRAW := Lib.hid hraw
  clear hraw
  cases hu : bytesR 1 L s with
  | err a no =>
    have hres : smallR most L s = .err a no := by unfold smallR byteR Rdr.chk Rdr.map Rdr.mapS; rw [hu]
    have HRES := Lib.hid hres
    have HU := Lib.hid hu
    clear h hu hres
    go_enter Tryz.func129, Tryz.ntmps129
    go_wp2_with (first
      | (go_at_call 44; (with_reducible refine (qat H.out hl).mono ?_); rintro e w' ⟨rfl, rfl⟩)
      | (go_at_call 42; (with_reducible refine HRAW.out.mono ?_); rintro e w1 hp; unfold QPost at hp; rw [HU.out] at hp; obtain ⟨q1, f1, rfl, hs⟩ := hp; have HS := Lib.hid hs; clear hs))
    refine ⟨rfl, ?_⟩
    unfold QPost
    rw [HRES.out]
    exact ⟨q1, f1, rfl, HS.out⟩
  | ok q s1 =>
    obtain ⟨g1, g2⟩ := bytesR_ok h.le hu
    obtain ⟨x, rfl⟩ : ∃ x, q = [x] := by
      match q, g1 with
      | [x], _ => exact ⟨x, rfl⟩
    have hx := hb x (g2 x (by simp))
    obtain ⟨n, rfl⟩ : ∃ n : Nat, x = n := ⟨x.toNat, by omega⟩
    have hn : n < 256 := by omega
    have HU := Lib.hid hu
    by_cases hbad : most < n
    · have hres : smallR most L s = .err s.n 55 := by unfold smallR byteR Rdr.chk Rdr.map Rdr.mapS; rw [hu]; simp [hbad]
      have HRES := Lib.hid hres
      have b1 : (most < n) = True := eq_true hbad
      clear h hu hres hbad g1 g2 hx
      go_enter Tryz.func129, Tryz.ntmps129
      go_wp2_with (first
      | (go_at_call 44; (with_reducible refine (qat H.out hl).mono ?_); rintro e w' ⟨rfl, rfl⟩)
      | (go_at_call 42; (with_reducible refine HRAW.out.mono ?_); rintro e w1 hp; unfold QPost at hp; rw [HU.out] at hp; obtain ⟨v1, rfl, hv1, h1, a1⟩ := hp; have H1 := Lib.hid (And.intro h1 a1); obtain ⟨g, c, rfl, hc⟩ := row_at hv1 (by simp); have y0 := hc 0 n rfl; clear hc hv1; clear h1 a1)
      | (go_at_call 46; (with_reducible refine (wrong_yes (w0 := w0) s.n 55 H1.out.1.kept).mono ?_); rintro e w2 ⟨q1, f1, rfl, hs⟩; have HS := Lib.hid hs; clear hs))
      refine ⟨rfl, ?_⟩
      unfold QPost
      rw [HRES.out]
      exact ⟨q1, f1, rfl, HS.out⟩
    · have hres : smallR most L s = .ok n s1 := by unfold smallR byteR Rdr.chk Rdr.map Rdr.mapS; rw [hu]; simp [hbad]
      have HRES := Lib.hid hres
      have b1 : (most < n) = False := eq_false hbad
      clear h hu hres hbad g1 g2 hx
      go_enter Tryz.func129, Tryz.ntmps129
      go_wp2_with (first
      | (go_at_call 44; (with_reducible refine (qat H.out hl).mono ?_); rintro e w' ⟨rfl, rfl⟩)
      | (go_at_call 42; (with_reducible refine HRAW.out.mono ?_); rintro e w1 hp; unfold QPost at hp; rw [HU.out] at hp; obtain ⟨v1, rfl, hv1, h1, a1⟩ := hp; have H1 := Lib.hid (And.intro h1 a1); obtain ⟨g, c, rfl, hc⟩ := row_at hv1 (by simp); have y0 := hc 0 n rfl; clear hc hv1; clear h1 a1)
      | (go_at_call 46; (with_reducible refine (wrong_no _ _ _).mono ?_); rintro e w' ⟨rfl, rfl⟩))
      go_ret
      unfold QPost
      rw [HRES.out]
      exact ⟨_, rfl, rfl, H1.out.1, H1.out.2⟩
end
end Go.Proofs.YtlcbgklealipoaaGreatDoor
end

section
/- The reader: eight bytes, a span's begin (the walks; printed by gen_g5.py). -/
namespace Go.Proofs.YtlcbgklealipoaaGreatDoor
open Go Go.RowKit
set_option linter.unusedVariables false
set_option linter.unusedSimpArgs false

theorem of8_take {p : List Int} {k : Nat} {c : Nat} (h : p[k]? = some (c : Int)) : of8 (p.take (k + 1)) = of8 (p.take k) * 256 + c := by
  rw [List.take_add_one, h, Option.toList_some, of8_snoc]; simp
theorem or_two (a x : Nat) (hx : x < 256) (ha : a * 256 < 18446744073709551616) : bits .or .u64 ((a : Int) * 256) (x : Int) = ((a * 256 + x : Nat) : Int) := by
  have h := (bits_nat .u64 64 (by decide) wraps_u64 (a * 256) x (by omega) (by omega)).2
  have e : ((a : Int) * 256) = ((a * 256 : Nat) : Int) := by omega
  have o : a * 256 ||| x = a * 256 + x := by
    rw [show a * 256 = 2 ^ 8 * a by omega]
    exact (Nat.two_pow_add_eq_or_of_lt (by omega) a).symm
  rw [e, h, o]
theorem of8_lt (l : List Int) (hb : Bytes l) : of8 l < 256 ^ l.length := (digs_of8 l.length l hb rfl).2
section
variable {rb r : Nat} {w0 w : World} {L : List Int} {T : TT} {R : RR} {tv : TV} {s : BSt}
set_option maxHeartbeats 4000000 in
set_option maxRecDepth 100000 in
theorem qlong (h : QAt rb r w0 L T R tv s w) (hl : L.length ≤ 65536) (hb : Bytes L) :
    Calls Tryz.prog 88 #[.pointer (some ⟨rb, 0, none⟩)] w (QPost rb r w0 L T R tv (longR L s) (fun x v _ => v = .int .u64 x) w) := by
  have c0 := h.c0
  have H := Lib.hid h
  have hraw : Calls Tryz.prog 42 #[.pointer (some ⟨rb, 0, none⟩), .int .i64 8] w (QPost rb r w0 L T R tv (bytesR 8 L s) (fun q v w' => w'.ownsRow w0.heap.size 5 1 v q.length (nums .u8 q)) w) := qraw h hl 8 (by omega)
  have HRAW := Lib.hid hraw
  clear hraw
  cases hu : bytesR 8 L s with
  | err a no =>
    have hres : longR L s = .err a no := by unfold longR Rdr.map Rdr.mapS; rw [hu]
    have HRES := Lib.hid hres
    have HU := Lib.hid hu
    clear h hu hres
    go_enter Tryz.func88, Tryz.ntmps88
    go_wp2_with (first
      | (go_at_call 42; (with_reducible refine HRAW.out.mono ?_); rintro e w1 hp; unfold QPost at hp; rw [HU.out] at hp; obtain ⟨q1, f1, rfl, hs⟩ := hp; have HS := Lib.hid hs; clear hs))
    refine ⟨rfl, ?_⟩
    unfold QPost
    rw [HRES.out]
    exact ⟨q1, f1, rfl, HS.out⟩
  | ok p s1 =>
    obtain ⟨g1, g2⟩ := bytesR_ok h.le hu
    have hres : longR L s = .ok (of8 p) s1 := by unfold longR Rdr.map Rdr.mapS; rw [hu]
    have HRES := Lib.hid hres
    have HU := Lib.hid hu
    have HL := Lib.hid (And.intro g1 (fun x hx => hb x (g2 x hx) : Bytes p))
    clear h hu hres g1 g2 c0
    go_enter Tryz.func88, Tryz.ntmps88
    go_upto_region 3 with (first
      | (go_at_call 42; (with_reducible refine HRAW.out.mono ?_); rintro e w1 hp; unfold QPost at hp; rw [HU.out] at hp; obtain ⟨v1, rfl, hv1, h1, a1⟩ := hp; have H1 := Lib.hid (And.intro h1 a1); obtain ⟨g, c, rfl, hc⟩ := row_at hv1 (by rw [HL.out.1]; omega); have HC := Lib.hid hc; clear hc hv1; clear h1 a1))
    rw [HL.out.1]
    go_loopw [3, 9] (fun t i wr => ∃ j : Nat, i = .int .i64 j ∧ j ≤ 8 ∧ t = .int .u64 (of8 (p.take j)) ∧ wr = w1) (fun _ i _ => 8 - (intOf i).toNat)
    case atStart => exact ⟨0, rfl, by omega, by simp [of8], rfl⟩
    obtain ⟨j, rfl, hj, rfl, rfl⟩ := hrel
    have j0 : (0 : Int) ≤ j := by omega
    by_cases hj8 : j < 8
    · have j1 : (j : Int) < 8 := by omega
      obtain ⟨x, hx⟩ : ∃ x, p[j]? = some x := ⟨_, List.getElem?_eq_getElem (by rw [HL.out.1]; exact hj8)⟩
      obtain ⟨xn, rfl⟩ : ∃ n : Nat, x = n := ⟨x.toNat, by have := HL.out.2 x (List.mem_of_getElem? hx); omega⟩
      have hxb : xn < 256 := by have := HL.out.2 xn (List.mem_of_getElem? hx); omega
      have hcell := HC.out j xn hx
      have hnx := of8_take hx
      obtain ⟨a, ha⟩ : ∃ a, a = of8 (p.take j) := ⟨_, rfl⟩
      have hal : a < 256 ^ 7 := by
        rw [ha]
        have h1 := of8_lt (p.take j) (fun x hx => HL.out.2 x (List.mem_of_mem_take hx))
        have h2 : (p.take j).length ≤ 7 := by rw [List.length_take]; omega
        exact Nat.lt_of_lt_of_le h1 (Nat.pow_le_pow_right (by omega) h2)
      rw [← ha] at hnx ⊢
      have HNX := Lib.hid hnx
      clear hnx hx ha
      have a1 : (a : Int) * 256 < 18446744073709551616 := by omega
      have a0 : (0 : Int) ≤ a := by omega
      go_wp2_with fail
      have hor := or_two a xn hxb (by omega)
      exact ⟨⟨j + 1, by congr 1, by omega, by rw [hor, HNX.out], trivial⟩, by simp [intOf]; omega⟩
    · have j1 : ¬ (j : Int) < 8 := by omega
      have hj2 : j = 8 := by omega
      have HV := Lib.hid (show of8 (p.take j) = of8 p by rw [hj2, List.take_of_length_le (by rw [HL.out.1]; omega)])
      clear hj2 hj8
      go_wp2_with fail
      go_ret
      unfold QPost
      rw [HRES.out]
      exact ⟨_, rfl, by rw [HV.out]; rfl, H1.out.1, H1.out.2⟩
theorem uintR_st {n : Nat} {s1 : BSt} (h : uintR L s = .ok n s1) : s1.tu = s.tu ∧ s1.ru = s.ru ∧ s1.st = s.st := by
  unfold uintR at h
  split at h
  · injection h with h1 h2; subst h2; exact ⟨rfl, rfl, rfl⟩
  · cases h
  · cases h
theorem intR_st {d : Int} {s1 : BSt} (h : intR L s = .ok d s1) : (s1.tu = s.tu ∧ s1.ru = s.ru ∧ s1.st = s.st) ∧ -9223372036854775808 ≤ d ∧ d < 9223372036854775808 := by
  unfold intR Rdr.map Rdr.mapS at h
  split at h
  · rename_i n s' hu
    injection h with h1 h2
    subst h2
    have := zag_range n (by omega) (by have := uintR_lt hu; omega)
    rw [← h1]
    exact ⟨uintR_st hu, this⟩
  · cases h
theorem QAt.setSt (h : QAt rb r w0 L T R tv s w) (v : Int) (hv : -9223372036854775808 ≤ v ∧ v ≤ 9223372036854775807) : QAt rb r w0 L T R tv { s with st := v } (w.setCell ⟨rb, 7, none⟩ (.int .i64 v)) ∧ Aside w (w.setCell ⟨rb, 7, none⟩ (.int .i64 v)) :=
  h.set rfl (fun _ _ _ _ => rfl) h.tu h.ru hv
set_option maxHeartbeats 4000000 in
set_option maxRecDepth 100000 in
theorem qbegin (h : QAt rb r w0 L T R tv s w) (hl : L.length ≤ 65536) (hb : Bytes L) :
    Calls Tryz.prog 90 #[.pointer (some ⟨rb, 0, none⟩)] w (QPost rb r w0 L T R tv (beginR L s) (fun x v _ => v = .int .i64 x) w) := by
  have c0 := h.c0
  have H := Lib.hid h
  cases hu : intR L s with
  | err a no =>
    have hres : beginR L s = .err a no := by unfold beginR Rdr.mapS Rdr.upd Rdr.chk; rw [hu]
    have HRES := Lib.hid hres
    have HU := Lib.hid hu
    clear h hu hres
    go_enter Tryz.func90, Tryz.ntmps90
    go_wp2_with (first
      | (go_at_call 44; (with_reducible refine (qat H.out hl).mono ?_); rintro e w' ⟨rfl, rfl⟩)
      | (go_at_call 128; (with_reducible refine (qint H.out hl hb).mono ?_); rintro e w1 hp; unfold QPost at hp; rw [HU.out] at hp; obtain ⟨q1, f1, rfl, hs⟩ := hp; have HS := Lib.hid hs; clear hs))
    refine ⟨rfl, ?_⟩
    unfold QPost
    rw [HRES.out]
    exact ⟨q1, f1, rfl, HS.out⟩
  | ok d s1 =>
    obtain ⟨⟨t1, t2, t3⟩, d0, d1⟩ := intR_st hu
    obtain ⟨st, hst⟩ : ∃ x, x = s.st := ⟨_, rfl⟩
    have hs0 := h.st
    rw [← hst] at hs0 t3
    obtain ⟨s0, s1'⟩ := hs0
    have HT := Lib.hid t3
    have HU := Lib.hid hu
    have c7 : ∀ W, QAt rb r w0 L T R tv s1 W → W.cell? ⟨rb, 7, none⟩ = some (.int .i64 st) := fun W hW => by rw [← HT.out]; exact hW.c7
    have HC7 := Lib.hid c7
    by_cases hbad : st + d < -9223372036854775808 ∨ 9223372036854775807 < st + d
    · have hres : beginR L s = .err s.n 55 := by unfold beginR Rdr.mapS Rdr.upd Rdr.chk; rw [hu]; simp only [← hst, if_pos hbad]
      have HRES := Lib.hid hres
      have HST := Lib.hid hst
      clear h hu hres hst t1 t2 t3 c7
      rcases hbad with hbad | hbad
      · have b1 : IntKind.i64.wrap (st + d) = st + d + 18446744073709551616 := by rw [IntKind.wrap_i64]; omega
        have b2 : ((0 : Int) < d) = False := eq_false (by omega)
        have b3 : (st < st + d + 18446744073709551616) = True := eq_true (by omega)
        have b4 : (d == 0) = false := by rw [beq_eq_false_iff_ne]; omega
        have b5 : (d != 0) = true := by rw [bne_iff_ne]; omega
        clear hbad
        go_enter Tryz.func90, Tryz.ntmps90
        go_wp2_with (first
      | (go_at_call 44; (with_reducible refine (qat H.out hl).mono ?_); rintro e w' ⟨rfl, rfl⟩)
      | (go_at_call 128; (with_reducible refine (qint H.out hl hb).mono ?_); rintro e w1 hp; unfold QPost at hp; rw [HU.out] at hp; obtain ⟨v1, rfl, rfl, h1, a1⟩ := hp; have H1 := Lib.hid (And.intro h1 a1); have y7 := HC7.out w1 h1; clear h1 a1)
      | (go_at_call 46; (with_reducible refine (wrong_yes (w0 := w0) s.n 55 H1.out.1.kept).mono ?_); rintro e w2 ⟨q1, f1, rfl, hs⟩; have HS := Lib.hid hs; clear hs))
        refine ⟨rfl, ?_⟩
        unfold QPost
        rw [HRES.out]
        exact ⟨q1, f1, rfl, HS.out⟩
      · have b1 : IntKind.i64.wrap (st + d) = st + d - 18446744073709551616 := by rw [IntKind.wrap_i64]; omega
        have b2 : ((0 : Int) < d) = True := eq_true (by omega)
        have b3 : (st < st + d - 18446744073709551616) = False := eq_false (by omega)
        have b4 : (d == 0) = false := by rw [beq_eq_false_iff_ne]; omega
        have b5 : (d != 0) = true := by rw [bne_iff_ne]; omega
        clear hbad
        go_enter Tryz.func90, Tryz.ntmps90
        go_wp2_with (first
      | (go_at_call 44; (with_reducible refine (qat H.out hl).mono ?_); rintro e w' ⟨rfl, rfl⟩)
      | (go_at_call 128; (with_reducible refine (qint H.out hl hb).mono ?_); rintro e w1 hp; unfold QPost at hp; rw [HU.out] at hp; obtain ⟨v1, rfl, rfl, h1, a1⟩ := hp; have H1 := Lib.hid (And.intro h1 a1); have y7 := HC7.out w1 h1; clear h1 a1)
      | (go_at_call 46; (with_reducible refine (wrong_yes (w0 := w0) s.n 55 H1.out.1.kept).mono ?_); rintro e w2 ⟨q1, f1, rfl, hs⟩; have HS := Lib.hid hs; clear hs))
        refine ⟨rfl, ?_⟩
        unfold QPost
        rw [HRES.out]
        exact ⟨q1, f1, rfl, HS.out⟩
    · have hres : beginR L s = .ok (st + d) { s1 with st := st + d } := by unfold beginR Rdr.mapS Rdr.upd Rdr.chk; rw [hu]; simp only [← hst, if_neg hbad]
      have HRES := Lib.hid hres
      have HST := Lib.hid hst
      have b1 : IntKind.i64.wrap (st + d) = st + d := by rw [IntKind.wrap_i64]; omega
      have e1 : -9223372036854775808 ≤ st + d ∧ st + d ≤ 9223372036854775807 := by omega
      have HE1 := Lib.hid e1
      clear h hu hres hst t1 t2 t3 c7 hbad e1
      by_cases hd : 0 < d
      · have b2 : ((0 : Int) < d) = True := eq_true hd
        have b3 : (st < st + d) = True := eq_true (by omega)
        clear hd
        go_enter Tryz.func90, Tryz.ntmps90
        go_wp2_with (first
      | (go_at_call 44; (with_reducible refine (qat H.out hl).mono ?_); rintro e w' ⟨rfl, rfl⟩)
      | (go_at_call 128; (with_reducible refine (qint H.out hl hb).mono ?_); rintro e w1 hp; unfold QPost at hp; rw [HU.out] at hp; obtain ⟨v1, rfl, rfl, h1, a1⟩ := hp; have H1 := Lib.hid (And.intro h1 a1); have y7 := HC7.out w1 h1; have z7 := h1.frozen 7; clear h1 a1)
      | (go_at_call 46; (with_reducible refine (wrong_no _ _ _).mono ?_); rintro e w' ⟨rfl, rfl⟩))
        go_ret
        unfold QPost
        rw [HRES.out]
        obtain ⟨m1, m2⟩ := H1.out.1.setSt (st + d) HE1.out
        exact ⟨_, rfl, rfl, m1, H1.out.2.trans m2⟩
      · have b2 : ((0 : Int) < d) = False := eq_false hd
        have b3 : (st < st + d) = False := eq_false (by omega)
        clear hd
        go_enter Tryz.func90, Tryz.ntmps90
        go_wp2_with (first
      | (go_at_call 44; (with_reducible refine (qat H.out hl).mono ?_); rintro e w' ⟨rfl, rfl⟩)
      | (go_at_call 128; (with_reducible refine (qint H.out hl hb).mono ?_); rintro e w1 hp; unfold QPost at hp; rw [HU.out] at hp; obtain ⟨v1, rfl, rfl, h1, a1⟩ := hp; have H1 := Lib.hid (And.intro h1 a1); have y7 := HC7.out w1 h1; have z7 := h1.frozen 7; clear h1 a1)
      | (go_at_call 46; (with_reducible refine (wrong_no _ _ _).mono ?_); rintro e w' ⟨rfl, rfl⟩))
        go_ret
        unfold QPost
        rw [HRES.out]
        obtain ⟨m1, m2⟩ := H1.out.1.setSt (st + d) HE1.out
        exact ⟨_, rfl, rfl, m1, H1.out.2.trans m2⟩
end
end Go.Proofs.YtlcbgklealipoaaGreatDoor
end

section
/- The reader: a text of the table (the walk; printed by gen_g6.py). -/
namespace Go.Proofs.YtlcbgklealipoaaGreatDoor
open Go Go.RowKit
set_option linter.unusedVariables false
set_option linter.unusedSimpArgs false

section
variable {rb r : Nat} {w0 w : World} {L : List Int} {T : TT} {R : RR} {tv : TV} {s : BSt}
theorem QAt.tabT (h : QAt rb r w0 L T R tv s w) : ∃ A c, w.cell? ⟨rb, 1, none⟩ = some (.slice A T.length c) ∧ ∀ (n : Nat) x, T[n]? = some x → ∃ g, A = some ⟨g, 0, none⟩ ∧ w.cell? ⟨g, n, none⟩ = some (.string x.1) ∧ g ≠ rb := by
  obtain ⟨h1, h2, _⟩ := h.blk
  obtain ⟨A, c, ev⟩ := own_slice h2
  rw [ev] at h1 h2
  refine ⟨A, c, (blk_cell h1 1).trans rfl, fun n x hx => ?_⟩
  obtain ⟨g, rfl, _, hc⟩ := own_elem h2 (by rw [tCells, List.length_map]; have := (List.getElem?_eq_some_iff.1 hx).1; omega)
  refine ⟨g, rfl, hc n _ (by rw [tCells, List.getElem?_map, hx]; rfl), ?_⟩
  rintro rfl
  exact own_ne h2 h1 (by decide) rfl
theorem QAt.tabR (h : QAt rb r w0 L T R tv s w) : ∃ A c, w.cell? ⟨rb, 4, none⟩ = some (.slice A R.length c) ∧ ∀ (n : Nat) x, R[n]? = some x → ∃ g, A = some ⟨g, 0, none⟩ ∧ w.cell? ⟨g, n * 2, none⟩ = some (.int .u64 x.1.1) ∧ w.cell? ⟨g, n * 2 + 1, none⟩ = some (.int .u64 x.1.2) ∧ g ≠ rb := by
  obtain ⟨h1, _, _, h2, _⟩ := h.blk
  obtain ⟨A, c, ev⟩ := own_slice h2
  rw [ev] at h1 h2
  refine ⟨A, c, (blk_cell h1 4).trans rfl, fun n x hx => ?_⟩
  have e : rCells R = (R.map Prod.fst).flatMap trC := by rw [rCells, List.flatMap_map]
  have hl := (List.getElem?_eq_some_iff.1 hx).1
  obtain ⟨g, rfl, _, hc⟩ := own_elem h2 (by rw [h2.1]; omega)
  obtain ⟨e1, e2⟩ := tr_get (R.map Prod.fst) n x.1 (by rw [List.getElem?_map, hx]; rfl)
  rw [← e, Nat.mul_comm] at e1 e2
  refine ⟨g, rfl, hc _ _ e1, hc _ _ e2, ?_⟩
  rintro rfl
  exact own_ne h2 h1 (by decide) rfl
theorem QAt.setTu (h : QAt rb r w0 L T R tv s w) (hv : s.tu + 1 ≤ T.length) : QAt rb r w0 L T R tv { s with tu := s.tu + 1 } (w.setCell ⟨rb, 3, none⟩ (.int .i64 ((s.tu : Int) + 1))) ∧ Aside w (w.setCell ⟨rb, 3, none⟩ (.int .i64 ((s.tu : Int) + 1))) :=
  h.set rfl (fun _ _ _ _ => rfl) hv h.ru h.st
theorem QAt.setRu (h : QAt rb r w0 L T R tv s w) (hv : s.ru + 1 ≤ R.length) : QAt rb r w0 L T R tv { s with ru := s.ru + 1 } (w.setCell ⟨rb, 6, none⟩ (.int .i64 ((s.ru : Int) + 1))) ∧ Aside w (w.setCell ⟨rb, 6, none⟩ (.int .i64 ((s.ru : Int) + 1))) :=
  h.set rfl (fun _ _ _ _ => rfl) h.tu hv h.st
set_option maxHeartbeats 4000000 in
set_option maxRecDepth 100000 in
theorem qtext (h : QAt rb r w0 L T R tv s w) (hl : L.length ≤ 65536) (hb : Bytes L) (hT : T.length ≤ 1000000) :
    Calls Tryz.prog 89 #[.pointer (some ⟨rb, 0, none⟩), .pointer (some ⟨rb, 1, none⟩)] w (QPost rb r w0 L T R tv (namedT (T.map Prod.fst) L s) (fun x v _ => v = .string x) w) := by
  have c0 := h.c0
  have H := Lib.hid h
  cases hu : uintR L s with
  | err a no =>
    have hres : namedT (T.map Prod.fst) L s = .err a no := by unfold namedT Rdr.map Rdr.mapS Rdr.upd Rdr.chk; rw [hu]
    have HRES := Lib.hid hres
    have HU := Lib.hid hu
    clear h hu hres
    go_enter Tryz.func89, Tryz.ntmps89
    go_wp2_with (first
      | (go_at_call 44; (with_reducible refine (qat H.out hl).mono ?_); rintro e w' ⟨rfl, rfl⟩)
      | (go_at_call 45; (with_reducible refine (quint H.out hl hb).mono ?_); rintro e w1 hp; unfold QPost at hp; rw [HU.out] at hp; obtain ⟨q1, f1, rfl, hs⟩ := hp; have HS := Lib.hid hs; clear hs))
    refine ⟨rfl, ?_⟩
    unfold QPost
    rw [HRES.out]
    exact ⟨q1, f1, rfl, HS.out⟩
  | ok n s1 =>
    have hn64 := uintR_lt hu
    obtain ⟨t1, t2, t3⟩ := uintR_st hu
    have htu := h.tu
    have HU := Lib.hid hu
    obtain ⟨tu, htu0⟩ : ∃ x, x = s.tu := ⟨_, rfl⟩
    rw [← htu0] at htu t1
    have HT1 := Lib.hid t1
    have c3 : ∀ W, QAt rb r w0 L T R tv s1 W → W.cell? ⟨rb, 3, none⟩ = some (.int .i64 tu) := fun W hW => by rw [← HT1.out]; exact hW.c3
    have HC3 := Lib.hid c3
    by_cases h55 : T.length ≤ n
    · have hres : namedT (T.map Prod.fst) L s = .err s.n 55 := by unfold namedT Rdr.map Rdr.mapS Rdr.upd Rdr.chk tabC; rw [hu]; simp only [List.length_map, if_pos h55]
      have HRES := Lib.hid hres
      have b1 : (T.length ≤ n) = True := eq_true h55
      clear h hu hres h55 t1 t2 t3 htu0 c3
      go_enter Tryz.func89, Tryz.ntmps89
      go_wp2_with (first
      | (go_at_call 44; (with_reducible refine (qat H.out hl).mono ?_); rintro e w' ⟨rfl, rfl⟩)
      | (go_at_call 45; (with_reducible refine (quint H.out hl hb).mono ?_); rintro e w1 hp; unfold QPost at hp; rw [HU.out] at hp; obtain ⟨v1, rfl, rfl, h1, a1⟩ := hp; have H1 := Lib.hid (And.intro h1 a1); obtain ⟨tA, tc, y1, y2⟩ := h1.tabT; have y3 := HC3.out w1 h1; clear h1 a1)
      | (go_at_call 46; (with_reducible refine (wrong_yes (w0 := w0) s.n 55 H1.out.1.kept).mono ?_); rintro e w2 ⟨q1, f1, rfl, hs⟩; have HS := Lib.hid hs; clear hs))
      refine ⟨rfl, ?_⟩
      unfold QPost
      rw [HRES.out]
      exact ⟨q1, f1, rfl, HS.out⟩
    have b1 : (T.length ≤ n) = False := eq_false h55
    by_cases h54 : tu < n
    · have hres : namedT (T.map Prod.fst) L s = .err s.n 54 := by unfold namedT Rdr.map Rdr.mapS Rdr.upd Rdr.chk tabC; rw [hu]; simp only [List.length_map, if_neg h55, ← htu0, if_pos h54]
      have HRES := Lib.hid hres
      have b2 : (tu < n) = True := eq_true h54
      clear h hu hres h55 h54 t1 t2 t3 htu0 c3
      go_enter Tryz.func89, Tryz.ntmps89
      go_wp2_with (first
      | (go_at_call 44; (with_reducible refine (qat H.out hl).mono ?_); rintro e w' ⟨rfl, rfl⟩)
      | (go_at_call 45; (with_reducible refine (quint H.out hl hb).mono ?_); rintro e w1 hp; unfold QPost at hp; rw [HU.out] at hp; obtain ⟨v1, rfl, rfl, h1, a1⟩ := hp; have H1 := Lib.hid (And.intro h1 a1); obtain ⟨tA, tc, y1, y2⟩ := h1.tabT; have y3 := HC3.out w1 h1; clear h1 a1)
      | (go_at_call 46; (with_reducible refine (wrong_yes (w0 := w0) s.n 54 H1.out.1.kept).mono ?_); rintro e w2 ⟨q1, f1, rfl, hs⟩; have HS := Lib.hid hs; clear hs)
      | (go_at_call 46; (with_reducible refine (wrong_no _ _ _).mono ?_); rintro e w' ⟨rfl, rfl⟩))
      refine ⟨rfl, ?_⟩
      unfold QPost
      rw [HRES.out]
      exact ⟨q1, f1, rfl, HS.out⟩
    have b2 : (tu < n) = False := eq_false h54
    obtain ⟨x, hx⟩ : ∃ x, T[n]? = some x := ⟨_, List.getElem?_eq_getElem (by omega)⟩
    have hval : (T.map Prod.fst).getD n ⟨#[]⟩ = x.1 := by rw [List.getD_eq_getElem?_getD, List.getElem?_map, hx]; rfl
    have HX := Lib.hid hx
    by_cases he : n = tu
    · have hres : namedT (T.map Prod.fst) L s = .ok x.1 { s1 with tu := s1.tu + 1 } := by
        unfold namedT Rdr.map Rdr.mapS Rdr.upd Rdr.chk tabC; rw [hu]; simp only [List.length_map, if_neg h55, ← htu0, if_neg h54, if_pos he, hval, t1]
      have HRES := Lib.hid hres
      have htl : tu + 1 ≤ T.length := by omega
      clear h hu hres h55 h54 t1 t2 t3 htu0 c3 hx hval
      subst he
      go_enter Tryz.func89, Tryz.ntmps89
      go_wp2_with (first
      | (go_at_call 44; (with_reducible refine (qat H.out hl).mono ?_); rintro e w' ⟨rfl, rfl⟩)
      | (go_at_call 45; (with_reducible refine (quint H.out hl hb).mono ?_); rintro e w1 hp; unfold QPost at hp; rw [HU.out] at hp; obtain ⟨v1, rfl, rfl, h1, a1⟩ := hp; have H1 := Lib.hid (And.intro h1 a1); obtain ⟨tA, tc, y1, y2⟩ := h1.tabT; have y3 := HC3.out w1 h1; obtain ⟨g, eA, y4, y5⟩ := y2 n x HX.out; subst eA; have y6 := h1.frozen 3; clear y2; clear h1 a1)
      | (go_at_call 46; (with_reducible refine (wrong_no _ _ _).mono ?_); rintro e w' ⟨rfl, rfl⟩))
      go_ret
      unfold QPost
      rw [HRES.out]
      have hst := H1.out.1.setTu (by rw [HT1.out]; exact htl)
      rw [HT1.out] at hst
      rw [HT1.out]
      exact ⟨_, rfl, rfl, hst.1, H1.out.2.trans hst.2⟩
    · have hres : namedT (T.map Prod.fst) L s = .ok x.1 s1 := by
        unfold namedT Rdr.map Rdr.mapS Rdr.upd Rdr.chk tabC; rw [hu]; simp only [List.length_map, if_neg h55, ← htu0, if_neg h54, if_neg he, hval]
      have HRES := Lib.hid hres
      have b3 : ((n : Int) == (tu : Int)) = false := by rw [beq_eq_false_iff_ne]; omega
      have b4 : (n == tu) = false := by rw [beq_eq_false_iff_ne]; exact he
      have b5 : n < T.length := by omega
      clear h hu hres h55 h54 t1 t2 t3 htu0 c3 hx hval he
      go_enter Tryz.func89, Tryz.ntmps89
      go_wp2_with (first
      | (go_at_call 44; (with_reducible refine (qat H.out hl).mono ?_); rintro e w' ⟨rfl, rfl⟩)
      | (go_at_call 45; (with_reducible refine (quint H.out hl hb).mono ?_); rintro e w1 hp; unfold QPost at hp; rw [HU.out] at hp; obtain ⟨v1, rfl, rfl, h1, a1⟩ := hp; have H1 := Lib.hid (And.intro h1 a1); obtain ⟨tA, tc, y1, y2⟩ := h1.tabT; have y3 := HC3.out w1 h1; obtain ⟨g, eA, y4, y5⟩ := y2 n x HX.out; subst eA; clear y2; clear h1 a1)
      | (go_at_call 46; (with_reducible refine (wrong_no _ _ _).mono ?_); rintro e w' ⟨rfl, rfl⟩))
      go_ret
      unfold QPost
      rw [HRES.out]
      exact ⟨_, rfl, rfl, H1.out.1, H1.out.2⟩
end
end Go.Proofs.YtlcbgklealipoaaGreatDoor
end

