/- Make gives the frame as it is told here, or an error. -/
import Derived.Test.YtoolimfdncfgnaaA2
import Derived.Test.YtoolimfdncfgnaaA3
namespace Go.Proofs.Ytoolimfdncfgnaa
open Go.RowKit
set_option linter.unusedVariables false
set_option linter.unusedSimpArgs false

/-- The head's first 20 bytes; the head; the frame. -/
def head20 (kind seq len sum : Nat) : List Int := [83, 80, 82, (kind : Int)] ++ hiB 8 seq ++ hiB 4 len ++ loB 4 sum
def head24 (kind seq len sum : Nat) : List Int := head20 kind seq len sum ++ loB 4 (sumS (head20 kind seq len sum))
def frameB (kind seq : Nat) (p : List Int) : List Int := head24 kind seq p.length (sumS p) ++ p
theorem head20_len (k s n m : Nat) : (head20 k s n m).length = 20 := by simp [head20, hiB_len, loB_len]
theorem head24_len (k s n m : Nat) : (head24 k s n m).length = 24 := by simp [head24, head20_len, loB_len]
theorem Bytes.append {a b : List Int} (ha : Bytes a) (hb : Bytes b) : Bytes (a ++ b) := fun x hx => (List.mem_append.1 hx).elim (ha x) (hb x)
theorem head20_bytes {k : Nat} (s n m : Nat) (hk : k < 256) : Bytes (head20 k s n m) := by
  refine Bytes.append (Bytes.append (Bytes.append ?_ (hiB_bytes _ _)) (hiB_bytes _ _)) (loB_bytes _ _)
  intro x hx
  simp at hx
  omega
theorem head24_bytes {k : Nat} (s n m : Nat) (hk : k < 256) : Bytes (head24 k s n m) := Bytes.append (head20_bytes s n m hk) (loB_bytes _ _)
theorem frameB_bytes {k : Nat} (s : Nat) {p : List Int} (hk : k < 256) (hp : Bytes p) : Bytes (frameB k s p) := Bytes.append (head24_bytes _ _ _ hk) hp
theorem frameB_len (k s : Nat) (p : List Int) : (frameB k s p).length = 24 + p.length := by simp [frameB, head24_len]

def MakePost (B : Nat) (l : List Int) (w : World) (e : Ending) (w' : World) : Prop := ∃ v', e = .returned (.tuple #[v', .int .i64 0]) ∧ w'.ownsRow w.heap.size 5 1 v' l.length (nums .u8 l) ∧ Kept (fun _ => False) w w' ∧ B = B

set_option maxHeartbeats 2000000 in
theorem make_ok (kind seq : Nat) (v : Value) (p : List Int) (w : World) (hk0 : 1 ≤ kind) (hk1 : kind ≤ 9) (hs : seq < 18446744073709551616) (hp : p.length ≤ 1048576) (hb : Bytes p) (hr : Reads w v p) :
    Calls Try.prog 17 #[.int .i64 kind, .int .u64 seq, v] w (MakePost 0 (frameB kind seq p) w) := by
  obtain ⟨i0, hi, hz0, hz1, hz2⟩ := info_parts Try.info5
  have hm : maxLen = 9223372036854775807 := rfl
  have hv : ∃ A c, v = .slice A p.length c := by obtain ⟨A, c, e, _⟩ := hr; exact ⟨A, c, e⟩
  obtain ⟨A, c, rfl⟩ := hv
  have k0 : (1 : Int) ≤ kind := by omega
  have k1 : (kind : Int) ≤ 9 := by omega
  have HR := Lib.hid hr; clear hr hm
  go_enter Try.func17, Try.ntmps17
  go_wp2_with (refine wpList_make_own w rfl _ _ 25 rfl w.heap.size 5 i0 (.int .u8 0) 1 Try.underlying25 hi hz0 hz1 .i64 .i64 _ (24 + p.length) rfl rfl ?c1 ?c2 ?c3 ?c4 ?_)
  case c1 => omega
  case c2 => rw [hz2]; omega
  case c3 => simp [maxLen]; omega
  case c4 => exact Nat.le_refl _
  rintro w1 hown hgr
  have hk1' : Kept (fun _ => False) w w1 := Kept.of_grown hgr (by simp)
  have hown0 : w1.ownsRow w.heap.size 5 1 (.slice (some ⟨w.heap.size, 0, none⟩) 0 (24 + p.length)) ([] : List Int).length (nums .u8 []) := hown
  clear hown hgr
  have hs1 := hk1'.size
  go_wp2_with (at_builtin; go_loud (refine wpList_append_new rfl _ _ 25 rfl w.heap.size 5 i0 (.int .u8 0) 1 Try.underlying25 hi hz0 hz1 hz2 rfl .u8 (.slice (some ⟨w.heap.size, 0, none⟩) 0 (24 + p.length)) [] [83, 80, 82, (kind : Int)] _ 4 4 rfl rfl ?c1 rfl hown0 ?c2 ?c3 ?c4 ?_))
  case c1 => rfl
  case c2 => simp [maxLen]
  case c3 => simp
  case c4 => omega
  rintro v2 w2 hst
  replace hst : OwnStep .u8 5 w.heap.size _ w1 v2 [83, 80, 82, (kind : Int)] w2 := hst
  have hk2 := hst.old hk1' (fun i hi => by simp [Value.ownBlock] at hi; omega)
  have hs2 := hk2.size
  clear hs1 hk1'
  have H2 := Lib.hid hst
  clear hst hown0
  go_wp2_with fail
  refine (high_any w.heap.size 8 seq v2 _ w2 hs2 hs (by decide) H2.out.own (by simp)).mono ?_
  rintro e w3 ⟨v3, rfl, h3⟩
  have hk3 := h3.old hk2 H2.out.lo
  have hs3 := hk3.size
  have H3 := Lib.hid h3
  clear h3 H2 hk2 hs2
  go_wp2_with fail
  refine (high_any w.heap.size 4 p.length v3 _ w3 hs3 (by omega) (by decide) H3.out.own (by simp [hiB_len])).mono ?_
  rintro e w4 ⟨v4, rfl, h4⟩
  have hk4 := h4.old hk3 H3.out.lo
  have H4 := Lib.hid h4
  clear h4 H3 hk3 hs3
  go_wp2_with fail
  refine (sum_any _ p w4 hb (by omega) (HR.out.kept hk4)).mono ?_
  rintro e w5 ⟨rfl, hk5⟩
  have h5 := Lib.hid (H4.out.ahead hk5)
  have hk5' := hk4.trans hk5 (fun _ _ e => e) (fun _ _ e => e) (U := fun _ => False)
  have hs5 := hk5'.size
  clear hk4 hk5 H4
  go_wp2_with fail
  refine (low_any w.heap.size (sumS p) v4 _ w5 hs5 (more_lt (by decide) hb) h5.out.own (by simp [hiB_len])).mono ?_
  rintro e w6 ⟨v6, rfl, h6⟩
  replace h6 : OwnStep .u8 5 w.heap.size v4 w5 v6 (head20 kind seq p.length (sumS p)) w6 := h6
  have hk6 := h6.old hk5' h5.out.lo
  have H6 := Lib.hid h6
  clear h6 h5 hk5' hs5
  go_wp2_with fail
  refine (sum_any _ _ w6 (head20_bytes seq p.length (sumS p) (by omega)) (by rw [head20_len]; decide) H6.out.reads).mono ?_
  rintro e w7 ⟨rfl, hk7⟩
  have H7 := Lib.hid (H6.out.ahead hk7)
  have hk7' := hk6.trans hk7 (fun _ _ e => e) (fun _ _ e => e) (U := fun _ => False)
  have hs7 := hk7'.size
  clear hk6 hk7 H6
  go_wp2_with fail
  refine (low_any w.heap.size (sumS (head20 kind seq p.length (sumS p))) v6 _ w7 hs7 (more_lt (by decide) (head20_bytes _ _ _ (by omega))) H7.out.own (by rw [head20_len]; decide)).mono ?_
  rintro e w8 ⟨v8, rfl, h8⟩
  replace h8 : OwnStep .u8 5 w.heap.size v6 w7 v8 (head24 kind seq p.length (sumS p)) w8 := h8
  have hk8 := h8.old hk7' H7.out.lo
  have hs8 := hk8.size
  have hown8 := h8.own
  have H8 := Lib.hid h8
  have HR8 := Lib.hid (HR.out.kept hk8)
  clear h8 H7 hk7' hs7
  go_wp2_with (at_builtin; refine wpList_append_reads rfl _ _ 25 rfl w.heap.size 5 i0 (.int .u8 0) 1 Try.underlying25 hi hz0 hz1 hz2 rfl v8 (.slice A p.length c) (head24 kind seq p.length (sumS p)) p rfl rfl HR8.out hown8 ?c2 ?c3 hs8 ?_)
  case c2 => rw [head24_len]; simp [maxLen]; omega
  case c3 => rw [head24_len]; omega
  rintro v9 w9 h9
  have H9 := Lib.hid (And.intro h9.own (h9.old hk8 H8.out.lo))
  clear h9 H8 hown8
  go_wp2_with fail
  go_ret2
  exact ⟨_, rfl, H9.out.1, H9.out.2, rfl⟩

theorem make_kind (kind seq : Int) (v : Value) (w : World) (hk : kind < 1 ∨ 9 < kind) :
    Calls Try.prog 17 #[.int .i64 kind, .int .u64 seq, v] w (fun e w' => e = .returned (.tuple #[.slice none 0 0, .int .i64 21]) ∧ w' = w) := by
  rcases hk with hk | hk
  · go_enter Try.func17, Try.ntmps17
    go_wp2_with fail
    go_ret2
    exact ⟨rfl, rfl⟩
  · have hk' : ¬ kind < 1 := by omega
    go_enter Try.func17, Try.ntmps17
    go_wp2_with fail
    go_ret2
    exact ⟨rfl, rfl⟩
theorem make_long (kind : Nat) (seq : Int) (A : Option Addr) (n c : Nat) (w : World) (hk0 : 1 ≤ kind) (hk1 : kind ≤ 9) (hn : 1048576 < n) (hn2 : n ≤ 9223372036854775807) :
    Calls Try.prog 17 #[.int .i64 kind, .int .u64 seq, .slice A n c] w (fun e w' => e = .returned (.tuple #[.slice none 0 0, .int .i64 22]) ∧ w' = w) := by
  have k0 : (1 : Int) ≤ kind := by omega
  have k1 : (kind : Int) ≤ 9 := by omega
  go_enter Try.func17, Try.ntmps17
  go_wp2_with fail
  go_ret2
  exact ⟨rfl, rfl⟩
end Go.Proofs.Ytoolimfdncfgnaa
