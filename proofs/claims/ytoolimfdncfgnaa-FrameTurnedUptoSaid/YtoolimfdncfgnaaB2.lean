/- samePieces of two lists that read alike is true; pick. -/
import Derived.Test.YtoolimfdncfgnaaB1
namespace Go.Proofs.Ytoolimfdncfgnaa
open Go.RowKit
set_option linter.unusedVariables false
set_option linter.unusedSimpArgs false

/-- Pieces that lie at the head of block g; a list that reads as pieces. -/
def PAt (g : Nat) (ps : List Pc) (w : World) : Prop := ∀ j u, (pcells ps)[j]? = some u → w.cell? ⟨g, j, none⟩ = some u
def PReads (w : World) (v : Value) (ps : List Pc) : Prop := ∃ A c, v = .slice A ps.length c ∧ ps.length ≤ 9223372036854775807 ∧ (0 < ps.length → ∃ g, A = some ⟨g, 0, none⟩ ∧ PAt g ps w)
theorem PAt.kept {g : Nat} {ps : List Pc} {w w' : World} (h : PAt g ps w) (hk : Kept (fun _ => False) w w') : PAt g ps w' := fun j u hu => cell_kept hk (h j u hu)
theorem PReads.kept {w w' : World} {v : Value} {ps : List Pc} (h : PReads w v ps) (hk : Kept (fun _ => False) w w') : PReads w' v ps := by
  obtain ⟨A, c, rfl, hl, hc⟩ := h
  exact ⟨A, c, rfl, hl, fun h0 => by obtain ⟨g, e, hp⟩ := hc h0; exact ⟨g, e, hp.kept hk⟩⟩
theorem pcells_at (ps : List Pc) (i : Nat) (p : Pc) (h : ps[i]? = some p) : (pcells ps)[i * 4]? = some (.int .i64 p.kind) ∧ (pcells ps)[i * 4 + 1]? = some (.int .u64 p.seq) ∧ (pcells ps)[i * 4 + 2]? = some (.int .i64 p.pos) ∧ (pcells ps)[i * 4 + 3]? = some (.int .i64 p.len) := by
  induction ps generalizing i with
  | nil => simp at h
  | cons q ps ih =>
    cases i with
    | zero =>
      simp at h
      subst h
      simp [pcells, Pc.cells]
    | succ i =>
      have := ih i (by simpa using h)
      have e : ∀ k, (pcells (q :: ps))[(i + 1) * 4 + k]? = (pcells ps)[i * 4 + k]? := fun k => by
        rw [show (i + 1) * 4 + k = 4 + (i * 4 + k) by omega]
        simp only [pcells, List.flatMap_cons]
        rw [List.getElem?_append_right (by simp [Pc.cells])]
        simp [Pc.cells]
      rw [e 1, e 2, e 3, show (i + 1) * 4 = (i + 1) * 4 + 0 by omega, e 0]
      exact this
theorem own_preads {w : World} {B : Nat} {v : Value} {ps : List Pc} (h : w.ownsRow B 60 4 v ps.length (pcells ps)) : PReads w v ps := by
  rcases Nat.eq_zero_or_pos ps.length with h0 | h0
  · rcases h.2 with ⟨rfl, e⟩ | ⟨g, cap, cur, rfl, _, _, h1, h2, _⟩
    · exact ⟨none, 0, by rw [e], by omega, fun hp => by omega⟩
    · exact ⟨_, cap, rfl, by omega, fun hp => by omega⟩
  · obtain ⟨g, cap, rfl, h1, hb, hc⟩ := own_pieces h h0
    have : cap ≤ maxLen := by
      rcases h.2 with ⟨e, _⟩ | ⟨g', cap', cur, e, _, _, _, h2, _⟩
      · cases e
      · injection e with _ _ e; rw [e]; exact h2
    exact ⟨_, cap, rfl, by unfold maxLen at this; omega, fun _ => ⟨g, rfl, hc⟩⟩

def TrueD (w : World) (e : Ending) (w' : World) : Prop := e = .returned (.bool true) ∧ ∃ n, w' = w.drewN n
theorem same_nil (A B : Option Addr) (c d : Nat) (w : World) : Calls Try.prog 26 #[.slice A 0 c, .slice B 0 d] w (TrueD w) := by
  go_enter Try.func26, Try.ntmps26
  go_wp2_with fail
  refine wp_loop_rounds 1 ?_
  rw [rounds_succ]
  go_wp2_with fail
  go_ret
  exact ⟨rfl, 0, rfl⟩

set_option maxHeartbeats 2000000 in
theorem same_pos (g1 g2 c d : Nat) (ps : List Pc) (w : World) (hl : ps.length ≤ 9223372036854775807) (h1 : PAt g1 ps w) (h2 : PAt g2 ps w) :
    Calls Try.prog 26 #[.slice (some ⟨g1, 0, none⟩) ps.length c, .slice (some ⟨g2, 0, none⟩) ps.length d] w (TrueD w) := by
  have H := Lib.hid (And.intro h1 h2)
  clear h1 h2
  go_enter Try.func26, Try.ntmps26
  go_wp2_with fail
  go_loopw [5] (fun i wr => (∃ n : Nat, i = .int .i64 n ∧ n ≤ ps.length) ∧ ∃ m, wr = w.drewN m) (fun i _ => ps.length - (intOf i).toNat)
  case atStart => exact ⟨⟨0, rfl, by omega⟩, 0, rfl⟩
  case round =>
    obtain ⟨⟨n, rfl, hn⟩, m, rfl⟩ := hrel
    by_cases h : n < ps.length
    · obtain ⟨p, hp⟩ : ∃ p, ps[n]? = some p := ⟨_, List.getElem?_eq_getElem h⟩
      obtain ⟨a0, a1, a2, a3⟩ := pcells_at ps n p hp
      have b0 := H.out.1 _ _ a0
      have b1 := H.out.1 _ _ a1
      have b2 := H.out.1 _ _ a2
      have b3 := H.out.1 _ _ a3
      have c0 := H.out.2 _ _ a0
      have c1 := H.out.2 _ _ a1
      have c2 := H.out.2 _ _ a2
      have c3 := H.out.2 _ _ a3
      have n1 : (n : Int) < ps.length := by omega
      clear a0 a1 a2 a3 hp
      go_wp2_with fail
      go_quiet (fail)
      go_wp2_with fail
      exact ⟨⟨⟨n + 1, by go_num, by omega⟩, m + nq, rfl⟩, by simp [intOf]; omega⟩
    · obtain rfl : n = ps.length := by omega
      go_wp2_with fail
      go_ret
      exact ⟨rfl, m, rfl⟩

theorem same_any (v u : Value) (ps : List Pc) (w : World) (h1 : PReads w v ps) (h2 : PReads w u ps) : Calls Try.prog 26 #[v, u] w (TrueD w) := by
  obtain ⟨A, c, rfl, hl, hc⟩ := h1
  obtain ⟨B, d, rfl, -, hd⟩ := h2
  rcases Nat.eq_zero_or_pos ps.length with h0 | h0
  · rw [h0]; exact same_nil A B c d w
  · obtain ⟨g1, rfl, p1⟩ := hc h0
    obtain ⟨g2, rfl, p2⟩ := hd h0
    exact same_pos g1 g2 c d ps w hl p1 p2

/-! ### one form: a head says what makes it -/
theorem told_cons (x : Int) (l : List Int) (hb : Bytes (x :: l)) : told (x :: l) = x.toNat * 256 ^ l.length + told l := by
  have gen : ∀ (l : List Int) (a : Nat), l.foldl (fun n b => 256 * n + b.toNat) a = a * 256 ^ l.length + l.foldl (fun n b => 256 * n + b.toNat) 0 := by
    intro l
    induction l with
    | nil => intro a; simp
    | cons y l ih =>
      intro a
      simp only [List.foldl_cons, List.length_cons]
      rw [ih (256 * a + y.toNat), ih (256 * 0 + y.toNat), Nat.pow_succ]
      rw [Nat.add_mul, Nat.mul_assoc, Nat.mul_left_comm]
      simp only [Nat.mul_zero, Nat.zero_add]
      rw [Nat.mul_comm 256 (256 ^ l.length)]
      omega
  have := gen l x.toNat
  simpa [told] using this
theorem told_lt' {l : List Int} (hb : Bytes l) : told l < 256 ^ l.length := by
  have := told_lt hb l.length (Nat.le_refl _)
  simpa using this
theorem hiB_succ (n x : Nat) : hiB (n + 1) x = ((x / 2 ^ (8 * n) % 256 : Nat) : Int) :: hiB n x := by
  unfold hiB
  rw [List.range_succ_eq_map, List.map_cons, List.map_map]
  congr 1
  refine List.map_congr_left fun i hi => ?_
  have hi' : i < n := by simpa using hi
  show ((x / 2 ^ (8 * (n + 1 - 1 - (i + 1))) % 256 : Nat) : Int) = _
  rw [show n + 1 - 1 - (i + 1) = n - 1 - i by omega]
theorem pow8 (n : Nat) : (2 : Nat) ^ (8 * n) = 256 ^ n := by rw [Nat.pow_mul]
theorem hiB_told (l : List Int) (hb : Bytes l) : ∀ y, hiB l.length (told l + y * 256 ^ l.length) = l := by
  induction l with
  | nil => intro y; rfl
  | cons x l ih =>
    intro y
    have hx := hb x (by simp)
    have hbl : Bytes l := fun z hz => hb z (by simp [hz])
    have ht := told_lt' hbl
    have e : told (x :: l) + y * 256 ^ (x :: l).length = told l + (x.toNat + y * 256) * 256 ^ l.length := by
      rw [told_cons x l hb, List.length_cons, Nat.pow_succ, Nat.add_mul, ← Nat.mul_assoc y, Nat.mul_right_comm y 256]
      omega
    rw [e, List.length_cons, hiB_succ, ih hbl, pow8]
    congr 1
    rw [Nat.add_mul_div_right _ _ (Nat.pow_pos (by decide)), Nat.div_eq_of_lt ht, Nat.zero_add]
    omega
theorem hiB_told' (l : List Int) (n : Nat) (hn : l.length = n) (hb : Bytes l) : hiB n (told l) = l := by
  subst hn
  have := hiB_told l hb 0
  simpa using this
theorem loB_leS (a b c d : Nat) (ha : a < 256) (hb : b < 256) (hc : c < 256) (hd : d < 256) : loB 4 (leS a b c d) = [(a : Int), b, c, d] := by
  have e0 : (a + 256 * b + 65536 * c + 16777216 * d) / 2 ^ (8 * 0) % 256 = a := by
    show (a + 256 * b + 65536 * c + 16777216 * d) / 1 % 256 = a
    omega
  have e1 : (a + 256 * b + 65536 * c + 16777216 * d) / 2 ^ (8 * 1) % 256 = b := by
    show (a + 256 * b + 65536 * c + 16777216 * d) / 256 % 256 = b
    omega
  have e2 : (a + 256 * b + 65536 * c + 16777216 * d) / 2 ^ (8 * 2) % 256 = c := by
    show (a + 256 * b + 65536 * c + 16777216 * d) / 65536 % 256 = c
    omega
  have e3 : (a + 256 * b + 65536 * c + 16777216 * d) / 2 ^ (8 * 3) % 256 = d := by
    show (a + 256 * b + 65536 * c + 16777216 * d) / 16777216 % 256 = d
    omega
  simp only [loB, leS, List.range, List.range.loop, List.map, Int.toNat_natCast, e0, e1, e2, e3]
/-- The bytes of four places. -/
theorem loB_leS' (a b c d : Int) (ha : 0 ≤ a ∧ a < 256) (hb : 0 ≤ b ∧ b < 256) (hc : 0 ≤ c ∧ c < 256) (hd : 0 ≤ d ∧ d < 256) : loB 4 (leS a b c d) = [a, b, c, d] := by
  obtain ⟨a, rfl⟩ := Int.eq_ofNat_of_zero_le ha.1
  obtain ⟨b, rfl⟩ := Int.eq_ofNat_of_zero_le hb.1
  obtain ⟨c, rfl⟩ := Int.eq_ofNat_of_zero_le hc.1
  obtain ⟨d, rfl⟩ := Int.eq_ofNat_of_zero_le hd.1
  exact loB_leS a b c d (by omega) (by omega) (by omega) (by omega)
theorem take_split (l : List Int) (a n : Nat) (h : a + n ≤ l.length) : l.take (a + n) = l.take a ++ (l.drop a).take n := by
  rw [List.take_add]
theorem four_at (l : List Int) (a : Nat) (h : a + 4 ≤ l.length) : (l.drop a).take 4 = [l.getD a 0, l.getD (a + 1) 0, l.getD (a + 2) 0, l.getD (a + 3) 0] := by
  refine List.ext_getElem (by simp; omega) fun i h1 h2 => ?_
  have hi : i < 4 := by simpa using h2
  rcases i with _ | _ | _ | _ | i
  all_goals first | (simp [List.getD_eq_getElem?_getD]; rw [List.getElem?_eq_getElem (by omega)]; rfl) | omega
/-- A right head is what makes it. -/
theorem head_form {l : List Int} (hb : Bytes l) {k s n u : Nat} (h : headS l = .ok k s n u) : 24 ≤ l.length ∧ l.take 24 = head24 k s n u ∧ 1 ≤ k ∧ k ≤ 9 ∧ n ≤ 1048576 ∧ s < 18446744073709551616 := by
  unfold headS at h
  split at h
  · cases h
  · rename_i hlen
    split at h
    · rename_i hc
      injection h with e1 e2 e3 e4
      obtain ⟨⟨m0, m1, m2⟩, hk1, hk9, hL, hO⟩ := hc
      have g := fun j (hj : j < 24) => hb.getD j (by omega)
      have t20 : l.take 20 = head20 k s n u := by
        have a1 : l.take 4 = [83, 80, 82, (k : Int)] := by
          have := four_at l 0 (by omega)
          rw [List.drop_zero] at this
          rw [this, m0, m1, m2, ← e1]
          have := g 3 (by omega)
          unfold hKind
          congr 4
          exact (Int.toNat_of_nonneg this.1).symm
        have a2 : (l.drop 4).take 8 = hiB 8 s := by rw [← e2]; exact (hiB_told' _ 8 (by simp; omega) ((hb.drop 4).take 8)).symm
        have a3 : (l.drop 12).take 4 = hiB 4 n := by rw [← e3]; exact (hiB_told' _ 4 (by simp; omega) ((hb.drop 12).take 4)).symm
        have a4 : (l.drop 16).take 4 = loB 4 u := by
          rw [← e4, four_at l 16 (by omega)]
          exact (loB_leS' _ _ _ _ (g 16 (by omega)) (g 17 (by omega)) (g 18 (by omega)) (g 19 (by omega))).symm
        rw [show (20 : Nat) = 16 + 4 from rfl, take_split l 16 4 (by omega), show (16 : Nat) = 12 + 4 from rfl, take_split l 12 4 (by omega), show (12 : Nat) = 4 + 8 from rfl, take_split l 4 8 (by omega)]
        rw [a1, a2, a3, a4]
        rfl
      refine ⟨by omega, ?_, by omega, by omega, by omega, ?_⟩
      · rw [show (24 : Nat) = 20 + 4 from rfl, take_split l 20 4 (by omega), t20, four_at l 20 (by omega)]
        unfold head24
        rw [← t20, ← hO]
        congr 1
        exact (loB_leS' _ _ _ _ (g 20 (by omega)) (g 21 (by omega)) (g 22 (by omega)) (g 23 (by omega))).symm
      · rw [← e2]
        have := told_lt' ((hb.drop 4).take 8)
        have hl : ((l.drop 4).take 8).length = 8 := by simp; omega
        rw [hl] at this
        exact this
    · cases h
end Go.Proofs.Ytoolimfdncfgnaa
