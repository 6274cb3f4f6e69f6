/- How long a span's bytes are (plain). -/
import Derived.Test.YtniigjfimggobaaDoorS7
namespace Go.Proofs.YtniigjfimggobaaDoor
open Go.RowKit
set_option linter.unusedVariables false
set_option linter.unusedSimpArgs false

theorem flat_bytes {α : Type} (f : α → List Int) (l : List α) (h : ∀ x ∈ l, Bytes (f x)) : Bytes (l.flatMap f) := fun y hy => by
  obtain ⟨x, hx, hy⟩ := List.mem_flatMap.1 hy
  exact h x hx y hy
theorem txt_bytes (s : ByteArray) : Bytes (txt s) := bytes_app (venc_bytes _) (octs_bytes s)
theorem encA_bytes (a : Atr) : Bytes (encA a) := bytes_app (txt_bytes _) (bytes_app (venc_bytes _) (bytes_app (txt_bytes _) (venc_bytes _)))
theorem encE_bytes (e : Evt) : Bytes (encE e) := bytes_app (venc_bytes _) (txt_bytes _)
theorem enc_bytes (s : Spn) : Bytes (encS s) := by
  unfold encS
  exact bytes_app (raw8_bytes _) (bytes_app (raw8_bytes _) (bytes_app (raw8_bytes _) (bytes_app (raw8_bytes _) (bytes_app (venc_bytes _) (bytes_app (flat_bytes _ _ fun x _ => raw8_bytes x) (bytes_app (txt_bytes _) (bytes_app (txt_bytes _) (bytes_app (venc_bytes _) (bytes_app (venc_bytes _) (bytes_app (venc_bytes _) (bytes_app (venc_bytes _) (bytes_app (venc_bytes _) (bytes_app (flat_bytes _ _ fun x _ => encA_bytes x) (bytes_app (venc_bytes _) (flat_bytes _ _ fun x _ => encE_bytes x)))))))))))))))
theorem flat_le {α : Type} (f : α → List Int) (M : Nat) : ∀ l : List α, (∀ x ∈ l, (f x).length ≤ M) → (l.flatMap f).length ≤ l.length * M
  | [], _ => by simp
  | x :: r, h => by
    have h1 := h x (by simp)
    have h2 := flat_le f M r fun y hy => h y (by simp [hy])
    rw [List.flatMap_cons, List.length_append, List.length_cons, Nat.succ_mul]
    omega
theorem flat_eq {α : Type} (f : α → List Int) (M : Nat) : ∀ l : List α, (∀ x ∈ l, (f x).length = M) → (l.flatMap f).length = l.length * M
  | [], _ => by simp
  | x :: r, h => by
    have h1 := h x (by simp)
    have h2 := flat_eq f M r fun y hy => h y (by simp [hy])
    rw [List.flatMap_cons, List.length_append, List.length_cons, Nat.succ_mul]
    omega
theorem venc_one {n : Nat} (h : n < 128) : (venc n).length = 1 := by rw [venc_lt h]; rfl
theorem txt_len (s : ByteArray) : (txt s).length = (venc s.size).length + s.size := by rw [txt, List.length_append, octs_len]
theorem encA_le {a : Atr} (h1 : keyedS a.key = true) (h2 : valuedS a = true) (hr : -9223372036854775808 ≤ a.i ∧ a.i < 9223372036854775808) : (encA a).length ≤ 245 := by
  have hk := keyed_size h1
  have hv := valued_ok h2
  unfold encA
  rw [List.length_append, List.length_append, List.length_append, txt_len, txt_len, venc_one (n := a.key.size) (by omega), venc_one (n := a.k.toNat) (by omega)]
  have ht : (venc a.t.size).length ≤ 2 := venc_len 1 _ (by omega)
  unfold valuedS at h2
  by_cases k0 : a.k = 0
  · rw [if_pos k0] at h2
    simp at h2
    rw [h2.1, venc_one (n := (zig 0).toNat) (by decide)]
    omega
  · rw [if_neg k0] at h2
    by_cases k1 : a.k = 1
    · rw [if_pos k1] at h2
      have h3 : a.t.size = 0 := by simpa using h2
      have hz := zig_range a.i hr.1 hr.2
      have := venc_len10 (n := (zig a.i).toNat) (by omega)
      omega
    · rw [if_neg k1] at h2
      split at h2
      · simp at h2
        obtain ⟨h3, h4⟩ := h2
        rcases h4 with h4 | h4
        · rw [h4, venc_one (n := (zig 0).toNat) (by decide)]; omega
        · rw [h4, venc_one (n := (zig 1).toNat) (by decide)]; omega
      · cases h2
theorem encE_le {e : Evt} (h : 0 ≤ e.at_ ∧ e.at_ ≤ 4611686018427387904 ∧ plainS e.n 100 32 = true) : (encE e).length ≤ 110 := by
  have hp := plain_size h.2.2
  unfold encE
  rw [List.length_append, txt_len, venc_one (n := e.n.size) (by omega)]
  have : (venc e.at_.toNat).length ≤ 9 := venc_len 8 _ (by omega)
  omega
theorem enc_len {s : Spn} (h : checkS s = 0) (hr : Fits s) : 43 ≤ (encS s).length ∧ (encS s).length ≤ 11705 := by
  have hf := fine_of h
  have hs := plain_size hf.svc
  have ho := plain_size hf.op
  have hl := hf.links
  have ha := hf.ats
  have he := hf.evs
  have h1 := flat_eq raw8 8 s.links (fun x _ => raw8_len x)
  have h2 := flat_le encA 245 s.ats (fun a hm => encA_le (ha.2 a hm).1 (ha.2 a hm).2 (hr.ats a hm).2)
  have h3 := flat_le encE 110 s.evs (fun e hm => encE_le (he.2 e hm))
  have hk := hf.kind
  have hst := hf.st
  have hsa := hf.start
  have v1 : (venc s.start.toNat).length ≤ 9 := venc_len 8 _ (by omega)
  have v2 : (venc s.fin.toNat).length ≤ 9 := venc_len 8 _ (by omega)
  have p1 := venc_pos s.start.toNat
  have p2 := venc_pos s.fin.toNat
  unfold encS
  simp only [List.length_append, raw8_len, txt_len]
  rw [venc_one (n := s.links.length) (by omega), venc_one (n := s.svc.size) (by omega), venc_one (n := s.op.size) (by omega), venc_one (n := s.kind.toNat) (by omega), venc_one (n := s.st.toNat) (by omega), venc_one (n := s.ats.length) (by omega), venc_one (n := s.evs.length) (by omega), h1]
  have m1 : s.ats.length * 245 ≤ 32 * 245 := Nat.mul_le_mul_right _ ha.1
  have m2 : s.evs.length * 110 ≤ 32 * 110 := Nat.mul_le_mul_right _ he.1
  omega
end Go.Proofs.YtniigjfimggobaaDoor
