/- What Encode has in hand: a writer, and the span. -/
import Derived.Test.YtniigjfimggobaaDoorE1
import Derived.Test.YtniigjfimggobaaDoorM
import Derived.Test.YtniigjfimggobaaDoorU3
import Derived.Test.YtniigjfimggobaaDoorS7
namespace Go.Proofs.YtniigjfimggobaaDoor
open Go.RowKit
set_option linter.unusedVariables false
set_option linter.unusedSimpArgs false

theorem typ_of' {w : World} {k : Nat} {cs cs' : Array Value} {t t' : TypeId} {fr fr' : Nat × Nat} (h : w.heap[k]? = some (.cells cs t fr)) (h' : w.heap[k]? = some (.cells cs' t' fr')) : @Eq Nat t' t := by
  rw [h] at h'
  injection h' with h'
  injection h' with _ h2 _
  exact h2.symm
/-- A writer that a span is laid down with, and that span's block. -/
structure EncAt (B g sb : Nat) (s : Spn) (lv av ev : Value) (w0 w : World) (l : List Int) (N : Nat) : Prop where
  wr : ∃ v, WrAt 117 5 B w g v l
  sp : w.heap[sb]? = some (.cells (s.cells lv av ev) 33 (0, 0))
  kept : Kept (fun _ => False) w0 w
  ge : w0.heap.size ≤ g ∧ w0.heap.size ≤ B
  len : l.length ≤ N
section
variable {B g sb N : Nat} {s : Spn} {lv av ev : Value} {w0 w : World} {l : List Int}
theorem EncAt.alloc (h : EncAt B g sb s lv av ev w0 w l N) (o : Obj) : EncAt B g sb s lv av ev w0 (w.alloc o) l N := by
  have hk := Kept.alloc (fun _ => False) w o
  obtain ⟨v, hv⟩ := h.wr
  exact ⟨⟨v, hv.kept hk (fun h => h) (fun _ _ h => h)⟩, blk_kept hk h.sp (fun h => h), h.kept.trans hk (fun _ _ e => e) (fun _ _ e => e), h.ge, h.len⟩
theorem WrStep.apart {v v' : Value} {w' : World} {l' : List Int} (hv : WrAt 117 5 B w g v l) (hst : WrStep 117 5 B g v w v' l' w') (xb : Nat) (cs : Array Value) (t : TypeId) (fr : Nat × Nat) (hx : w.heap[xb]? = some (.cells cs t fr)) (h1 : t ≠ 117) (h2 : t ≠ 5) : w'.heap[xb]? = some (.cells cs t fr) := by
  refine blk_kept hst.kept hx ?_
  rintro (rfl | e)
  · exact h1 (typ_of' hv.blk hx)
  · exact own_ne hv.own hx h2 e
/-- What a writer's call leaves. -/
def EncP (B g sb : Nat) (s : Spn) (lv av ev : Value) (w0 w : World) (l : List Int) (N : Nat) (e : Ending) (w' : World) : Prop :=
  e = .returned (.tuple #[]) ∧ EncAt B g sb s lv av ev w0 w' l N ∧ ∀ (xb : Nat) (cs : Array Value) (t : TypeId) (fr : Nat × Nat), w.heap[xb]? = some (.cells cs t fr) → t ≠ 117 → t ≠ 5 → w'.heap[xb]? = some (.cells cs t fr)
theorem EncAt.step {v : Value} {l' : List Int} {N' : Nat} (h : EncAt B g sb s lv av ev w0 w l N) (hv : WrAt 117 5 B w g v l) (hN : l'.length ≤ N') {e : Ending} {w' : World} (hp : UintPost B g v l' w e w') : EncP B g sb s lv av ev w0 w l' N' e w' := by
  obtain ⟨rfl, v', hst⟩ := hp
  have ap := fun xb cs (t : TypeId) fr hx h1 h2 => WrStep.apart hv hst xb cs t fr hx h1 h2
  refine ⟨rfl, ⟨⟨v', hst.at_⟩, ap _ _ _ _ h.sp (by decide) (by decide), h.kept.trans hst.kept (fun _ _ e => e) (fun i hi e => ?_), h.ge, hN⟩, ap⟩
  rcases e with rfl | e
  · have := h.ge; omega
  · have := (hv.own.lt i e).1; have := h.ge; omega
theorem encUint (h : EncAt B g sb s lv av ev w0 w l N) (n : Nat) (hn : n < 18446744073709551616) (hN : N ≤ 1000000) : Calls Tryd.prog 38 #[.pointer (some ⟨g, 0, none⟩), .int .u64 n] w (EncP B g sb s lv av ev w0 w (l ++ venc n) (N + 10)) := by
  obtain ⟨v, hv⟩ := h.wr
  have hl := h.len
  exact (uint_any B g v l n w hn hv (by omega)).mono fun e w' hp => h.step hv (by rw [List.length_append]; have := venc_len10 hn; omega) hp
theorem encRaw (h : EncAt B g sb s lv av ev w0 w l N) (n : Nat) (hn : n < 18446744073709551616) (hN : N ≤ 1000000) : Calls Tryd.prog 37 #[.pointer (some ⟨g, 0, none⟩), .int .u64 n] w (EncP B g sb s lv av ev w0 w (l ++ raw8 n) (N + 8)) := by
  obtain ⟨v, hv⟩ := h.wr
  have hl := h.len
  exact (rawSpan_any B g v l n w hn hv (by omega)).mono fun e w' hp => h.step hv (by rw [List.length_append, raw8_len]; omega) hp
theorem encInt (h : EncAt B g sb s lv av ev w0 w l N) (i : Int) (h0 : -9223372036854775808 ≤ i) (h1 : i < 9223372036854775808) (hN : N ≤ 1000000) : Calls Tryd.prog 40 #[.pointer (some ⟨g, 0, none⟩), .int .i64 i] w (EncP B g sb s lv av ev w0 w (l ++ venc (zig i).toNat) (N + 10)) := by
  obtain ⟨v, hv⟩ := h.wr
  have hl := h.len
  refine (int_any B g v l i w h0 h1 hv (by omega)).mono fun e w' hp => h.step hv ?_ hp
  have := venc_len10 (n := (zig i).toNat) (by have := zig_range i h0 h1; omega)
  rw [List.length_append]; omega
theorem encText (h : EncAt B g sb s lv av ev w0 w l N) (x : ByteArray) (hx : x.size ≤ 1000) (hN : N ≤ 1000000) : Calls Tryd.prog 39 #[.pointer (some ⟨g, 0, none⟩), .string x] w (EncP B g sb s lv av ev w0 w (l ++ txt x) (N + 1010)) := by
  obtain ⟨v, hv⟩ := h.wr
  have hl := h.len
  have ho := octs_len x
  have hc := text_any B g v l (octs x) (l ++ venc x.size) w (octs_bytes x) hv (by rw [ho]) (by rw [ho]; omega)
  rw [strOfNums_octs, List.append_assoc] at hc
  refine hc.mono fun e w' hp => h.step hv ?_ hp
  have := venc_len10 (n := x.size) (by omega)
  unfold txt
  rw [List.length_append, List.length_append, ho]; omega
end
/-- What Encode answers. -/
def EncodePost (s : Spn) (w : World) (e : Ending) (w' : World) : Prop :=
  if checkS s = 0 then ∃ v, e = .returned (.tuple #[v, .int .i64 0]) ∧ Lies 5 w.heap.size w' v (encS s) ∧ Kept (fun _ => False) w w'
  else e = .returned (.tuple #[.slice none 0 0, .int .i64 (checkS s)]) ∧ Kept (fun _ => False) w w'
end Go.Proofs.YtniigjfimggobaaDoor
