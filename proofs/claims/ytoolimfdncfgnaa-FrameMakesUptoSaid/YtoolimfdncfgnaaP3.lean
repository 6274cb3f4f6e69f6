/- append, at a step of a region that draws its order. -/
import Derived.Test.YtoolimfdncfgnaaP1
namespace Go.Proofs.Ytoolimfdncfgnaa
open Go.RowKit
set_option linter.unusedVariables false
set_option linter.unusedSimpArgs false

section
variable {P : Program} {w : World} {ops : Array Oper} {o : Oper} {a : Act} {K : Act → World → Prop} {Q : Exit → Act → World → Prop} {E' : Prop}
theorem step_append_paint (hgd : o.guard = none) (s x : Operand) (t : TypeId) (ho : o.op = .call { callee := .builtin .append, args := #[s, x], argTypes := #[t, t] })
    (B : Nat) (e : TypeId) (i : TypeInfo) (z : Value) (size bytes : Nat) (ht : P.underlying t = some (.slice e)) (hi : P.info? e = some i) (hz : i.zero = some z) (hsize : i.size = size) (hby : i.bytes = bytes) (hzs : z.cells.size = size) (hsz : 0 < size)
    (v : Value) (n : Nat) (xs : List Value) (hs : a.eval s = v) (hown : w.ownsRow B e size v n xs)
    (ad : Addr) (m c : Nat) (news : List Value) (hx : a.eval x = .slice (some ad) m c) (hl : news.length = m * size) (hm : 0 < m) (hnews : ∀ j u, news[j]? = some u → w.cell? (ad.add j) = some u) (h1 : ∀ u ∈ news, u.oneCell' = true)
    (h63 : n + m ≤ maxLen) (hbytes : (n + m) * bytes ≤ 140737488355328) (hB : B ≤ w.heap.size)
    (h : ∀ v' w', w'.ownsRow B e size v' (n + m) (xs ++ news) → AppAt e size w v n news v' w' → K (a.put o.dst v') w') :
    if Region.wanted o (yielded ops a.tmps) = true then Oper.wp P o a w K Q else E' := by
  have hw : Region.wanted o (yielded ops a.tmps) = true := by simp [Region.wanted, hgd]
  rw [if_pos hw]
  obtain ⟨v', w', hr, h2, h3⟩ := run_append_two (P := P) w B t o.type e i z size bytes ht hi hz hsize hby hzs hsz v n xs hown ad m c news hl hm hnews h1 h63 hbytes hB
  unfold Oper.wp execOp
  simp only [ho, resolve, invoke, builtin, Sem.run_bind, Sem.run_pure, Result.andThen_ok, List.map_toArray, List.map_cons, List.map_nil, hs, hx, hr]
  exact h v' w' h2 h3
/-- 'append([]byte{}, x...)': a list of its own. -/
theorem run_append_copy (w : World) (t ty e : TypeId) (i : TypeInfo) (z : Value) (bytes : Nat) (ht : P.underlying t = some (.slice e)) (hi : P.info? e = some i) (hz : i.zero = some z) (hsize : i.size = 1) (hby : i.bytes = bytes) (hzs : z.cells.size = 1)
    (B : Nat) (v y : Value) (l p : List Int) (hr : Reads w y p) (hown : w.ownsRow B e 1 v l.length (nums .u8 l)) (h63 : l.length + p.length ≤ maxLen) (hbytes : (l.length + p.length) * bytes ≤ 140737488355328) (hB : B ≤ w.heap.size) :
    ∃ v' w', (Builtin.append_ #[t, t] ty #[v, y]).run P w = .ok v' w' ∧ OwnStep .u8 e B v w v' (l ++ p) w' := by
  obtain ⟨A, c, rfl, h0, hc⟩ := hr
  rcases Nat.eq_zero_or_pos p.length with hp | hp
  · obtain rfl : p = [] := List.eq_nil_of_length_eq_zero hp
    refine ⟨v, w, ?_, by rw [List.append_nil]; exact .refl hown⟩
    obtain ⟨Av, cv, rfl⟩ := own_slice hown
    have hcap : l.length ≤ cv := by
      rcases hown.2 with ⟨e1, e2⟩ | ⟨g, cap, cur, e1, _, _, h1, _⟩
      · injection e1 with _ e3 e4; omega
      · injection e1 with _ _ e4; omega
    have hn : ∀ (w : World), (Builtin.firstCells i.size 0 (.slice A 0 c)).run P w = .ok #[] w := by
      intro w
      cases A with
      | none => simp [Builtin.firstCells]
      | some a => simp [Builtin.firstCells, loadCells, loadCellsFrom]
    cases Av with
    | none => simp [Builtin.append_, run_underlying ht, sizeOf, typeInfo, hi, Builtin.lenOf, hcap, hn]
    | some a => simp [Builtin.append_, run_underlying ht, sizeOf, typeInfo, hi, Builtin.lenOf, hcap, hn, storeCells]
  · obtain ⟨ad, hA, -⟩ := hc 0 _ (nums_get .u8 p 0 hp)
    subst hA
    obtain ⟨v', w', hr, h2, h3⟩ := run_append_two (P := P) w B t ty e i z 1 bytes ht hi hz hsize hby hzs (by decide) v l.length (nums .u8 l) hown ad p.length c (nums .u8 p) (by simp [nums]) hp (fun j u hu => by
      obtain ⟨ad', he, hcell⟩ := hc j u hu
      injection he with he
      subst he
      exact hcell) (byte_ones _ _) h63 hbytes hB
    exact ⟨v', w', hr, own_congr h2 (by rw [nums_append]) (by simp), h3.moved, h3.kept⟩
theorem step_append_reads (hgd : o.guard = none) (s x : Operand) (t : TypeId) (ho : o.op = .call { callee := .builtin .append, args := #[s, x], argTypes := #[t, t] })
    (B : Nat) (e : TypeId) (i : TypeInfo) (z : Value) (bytes : Nat) (ht : P.underlying t = some (.slice e)) (hi : P.info? e = some i) (hz : i.zero = some z) (hsize : i.size = 1) (hby : i.bytes = bytes) (hzs : z.cells.size = 1)
    (v y : Value) (l p : List Int) (hs : a.eval s = v) (hx : a.eval x = y) (hr : Reads w y p)
    (hown : w.ownsRow B e 1 v l.length (nums .u8 l)) (h63 : l.length + p.length ≤ maxLen) (hbytes : (l.length + p.length) * bytes ≤ 140737488355328) (hB : B ≤ w.heap.size)
    (h : ∀ v' w', OwnStep .u8 e B v w v' (l ++ p) w' → K (a.put o.dst v') w') :
    if Region.wanted o (yielded ops a.tmps) = true then Oper.wp P o a w K Q else E' := by
  have hw : Region.wanted o (yielded ops a.tmps) = true := by simp [Region.wanted, hgd]
  rw [if_pos hw]
  obtain ⟨v', w', hrun, h2⟩ := run_append_copy (P := P) w t o.type e i z bytes ht hi hz hsize hby hzs B v y l p hr hown h63 hbytes hB
  unfold Oper.wp execOp
  simp only [ho, resolve, invoke, builtin, Sem.run_bind, Sem.run_pure, Result.andThen_ok, List.map_toArray, List.map_cons, List.map_nil, hs, hx, hrun]
  exact h v' w' h2
end
end Go.Proofs.Ytoolimfdncfgnaa
