/- What is encoded is decoded; one form; how long it is (plain). -/
import Derived.Test.YtniigjfimggobaaDoorS6
namespace Go.Proofs.YtniigjfimggobaaDoor
open Go.RowKit
set_option linter.unusedVariables false
set_option linter.unusedSimpArgs false

/-- The numbers of a span fit their kinds. -/
structure Fits (s : Spn) : Prop where
  hi : s.hi < 18446744073709551616
  lo : s.lo < 18446744073709551616
  id : s.id < 18446744073709551616
  par : s.par < 18446744073709551616
  links : ∀ x ∈ s.links, x < 18446744073709551616
  kind : -9223372036854775808 ≤ s.kind ∧ s.kind < 9223372036854775808
  st : -9223372036854775808 ≤ s.st ∧ s.st < 9223372036854775808
  start : -9223372036854775808 ≤ s.start ∧ s.start < 9223372036854775808
  fin : -9223372036854775808 ≤ s.fin ∧ s.fin < 9223372036854775808
  ats : ∀ a ∈ s.ats, (-9223372036854775808 ≤ a.k ∧ a.k < 9223372036854775808) ∧ -9223372036854775808 ≤ a.i ∧ a.i < 9223372036854775808
  evs : ∀ e ∈ s.evs, -9223372036854775808 ≤ e.at_ ∧ e.at_ < 9223372036854775808
variable {L : List Int}
theorem spnP_one (hb : Bytes L) {m : Nat} (h : (spnP L).2 = .ok m) (hc : Fine (spnP L).1) : m ≤ L.length ∧ L.take m = encS (spnP L).1 := by
  obtain ⟨S, hS⟩ : ∃ S, S = (spnP L).1 := ⟨_, rfl⟩
  rw [← hS] at hc ⊢
  simp only [spnP] at h hS
  obtain ⟨n15, e15⟩ := (iter_stays (evt_stays L) _).ok h
  obtain ⟨n14, e14⟩ := (many_stays L 32 47).ok e15
  obtain ⟨n13, e13⟩ := (iter_stays (atr_stays L) _).ok e14
  obtain ⟨n12, e12⟩ := (many_stays L 32 46).ok e13
  obtain ⟨n11, e11⟩ := (num_stays L).ok e12
  obtain ⟨n10, e10⟩ := (num_stays L).ok e11
  obtain ⟨n9, e9⟩ := (num_stays L).ok e10
  obtain ⟨n8, e8⟩ := (num_stays L).ok e9
  obtain ⟨n7, e7⟩ := (txt_stays L 100).ok e8
  obtain ⟨n6, e6⟩ := (txt_stays L 60).ok e7
  obtain ⟨n5, e5⟩ := (iter_stays (eight_stays L) _).ok e6
  obtain ⟨n4, e4⟩ := (many_stays L 16 45).ok e5
  obtain ⟨n3, e3⟩ := (eight_stays L).ok e4
  obtain ⟨n2, e2⟩ := (eight_stays L).ok e3
  obtain ⟨n1, e1⟩ := (eight_stays L).ok e2
  have g1 := (eight_one hb).go (st := .ok 0) (Nat.zero_le _) rfl e1 trivial
  have g2 := (eight_one hb).go g1.2.1 e1 e2 trivial
  have g3 := (eight_one hb).go g2.2.1 e2 e3 trivial
  have g4 := (eight_one hb).go g3.2.1 e3 e4 trivial
  have g5 := (many_one hb 16 45).go g4.2.1 e4 e5 trivial
  have g6 := (iter_one (eight_one hb) (eight_stays L) _).go g5.2.1 e5 e6 (fun _ _ => trivial)
  have g7 := (txt_one hb 60).go g6.2.1 e6 e7 trivial
  have g8 := (txt_one hb 100).go g7.2.1 e7 e8 trivial
  have g9 := (num_one hb).go g8.2.1 e8 e9 trivial
  have g10 := (num_one hb).go g9.2.1 e9 e10 trivial
  have g11 := (num_one hb).go g10.2.1 e10 e11 trivial
  have g12 := (num_one hb).go g11.2.1 e11 e12 trivial
  have g13 := (many_one hb 32 46).go g12.2.1 e12 e13 trivial
  have g14 := (iter_one (atr_one hb) (atr_stays L) _).go g13.2.1 e13 e14 (fun a ha => by
    have := (hc.ats.2 a (by rw [hS]; exact ha)).2
    have := valued_ok this
    omega)
  have g15 := (many_one hb 32 47).go g14.2.1 e14 e15 trivial
  have g16 := (iter_one (evt_one hb) (evt_stays L) _).go g15.2.1 e15 h (fun a ha => (hc.evs.2 a (by rw [hS]; exact ha)).2.1)
  refine ⟨g16.2.1, ?_⟩
  have f1 := iter_len (eightP L) (manyP L 16 45 (eightP L (eightP L (eightP L (eightP L (.ok 0)).2).2).2).2).2 (manyP L 16 45 (eightP L (eightP L (eightP L (eightP L (.ok 0)).2).2).2).2).1
  have lens : L.take m = seg L 0 m := by simp [seg]
  rw [lens, seg_trans L g1.1 (by omega), seg_trans L g2.1 (by omega : n2 ≤ m), seg_trans L g3.1 (by omega : n3 ≤ m), seg_trans L g4.1 (by omega : n4 ≤ m), seg_trans L g5.1 (by omega : n5 ≤ m), seg_trans L g6.1 (by omega : n6 ≤ m),
    seg_trans L g7.1 (by omega : n7 ≤ m), seg_trans L g8.1 (by omega : n8 ≤ m), seg_trans L g9.1 (by omega : n9 ≤ m), seg_trans L g10.1 (by omega : n10 ≤ m), seg_trans L g11.1 (by omega : n11 ≤ m), seg_trans L g12.1 (by omega : n12 ≤ m), seg_trans L g13.1 (by omega : n13 ≤ m), seg_trans L g14.1 (by omega : n14 ≤ m), seg_trans L g15.1 (by omega : n15 ≤ m)]
  rw [g1.2.2, g2.2.2, g3.2.2, g4.2.2, g5.2.2, g6.2.2, g7.2.2, g8.2.2, g9.2.2, g10.2.2, g11.2.2, g12.2.2, g13.2.2, g14.2.2, g15.2.2, g16.2.2]
  have k1 := hc.kind
  have k2 := hc.st
  have k3 := hc.start
  rw [hS] at k1 k2 k3
  simp only at k1 k2 k3
  have small_id : ∀ v : Nat, ((smallN v : Nat) : Int) ≤ 4 → smallN v = v := fun v hv => by unfold smallN at hv ⊢; split at hv <;> split <;> omega
  have mom_id : ∀ v : Nat, ((momentN v : Nat) : Int) ≤ 4611686018427387904 → momentN v = v := fun v hv => by unfold momentN at hv ⊢; split at hv <;> split <;> omega
  have q1 := small_id _ k1.2
  have q2 := small_id _ (Int.le_trans k2.2 (by omega))
  have q3 := mom_id _ (Int.le_trans k3.2.1 k3.2.2)
  have q4 := mom_id _ k3.2.2
  rw [hS]
  simp only [encS, txtB, iter_len, Int.toNat_natCast]
  rw [q1, q2, q3, q4]
theorem txtB_snd {most : Int} {st : DSt} {r : ByteArray × DSt} (h : txtB L most st = r) : (txtP L most st).2 = r.2 := congrArg Prod.snd h
theorem txtB_fst {most : Int} {st : DSt} {r : ByteArray × DSt} (h : txtB L most st = r) : strOfNums (txtP L most st).1 = r.1 := congrArg Prod.fst h
theorem spnP_back {s : Spn} (hf : Fine s) (hr : Fits s) (hL : L = encS s) : spnP L = (s, .ok L.length) := by
  have hsv := plain_size hf.svc
  have hop := plain_size hf.op
  have d0 : L.drop 0 = encS s ++ [] := by rw [List.drop_zero, hL, List.append_nil]
  unfold encS at d0
  simp only [List.append_assoc] at d0
  have h1 := eight_back (L := L) 0 s.hi _ hr.hi d0
  have d1 := drop_next d0
  have h2 := eight_back (L := L) _ s.lo _ hr.lo d1
  have d2 := drop_next d1
  have h3 := eight_back (L := L) _ s.id _ hr.id d2
  have d3 := drop_next d2
  have h4 := eight_back (L := L) _ s.par _ hr.par d3
  have d4 := drop_next d3
  have h5 := many_back (L := L) 16 45 (by decide) _ s.links.length _ hf.links d4
  have d5 := drop_next d4
  have h6 := iter_back (eight_back (L := L)) s.links _ _ hr.links d5
  have d6 := drop_next d5
  have h7 := txt_back (L := L) 60 (by decide) _ s.svc _ ⟨hsv.2.1, hsv.2.2⟩ d6
  have d7 := drop_next d6
  have h8 := txt_back (L := L) 100 (by decide) _ s.op _ ⟨hop.2.1, hop.2.2⟩ d7
  have d8 := drop_next d7
  have h9 := num_back (L := L) _ s.kind.toNat _ (by have := hf.kind; omega) d8
  have d9 := drop_next d8
  have h10 := num_back (L := L) _ s.st.toNat _ (by have := hf.st; omega) d9
  have d10 := drop_next d9
  have h11 := num_back (L := L) _ s.start.toNat _ (by have := hf.start; omega) d10
  have d11 := drop_next d10
  have h12 := num_back (L := L) _ s.fin.toNat _ (by have := hf.start; omega) d11
  have d12 := drop_next d11
  have h13 := many_back (L := L) 32 46 (by decide) _ s.ats.length _ hf.ats.1 d12
  have d13 := drop_next d12
  have h14 := iter_back (atr_back (L := L)) s.ats _ _ (fun a ha => ⟨(hf.ats.2 a ha).1, (hf.ats.2 a ha).2, (hr.ats a ha).2⟩) d13
  have d14 := drop_next d13
  have h15 := many_back (L := L) 32 47 (by decide) _ s.evs.length _ hf.evs.1 d14
  have d15 := drop_next d14
  have h16 := iter_back (evt_back (L := L)) s.evs _ _ hf.evs.2 d15
  have d16 := drop_next d15
  obtain ⟨N, hN⟩ : ∃ N, N = 0 + (raw8 s.hi).length + (raw8 s.lo).length + (raw8 s.id).length + (raw8 s.par).length + (venc s.links.length).length + (s.links.flatMap raw8).length + (txt s.svc).length + (txt s.op).length + (venc s.kind.toNat).length + (venc s.st.toNat).length + (venc s.start.toNat).length + (venc s.fin.toNat).length + (venc s.ats.length).length + (s.ats.flatMap encA).length + (venc s.evs.length).length + (s.evs.flatMap encE).length := ⟨_, rfl⟩
  have hNL : N = L.length := by
    rw [hN, hL]
    simp only [encS, List.length_append]
    omega
  simp only [spnP]
  rw [h1]; simp only
  rw [h2]; simp only
  rw [h3]; simp only
  rw [h4]; simp only
  rw [h5]; simp only
  rw [h6]; simp only
  rw [show (60 : Int) = ((60 : Nat) : Int) from rfl, show (100 : Int) = ((100 : Nat) : Int) from rfl]
  rw [txtB_snd h7, txtB_fst h7]; simp only
  rw [txtB_snd h8, txtB_fst h8]; simp only
  rw [h9]; simp only
  rw [h10]; simp only
  rw [h11]; simp only
  rw [h12]; simp only
  rw [h13]; simp only
  rw [h14]; simp only
  rw [h15]; simp only
  rw [h16]; simp only
  rw [← hN, hNL]
  have k1 := hf.kind
  have k2 := hf.st
  have k3 := hf.start
  have e1 : ((smallN s.kind.toNat : Nat) : Int) = s.kind := by unfold smallN; rw [if_neg (by omega)]; omega
  have e2 : ((smallN s.st.toNat : Nat) : Int) = s.st := by unfold smallN; rw [if_neg (by omega)]; omega
  have e3 : ((momentN s.start.toNat : Nat) : Int) = s.start := by unfold momentN; rw [if_neg (by omega)]; omega
  have e4 : ((momentN s.fin.toNat : Nat) : Int) = s.fin := by unfold momentN; rw [if_neg (by omega)]; omega
  rw [e1, e2, e3, e4]
/-- What is encoded is decoded. -/
theorem dec_back {s : Spn} (h : checkS s = 0) (hr : Fits s) : decS (encS s) = .ok s := by
  unfold decS
  rw [spnP_back (fine_of h) hr rfl]
  simp only
  rw [if_neg (by omega), if_pos h]
/-- Of any bytes: what is decoded may be, and has just these bytes. -/
theorem dec_one (hb : Bytes L) {s : Spn} (h : decS L = .ok s) : checkS s = 0 ∧ encS s = L := by
  unfold decS at h
  split at h
  · cases h
  · rename_i n hn
    split at h
    · cases h
    · split at h
      · rename_i h0
        injection h with h
        subst h
        refine ⟨h0, ?_⟩
        obtain ⟨g1, g2⟩ := spnP_one hb hn (fine_of h0)
        rw [← g2, List.take_of_length_le (by omega)]
      · cases h
end Go.Proofs.YtniigjfimggobaaDoor
