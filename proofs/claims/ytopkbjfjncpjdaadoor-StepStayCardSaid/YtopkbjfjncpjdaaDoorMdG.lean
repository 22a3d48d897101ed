/- MdG: what is needed of it. No condition. -/
import Derived.Test.YtopkbjfjncpjdaaDoorMdP
import Derived.Test.YtopkbjfjncpjdaaDoorFitC
import Derived.Test.YtopkbjfjncpjdaaDoorPick
namespace Go.Proofs.YtopkbjfjncpjdaaDoor
structure Pl where
  guard : List Op2
  var : Int
  value : List Op2
  both : Bool
structure Dn where
  s0 : Int
  s1 : Int
  l0 : Int
  l1 : Int
  i0 : Int
  i1 : Int
  rules : List Pl
abbrev nmX : ByteArray := ⟨#[120]⟩
abbrev nmY : ByteArray := ⟨#[121, 50]⟩
def dVar (nm : ByteArray) (s l i : Int) : Vr := ⟨nm, pk l 3 - 1, pk l 3 - 1 + pk s 4, pk l 3 - 1 + pk i (pk s 4 + 1)⟩
def dSets (p : Pl) : List (Int × Tm) := (pk p.var 2, numO p.value 2) :: (if p.both then [(1 - pk p.var 2, .n0 2 (pk p.var 2))] else [])
def dRule (p : Pl) : Rl := ⟨truO p.guard 2, dSets p⟩
def Dn.vars (d : Dn) : List Vr := [dVar nmX d.s0 d.l0 d.i0, dVar nmY d.s1 d.l1 d.i1]
def Dn.md (d : Dn) : Md := ⟨d.vars, (d.rules.take 5).map dRule⟩
theorem nmX_list : nmX.toList = [120] := by rw [ByteArray.toList_eq]
theorem nmY_list : nmY.toList = [121, 50] := by rw [ByteArray.toList_eq]
theorem nmX_ok : NameOk nmX := by
  refine ⟨by decide, by decide, by rw [nmX_list]; decide, by rw [nmX_list]; decide, ?_⟩
  intro i h
  have : i = 0 := by have : nmX.size = 1 := rfl; omega
  subst this
  exact .inl (show 97 ≤ (120 : UInt8).toNat ∧ (120 : UInt8).toNat ≤ 122 by decide)
theorem nmY_ok : NameOk nmY := by
  refine ⟨by decide, by decide, by rw [nmY_list]; decide, by rw [nmY_list]; decide, ?_⟩
  intro i h
  have h2 : nmY.size = 2 := rfl
  have : i = 0 ∨ i = 1 := by omega
  rcases this with rfl | rfl
  · exact .inl (show 97 ≤ (121 : UInt8).toNat ∧ (121 : UInt8).toNat ≤ 122 by decide)
  · exact .inr (show 48 ≤ (50 : UInt8).toNat ∧ (50 : UInt8).toNat ≤ 57 ∧ 1 ≠ 0 by decide)
theorem dVar_ok {nm : ByteArray} (h : NameOk nm) (s l i : Int) : (dVar nm s l i).Ok ∧ 1 ≤ (dVar nm s l i).span ∧ (dVar nm s l i).span ≤ 4 := by
  have h1 := pk_bd l 3 (by omega)
  have h2 := pk_bd s 4 (by omega)
  have h3 := pk_bd i (pk s 4 + 1) (by omega)
  refine ⟨⟨h, ?_, ?_, ?_, ?_, ?_⟩, ?_, ?_⟩ <;> simp only [dVar, Vr.span] <;> omega
theorem fit_sub {t : Tm} {vars : Int} {n : Nat} {b : Bool} (h : Fit t vars n b) : Sub t vars := ⟨h.ok, h.good, h.typed⟩
theorem leaf_var_sub (v : Int) (h0 : 0 ≤ v) (h1 : v < 2) : Sub (.n0 2 v) 2 := by
  refine ⟨?_, ?_, rfl⟩
  · simp only [Tm.ok]
    exact ⟨by omega, by omega, by decide⟩
  · intro o ho
    simp only [Tm.flat, List.mem_singleton] at ho
    subst ho
    have : v = 0 ∨ v = 1 := by omega
    rcases this with rfl | rfl <;> decide
theorem dSets_pre (p : Pl) : ∀ s ∈ dSets p, 0 ≤ s.1 ∧ s.1 < 2 ∧ Sub s.2 2 ∧ s.2.size ≤ 60 ∧ mkK s.2.kind = false := by
  have hv := pk_bd p.var 2 (by omega)
  have hn := fit_num p.value 2 (by omega)
  intro s hs
  unfold dSets at hs
  rcases List.mem_cons.1 hs with rfl | hs
  · have hz := hn.size
    exact ⟨hv.1, hv.2, fit_sub hn, by show (numO p.value 2).size ≤ 60; omega, hn.kind⟩
  · split at hs
    · simp only [List.mem_singleton] at hs
      subst hs
      exact ⟨by show 0 ≤ 1 - pk p.var 2; omega, by show 1 - pk p.var 2 < 2; omega, leaf_var_sub _ hv.1 hv.2, by simp [Tm.size], (show mkK 2 = false by decide)⟩
    · simp at hs
theorem dSets_nodup (p : Pl) : ((dSets p).map (·.1)).Nodup := by
  unfold dSets
  split
  · simp; omega
  · simp
theorem dSets_len (p : Pl) : (dSets p).length ≤ 2 := by
  unfold dSets; split <;> simp
theorem dRule_pre (p : Pl) : RlPre 2 (dRule p) := by
  have hg := fit_tru p.guard 2 (by omega)
  have hz := hg.size
  have hl := dSets_len p
  exact ⟨by show (dSets p).length ≤ 6; omega, fit_sub hg, by show (truO p.guard 2).size ≤ 60; omega, dSets_pre p⟩
theorem Dn.span (d : Dn) : 1 ≤ countL d.vars ∧ countL d.vars ≤ 16 := by
  have h1 := (dVar_ok nmX_ok d.s0 d.l0 d.i0).2
  have h2 := (dVar_ok nmY_ok d.s1 d.l1 d.i1).2
  unfold Dn.vars
  simp only [countL, Int.mul_one]
  generalize (dVar nmX d.s0 d.l0 d.i0).span = a at *
  generalize (dVar nmY d.s1 d.l1 d.i1).span = b at *
  have q1 := Int.mul_le_mul h1.1 h2.1 (by omega) (by omega)
  have q2 := Int.mul_le_mul h1.2 h2.2 (by omega) (by omega)
  omega
theorem Dn.vars_ok (d : Dn) : ∀ v ∈ d.vars, v.Ok := by
  intro v hv
  unfold Dn.vars at hv
  simp only [List.mem_cons, List.not_mem_nil, or_false] at hv
  rcases hv with rfl | rfl
  · exact (dVar_ok nmX_ok _ _ _).1
  · exact (dVar_ok nmY_ok _ _ _).1
theorem names_xy : ([nmX, nmY] : List ByteArray).Nodup := by decide
theorem Dn.ok (d : Dn) : d.md.Ok where
  six := by show 2 ≤ 6; omega
  vars := d.vars_ok
  count := by have := d.span; show countL d.vars ≤ 4096; omega
  twelve := by
    show ((d.rules.take 5).map dRule).length ≤ 12
    rw [List.length_map, List.length_take]; omega
  rules := by
    intro r hr
    show RlPre 2 r
    obtain ⟨p, _, rfl⟩ := List.mem_map.1 hr
    exact dRule_pre p
  names := names_xy
  kinds := by
    intro r hr
    obtain ⟨p, _, rfl⟩ := List.mem_map.1 hr
    exact ⟨(fit_tru p.guard 2 (by omega)).kind, dSets_nodup p⟩
theorem Dn.rules_len (d : Dn) : d.md.rules.length ≤ 5 := by
  show ((d.rules.take 5).map dRule).length ≤ 5
  rw [List.length_map, List.length_take]; omega
end Go.Proofs.YtopkbjfjncpjdaaDoor
