/- The contract of polish.Split over a term. -/
import Derived.Test.YtjjamfbjapbkgaaDoorSame
import Derived.Test.YtjjamfbjapbkgaaDoorPolishOne
namespace Go.Proofs.YtjjamfbjapbkgaaDoor
open Go.RowKit

def Tm.kids : Tm → List Tm
  | .n0 _ _ => []
  | .n1 _ _ a => [a]
  | .n2 _ _ a b => [a, b]

/-- Where a term's j-th part begins. -/
def kidAt (ks : List Tm) (j : Nat) : Nat := 1 + ((ks.take j).map Tm.size).sum

theorem Tryd.slOpsL : SlTy Tryd.prog 34 23 (.slice none 0 0) 1 24 := SlTy.mk' Tryd.underlying34 (by kernel_rfl) (by rfl) (by omega)

theorem kid_facts (t : Tm) (j : Nat) (hj : j < t.kids.length) :
    kidAt t.kids j < t.size ∧ kidAt t.kids (j + 1) = kidAt t.kids j + t.kids[j].size ∧ kidAt t.kids (j + 1) ≤ t.size ∧ endAt (t.ends 0) (kidAt t.kids j) = (kidAt t.kids (j + 1) : Nat) ∧ (t.flat.drop (kidAt t.kids j)).take t.kids[j].size = t.kids[j].flat := by
  cases t with
  | n0 => simp [Tm.kids] at hj
  | n1 k v a =>
    have : j = 0 := by simp [Tm.kids] at hj; omega
    subst this
    have hp := a.size_pos
    have hL := (Lies.self (Tm.n1 k v a)).one.head
    refine ⟨?_, ?_, ?_, ?_, ?_⟩
    · simp [kidAt, Tm.kids, Tm.size]; omega
    · simp [kidAt, Tm.kids]
    · simp [kidAt, Tm.kids, Tm.size]; omega
    · have := hL.2
      simpa [kidAt, Tm.kids] using this
    · simp [kidAt, Tm.kids, Tm.flat, ← Tm.flat_len]
  | n2 k v a b =>
    have hj2 : j = 0 ∨ j = 1 := by simp [Tm.kids] at hj; omega
    have hp := a.size_pos
    have hp2 := b.size_pos
    have hL := (Lies.self (Tm.n2 k v a b)).two
    rcases hj2 with rfl | rfl
    · refine ⟨?_, ?_, ?_, ?_, ?_⟩
      · simp [kidAt, Tm.kids, Tm.size]; omega
      · simp [kidAt, Tm.kids]
      · simp [kidAt, Tm.kids, Tm.size]; omega
      · have := hL.1.head.2
        simpa [kidAt, Tm.kids] using this
      · simp [kidAt, Tm.kids, Tm.flat, ← Tm.flat_len]
    · refine ⟨?_, ?_, ?_, ?_, ?_⟩
      · simp [kidAt, Tm.kids, Tm.size]; omega
      · simp [kidAt, Tm.kids]; omega
      · simp [kidAt, Tm.kids, Tm.size]; omega
      · have := hL.2.head.2
        simpa [kidAt, Tm.kids, Nat.add_assoc] using this
      · have e : (1 + a.size) = ((k, v) :: a.flat).length := by simp [Tm.flat_len]; omega
        simp [kidAt, Tm.kids, Tm.flat]
        rw [e, show (k, v) :: (a.flat ++ b.flat) = ((k, v) :: a.flat) ++ b.flat from rfl, List.drop_left, ← Tm.flat_len, List.take_length]

theorem kid_last (t : Tm) : kidAt t.kids t.kids.length = t.size := by
  cases t <;> simp [kidAt, Tm.kids, Tm.size] <;> omega

theorem opc_drop (l : List Op2) : ∀ c, (l.drop c).flatMap opc = (l.flatMap opc).drop (c * 2) := by
  induction l with
  | nil => intro c; simp
  | cons o l ih =>
    intro c
    cases c with
    | zero => simp
    | succ c =>
      have e : (c + 1) * 2 = (opc o).length + c * 2 := by simp [opc]; omega
      rw [List.drop_succ_cons, List.flatMap_cons, ih, e, List.drop_length_add_append]

/-- The parts that are split off so far. -/
def KidsO (w : World) (B : Nat) (out : Value) (vs : List Value) (ks : List Tm) : Prop :=
  ∀ (i : Nat) (x : Value) (t : Tm), vs[i]? = some x → ks[i]? = some t → w.ownsRow B 32 2 x t.flat.length (t.flat.flatMap opc) ∧ (x.ownBlock = none ∨ x.ownBlock ≠ out.ownBlock)

theorem own_lt {w : World} {B : Nat} {e : TypeId} {sz : Nat} {v : Value} {n : Nat} {xs : List Value} (h : w.ownsRow B e sz v n xs) : ∀ g, v.ownBlock = some g → g < w.heap.size := fun g hg => (h.lt g hg).2

theorem kids_step {wr wx wo : World} {B j : Nat} {u vx vo : Value} {vs : List Value} {ks : List Tm} {kt : Tm} {o : Obj} {T : TypeId} (hk : KidsO wr B u vs ks) (hown : wr.ownsRow B T 1 u j vs) (hgx : wr.grownBy wx none)
    (hox : wx.ownsRow B 32 2 vx kt.flat.length (kt.flat.flatMap opc)) (hbx : vx.ownBlock = none ∨ vx.ownBlock = some wr.heap.size)
    (hgo : (wx.alloc o).grownBy wo u.ownBlock) (hbo : vo.ownBlock = u.ownBlock ∨ vo.ownBlock = some (wx.heap.size + 1)) (hvl : vs.length = j) (hkt : ks[j]? = some kt) : KidsO wo B vo (vs ++ [vx]) ks := by
  have hsz := hgx.size
  have one : ∀ x : Value, ∀ t : Tm, wx.ownsRow B 32 2 x t.flat.length (t.flat.flatMap opc) → (x.ownBlock = none ∨ x.ownBlock ≠ u.ownBlock) → wo.ownsRow B 32 2 x t.flat.length (t.flat.flatMap opc) ∧ (x.ownBlock = none ∨ x.ownBlock ≠ vo.ownBlock) := by
    intro x t hx hn
    refine ⟨own_grown (hx.alloc _) hgo hn, ?_⟩
    rcases hn with hn | hn
    · exact .inl hn
    · rcases hbo with hb | hb
      · exact .inr (by rw [hb]; exact hn)
      · refine .inr fun e => ?_
        rw [hb] at e
        have := own_lt hx _ e
        omega
  intro i x t hx ht
  by_cases hi : i < vs.length
  · rw [List.getElem?_append_left hi] at hx
    obtain ⟨h1, h2⟩ := hk i x t hx ht
    exact one x t (own_grown h1 hgx (by rcases h : x.ownBlock with _ | g'; exact .inl rfl; exact .inr (by simp))) h2
  · rw [List.getElem?_append_right (by omega)] at hx
    have : i = vs.length := by
      rcases Nat.lt_or_ge vs.length i with h | h
      · rw [List.getElem?_eq_none (by simp; omega)] at hx; cases hx
      · omega
    subst this
    simp only [Nat.sub_self, List.getElem?_cons_zero, Option.some.injEq] at hx
    subst hx
    rw [hvl, hkt] at ht
    injection ht with ht
    subst ht
    refine one _ _ hox ?_
    rcases hbx with hb | hb
    · exact .inl hb
    · refine .inr fun e => ?_
      rw [hb] at e
      have := own_lt hown _ e.symm
      omega

theorem kids_all {w : World} {B : Nat} {T : TypeId} {v : Value} {vs : List Value} {ks : List Tm} (hk : KidsO w B v vs ks) (hvl : vs.length = ks.length) (hown : w.ownsRow B T 1 v ks.length vs) : OpsL w v (ks.map Tm.flat) := by
  refine ⟨vs, by simpa using hvl, ?_, ?_⟩
  · obtain ⟨a, c, rfl, hr⟩ := hown.row
    exact ⟨a, c, by simp, by simpa using hr⟩
  · intro i x l hx hl
    rw [List.getElem?_map] at hl
    cases hks : ks[i]? with
    | none => rw [hks] at hl; cases hl
    | some t =>
      rw [hks] at hl
      simp at hl
      subst hl
      exact ops_own (hk i x t hx hks).1

set_option maxRecDepth 100000 in
set_option maxHeartbeats 2000000 in
theorem split_t (v : Value) (t : Tm) (w : World) (h : IsT w v t) (ht : Tab w) (hok : t.ok) (hs : t.size ≤ 60) :
    Calls Tryd.prog 17 #[v] w fun e w' => ∃ v', e = .returned (.tuple #[v', .int .i64 0]) ∧ OpsL w' v' (t.kids.map Tm.flat) ∧ Ext w w' := by
  have hen := ends_term t hok hs
  have H := ends_any v t.flat w h ht
  rw [hen] at H
  have hel := Tm.ends_len t 0
  have hfl := Tm.flat_len t
  have hpos := t.size_pos
  have hkl := kid_last t
  have hkf := kid_facts t
  have hk2 : t.kids.length ≤ 2 := by cases t <;> simp [Tm.kids]
  obtain ⟨a, cap, rfl, hr⟩ := h
  obtain ⟨b, off, _, ha, _⟩ := hr.lie
  obtain rfl := ha (by rw [opc_len]; omega)
  have hcap := hr.le
  have hcap2 := hr.max
  rw [hfl] at *
  have hke : ∀ j (hj : j < t.kids.length), endAt (t.ends 0) (kidAt t.kids j) = (kidAt t.kids (j + 1) : Nat) := fun j hj => (hkf j hj).2.2.2.1
  generalize t.ends 0 = es at *
  generalize hks : t.kids = ks at *
  generalize t.size = n at *
  generalize t.flat = l at *
  have HH := Lib.hid H
  have HL := Lib.hid hel
  have HF := Lib.hid hkf
  have HKL := Lib.hid hkl
  have HR := Lib.hid hr
  have HFL := Lib.hid hfl
  have HKE := Lib.hid hke
  clear H hen hok hr hel hkf ha hke hkl hfl hks ht
  go_enter Tryd.func17, Tryd.ntmps17
  go_wp2_with fail
  refine HH.out.mono ?_
  rintro e w1 ⟨hE1, v1, rfl, hown⟩
  obtain ⟨a1, c1, rfl, hr1⟩ := hown.row
  rcases hown.2 with ⟨_, hz0⟩ | ⟨g, cg, cur, hv, hgb, hg, hnc, hcm, hcs, htake⟩
  · have := HL.out; omega
  cases hv
  have hec : ∀ k (hk : k < es.length), w1.cell? ⟨g, k, none⟩ = some (.int .i64 es[k]) := by
    intro k hk
    have := hr1.cells k (.int .i64 es[k]) (by simp [hk])
    simpa using this
  have HEC := Lib.hid hec
  have HE1 := Lib.hid hE1
  have hw1 := hE1.size
  clear hown hr1 hg htake hcs hec hE1 HH hgb
  go_wp2_with fail
  go_loopw [6, 7] (fun o p wr => ∃ j : Nat, j ≤ ks.length ∧ p = .int .i64 (kidAt ks j : Nat) ∧ ∃ vs : List Value, vs.length = j ∧ wr.ownsRow w1.heap.size 23 1 o j vs ∧ Hid (KidsO wr w1.heap.size o vs ks) ∧ Ext w1 wr) (fun _ p _ => n - (intOf p).toNat)
  case atStart => exact ⟨0, by omega, rfl, [], rfl, World.ownsRow_nil _ _ _ _, (by intro i x t hx; simp at hx), Ext.refl _⟩
  case round =>
    obtain ⟨j, hj, rfl, vs, hvl, hown, hkids, hext⟩ := hrel
    by_cases hlt : j < ks.length
    · obtain ⟨k1, k2, k3, k4, k5⟩ := HF.out j hlt
      have HK5 := Lib.hid k5
      have HVL := Lib.hid hvl
      have hpe : kidAt ks j < es.length := by have := HL.out; omega
      have hce := cell_later hext (HEC.out _ hpe)
      have hee : es[kidAt ks j] = ((kidAt ks (j + 1) : Nat) : Int) := by rw [← endAt_get hpe]; exact k4
      rw [hee] at hce
      have hce0 := HEC.out _ hpe
      rw [hee] at hce0
      have HCE0 := Lib.hid hce0
      clear hce0
      have hpz := ks[j].size_pos
      have hkt : ks[j]? = some ks[j] := List.getElem?_eq_getElem hlt
      have HKT := Lib.hid hkt
      clear k4 k5 hvl hee hkt
      generalize ks[j] = kt at *
      generalize hx1 : kidAt ks j = x at *
      have HX1 := Lib.hid hx1
      clear hx1
      generalize hx2 : kidAt ks (j + 1) = y at *
      have HX2 := Lib.hid hx2
      clear hx2
      have hsub : Row wr 2 (some ⟨b, off + x * 2, none⟩) kt.size (cap - x) (kt.flat.flatMap opc) := by
        have := ((HR.out.ext (HE1.out.trans hext)).drop x (by omega)).take kt.size (by omega)
        rw [← HK5.out, opc_take, opc_drop]
        exact this
      have hone := Lib.hid (opc_one kt.flat)
      have hwr := hext.size
      have hfl := Lib.hid kt.flat_len
      have hsz60 : kt.size ≤ 60 := by omega
      have hxy : x ≤ y := by omega
      have K2 := Lib.hid k2
      have hyx : kt.size = y - x := by omega
      rw [hyx] at hsub
      have HYX := Lib.hid hyx
      clear k2 hyx
      go_wp2_with (at_builtin; go_must (refine wpl_append rfl rfl Tryd.slOps w1.heap.size rfl (World.ownsRow_nil _ _ _ _) rfl hsub hone.out (by unfold maxLen; omega) (by omega) hwr ?_))
      intro vx wx hox hgx hbx _
      have hox' : wx.ownsRow w1.heap.size 32 2 vx kt.flat.length (kt.flat.flatMap opc) := by
        rw [hfl.out, HYX.out]
        simpa using hox
      have hsx := hgx.size
      have hox1 := hox'.row
      obtain ⟨ax, cx, rfl, _⟩ := hox1
      have ho2 : (wx.alloc (.cells #[.slice ax kt.flat.length cx] 23)).ownsRow w1.heap.size 23 1 u6 j vs := (own_grown hown hgx (by rcases h : u6.ownBlock with _ | g'; exact .inl rfl; exact .inr (by simp [Value.ownBlock]))).alloc _
      have hsz2 : w1.heap.size ≤ (wx.alloc (.cells #[.slice ax kt.flat.length cx] 23)).heap.size := by rw [World.size_alloc]; omega
      have HK := Lib.hid hgx
      have HOX := Lib.hid hox'
      have HBX := Lib.hid hbx
      have hrow1 : Row (wx.alloc (.cells #[.slice ax kt.flat.length cx] 23)) 1 (some ⟨wx.heap.size, 0, none⟩) 1 1 [.slice ax kt.flat.length cx] := Row.one _ _ _
      clear hox' hbx hgx hox hsub
      go_wp2_with (at_builtin; go_must (refine wpl_append rfl rfl Tryd.slOpsL w1.heap.size rfl ho2 rfl hrow1 (by simp [Value.oneCell']) (by unfold maxLen; omega) (by omega) hsz2 ?_))
      intro vo wo hoo hgo hbo _
      have hks := kids_step hkids.out hown HK.out HOX.out HBX.out hgo hbo HVL.out HKT.out
      have HKS := Lib.hid hks
      have HE2 : Ext w1 wo := ((hext.grown HK.out hwr (by simp [Value.ownBlock])).alloc (by omega) _).grown hgo hsz2 (fun g hg => (hown.lt g hg).1)
      have hcl := cell_later HE2 HCE0.out
      clear hks hgo hbo ho2 hown hkids hext hce
      go_wp2_with fail
      go_roundw
      case rel => exact ⟨j + 1, by omega, by rw [HX2.out], vs ++ [.slice ax kt.flat.length cx], by rw [List.length_append, HVL.out]; rfl, hoo, HKS, HE2⟩
      case measure => have := K2.out; simp [intOf]; omega
    · obtain rfl : j = ks.length := by omega
      have hkl := HKL.out
      rw [hkl] at *
      have hfin := kids_all hkids.out hvl hown
      have HFIN := Lib.hid hfin
      have HEX := Lib.hid (HE1.out.trans hext)
      clear hfin hkids hown
      go_wp2_with fail
      go_ret2
      exact ⟨_, rfl, HFIN.out, HEX.out⟩

end Go.Proofs.YtjjamfbjapbkgaaDoor
