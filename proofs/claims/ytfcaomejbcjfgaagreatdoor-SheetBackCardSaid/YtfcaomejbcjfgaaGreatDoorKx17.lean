/- Several texts in one: ShC; ShT; ShO; ShU; ShQ; ShRp; ShX; ShW; ShSa. No condition. -/
import Derived.Test.YtfcaomejbcjfgaaGreatDoorKx14
import Derived.Test.YtfcaomejbcjfgaaGreatDoorKx15
import Derived.Test.YtfcaomejbcjfgaaGreatDoorKx12
import Derived.Test.YtfcaomejbcjfgaaGreatDoorKx11
import Derived.Deep.LoopGhost
import Derived.Deep.MidRow
import Derived.Laws.Rows
import Derived.Test.YtfcaomejbcjfgaaGreatDoorKx8
import Derived.Test.YtfcaomejbcjfgaaGreatDoorKx1
import Derived.Lib.SplitLaws
import Derived.Deep.Cut
namespace Go.Proofs.YtfcaomejbcjfgaaGreatDoor
open Go Go.RowKit
theorem loopL_err {rec : Nat → List Int → (Except Int Nat) × List Int} (hr : ∀ a es, (rec a es).1 ≠ .error 0) : ∀ n a es, (loopL rec n a es).1 ≠ .error 0
  | 0, a, es => by simp [loopL]
  | n + 1, a, es => by
    unfold loopL
    have h := hr a es
    split
    · exact loopL_err hr n _ _
    · exact h
theorem skipL_err (l : List Op2) : ∀ f a es, (skipL l f a es).1 ≠ .error 0
  | 0, a, es => by simp [skipL]
  | f + 1, a, es => by
    unfold skipL
    split
    · split
      · have h := loopL_err (skipL_err l f) (partsOf l[a].1) (a + 1) es
        generalize loopL (skipL l f) (partsOf l[a].1) (a + 1) es = r at *
        obtain ⟨r, es'⟩ := r
        cases r with
        | ok x => simp [closeL]
        | error c => simpa [closeL] using h
      · simp
    · simp
theorem endsL_err (l : List Op2) {c : Int} (h : endsL l = .error c) : c ≠ 0 := by
  unfold endsL at h
  split at h
  · injection h with h; omega
  · have hs := skipL_err l (l.length + 1) 0 (List.replicate l.length 0)
    generalize skipL l (l.length + 1) 0 (List.replicate l.length 0) = r at *
    obtain ⟨r, es'⟩ := r
    cases r with
    | ok x =>
      simp only at h
      split at h
      · cases h
      · injection h with h; omega
    | error d =>
      simp only at h hs
      injection h with h
      subst h
      intro e; subst e; exact hs rfl
theorem checkE_err {l : List Op2} {es : List Int} {n c : Int} (h : checkE l es n = .error c) : c ≠ 0 := by
  unfold checkE at h
  split at h
  · rename_i o ho
    have := List.find?_some ho
    injection h with h
    subst h
    simpa using this
  · split at h
    · cases h
    · injection h with h; omega
theorem checkL_err {l : List Op2} {n c : Int} (h : checkL l n = .error c) : c ≠ 0 := by
  unfold checkL at h
  split at h
  · injection h with h; omega
  · split at h
    · rename_i e he
      injection h with h
      subst h
      exact endsL_err l he
    · exact checkE_err h
structure VarsG (l : List Vr) : Prop where
  six : l.length ≤ 6
  ok : ∀ v ∈ l, v.Ok
  nodup : (l.map (·.name)).Nodup
  count : countL l ≤ 4096
def KindG (l : List Op2) (n : Int) (b : Bool) : Prop := checkL l n = .ok b
structure RuleG (n : Int) (r : Rr) : Prop where
  six : r.sets.length ≤ 6
  guard : KindG r.guard n true
  sets : ∀ s ∈ r.sets, 0 ≤ s.1 ∧ s.1 < n ∧ KindG s.2 n false
  nodup : (r.sets.map (·.1)).Nodup
structure FormG (p : Int) (l : List Op2) : Prop where
  p0 : 0 ≤ p
  p6 : p ≤ 6
  ends : ∃ es, endsL l = .ok es
  fit : ∀ o ∈ l, FitOp p o
  cnt : cntA l ≤ 6
structure ModG (vs : List Vr) (rs : List Rr) : Prop where
  vars : VarsG vs
  twelve : rs.length ≤ 12
  rules : ∀ r ∈ rs, RuleG vs.length r
structure PropsG (vs : List Vr) (rs : List Rr) (ps : List (List Op2)) : Prop where
  md : ModG vs rs
  six : ps.length ≤ 6
  each : ∀ p ∈ ps, KindG p vs.length true
structure TaskG (t : Rt) : Prop where
  pr : PropsG t.vars t.rules t.props
  fo : FormG t.props.length t.form
theorem endsL_len {l : List Op2} {es : List Int} (h : endsL l = .ok es) : 0 < l.length ∧ l.length ≤ 60 := by
  obtain ⟨t, h1, h2, h3, _⟩ := ends_parse l es h
  rw [← h2, Tm.flat_len]
  exact ⟨t.size_pos, h3⟩
theorem KindG.len {l : List Op2} {n : Int} {b : Bool} (h : KindG l n b) : 0 < l.length ∧ l.length ≤ 60 := by
  unfold KindG checkL at h
  split at h
  · cases h
  · split at h
    · cases h
    · rename_i es he; exact endsL_len he
theorem okK_range {k : Int} (h : okK k = true) : 0 ≤ k ∧ k ≤ 18 := by
  unfold okK at h
  simp at h
  omega
theorem opE_zero {o : Op2} {n : Int} (h : opE o n = 0) : okK o.1 = true ∧ (o.1 = 1 → -1000 ≤ o.2 ∧ o.2 ≤ 1000) ∧ (o.1 = 2 → 0 ≤ o.2 ∧ o.2 < n) ∧ (o.1 ≠ 1 → o.1 ≠ 2 → o.2 = 0) := by
  unfold opE at h
  by_cases hk : okK o.1 = false
  · rw [if_pos hk] at h; cases h
  · rw [if_neg hk] at h
    refine ⟨by simpa using hk, ?_⟩
    by_cases hb : o.2 < (if o.1 = 1 then -1000 else 0) ∨ (if o.1 = 1 then 1000 else if o.1 = 2 then n - 1 else 0) < o.2
    · rw [if_pos hb] at h; cases h
    · clear h
      by_cases e1 : o.1 = 1
      · rw [if_pos e1, if_pos e1] at hb; exact ⟨fun _ => by omega, fun _ => by omega, fun _ => by omega⟩
      · by_cases e2 : o.1 = 2
        · rw [if_neg e1, if_neg e1, if_pos e2] at hb; exact ⟨fun _ => by omega, fun _ => by omega, fun _ _ => by omega⟩
        · rw [if_neg e1, if_neg e1, if_neg e2] at hb; exact ⟨fun _ => by omega, fun _ => by omega, fun _ _ => by omega⟩
theorem KindG.fit {l : List Op2} {n : Nat} {b : Bool} (h : KindG l n b) : ∀ o ∈ l, OpFit n o := by
  intro o ho
  unfold KindG checkL at h
  split at h
  · cases h
  · rename_i hn
    split at h
    · cases h
    · unfold checkE at h
      split at h
      · cases h
      · rename_i hf
        have := List.find?_eq_none.1 hf o ho
        have h0 : opE o n = 0 := by simpa using this
        obtain ⟨q1, q2, q3, q4⟩ := opE_zero h0
        have hk2 := okK_range q1
        exact ⟨hk2.1, hk2.2, by unfold I64; by_cases e1 : o.1 = 1 <;> by_cases e2 : o.1 = 2 <;> simp_all <;> omega, by omega⟩
theorem FormG.opfit {p : Int} {l : List Op2} (h : FormG p l) (n : Nat) : ∀ o ∈ l, OpFit n o := by
  intro o ho
  obtain ⟨h1, h2, h3, h4⟩ := h.fit o ho
  have := h.p6
  exact ⟨by omega, by omega, by
    by_cases e : o.1 = 13
    · have := h3 e; unfold I64; omega
    · have := h4 e; unfold I64; omega, by omega⟩
theorem VarsG.fit {l : List Vr} (h : VarsG l) : ∀ v ∈ l, VrFit v := by
  intro v hv
  have := h.ok v hv
  have h1 := this.low; have h2 := this.high; have h3 := this.i0; have h4 := this.i1
  exact ⟨this.name.le, by unfold I64; omega, by unfold I64; omega, by unfold I64; omega⟩
def SetR : World → Int × List Op2 → List Value → Prop := fun w s cs => ∃ v, cs = [.int .i64 s.1, v] ∧ Ops w v s.2
def IsSetR (w : World) (v : Value) (l : List (Int × List Op2)) : Prop := EachL 2 SetR w v l
theorem SetR.ext {w w' : World} {s : Int × List Op2} {cs : List Value} (h : SetR w s cs) (hb : Ext w w') : SetR w' s cs := by
  obtain ⟨v, h1, h2⟩ := h
  exact ⟨v, h1, h2.ext hb⟩
theorem IsSetR.ext {w w' : World} {v : Value} {l : List (Int × List Op2)} (h : IsSetR w v l) (hb : Ext w w') : IsSetR w' v l := EachL.ext (E := SetR) (w := w) (w' := w') (fun _ _ h => h.ext hb) h hb
def RulR : World → Rr → List Value → Prop := fun w r cs => ∃ g s, cs = [g, s] ∧ Ops w g r.guard ∧ IsSetR w s r.sets
theorem RulR.ext {w w' : World} {r : Rr} {cs : List Value} (h : RulR w r cs) (hb : Ext w w') : RulR w' r cs := by
  obtain ⟨g, s, h1, h2, h3⟩ := h
  exact ⟨g, s, h1, h2.ext hb, h3.ext hb⟩
def IsRulR (w : World) (v : Value) (l : List Rr) : Prop := EachL 2 RulR w v l
theorem IsRulR.ext {w w' : World} {v : Value} {l : List Rr} (h : IsRulR w v l) (hb : Ext w w') : IsRulR w' v l := EachL.ext (E := RulR) (w := w) (w' := w') (fun _ _ h => h.ext hb) h hb
def OpsR : World → List Op2 → List Value → Prop := fun w t cs => ∃ v, cs = [v] ∧ Ops w v t
theorem OpsR.ext {w w' : World} {t : List Op2} {cs : List Value} (h : OpsR w t cs) (hb : Ext w w') : OpsR w' t cs := by
  obtain ⟨v, h1, h2⟩ := h
  exact ⟨v, h1, h2.ext hb⟩
def IsOpsR (w : World) (v : Value) (l : List (List Op2)) : Prop := EachL 1 OpsR w v l
theorem IsOpsR.ext {w w' : World} {v : Value} {l : List (List Op2)} (h : IsOpsR w v l) (hb : Ext w w') : IsOpsR w' v l := EachL.ext (E := OpsR) (w := w) (w' := w') (fun _ _ h => h.ext hb) h hb
structure IsRt (w : World) (vv rv pv fv : Value) (t : Rt) : Prop where
  vars : IsVars w vv t.vars
  rules : IsRulR w rv t.rules
  props : IsOpsR w pv t.props
  form : Ops w fv t.form
theorem IsRt.ext {w w' : World} {vv rv pv fv : Value} {t : Rt} (h : IsRt w vv rv pv fv t) (hE : Ext w w') : IsRt w' vv rv pv fv t := ⟨h.vars.ext hE, h.rules.ext hE, h.props.ext hE, h.form.ext hE⟩
theorem Ops.val {w : World} {v : Value} {l : List Op2} (h : Ops w v l) : ∃ a c, v = .slice a l.length c := by
  obtain ⟨a, c, rfl, _⟩ := h
  exact ⟨a, c, rfl⟩
theorem IsSetR.at {w : World} {v : Value} {l : List (Int × List Op2)} (h : IsSetR w v l) : ∃ a c, v = .slice a l.length c ∧ l.length ≤ maxLen ∧ ∃ b off, (0 < l.length → a = some ⟨b, off, none⟩) ∧ ∀ (i : Nat) (hi : i < l.length),
    ∃ u, w.cell? ⟨b, off + i * 2, none⟩ = some (.int .i64 l[i].1) ∧ w.cell? ⟨b, off + i * 2 + 1, none⟩ = some u ∧ Ops w u l[i].2 := by
  obtain ⟨a, c, h1, h2, b, off, h3, h4⟩ := EachL.at h (by omega)
  refine ⟨a, c, h1, h2, b, off, h3, fun i hi => ?_⟩
  obtain ⟨cs, _, ⟨u, rfl, hu⟩, hc⟩ := h4 i hi
  exact ⟨u, hc 0 _ rfl, hc 1 _ rfl, hu⟩
theorem IsRulR.at {w : World} {v : Value} {l : List Rr} (h : IsRulR w v l) : ∃ a c, v = .slice a l.length c ∧ l.length ≤ maxLen ∧ ∃ b off, (0 < l.length → a = some ⟨b, off, none⟩) ∧ ∀ (i : Nat) (hi : i < l.length),
    ∃ g s, w.cell? ⟨b, off + i * 2, none⟩ = some g ∧ w.cell? ⟨b, off + i * 2 + 1, none⟩ = some s ∧ Ops w g l[i].guard ∧ IsSetR w s l[i].sets := by
  obtain ⟨a, c, h1, h2, b, off, h3, h4⟩ := EachL.at h (by omega)
  refine ⟨a, c, h1, h2, b, off, h3, fun i hi => ?_⟩
  obtain ⟨cs, _, ⟨g, s, rfl, hg, hs⟩, hc⟩ := h4 i hi
  exact ⟨g, s, hc 0 _ rfl, hc 1 _ rfl, hg, hs⟩
theorem IsOpsR.at {w : World} {v : Value} {l : List (List Op2)} (h : IsOpsR w v l) : ∃ a c, v = .slice a l.length c ∧ l.length ≤ maxLen ∧ ∃ b off, (0 < l.length → a = some ⟨b, off, none⟩) ∧ ∀ (i : Nat) (hi : i < l.length),
    ∃ u, w.cell? ⟨b, off + i, none⟩ = some u ∧ Ops w u l[i] := by
  obtain ⟨a, c, h1, h2, b, off, h3, h4⟩ := EachL.at h (by omega)
  refine ⟨a, c, h1, h2, b, off, h3, fun i hi => ?_⟩
  obtain ⟨cs, _, ⟨u, rfl, hu⟩, hc⟩ := h4 i hi
  have := hc 0 _ rfl
  rw [Nat.mul_one, Nat.add_zero] at this
  exact ⟨u, this, hu⟩
theorem IsRt.val {w : World} {vv rv pv fv : Value} {t : Rt} (h : IsRt w vv rv pv fv t) : ∃ av cv ar cr ap cp af cf, vv = .slice av t.vars.length cv ∧ rv = .slice ar t.rules.length cr ∧ pv = .slice ap t.props.length cp ∧ fv = .slice af t.form.length cf := by
  obtain ⟨av, cv, rfl⟩ := EachL.val h.vars
  obtain ⟨ar, cr, rfl⟩ := EachL.val h.rules
  obtain ⟨ap, cp, rfl⟩ := EachL.val h.props
  obtain ⟨af, cf, rfl⟩ := h.form.val
  exact ⟨av, cv, ar, cr, ap, cp, af, cf, rfl, rfl, rfl, rfl⟩
theorem all_upto {α : Type} {p : α → Prop} {l : List α} {i : Nat} (h : i = l.length) (hp : ∀ j (h : j < l.length), j < i → p l[j]) : ∀ x ∈ l, p x := by
  intro x hx
  obtain ⟨j, hj, rfl⟩ := List.mem_iff_getElem.1 hx
  exact hp j hj (by omega)
theorem all_more {α : Type} {p : α → Prop} {l : List α} {i : Nat} (hi : i < l.length) (hp : ∀ j (h : j < l.length), j < i → p l[j]) (h : p l[i]) : ∀ j (h : j < l.length), j < i + 1 → p l[j] := by
  intro j hj hji
  by_cases e : j = i
  · subst e; exact h
  · exact hp j hj (by omega)
end Go.Proofs.YtfcaomejbcjfgaaGreatDoor

namespace Go.Proofs.YtfcaomejbcjfgaaGreatDoor
open Go Go.RowKit
theorem toList_inj {a b : ByteArray} (h : a.toList = b.toList) : a = b := by
  rw [ByteArray.toList_eq, ByteArray.toList_eq] at h
  obtain ⟨x⟩ := a
  obtain ⟨y⟩ := b
  congr 1
  exact Array.toList_inj.1 h
def varAt (vs : List Vr) (s : ByteArray) : Int := if vs.findIdx (fun v => decide (v.name = s)) < vs.length then (vs.findIdx (fun v => decide (v.name = s)) : Nat) else -1
theorem varAt_at {vs : List Vr} {s : ByteArray} {i : Nat} (hi : i < vs.length) (h : vs[i].name = s) (hn : ∀ j (hj : j < vs.length), j < i → vs[j].name ≠ s) : varAt vs s = (i : Int) := by
  have e : vs.findIdx (fun v => decide (v.name = s)) = i := (List.findIdx_eq hi).2 ⟨by simpa using h, fun j hj => by simpa using hn j (by omega) hj⟩
  unfold varAt
  rw [e, if_pos hi]
theorem varAt_no {vs : List Vr} {s : ByteArray} (hn : ∀ j (hj : j < vs.length), vs[j].name ≠ s) : varAt vs s = -1 := by
  unfold varAt
  rw [if_neg]
  intro h
  have := List.findIdx_getElem (w := h)
  exact hn _ h (by simpa using this)
set_option maxRecDepth 100000 in
set_option maxHeartbeats 4000000 in
theorem variable_any (p : Nat) (vv : Value) (vs : List Vr) (s : ByteArray) (w : World) (hp : w.cell? ⟨p, 0, none⟩ = some vv) (hv : IsVars w vv vs) :
    Calls Tryz.prog 35 #[.pointer (some ⟨p, 0, none⟩), .string s] w fun e w' => e = .returned (.int .i64 (varAt vs s)) ∧ Ext w w' := by
  obtain ⟨av, cv, rfl, hmx, bv, ov, hav, hvc⟩ := hv.at
  have HAV := Lib.hid hav
  have HVC := Lib.hid hvc
  have HR1 := Lib.hid fun (i : Nat) (hi : i < vs.length) (h : vs[i].name = s) (hn : ∀ j (hj : j < vs.length), j < i → vs[j].name ≠ s) => varAt_at hi h hn
  have HR2 := Lib.hid fun (hn : ∀ j (hj : j < vs.length), vs[j].name ≠ s) => varAt_no hn
  generalize varAt vs s = r at *
  have hml : vs.length ≤ 9223372036854775807 := by unfold maxLen at hmx; omega
  clear hav hvc hv hmx
  go_enter Tryz.func35, Tryz.ntmps35
  go_wp2_with fail
  go_loopg [14] vs.length (fun m x wr => ∃ i : Nat, m + i = vs.length ∧ x = .int .i64 (i : Int) ∧ Ext w wr ∧ ∀ j (hj : j < vs.length), j < i → vs[j].name ≠ s)
  case atStart => exact ⟨0, by omega, by go_num, Ext.refl _, fun j _ h => by omega⟩
  case round =>
    obtain ⟨i, hmi, rfl, hE, hno⟩ := hrel
    have HMI := Lib.hid hmi
    have HE := Lib.hid hE
    have HNO := Lib.hid hno
    clear hmi hno
    by_cases hi : i < vs.length
    · obtain rfl := HAV.out (by omega)
      obtain ⟨c0, c1, c2, c3⟩ := HVC.out i hi
      have c0 := cell_later hE c0
      have c1 := cell_later hE c1
      have c2 := cell_later hE c2
      have c3 := cell_later hE c3
      have H1 := Lib.hid fun (h : vs[i].name = s) => HR1.out i hi h HNO.out
      have H2 := Lib.hid fun (h : vs[i].name ≠ s) => all_more (p := fun v : Vr => v.name ≠ s) hi HNO.out h
      have hiI : (i : Int) < (vs.length : Int) := by omega
      have hi0 : (0 : Int) ≤ (i : Int) := by omega
      generalize vs[i] = x at *
      obtain ⟨nm, lo, hh, ini⟩ := x
      simp only at c0 c1 c2 c3
      have hx := ext_al (Ext.refl wr) (Obj.cells #[.string nm, .int .i64 lo, .int .i64 hh, .int .i64 ini] 43)
      have HX := Lib.hid (HE.out.trans hx)
      clear hE hx
      by_cases hn : nm = s
      · have HN := Lib.hid hn
        have hl : (nm.toList == s.toList) = true := by rw [beq_iff_eq, hn]
        obtain rfl := H1.out hn
        clear hn
        go_wp2
        go_ret
        exact ⟨rfl, HX.out⟩
      · have HN := Lib.hid (H2.out hn)
        have hl : (nm.toList == s.toList) = false := by rw [beq_eq_false_iff_ne]; intro e; exact hn (toList_inj e)
        clear hn
        go_wp2_with fail
        go_roundg (gk - 1)
        case measure => have := HMI.out; omega
        case rel => exact ⟨i + 1, by have := HMI.out; omega, by go_num, HX.out, HN.out⟩
    · have hil : i = vs.length := by have := HMI.out; omega
      have hiI : ¬ (i : Int) < (vs.length : Int) := by omega
      obtain rfl := HR2.out (fun j hj => HNO.out j hj (by omega))
      clear hE hil
      go_wp2
      go_ret
      exact ⟨rfl, HE.out⟩
end Go.Proofs.YtfcaomejbcjfgaaGreatDoor

namespace Go.Proofs.YtfcaomejbcjfgaaGreatDoor
open Go Go.RowKit
def markAt (l : List UInt8) : Nat := marksL.findIdx (fun m => decide (m ≠ [] ∧ m = l))
def opR (vs : List Vr) (s : ByteArray) : Op2 :=
  if markAt s.data.toList < 19 then ((markAt s.data.toList : Nat), 0)
  else if 0 ≤ varAt vs s then (2, varAt vs s)
  else if Lib.hasPrefix s.data.toList [80] then (13, atoiN (Lib.trimPrefix s.data.toList [80]))
  else (1, atoiN s.data.toList)
theorem markAt_at {l : List UInt8} {i : Nat} (hi : i < 19) (h : marksL.getD i [] ≠ [] ∧ marksL.getD i [] = l) (hn : ∀ j, j < 19 → j < i → ¬ (marksL.getD j [] ≠ [] ∧ marksL.getD j [] = l)) : markAt l = i := by
  have hi2 : i < marksL.length := by simpa [marksL] using hi
  refine (List.findIdx_eq hi2).2 ⟨?_, fun j hj => ?_⟩
  · have e : marksL.getD i [] = marksL[i] := by rw [List.getD_eq_getElem?_getD, List.getElem?_eq_getElem hi2]; rfl
    rw [e] at h
    simpa using h
  · have hj2 : j < marksL.length := by omega
    have e : marksL.getD j [] = marksL[j] := by rw [List.getD_eq_getElem?_getD, List.getElem?_eq_getElem hj2]; rfl
    have := hn j (by omega) hj
    rw [e] at this
    simpa using this
theorem markAt_no {l : List UInt8} (hn : ∀ j, j < 19 → ¬ (marksL.getD j [] ≠ [] ∧ marksL.getD j [] = l)) : ¬ markAt l < 19 := by
  intro h
  have h2 : markAt l < marksL.length := by simpa [marksL] using h
  have := List.findIdx_getElem (w := h2)
  have e : marksL.getD (markAt l) [] = marksL[markAt l] := by rw [List.getD_eq_getElem?_getD, List.getElem?_eq_getElem h2]; rfl
  have h3 := hn _ h
  rw [e] at h3
  exact h3 (of_decide_eq_true this)
def marksV : List Value := marksL.map fun l => Value.string ⟨l.toArray⟩
theorem marks_range {w : World} (h : Gl w) : w.rangeAt 0 0 marksV := by
  intro j v hv
  have hj : j < marksL.length := by have := (List.getElem?_eq_some_iff.1 hv).1; simpa [marksV] using this
  have h19 : j < 19 := by simpa [marksL] using hj
  rw [marksV, List.getElem?_map, List.getElem?_eq_getElem hj] at hv
  injection hv with hv
  subst hv
  rw [Nat.zero_add, h.marks j h19]
  congr 3
  rw [List.getD_eq_getElem?_getD, List.getElem?_eq_getElem hj]; rfl
theorem marks_index (i : Nat) (hi : i < 19) (w : World) : (Instr.index 91 (.agg marksV.toArray) (.int .i64 (i : Int))).run Tryz.prog w = .ok (.string ⟨(marksL.getD i []).toArray⟩) w := by
  have hk2 : i < marksL.length := by simpa [marksL] using hi
  have h1 : marksV[i]? = some (.string ⟨(marksL[i]?.getD []).toArray⟩) := by
    rw [marksV, List.getElem?_map, List.getElem?_eq_getElem hk2]; rfl
  have h3 : (0 : Int) ≤ (i : Int) := by omega
  simp [Instr.index, run_underlying Tryz.underlying91, asIntOf, go_sem, h1, hi, h3]
theorem op_end {w W : World} {k v : Int} {r : Op2} {x y : Value} {tmps : Array Value} (ht : tmps.getD 4 undef = .pointer (some ⟨w.heap.size, 0, none⟩)) (hb : W.heap[w.heap.size]? = some (.cells #[x, y] 79 (0, 0))) (hE : Ext w W) (hr : r = (k, v)) :
    bodyPost Tryz.prog Tryz.f52 (fun e w' => e = .returned (.agg #[.int .i64 r.1, .int .i64 r.2]) ∧ Ext w w') .ret { tmps := tmps, defers := [] } ((W.setCell ⟨w.heap.size, 0, none⟩ (.int .i64 k)).setCell ⟨w.heap.size, 1, none⟩ (.int .i64 v)) := by
  subst hr
  have h2 : ((W.setCell ⟨w.heap.size, 0, none⟩ (.int .i64 k)).setCell ⟨w.heap.size, 1, none⟩ (.int .i64 v)).heap[w.heap.size]? = some (.cells #[.int .i64 k, .int .i64 v] 79 (0, 0)) := blk_set (i := 1) (blk_set (i := 0) hb _) _
  exact bodyPost_ret (results_cell_row (P := Tryz.prog) (p := 4) (ty := 79) rfl tmps _ w.heap.size 79 _ (0, 0) _ ht h2 Tryz.underlying79 rfl (by kernel_rfl)) rfl ⟨rfl, (hE.setCell (p := ⟨w.heap.size, 0, none⟩) (Nat.le_refl _) _).setCell (p := ⟨w.heap.size, 1, none⟩) (Nat.le_refl _) _⟩
theorem trim_len (l q : List UInt8) : (Lib.trimPrefix l q).length ≤ l.length := by
  unfold Lib.trimPrefix
  split <;> simp
set_option maxRecDepth 100000 in
set_option maxHeartbeats 4000000 in
theorem op_any (p : Nat) (vv : Value) (vs : List Vr) (s : ByteArray) (w : World) (hp : w.cell? ⟨p, 0, none⟩ = some vv) (hv : IsVars w vv vs) (hg : Gl w) (hs : s.size ≤ 1000000) :
    Calls Tryz.prog 52 #[.pointer (some ⟨p, 0, none⟩), .string s] w fun e w' => e = .returned (.agg #[.int .i64 (opR vs s).1, .int .i64 (opR vs s).2]) ∧ Ext w w' := by
  have HV := Lib.hid fun wx (hx : Ext w wx) => variable_any p vv vs s wx (cell_later hx hp) (hv.ext hx)
  have HG := Lib.hid hg
  have HRN := Lib.hid (marks_range (hg.ext (ext_al (Ext.refl w) (Obj.cells #[.int .i64 0, .int .i64 0] 79))))
  have HIN : Hid ((Tryz.prog.info? 91).map (·.size) = some marksV.length) := Lib.hid (by kernel_rfl)
  have HIX := Lib.hid fun i (hi : i < 19) wx => marks_index i hi wx
  have HM1 := Lib.hid fun i (hi : i < 19) (h : marksL.getD i [] ≠ [] ∧ marksL.getD i [] = s.data.toList) (hn : ∀ j, j < 19 → j < i → ¬ (marksL.getD j [] ≠ [] ∧ marksL.getD j [] = s.data.toList)) => (show opR vs s = ((i : Int), 0) by
    have e := markAt_at hi h hn
    unfold opR
    rw [e, if_pos hi])
  have HM2 := Lib.hid fun (hn : ∀ j, j < 19 → ¬ (marksL.getD j [] ≠ [] ∧ marksL.getD j [] = s.data.toList)) => (show opR vs s = if 0 ≤ varAt vs s then (2, varAt vs s) else if Lib.hasPrefix s.data.toList [80] then (13, atoiN (Lib.trimPrefix s.data.toList [80])) else (1, atoiN s.data.toList) by
    unfold opR
    rw [if_neg (markAt_no hn)])
  have HCP := Lib.hid fun wx => Tryz.strings_CutPrefix s ⟨#[80]⟩ wx
  have HA1 := Lib.hid fun wx (hx : Ext w wx) => atoi_any s wx hs (hg.ext hx)
  have HA2 := Lib.hid fun wx (hx : Ext w wx) => atoi_any ⟨(Lib.trimPrefix s.data.toList [80]).toArray⟩ wx (by rw [ba_size]; have := trim_len s.data.toList [80]; have e : s.data.toList.length = s.size := Array.length_toList; omega) (hg.ext hx)
  obtain ⟨r, hr⟩ : ∃ r, opR vs s = r := ⟨_, rfl⟩
  rw [hr] at HM1 HM2 ⊢
  have HMV := Lib.hid (show ∃ MA, MA = marksV.toArray from ⟨_, rfl⟩)
  generalize marksV = mv at *
  generalize varAt vs s = va at *
  clear hr hp hv hg hs
  go_enter Tryz.func52, Tryz.ntmps52
  go_wp2_with (refine wpList_load_mid rfl 91 _ rfl 0 0 rfl mv _ HRN.out Tryz.underlying91 rfl HIN.out ?_)
  have HE1 := Lib.hid (ext_al (Ext.refl w) (Obj.cells #[.int .i64 0, .int .i64 0] 79))
  have hbk := blk_new w (Obj.cells #[.int .i64 0, .int .i64 0] 79)
  have HBK := Lib.hid hbk
  generalize w.alloc (Obj.cells #[.int .i64 0, .int .i64 0] 79) = W1 at *
  have c0 := blk_cell hbk (i := 0) rfl
  have c1 := blk_cell hbk (i := 1) rfl
  have z0 := blk_free hbk 0
  have z1 := blk_free hbk 1
  clear hbk
  go_loopg [15] 19 (fun m x wr => ∃ i : Nat, m + i = 19 ∧ x = .int .i64 (i : Int) ∧ W1 = wr ∧ ∀ j, j < 19 → j < i → ¬ (marksL.getD j [] ≠ [] ∧ marksL.getD j [] = s.data.toList))
  case atStart => exact ⟨0, by omega, by go_num, rfl, fun j _ h => by omega⟩
  case round =>
    obtain ⟨i, hmi, rfl, rfl, hno⟩ := hrel
    have HMI := Lib.hid hmi
    have HNO := Lib.hid hno
    clear hmi hno
    by_cases hi : i < 19
    · have hiI : (i : Int) < 19 := by omega
      have hi0 : (0 : Int) ≤ (i : Int) := by omega
      have hix := HIX.out i hi W1
      obtain ⟨mk, hmk⟩ : ∃ mk : ByteArray, mk = ⟨(marksL.getD i []).toArray⟩ := ⟨_, rfl⟩
      rw [← hmk] at hix
      have HMK := Lib.hid (show mk.data.toList = marksL.getD i [] by rw [hmk])
      clear hmk
      by_cases he : mk.toList = []
      · have q1 : mk.toList.isEmpty = true := by rw [he]; rfl
        have HNX := Lib.hid (show ∀ j, j < 19 → j < i + 1 → ¬ (marksL.getD j [] ≠ [] ∧ marksL.getD j [] = s.data.toList) from fun j h1 h2 => by
          by_cases e : j = i
          · subst e; rw [← HMK.out, ← ByteArray.toList_eq, he]; simp
          · exact HNO.out j h1 (by omega))
        clear he
        go_wp2_with fail
        go_roundg (gk - 1)
        case measure => have := HMI.out; omega
        case rel => exact ⟨i + 1, by have := HMI.out; omega, by go_num, rfl, HNX.out⟩
      have q1 : mk.toList.isEmpty = false := by simpa using he
      by_cases hq : mk.toList = s.toList
      · have q2 : (mk.toList == s.toList) = true := by rw [beq_iff_eq]; exact hq
        obtain rfl := HM1.out i hi ⟨by rw [← HMK.out, ← ByteArray.toList_eq]; exact he, by rw [← HMK.out, ← ByteArray.toList_eq, ← ByteArray.toList_eq]; exact hq⟩ HNO.out
        clear he hq
        go_wp2
        exact op_end rfl HBK.out HE1.out rfl
      have q2 : (mk.toList == s.toList) = false := by rw [beq_eq_false_iff_ne]; exact hq
      have HNX := Lib.hid (show ∀ j, j < 19 → j < i + 1 → ¬ (marksL.getD j [] ≠ [] ∧ marksL.getD j [] = s.data.toList) from fun j h1 h2 => by
        by_cases e : j = i
        · subst e; rw [← HMK.out, ← ByteArray.toList_eq, ← ByteArray.toList_eq]; exact fun h => hq h.2
        · exact HNO.out j h1 (by omega))
      clear he hq
      go_wp2_with fail
      go_roundg (gk - 1)
      case measure => have := HMI.out; omega
      case rel => exact ⟨i + 1, by have := HMI.out; omega, by go_num, rfl, HNX.out⟩
    · have hiI : ¬ (i : Int) < 19 := by omega
      have HR := Lib.hid (HM2.out fun j h => HNO.out j h (by omega))
      clear c0 c1 z0 z1
      go_wp2_with fail
      refine (HV.out W1 HE1.out).mono ?_
      rintro e w2 ⟨rfl, hE2⟩
      have HX2 := Lib.hid (HE1.out.trans hE2)
      have HB2 := Lib.hid (blk_ext HBK.out hE2)
      clear hE2
      by_cases hva : 0 ≤ va
      · have HRR := Lib.hid (show r = (2, va) by rw [HR.out, if_pos hva])
        have c0 := blk_cell HB2.out (i := 0) rfl
        have c1 := blk_cell HB2.out (i := 1) rfl
        have z0 := blk_free HB2.out 0
        have z1 := blk_free HB2.out 1
        go_wp2
        exact op_end rfl HB2.out HX2.out HRR.out
      · have HR2 := Lib.hid (show r = if Lib.hasPrefix s.data.toList [80] then (13, atoiN (Lib.trimPrefix s.data.toList [80])) else (1, atoiN s.data.toList) by rw [HR.out, if_neg hva])
        go_wp2_with fail
        refine (HCP.out w2).mono ?_
        rintro e _ ⟨rfl, rfl⟩
        have HHP := Lib.hid (show ∃ q, q = Lib.hasPrefix s.data.toList [80] from ⟨_, rfl⟩)
        generalize Lib.hasPrefix s.data.toList [80] = hp at *
        cases hp
        · go_wp2_with fail
          refine (HA1.out _ HX2.out).mono ?_
          rintro e w3 ⟨r3, rfl, hE3⟩
          have HB3 := Lib.hid (blk_ext HB2.out hE3)
          have HX3 := Lib.hid (HX2.out.trans hE3)
          have c0 := blk_cell HB3.out (i := 0) rfl
          have c1 := blk_cell HB3.out (i := 1) rfl
          have z0 := blk_free HB3.out 0
          have z1 := blk_free HB3.out 1
          clear hE3
          go_wp2
          exact op_end rfl HB3.out HX3.out HR2.out
        · go_wp2_with fail
          refine (HA2.out _ HX2.out).mono ?_
          rintro e w3 ⟨r3, rfl, hE3⟩
          have HB3 := Lib.hid (blk_ext HB2.out hE3)
          have HX3 := Lib.hid (HX2.out.trans hE3)
          have c0 := blk_cell HB3.out (i := 0) rfl
          have c1 := blk_cell HB3.out (i := 1) rfl
          have z0 := blk_free HB3.out 0
          have z1 := blk_free HB3.out 1
          clear hE3
          go_wp2
          exact op_end rfl HB3.out HX3.out HR2.out
end Go.Proofs.YtfcaomejbcjfgaaGreatDoor

namespace Go.Proofs.YtfcaomejbcjfgaaGreatDoor
open Go Go.RowKit
def StrAt (w : World) (b off : Nat) (L : List ByteArray) : Prop := ∀ i (hi : i < L.length), w.cell? ⟨b, off + i, none⟩ = some (.string L[i])
theorem StrAt.ext {w w' : World} {b off : Nat} {L : List ByteArray} (h : StrAt w b off L) (hE : Ext w w') : StrAt w' b off L := fun i hi => cell_later hE (h i hi)
theorem StrAt.drop {w : World} {b off : Nat} {L : List ByteArray} (h : StrAt w b off L) (k : Nat) : StrAt w b (off + k) (L.drop k) := by
  intro i hi
  have hk : k + i < L.length := by simp at hi; omega
  have := h (k + i) hk
  rw [Nat.add_assoc, this]
  simp
def termR (vs : List Vr) (L : List ByteArray) : List Op2 := L.map (opR vs)
theorem termR_take (vs : List Vr) (L : List ByteArray) {i : Nat} (h : i < L.length) : (termR vs (L.take (i + 1))).flatMap opc = (termR vs (L.take i)).flatMap opc ++ opc (opR vs L[i]) := by
  rw [List.take_succ_eq_append_getElem h]
  simp only [termR, List.map_append, List.map_cons, List.map_nil, List.flatMap_append, List.flatMap_cons, List.flatMap_nil, List.append_nil]
set_option maxRecDepth 100000 in
set_option maxHeartbeats 4000000 in
theorem term_any (p : Nat) (vv : Value) (vs : List Vr) (L : List ByteArray) (b off c : Nat) (w : World) (hp : w.cell? ⟨p, 0, none⟩ = some vv) (hv : IsVars w vv vs) (hg : Gl w) (hL : StrAt w b off L) (hs : ∀ s ∈ L, s.size ≤ 1000000) (hn : L.length ≤ 1000000) :
    Calls Tryz.prog 34 #[.pointer (some ⟨p, 0, none⟩), .slice (some ⟨b, off, none⟩) L.length c] w fun e w' => ∃ a k, e = .returned (.slice a L.length k) ∧ w'.ownsRow w.heap.size 79 2 (.slice a L.length k) L.length ((termR vs L).flatMap opc) ∧ Ext w w' := by
  have HOP := Lib.hid fun wx (hx : Ext w wx) s (h : s ∈ L) => op_any p vv vs s wx (cell_later hx hp) (hv.ext hx) (hg.ext hx) (hs s h)
  have HL := Lib.hid hL
  clear hp hv hg hL hs
  go_enter Tryz.func34, Tryz.ntmps34
  go_wp2_with fail
  go_loopg [5, 10] L.length (fun m y x wr => ∃ (i : Nat) (ap : Option Addr) (cp : Nat), m + i = L.length ∧ x = .int .i64 (i : Int) ∧ y = .slice ap i cp ∧ wr.ownsRow w.heap.size 79 2 (.slice ap i cp) i ((termR vs (L.take i)).flatMap opc) ∧ Ext w wr)
  case atStart => exact ⟨0, none, 0, by omega, by go_num, rfl, World.ownsRow_nil _ _ _ _, Ext.refl _⟩
  case round =>
    obtain ⟨i, ap, cp, hmi, rfl, rfl, ho, hE⟩ := hrel
    have HMI := Lib.hid hmi
    have HO := Lib.hid ho
    have HE := Lib.hid hE
    clear hmi ho
    by_cases hi : i < L.length
    · have c0 := cell_later hE (HL.out i hi)
      have HOI := Lib.hid (HOP.out wr hE L[i] (by simp))
      have HTK := Lib.hid (termR_take vs L hi)
      have hiI : (i : Int) < (L.length : Int) := by omega
      have hi0 : (0 : Int) ≤ (i : Int) := by omega
      clear hE
      generalize L[i] = s at *
      obtain ⟨⟨k, x⟩, hkx⟩ : ∃ r, opR vs s = r := ⟨_, rfl⟩
      rw [hkx] at HOI HTK
      clear hkx
      go_wp2_with fail
      refine HOI.out.mono ?_
      rintro e w2 ⟨rfl, hE2⟩
      have HE2 := Lib.hid (HE.out.trans hE2)
      have HO2 := Lib.hid (own_ext HO.out hE2)
      have HX3 := Lib.hid (ext_al HE2.out (Obj.cells #[.int .i64 k, .int .i64 x] 79))
      have HO3 := Lib.hid (HO2.out.alloc (Obj.cells #[.int .i64 k, .int .i64 x] 79))
      clear hE2 c0
      go_wp2_with (at_builtin; go_must (refine wpl_append rfl rfl Tryz.slOps w.heap.size rfl HO3.out rfl (Row.newOp _ _ _ _) (by simp [opc, Value.oneCell']) (by unfold maxLen; omega) (by omega) HX3.out.size ?_))
      intro v4 w4 hown4 hg4 hb4 _
      obtain ⟨a4, c4, rfl, _⟩ := hown4.row
      have HE4 := Lib.hid (Below.grown HX3.out hg4 HX3.out.size (fun b hb => (HO3.out.lt b hb).1))
      have HO4 := Lib.hid hown4
      clear hown4 hg4 hb4
      go_wp2_with fail
      go_roundg (gk - 1)
      case measure => have := HMI.out; omega
      case rel => exact ⟨i + 1, a4, c4, by have := HMI.out; omega, by go_num, rfl, by rw [HTK.out]; exact HO4.out, HE4.out⟩
    · have hil : i = L.length := by have := HMI.out; omega
      have hiI : ¬ (i : Int) < (L.length : Int) := by omega
      have HOF := Lib.hid (show wr.ownsRow w.heap.size 79 2 (.slice ap L.length cp) L.length ((termR vs L).flatMap opc) by
        have h := HO.out
        rw [hil, List.take_length] at h
        exact h)
      have HIL := Lib.hid hil
      clear hil hE
      go_wp2
      go_ret
      exact ⟨ap, cp, by rw [HIL.out]; rfl, HOF.out, HE.out⟩
end Go.Proofs.YtfcaomejbcjfgaaGreatDoor

namespace Go.Proofs.YtfcaomejbcjfgaaGreatDoor
open Go Go.RowKit
def wordN (L : List ByteArray) (i : Nat) : Int := match L[i]? with | some s => atoiN s.data.toList | none => 0
def varR (L : List ByteArray) : Vr := ⟨L.getD 1 ByteArray.empty, wordN L 2, wordN L 3, wordN L 4⟩
def lastM {α : Type} (f : α → α) : List α → List α
  | [] => []
  | [x] => [f x]
  | x :: y :: l => x :: lastM f (y :: l)
theorem lastM_snoc {α : Type} (f : α → α) (l : List α) (x : α) : lastM f (l ++ [x]) = l ++ [f x] := by
  induction l with
  | nil => rfl
  | cons y l ih =>
    cases l with
    | nil => rfl
    | cons z l => simp only [List.cons_append, lastM] at ih ⊢; rw [ih]
def lineR (t : Rt) (L : List ByteArray) : Rt :=
  if (L.getD 0 ByteArray.empty).data.toList = [118, 97, 114] then { t with vars := t.vars ++ [varR L] }
  else if (L.getD 0 ByteArray.empty).data.toList = [114, 117, 108, 101] then { t with rules := t.rules ++ [⟨termR t.vars (L.drop 1), []⟩] }
  else if (L.getD 0 ByteArray.empty).data.toList = [115, 101, 116] then
    (if 1 < L.length then { t with rules := lastM (fun r => { r with sets := r.sets ++ [(varAt t.vars (L.getD 1 ByteArray.empty), termR t.vars (L.drop 2))] }) t.rules } else t)
  else if (L.getD 0 ByteArray.empty).data.toList = [112, 114, 111, 112] then { t with props := t.props ++ [termR t.vars (L.drop 1)] }
  else if (L.getD 0 ByteArray.empty).data.toList = [99, 104, 101, 99, 107] then { t with form := termR t.vars (L.drop 1) }
  else t
def EachO {α : Type} (x : TW) (tg B : Nat) (e : TypeId) (sz : Nat) (E : World → α → List Value → Prop) (v : Value) (l : List α) : Prop :=
  ∃ css : List (List Value), css.length = l.length ∧ (∀ cs ∈ css, cs.length = sz) ∧ OwnT x.1 tg x.2 B e sz v l.length css.flatten ∧ ∀ (i : Nat) (cs : List Value) (a : α), css[i]? = some cs → l[i]? = some a → EntB B 0 x fun y => E y a cs
section
variable {α : Type} {x x' : TW} {tg t B : Nat} {e : TypeId} {sz : Nat} {E : World → α → List Value → Prop} {v : Value} {l : List α}
theorem EachO.each (h : EachO x tg B e sz E v l) : EachL sz E x.2 v l := by
  obtain ⟨css, h1, h2, h3, h4⟩ := h
  exact ⟨css, h1, h2, h3.reads, fun i cs a p q => (h4 i cs a p q).now⟩
theorem EachO.nw (h : EachO x tg B e sz E v l) (k : Nw B t x x') (h1 : tg ≠ t) (h0 : 0 ≠ t) : EachO x' tg B e sz E v l := by
  obtain ⟨css, h2, h3, h4, h5⟩ := h
  exact ⟨css, h2, h3, k.own h4 h1, fun i cs a p q => k.ent (h5 i cs a p q) h0⟩
theorem EachO.nil (x : TW) (tg B : Nat) (e : TypeId) (sz : Nat) (E : World → α → List Value → Prop) : EachO x tg B e sz E (.slice none 0 0) ([] : List α) :=
  ⟨[], rfl, by simp, OwnT.nil _ _ _ _ _ _, by simp⟩
theorem EachO.snoc {css : List (List Value)} {cs : List Value} {a : α} {v' : Value} (h1 : css.length = l.length) (h2 : ∀ cs ∈ css, cs.length = sz) (h3 : OwnT x'.1 tg x'.2 B e sz v' (l.length + 1) (css.flatten ++ cs))
    (h4 : ∀ (i : Nat) (cs : List Value) (a : α), css[i]? = some cs → l[i]? = some a → EntB B 0 x' fun y => E y a cs) (hc : cs.length = sz) (ha : EntB B 0 x' fun y => E y a cs) : EachO x' tg B e sz E v' (l ++ [a]) := by
  refine ⟨css ++ [cs], by simp [h1], ?_, by simpa using h3, ?_⟩
  · intro c hcm
    rcases List.mem_append.1 hcm with hcm | hcm
    · exact h2 c hcm
    · simp at hcm; subst hcm; exact hc
  · intro i c b hcb hb
    by_cases hi : i < l.length
    · rw [List.getElem?_append_left (by omega)] at hcb hb
      exact h4 i c b hcb hb
    · rw [List.getElem?_append_right (by omega)] at hcb hb
      have e0 : i - l.length = 0 := by have := (List.getElem?_eq_some_iff.1 hb).1; simp at this; omega
      rw [h1, e0] at hcb
      rw [e0] at hb
      simp at hcb hb
      subst hcb; subst hb; exact ha
end
def RulesM (x : TW) (B : Nat) (v : Value) (l : List Rr) : Prop :=
  ∃ css : List (Value × Value), css.length = l.length ∧ OwnT x.1 2 x.2 B 46 2 v l.length (css.flatMap fun c => [c.1, c.2]) ∧
    ∀ (i : Nat) (c : Value × Value) (r : Rr), css[i]? = some c → l[i]? = some r → EntB B 0 x (fun y => Ops y c.1 r.guard) ∧ EachO x (10 + i) B 49 2 SetR c.2 r.sets
theorem RulesM.nw {x x' : TW} {B t : Nat} {v : Value} {l : List Rr} (h : RulesM x B v l) (k : Nw B t x x') (h2 : 2 ≠ t) (h0 : 0 ≠ t) (h10 : ∀ i, i < l.length → 10 + i ≠ t) : RulesM x' B v l := by
  obtain ⟨css, h1, h3, h4⟩ := h
  refine ⟨css, h1, k.own h3 h2, fun i c r p q => ?_⟩
  obtain ⟨a, b⟩ := h4 i c r p q
  exact ⟨k.ent a h0, b.nw k (h10 i (List.getElem?_eq_some_iff.1 q).1) h0⟩
theorem RulesM.each {x : TW} {B : Nat} {v : Value} {l : List Rr} (h : RulesM x B v l) : IsRulR x.2 v l := by
  obtain ⟨css, h1, h2, h3⟩ := h
  refine ⟨css.map fun c => [c.1, c.2], by simpa using h1, ?_, by simpa [List.flatMap] using h2.reads, ?_⟩
  · intro cs hc
    obtain ⟨c, _, rfl⟩ := List.mem_map.1 hc
    rfl
  · intro i cs r hc hr
    rw [List.getElem?_map] at hc
    obtain ⟨c, hc1, rfl⟩ := Option.map_eq_some_iff.1 hc
    obtain ⟨a, b⟩ := h3 i c r hc1 hr
    exact ⟨c.1, c.2, rfl, a.now, b.each⟩
structure PadM (x : TW) (p B : Nat) (t : Rt) (vv rv pv fv : Value) : Prop where
  low : p < B
  blk : x.2.heap[p]? = some (.cells #[vv, rv, pv, fv] 70 (0, 0))
  vars : EachO x 1 B 43 4 VarE vv t.vars
  rules : RulesM x B rv t.rules
  props : EachO x 3 B 32 1 OpsR pv t.props
  form : EntB B 0 x fun y => Ops y fv t.form
theorem PadM.rt {x : TW} {p B : Nat} {t : Rt} {vv rv pv fv : Value} (h : PadM x p B t vv rv pv fv) : IsRt x.2 vv rv pv fv t := ⟨h.vars.each, h.rules.each, h.props.each, h.form.now⟩
end Go.Proofs.YtfcaomejbcjfgaaGreatDoor

namespace Go.Proofs.YtfcaomejbcjfgaaGreatDoor
def cutN : List UInt8 → List UInt8 × List UInt8
  | [] => ([], [])
  | c :: l => if c = 10 then ([c], l) else (c :: (cutN l).1, (cutN l).2)
theorem cutN_app : ∀ l : List UInt8, (cutN l).1 ++ (cutN l).2 = l
  | [] => rfl
  | c :: l => by
    rw [cutN]
    split
    · rfl
    · simp [cutN_app l]
theorem cutN_rest : ∀ {l : List UInt8}, l ≠ [] → (cutN l).2.length < l.length
  | [], h => absurd rfl h
  | c :: l, _ => by
    rw [cutN]
    split
    · simp
    · have := congrArg List.length (cutN_app l)
      simp at this ⊢; omega
def linesN : Nat → List UInt8 → List (List UInt8)
  | 0, _ => []
  | n + 1, l => if l = [] then [] else (cutN l).1 :: linesN n (cutN l).2
theorem linesN_nil (n : Nat) : linesN n [] = [] := by cases n <;> rfl
theorem linesN_enough : ∀ {n m : Nat} {l : List UInt8}, l.length ≤ n → l.length ≤ m → linesN n l = linesN m l
  | 0, m, l, h, _ => by
    have : l = [] := List.length_eq_zero_iff.1 (by omega)
    subst this
    rw [linesN_nil, linesN_nil]
  | n + 1, 0, l, _, h => by
    have : l = [] := List.length_eq_zero_iff.1 (by omega)
    subst this
    rw [linesN_nil, linesN_nil]
  | n + 1, m + 1, l, h1, h2 => by
    rw [linesN, linesN]
    by_cases e : l = []
    · rw [if_pos e, if_pos e]
    · rw [if_neg e, if_neg e]
      have := cutN_rest e
      rw [linesN_enough (n := n) (m := m) (by omega) (by omega)]
def linesL (l : List UInt8) : List (List UInt8) := linesN l.length l
theorem linesL_nil : linesL [] = [] := rfl
theorem linesL_more {l : List UInt8} (h : l ≠ []) : linesL l = (cutN l).1 :: linesL (cutN l).2 := by
  obtain ⟨c, t, rfl⟩ : ∃ c t, l = c :: t := by cases l with | nil => exact absurd rfl h | cons c t => exact ⟨c, t, rfl⟩
  have := cutN_rest h
  unfold linesL
  rw [show (c :: t).length = t.length + 1 by rfl, linesN, if_neg h]
  rw [linesN_enough (n := t.length) (m := (cutN (c :: t)).2.length) (by simp at this; omega) (Nat.le_refl _)]
theorem linesL_len : ∀ (n : Nat) (l : List UInt8), l.length ≤ n → (linesL l).length ≤ l.length
  | 0, l, h => by
    have : l = [] := List.length_eq_zero_iff.1 (by omega)
    subst this; simp [linesL_nil]
  | n + 1, l, h => by
    by_cases e : l = []
    · subst e; simp [linesL_nil]
    · have := cutN_rest e
      have := linesL_len n (cutN l).2 (by omega)
      rw [linesL_more e]; simp; omega
theorem cutN_hit : ∀ {l : List UInt8} {i : Nat}, Lib.indexByte l 10 = (i : Int) → i < l.length ∧ cutN l = (l.take (i + 1), l.drop (i + 1))
  | [], i, h => by simp [Lib.indexByte] at h
  | c :: l, i, h => by
    rw [Lib.indexByte] at h
    rw [cutN]
    by_cases hc : c = 10
    · subst hc
      simp at h
      have : i = 0 := by omega
      subst this
      simp
    · rw [if_neg (by simpa using hc)] at h
      rw [if_neg hc]
      by_cases hm : Lib.indexByte l 10 = -1
      · rw [if_pos (by simpa using hm)] at h; omega
      · rw [if_neg (by simpa using hm)] at h
        have h2 := Lib.indexByte_ge l 10
        obtain ⟨j, rfl⟩ : ∃ j, i = j + 1 := ⟨i - 1, by omega⟩
        obtain ⟨h3, h4⟩ := cutN_hit (l := l) (i := j) (by omega)
        rw [h4]
        exact ⟨by simp; omega, by simp⟩
theorem cutN_miss : ∀ {l : List UInt8}, Lib.indexByte l 10 = -1 → cutN l = (l, [])
  | [], _ => rfl
  | c :: l, h => by
    rw [Lib.indexByte] at h
    by_cases hc : c = 10
    · subst hc; simp at h
    · rw [if_neg (by simpa using hc)] at h
      rw [cutN, if_neg hc]
      by_cases hm : Lib.indexByte l 10 = -1
      · rw [cutN_miss hm]
      · rw [if_neg (by simpa using hm)] at h
        have := Lib.indexByte_ge l 10
        omega
def trimB (x : ByteArray) : ByteArray := ⟨(Lib.trimSuffix x.data.toList [10]).toArray⟩
def wordsB (x : ByteArray) : List ByteArray := Lib.splitB ⟨#[32]⟩ 0 (Lib.countB (trimB x) ⟨#[32]⟩) (trimB x)
def rdAll (t : Rt) (ls : List (List UInt8)) : Rt := ls.foldl (fun t x => lineR t (wordsB ⟨x.toArray⟩)) t
def noRt : Rt := ⟨[], [], [], []⟩
def rdL (l : List UInt8) : Rt := rdAll noRt (linesL l)
theorem rdAll_snoc (t : Rt) (ls : List (List UInt8)) (x : List UInt8) : rdAll t (ls ++ [x]) = lineR (rdAll t ls) (wordsB ⟨x.toArray⟩) := by simp [rdAll]
theorem wordsB_len (x : ByteArray) : (wordsB x).length = Lib.countB (trimB x) ⟨#[32]⟩ + 1 := Lib.splitB_all _ (by decide) _ _ _ rfl
theorem trimB_size (x : ByteArray) : (trimB x).size ≤ x.size := by
  show (Lib.trimSuffix x.data.toList [10]).toArray.size ≤ x.data.size
  unfold Lib.trimSuffix
  split
  · simp
  · simp
theorem splitB_size (sep : ByteArray) (sv n : Nat) : ∀ (k : Nat) (s : ByteArray), s.size ≤ n → ∀ w ∈ Lib.splitB sep sv k s, w.size ≤ n
  | 0, s, h, w, hw => by
    rw [Lib.splitB_zero] at hw
    simp at hw; subst hw; exact h
  | k + 1, s, h, w, hw => by
    unfold Lib.splitB at hw
    split at hw
    · simp at hw; subst hw; exact h
    · rcases List.mem_cons.1 hw with rfl | hw
      · simp only [ByteArray.size_extract]; omega
      · exact splitB_size sep sv n k _ (by simp only [ByteArray.size_extract]; omega) w hw
theorem wordsB_size (x : ByteArray) : ∀ w ∈ wordsB x, w.size ≤ x.size := splitB_size _ _ _ _ _ (trimB_size x)
theorem wordsB_le (x : ByteArray) : (wordsB x).length ≤ x.size + 1 := by
  rw [wordsB_len]
  have := Lib.countB_le ⟨#[32]⟩ (by decide) _ (trimB x) (Nat.le_refl _)
  have := trimB_size x
  omega
structure SmallT (n : Nat) (t : Rt) : Prop where
  vars : t.vars.length ≤ n
  rules : t.rules.length ≤ n
  props : t.props.length ≤ n
  sets : ∀ r ∈ t.rules, r.sets.length ≤ n
theorem lastM_len {α : Type} (f : α → α) : ∀ l : List α, (lastM f l).length = l.length
  | [] => rfl
  | [_] => rfl
  | _ :: y :: l => by rw [lastM]; simp [lastM_len f (y :: l)]
theorem lastM_mem {α : Type} {f : α → α} : ∀ {l : List α} {x : α}, x ∈ lastM f l → x ∈ l ∨ ∃ y ∈ l, x = f y
  | [], x, h => by simp [lastM] at h
  | [a], x, h => by simp [lastM] at h; exact .inr ⟨a, by simp, h⟩
  | a :: y :: l, x, h => by
    rw [lastM] at h
    rcases List.mem_cons.1 h with rfl | h
    · exact .inl (by simp)
    · rcases lastM_mem h with h | ⟨z, h1, h2⟩
      · exact .inl (List.mem_cons_of_mem _ h)
      · exact .inr ⟨z, List.mem_cons_of_mem _ h1, h2⟩
theorem SmallT.line {n : Nat} {t : Rt} (h : SmallT n t) (L : List ByteArray) : SmallT (n + 1) (lineR t L) := by
  have h0 : SmallT (n + 1) t := ⟨by have := h.vars; omega, by have := h.rules; omega, by have := h.props; omega, fun r hr => by have := h.sets r hr; omega⟩
  unfold lineR
  split
  · exact ⟨by have := h.vars; simp; omega, h0.rules, h0.props, h0.sets⟩
  · split
    · refine ⟨h0.vars, by have := h.rules; simp; omega, h0.props, fun r hr => ?_⟩
      rcases List.mem_append.1 hr with hr | hr
      · exact h0.sets r hr
      · simp at hr; subst hr; simp
    · split
      · split
        · refine ⟨h0.vars, by show (lastM _ _).length ≤ _; rw [lastM_len]; exact h0.rules, h0.props, fun r hr => ?_⟩
          rcases lastM_mem hr with hr | ⟨y, hy, rfl⟩
          · exact h0.sets r hr
          · have := h.sets y hy
            simp; omega
        · exact h0
      · split
        · exact ⟨h0.vars, h0.rules, by have := h.props; simp; omega, h0.sets⟩
        · split
          · exact ⟨h0.vars, h0.rules, h0.props, h0.sets⟩
          · exact h0
end Go.Proofs.YtfcaomejbcjfgaaGreatDoor

namespace Go.Proofs.YtfcaomejbcjfgaaGreatDoor
open Go Go.RowKit
structure PadF (p B : Nat) (w w' : World) : Prop where
  below : Below p w w'
  size : w.heap.size ≤ w'.heap.size
  mid : ∀ k, p < k → k < B → w'.heap[k]? = w.heap[k]?
theorem PadF.refl (p B : Nat) (w : World) : PadF p B w w := ⟨Below.refl _ _, Nat.le_refl _, fun _ _ _ => rfl⟩
theorem PadF.trans {p B : Nat} {a b c : World} (h : PadF p B a b) (k : PadF p B b c) : PadF p B a c := ⟨h.below.trans k.below, Nat.le_trans h.size k.size, fun j h1 h2 => (k.mid j h1 h2).trans (h.mid j h1 h2)⟩
theorem PadF.ext {p B : Nat} {w w' : World} (hE : Ext w w') (h1 : p ≤ w.heap.size) (h2 : B ≤ w.heap.size) : PadF p B w w' := ⟨hE.mono h1, hE.size, fun k _ hk => hE.block k (by omega)⟩
theorem PadF.set {p B i : Nat} {w : World} (v : Value) : PadF p B w (w.setCell ⟨p, i, none⟩ v) := ⟨(Below.refl p w).setCell (p := ⟨p, i, none⟩) (Nat.le_refl _) _, by simp, fun k h1 _ => Below.heap_setCell _ _ _ _ (by simp; omega)⟩
theorem PadF.grown {p B : Nat} {w w' : World} {row : Option Nat} (hg : w.grownBy w' row) (hr : ∀ b, row = some b → B ≤ b) (hp : p < B) (hB : B ≤ w.heap.size) : PadF p B w w' :=
  ⟨(Below.refl p w).grown hg (by omega) (fun b hb => by have := hr b hb; omega), hg.size, fun k _ hk => hg.block k (by omega) (fun e => by have := hr k e.symm; omega)⟩
def LineP (p B : Nat) (w w' : World) (t : Rt) : Prop := PadF p B w w' ∧ ∃ τ' vv' rv' pv' fv', (∀ b, b < B → τ' b ≠ 0) ∧ PadM (τ', w') p B t vv' rv' pv' fv'
theorem PadM.call {x : TW} {p B : Nat} {t : Rt} {vv rv pv fv : Value} {w' : World} (h : PadM x p B t vv rv pv fv) (hE : Ext x.2 w') : PadM (tagAt x.1 x.2.heap.size 0, w') p B t vv rv pv fv := by
  have k : Nw B 9 x (tagAt x.1 x.2.heap.size 0, w') := Nw.call hE 0
  exact ⟨h.low, blk_ext h.blk hE, h.vars.nw k (by omega) (by omega), by
    obtain ⟨css, h1, h3, h4⟩ := h.rules
    have k' : ∀ s, Nw B s x (tagAt x.1 x.2.heap.size 0, w') := fun s => Nw.call hE 0
    exact ⟨css, h1, (k' 9).own h3 (by omega), fun i c r p q => ⟨(k' 9).ent (h4 i c r p q).1 (by omega), (h4 i c r p q).2.nw (k' 9) (by omega) (by omega)⟩⟩, h.props.nw k (by omega) (by omega), k.ent h.form (by omega)⟩
theorem ent_made {x : TW} {B : Nat} {w' : World} {v : Value} {n : Nat} {l : List Op2} (hB : B ≤ x.2.heap.size) (hE : Ext x.2 w') (ho : ∀ b, b < B → x.1 b ≠ 0) (hn : n = l.length) (h : w'.ownsRow x.2.heap.size 79 2 v n (l.flatMap opc)) : EntB B 0 (tagAt x.1 x.2.heap.size 0, w') fun y => Ops y v l := by
  subst hn
  exact ⟨(OwnT.fresh x.1 0 h).ent.mono fun y hy => hy.reads, fun b hb => by show tagAt x.1 x.2.heap.size 0 b ≠ 0; rw [tagAt_lt (by omega)]; exact ho b hb, Nat.le_trans hB hE.size⟩
set_option maxRecDepth 100000 in
set_option maxHeartbeats 4000000 in
theorem line_check (p B b off : Nat) (x : TW) (t : Rt) (L : List ByteArray) (vv rv pv fv : Value) (hM : PadM x p B t vv rv pv fv) (hB : B ≤ x.2.heap.size) (hold : ∀ b, b < B → x.1 b ≠ 0) (hg : Gl x.2) (hL : StrAt x.2 b off L) (hs : ∀ s ∈ L, s.size ≤ 1000000) (hn : L.length ≤ 1000000) (h0 : 0 < L.length)
    (hw : (L.getD 0 ByteArray.empty).data.toList = [99, 104, 101, 99, 107]) :
    Calls Tryz.prog 19 #[.pointer (some ⟨p, 0, none⟩), .slice (some ⟨b, off, none⟩) L.length L.length] x.2 fun e w' => e = .returned (.tuple #[]) ∧ LineP p B x.2 w' (lineR t L) := by
  have HLN := Lib.hid (show lineR t L = { t with form := termR t.vars (L.drop 1) } by unfold lineR; rw [hw]; rfl)
  have c0 := hL 0 h0
  rw [show L[0] = L.getD 0 ByteArray.empty by rw [List.getD_eq_getElem?_getD, List.getElem?_eq_getElem h0]; rfl, Nat.add_zero] at c0
  have hw2 : (L.getD 0 ByteArray.empty).toList = [99, 104, 101, 99, 107] := by rw [ByteArray.toList_eq]; exact hw
  have HTM := Lib.hid (show ∀ o, (L.length - 1 = 0 ∨ o = off + 1) → Calls Tryz.prog 34 #[.pointer (some ⟨p, 0, none⟩), .slice (some ⟨b, o, none⟩) (L.length - 1) (L.length - 1)] x.2 fun e w' => ∃ a k, e = .returned (.slice a (L.length - 1) k) ∧ w'.ownsRow x.2.heap.size 79 2 (.slice a (L.length - 1) k) (L.length - 1) ((termR t.vars (L.drop 1)).flatMap opc) ∧ Ext x.2 w' from fun o ho => by
    have hd : StrAt x.2 b o (L.drop 1) := by
      rcases ho with ho | rfl
      · intro i hi; simp at hi; omega
      · exact hL.drop 1
    have := term_any p vv t.vars (L.drop 1) b o (L.length - 1) x.2 (blk_cell hM.blk (i := 0) rfl) hM.vars.each hg hd (fun s h => hs s (List.mem_of_mem_drop h)) (by simp; omega)
    rw [List.length_drop] at this
    exact this)
  have HM := Lib.hid hM
  have HOL := Lib.hid hold
  have HB := Lib.hid hB
  have HTL := Lib.hid (show L.length - 1 = (termR t.vars (L.drop 1)).length by simp [termR])
  generalize L.getD 0 ByteArray.empty = s0 at *
  obtain ⟨n, hnn⟩ : ∃ n, L.length = n := ⟨_, rfl⟩
  rw [hnn] at HTM HTL hn h0 ⊢
  obtain ⟨m, rfl⟩ : ∃ m, n = m + 1 := ⟨n - 1, by omega⟩
  simp only [Nat.add_sub_cancel] at HTM HTL
  clear hw hM hold hB hg hL hs hnn
  obtain ⟨τ, w⟩ := x
  simp only at c0 HTM HM HB HOL ⊢
  go_enter Tryz.func19, Tryz.ntmps19
  have HFIN := Lib.hid fun (w2 : World) (v : Value) (hE : Ext w w2) (hen : EntB B 0 (tagAt τ w.heap.size 0, w2) fun y => Ops y v (termR t.vars (L.drop 1))) => (show PadF p B w (w2.setCell ⟨p, 3, none⟩ v) ∧ ∃ τ' vv' rv' pv' fv', (∀ b, b < B → τ' b ≠ 0) ∧ PadM (τ', w2.setCell ⟨p, 3, none⟩ v) p B (lineR t L) vv' rv' pv' fv' from by
    have hP2 := HM.out.call hE
    have hlow := hP2.low
    refine ⟨(PadF.ext hE (by have := HB.out; omega) HB.out).trans (PadF.set _), tagAt τ w.heap.size 0, vv, rv, pv, v, fun b hb => by rw [tagAt_lt (by have := HB.out; omega)]; exact HOL.out b hb, ?_⟩
    rw [HLN.out]
    have k9 : Nw B 9 (tagAt τ w.heap.size 0, w2) (tagAt τ w.heap.size 0, w2.setCell ⟨p, 3, none⟩ v) := Nw.store _ _ (p := ⟨p, 3, none⟩) hlow _
    exact ⟨hlow, blk_set (i := 3) hP2.blk _, hP2.vars.nw k9 (by decide) (by decide), hP2.rules.nw k9 (by decide) (by decide) (fun i _ => by omega), hP2.props.nw k9 (by decide) (by decide), k9.ent hen (by decide)⟩)
  rcases m with _ | m
  · have HT0 := Lib.hid (show Calls Tryz.prog 34 #[.pointer (some ⟨p, 0, none⟩), .slice (some ⟨b, off, none⟩) 0 0] w fun e w' => ∃ a k, e = .returned (.slice a 0 k) ∧ w'.ownsRow w.heap.size 79 2 (.slice a 0 k) 0 ((termR t.vars (L.drop 1)).flatMap opc) ∧ Ext w w' from HTM.out off (.inl rfl))
    clear HTM
    go_wp2_with fail
    refine HT0.out.mono ?_
    rintro e w2 ⟨a, k, rfl, ho, hE⟩
    have HF := Lib.hid (show LineP p B w _ (lineR t L) from HFIN.out w2 _ hE (ent_made (x := (τ, w)) HB.out hE HOL.out HTL.out ho))
    have hblk := (HM.out.call hE).blk
    have c3 := blk_cell hblk (i := 3) rfl
    have z3 := blk_free hblk 3
    clear ho hE c0 HT0 hblk
    go_wp2
    go_end0
    exact ⟨rfl, HF.out⟩
  · have HT0 := Lib.hid (show Calls Tryz.prog 34 #[.pointer (some ⟨p, 0, none⟩), .slice (some ⟨b, off + 1, none⟩) (m + 1) (m + 1)] w fun e w' => ∃ a k, e = .returned (.slice a (m + 1) k) ∧ w'.ownsRow w.heap.size 79 2 (.slice a (m + 1) k) (m + 1) ((termR t.vars (L.drop 1)).flatMap opc) ∧ Ext w w' from HTM.out (off + 1) (.inr rfl))
    clear HTM
    go_wp2_with fail
    refine HT0.out.mono ?_
    rintro e w2 ⟨a, k, rfl, ho, hE⟩
    have HF := Lib.hid (show LineP p B w _ (lineR t L) from HFIN.out w2 _ hE (ent_made (x := (τ, w)) HB.out hE HOL.out HTL.out ho))
    have hblk := (HM.out.call hE).blk
    have c3 := blk_cell hblk (i := 3) rfl
    have z3 := blk_free hblk 3
    clear ho hE c0 HT0 hblk
    go_wp2
    go_end0
    exact ⟨rfl, HF.out⟩
end Go.Proofs.YtfcaomejbcjfgaaGreatDoor

namespace Go.Proofs.YtfcaomejbcjfgaaGreatDoor
open Go Go.RowKit
theorem LineP.none {x : TW} {p B : Nat} {t : Rt} {vv rv pv fv : Value} (hM : PadM x p B t vv rv pv fv) (hold : ∀ b, b < B → x.1 b ≠ 0) : LineP p B x.2 x.2 t := ⟨PadF.refl _ _ _, x.1, vv, rv, pv, fv, hold, hM⟩
set_option maxRecDepth 100000 in
set_option maxHeartbeats 4000000 in
theorem line_none (p B b off : Nat) (x : TW) (t : Rt) (L : List ByteArray) (vv rv pv fv : Value) (hM : PadM x p B t vv rv pv fv) (hold : ∀ b, b < B → x.1 b ≠ 0) (hL : StrAt x.2 b off L) (hn : L.length ≤ 1000000) (h0 : 0 < L.length)
    (w1 : (L.getD 0 ByteArray.empty).data.toList ≠ [118, 97, 114]) (w2 : (L.getD 0 ByteArray.empty).data.toList ≠ [114, 117, 108, 101]) (w3 : (L.getD 0 ByteArray.empty).data.toList ≠ [115, 101, 116]) (w4 : (L.getD 0 ByteArray.empty).data.toList ≠ [112, 114, 111, 112]) (w5 : (L.getD 0 ByteArray.empty).data.toList ≠ [99, 104, 101, 99, 107]) :
    Calls Tryz.prog 19 #[.pointer (some ⟨p, 0, none⟩), .slice (some ⟨b, off, none⟩) L.length L.length] x.2 fun e w' => e = .returned (.tuple #[]) ∧ LineP p B x.2 w' (lineR t L) := by
  have HP := Lib.hid (show LineP p B x.2 x.2 (lineR t L) by unfold lineR; rw [if_neg w1, if_neg w2, if_neg w3, if_neg w4, if_neg w5]; exact LineP.none hM hold)
  have c0 := hL 0 h0
  rw [show L[0] = L.getD 0 ByteArray.empty by rw [List.getD_eq_getElem?_getD, List.getElem?_eq_getElem h0]; rfl, Nat.add_zero] at c0
  rw [← ByteArray.toList_eq] at w1 w2 w3 w4 w5
  generalize L.getD 0 ByteArray.empty = s0 at *
  have q1 : (s0.toList == [118, 97, 114]) = false := by rw [beq_eq_false_iff_ne]; exact w1
  have q2 : (s0.toList == [114, 117, 108, 101]) = false := by rw [beq_eq_false_iff_ne]; exact w2
  have q3 : (s0.toList == [115, 101, 116]) = false := by rw [beq_eq_false_iff_ne]; exact w3
  have q4 : (s0.toList == [112, 114, 111, 112]) = false := by rw [beq_eq_false_iff_ne]; exact w4
  have q5 : (s0.toList == [99, 104, 101, 99, 107]) = false := by rw [beq_eq_false_iff_ne]; exact w5
  obtain ⟨n, hnn⟩ : ∃ n, L.length = n := ⟨_, rfl⟩
  rw [hnn] at hn h0 ⊢
  obtain ⟨m, rfl⟩ : ∃ m, n = m + 1 := ⟨n - 1, by omega⟩
  generalize lineR t L = t2 at *
  clear w1 w2 w3 w4 w5 hM hold hL hnn
  obtain ⟨τ, w⟩ := x
  simp only at c0 HP ⊢
  go_enter Tryz.func19, Tryz.ntmps19
  go_wp2
  go_end0
  exact ⟨rfl, HP.out⟩
set_option maxRecDepth 100000 in
set_option maxHeartbeats 4000000 in
theorem line_set0 (p B b off : Nat) (x : TW) (t : Rt) (L : List ByteArray) (vv rv pv fv : Value) (hM : PadM x p B t vv rv pv fv) (hold : ∀ b, b < B → x.1 b ≠ 0) (hL : StrAt x.2 b off L) (hn : L.length ≤ 1000000) (h0 : 0 < L.length)
    (hw : (L.getD 0 ByteArray.empty).data.toList = [115, 101, 116]) (hz : L.length = 1 ∨ t.rules = []) :
    Calls Tryz.prog 19 #[.pointer (some ⟨p, 0, none⟩), .slice (some ⟨b, off, none⟩) L.length L.length] x.2 fun e w' => e = .returned (.tuple #[]) ∧ LineP p B x.2 w' (lineR t L) := by
  have HP := Lib.hid (show LineP p B x.2 x.2 (lineR t L) by
    have e : lineR t L = t := by
      unfold lineR
      rw [hw]
      rcases hz with hz | hz
      · simp [hz]
      · obtain ⟨vs, rs, ps, fm⟩ := t
        simp only at hz
        subst hz
        simp [lastM]
    rw [e]
    exact LineP.none hM hold)
  have c0 := hL 0 h0
  rw [show L[0] = L.getD 0 ByteArray.empty by rw [List.getD_eq_getElem?_getD, List.getElem?_eq_getElem h0]; rfl, Nat.add_zero] at c0
  have hw2 : (L.getD 0 ByteArray.empty).toList = [115, 101, 116] := by rw [ByteArray.toList_eq]; exact hw
  have c1 := blk_cell hM.blk (i := 1) rfl
  obtain ⟨ap, cp, hrv⟩ := EachL.val hM.rules.each
  subst hrv
  generalize L.getD 0 ByteArray.empty = s0 at *
  have hz2 : L.length = 1 ∨ t.rules.length = 0 := by rcases hz with hz | hz; exact .inl hz; exact .inr (by rw [hz]; rfl)
  obtain ⟨n, hnn⟩ : ∃ n, L.length = n := ⟨_, rfl⟩
  rw [hnn] at hn h0 hz2 ⊢
  obtain ⟨m, rfl⟩ : ∃ m, n = m + 1 := ⟨n - 1, by omega⟩
  generalize lineR t L = t2 at *
  obtain ⟨r, hr⟩ : ∃ r, t.rules.length = r := ⟨_, rfl⟩
  rw [hr] at c1 hz2
  clear hw hM hold hL hnn hr hz
  obtain ⟨τ, w⟩ := x
  simp only at c0 c1 HP ⊢
  rcases m with _ | m
  · go_enter Tryz.func19, Tryz.ntmps19
    go_wp2
    go_end0
    exact ⟨rfl, HP.out⟩
  · obtain rfl : r = 0 := by omega
    have y1 : (1 : Int) < (m : Int) + 1 + 1 := by omega
    clear hz2
    go_enter Tryz.func19, Tryz.ntmps19
    go_wp2
    go_end0
    exact ⟨rfl, HP.out⟩
end Go.Proofs.YtfcaomejbcjfgaaGreatDoor

namespace Go.Proofs.YtfcaomejbcjfgaaGreatDoor
open Go Go.RowKit
theorem own_set2 {w : World} {base : Nat} {e : TypeId} {H n cap i sz : Nat} {xs : List Value} (h : w.ownsRow base e sz (.slice (some ⟨H, 0, none⟩) n cap) n xs) (u : Value) : (w.setCell ⟨H, i, none⟩ u).ownsRow base e sz (.slice (some ⟨H, 0, none⟩) n cap) n (xs.set i u) := by
  refine ⟨by simpa using h.1, ?_⟩
  rcases h.2 with ⟨h1, _⟩ | ⟨g, c, cur, h1, h2, h3, h4, h5, h6, h7⟩
  · cases h1
  · have h1' := h1
    simp only [Value.slice.injEq, Option.some.injEq, Addr.mk.injEq] at h1'
    obtain ⟨⟨rfl, _, _⟩, _, rfl⟩ := h1'
    exact .inr ⟨_, _, cur.setIfInBounds i u, rfl, h2, blk_set h3 u, h4, h5, by simpa using h6, by rw [Array.toList_setIfInBounds, List.take_set, h7]⟩
theorem own_blk {w : World} {base : Nat} {e : TypeId} {n sz : Nat} {v : Value} {xs : List Value} (h : w.ownsRow base e sz v n xs) (hn : 0 < n) : ∃ H cap, ∃ cur : Array Value, v = .slice (some ⟨H, 0, none⟩) n cap ∧ base ≤ H ∧ w.heap[H]? = some (.cells cur e (0, 0)) ∧ cur.toList.take (n * sz) = xs := by
  rcases h.2 with ⟨_, h2, _⟩ | ⟨g, c, cur, h1, h2, h3, h4, h5, h6, h7⟩
  · omega
  · exact ⟨g, c, cur, h1, h2, h3, h7⟩
theorem flat2_len (l : List (Value × Value)) : (l.flatMap fun c => [c.1, c.2]).length = 2 * l.length := by
  induction l with
  | nil => rfl
  | cons c l ih => simp only [List.flatMap_cons, List.length_append, List.length_cons, List.length_nil, ih]; omega
theorem PadM.last {τ : Nat → Nat} {w : World} {p B : Nat} {t : Rt} {vv rv pv fv : Value} {rs : List Rr} {r : Rr} (h : PadM (τ, w) p B t vv rv pv fv) (hB : B ≤ w.heap.size) (hr : t.rules = rs ++ [r]) :
    ∃ H cap sa cs dss, rv = .slice (some ⟨H, 0, none⟩) (rs.length + 1) cap ∧ B ≤ H ∧ (∃ cur : Array Value, w.heap[H]? = some (.cells cur 46 (0, 0)) ∧ cur[2 * rs.length + 1]? = some (.slice sa r.sets.length cs)) ∧
      w.ownsRow B 49 2 (.slice sa r.sets.length cs) r.sets.length dss ∧ (∀ b, (Value.slice sa r.sets.length cs).ownBlock = some b → b ≠ H) ∧
      ∀ (w2 w3 w4 : World) (v q : Value) (i : Int) (l : List Op2), Ext w w2 → EntB B 0 (tagAt τ w.heap.size 0, w2) (fun y => Ops y v l) → Ext w2 w3 →
        w4.ownsRow B 49 2 q (r.sets.length + 1) (dss ++ [.int .i64 i, v]) → w3.grownBy w4 (Value.slice sa r.sets.length cs).ownBlock → (q.ownBlock = (Value.slice sa r.sets.length cs).ownBlock ∨ q.ownBlock = some w3.heap.size) →
        LineP p B w (w4.setCell ⟨H, 2 * rs.length + 1, none⟩ q) { t with rules := rs ++ [{ r with sets := r.sets ++ [(i, l)] }] } := by
  obtain ⟨css, s1, s3, s4⟩ := h.rules
  have hlen : t.rules.length = rs.length + 1 := by rw [hr]; simp
  obtain ⟨css0, c, rfl⟩ : ∃ css0 c, css = css0 ++ [c] := by
    have : css ≠ [] := fun e => by rw [e] at s1; simp at s1; omega
    exact ⟨css.dropLast, css.getLast this, (List.dropLast_concat_getLast this).symm⟩
  have hl0 : css0.length = rs.length := by simp at s1; omega
  rw [hlen] at s3
  obtain ⟨H, cap, cur, hrv, hBH, hcur, htk⟩ := own_blk s3.own (by omega)
  subst hrv
  have hfl : (css0.flatMap fun c => [c.1, c.2]).length = 2 * rs.length := by
    rw [flat2_len]; omega
  have hcc : cur[2 * rs.length + 1]? = some c.2 := by
    have h1 : (cur.toList.take ((rs.length + 1) * 2))[2 * rs.length + 1]? = some c.2 := by
      rw [htk, List.flatMap_append, List.getElem?_append_right (by omega), hfl]
      simp
    rw [List.getElem?_take_of_lt (by omega)] at h1
    simpa using h1
  have hlast : t.rules[rs.length]? = some r := by rw [hr]; simp
  obtain ⟨hgd, dss, d1, d2, d3, d4⟩ := s4 rs.length c r (by rw [List.getElem?_append_right (by omega), hl0]; simp) hlast
  obtain ⟨sa, cs, hcv, _⟩ := d3.own.row
  rw [hcv] at d3 hcc
  have htH : τ H = 2 := s3.tag H rfl
  refine ⟨H, cap, sa, cs, dss.flatten, rfl, hBH, ⟨cur, hcur, hcc⟩, d3.own, ?_, ?_⟩
  · intro b hb e
    have : τ b = 10 + rs.length := d3.tag b hb
    rw [e, htH] at this
    omega
  intro w2 w3 w4 v q i l hE hen hE3 hown hg hb
  have hP2 := h.call hE
  have k2 : ∀ s, Nw B s (τ, w) (tagAt τ w.heap.size 0, w2) := fun s => Nw.call hE 0
  have o2 := (k2 9).own s3 (by decide)
  have p2 := (k2 1).own d3 (by omega)
  have q2 := fun i cs a p q => (k2 9).ent (d4 i cs a p q) (by decide)
  have e2 := fun i c r p q => (k2 9).ent (s4 i c r p q).1 (by decide)
  have f2 := fun i c r p q => (s4 i c r p q).2.nw (k2 9) (by omega) (by decide)
  have g2 := (k2 9).ent hgd (by decide)
  have hl2 : B ≤ w2.heap.size := Nat.le_trans hB hE.size
  generalize tagAt τ w.heap.size 0 = τ2 at *
  have hP3 := hP2.call hE3
  have k3 : ∀ s, Nw B s (τ2, w2) (tagAt τ2 w2.heap.size 0, w3) := fun s => Nw.call hE3 0
  have o3 := (k3 9).own o2 (by decide)
  have p3 := (k3 1).own p2 (by omega)
  have q3 := fun i cs a p q => (k3 9).ent (q2 i cs a p q) (by decide)
  have e3 := fun i c r p q => (k3 9).ent (e2 i c r p q) (by decide)
  have f3 := fun i c r p q => (f2 i c r p q).nw (k3 9) (by omega) (by decide)
  have g3 := (k3 9).ent g2 (by decide)
  have n3 := (k3 9).ent hen (by decide)
  have hl3 : B ≤ w3.heap.size := Nat.le_trans hl2 hE3.size
  generalize tagAt τ2 w2.heap.size 0 = τ3 at *
  have k4 : Nw B (10 + rs.length) (τ3, w3) (tagAt τ3 w3.heap.size (10 + rs.length), w4) := Nw.app p3 hg
  have p4 := p3.app hown hb
  have o4 := k4.own o3 (by omega)
  have hrB : ∀ b, (Value.slice sa r.sets.length cs).ownBlock = some b → B ≤ b := fun b hb => (p3.own.lt b hb).1
  have hblk4 : w4.heap[p]? = some (.cells #[vv, .slice (some ⟨H, 0, none⟩) (rs.length + 1) cap, pv, fv] 70 (0, 0)) := blk_grown hP3.blk hg (fun e => by have := hrB p e.symm; have := h.low; omega)
  generalize tagAt τ3 w3.heap.size (10 + rs.length) = τ4 at *
  have ht4 : τ4 H = 2 := o4.tag H rfl
  have hH4 : H < w4.heap.size := (o4.own.lt H rfl).2
  have k5 : Nw B 2 (τ4, w4) (τ4, w4.setCell ⟨H, 2 * rs.length + 1, none⟩ q) :=
    ⟨by simp, fun _ _ => rfl, fun b _ _ hb => Below.heap_setCell _ _ _ _ (fun e => hb (by rw [e]; exact ht4))⟩
  have hHp : H ≠ p := by have := h.low; omega
  have hPS : PadF p B w4 (w4.setCell ⟨H, 2 * rs.length + 1, none⟩ q) := ⟨(Below.refl p w4).setCell (p := ⟨H, 2 * rs.length + 1, none⟩) (by have := h.low; show p ≤ H; omega) _, by simp, fun k _ hk => Below.heap_setCell _ _ _ _ (by show k ≠ H; omega)⟩
  have n5 := k5.ent (k4.ent n3 (by omega)) (by decide)
  refine ⟨(((PadF.ext hE (by have := h.low; omega) hB).trans (PadF.ext hE3 (by have := h.low; omega) hl2)).trans (PadF.grown hg hrB h.low hl3)).trans hPS, τ4, vv, .slice (some ⟨H, 0, none⟩) (rs.length + 1) cap, pv, fv, n5.old, h.low, blk_far hblk4 (by show H ≠ p; exact hHp) _, (hP3.vars.nw k4 (by omega) (by omega)).nw k5 (by decide) (by decide),
    ?_, (hP3.props.nw k4 (by omega) (by omega)).nw k5 (by decide) (by decide), k5.ent (k4.ent hP3.form (by omega)) (by decide)⟩
  refine ⟨css0 ++ [(c.1, q)], by simp [hl0], ?_, ?_⟩
  · have := own_set2 (i := 2 * rs.length + 1) o4.own q
    refine ⟨?_, o4.tag⟩
    have e1 : ((css0 ++ [c]).flatMap fun c => [c.1, c.2]).set (2 * rs.length + 1) q = (css0 ++ [(c.1, q)]).flatMap fun c => [c.1, c.2] := by
      rw [List.flatMap_append, List.flatMap_append, List.set_append_right _ _ (by omega), hfl]
      simp
    rw [e1] at this
    simpa using this
  · intro j c' r' hc' hr'
    by_cases hj : j < rs.length
    · have hc0 : (css0 ++ [c])[j]? = some c' := by
        rw [List.getElem?_append_left (by omega)] at hc' ⊢; exact hc'
      have hr0 : t.rules[j]? = some r' := by
        rw [hr]
        rw [List.getElem?_append_left (by omega)] at hr' ⊢; exact hr'
      exact ⟨k5.ent (k4.ent (e3 j c' r' hc0 hr0) (by omega)) (by decide), ((f3 j c' r' hc0 hr0).nw k4 (by omega) (by omega)).nw k5 (by omega) (by decide)⟩
    · rw [List.getElem?_append_right (by omega)] at hc' hr'
      have e0 : j - rs.length = 0 := by have := (List.getElem?_eq_some_iff.1 hr').1; simp at this; omega
      rw [hl0, e0] at hc'
      rw [e0] at hr'
      simp at hc' hr'
      subst hc'; subst hr'
      have ej : j = rs.length := by omega
      subst ej
      refine ⟨k5.ent (k4.ent g3 (by omega)) (by decide), ?_⟩
      refine EachO.snoc (css := dss) (cs := [.int .i64 i, v]) (by simpa using d1) d2 ?_ ?_ rfl ?_
      · exact k5.own p4 (by omega)
      · intro j cs a hc ha
        exact k5.ent (k4.ent (q3 j cs a hc ha) (by omega)) (by decide)
      · exact ⟨n5.ent.mono fun y hy => ⟨v, rfl, hy⟩, n5.old, n5.size⟩
end Go.Proofs.YtfcaomejbcjfgaaGreatDoor
