/- Several texts in one: MdP; ShP; MdM; ShA; ShB; MdG; MdH. No condition. -/
import Derived.Test.YtfcaomejbcjfgaaGreatDoorKx13
import Derived.Lib.ItoaNum
import Derived.Lib.AtoiAll
import Derived.Test.YtfcaomejbcjfgaaGreatDoorKx11
import Derived.Test.YtfcaomejbcjfgaaGreatDoorKx2
import Derived.Test.YtfcaomejbcjfgaaGreatDoorKx1
import Derived.WalkSmall
import Derived.Lib.ConvBytes
import Derived.Lib.AtoiErrMem
import Derived.Deep.LoopGhost
import Derived.Deep.Cut
namespace Go.Proofs.YtfcaomejbcjfgaaGreatDoor
structure Vr where
  name : ByteArray
  low : Int
  high : Int
  init : Int
def Vr.span (v : Vr) : Int := v.high - v.low + 1
structure Rl where
  guard : Tm
  sets : List (Int × Tm)
structure Md where
  vars : List Vr
  rules : List Rl
structure NameOk (s : ByteArray) : Prop where
  pos : 0 < s.size
  le : s.size ≤ 8
  yes : s.toList ≠ [121, 101, 115]
  no : s.toList ≠ [110, 111]
  ch : ∀ i (h : i < s.size), (97 ≤ s[i].toNat ∧ s[i].toNat ≤ 122) ∨ (48 ≤ s[i].toNat ∧ s[i].toNat ≤ 57 ∧ i ≠ 0)
structure Vr.Ok (v : Vr) : Prop where
  name : NameOk v.name
  low : -1000 ≤ v.low
  high : v.high ≤ 1000
  i0 : v.low ≤ v.init
  i1 : v.init ≤ v.high
  sp : v.high - v.low < 64
theorem Vr.Ok.span {v : Vr} (h : v.Ok) : 1 ≤ v.span ∧ v.span ≤ 64 := by
  have := h.i0; have := h.i1; have := h.sp
  unfold Vr.span; omega
def countL : List Vr → Int
  | [] => 1
  | v :: l => v.span * countL l
structure RlPre (n : Int) (r : Rl) : Prop where
  many : r.sets.length ≤ 6
  guard : Sub r.guard n
  gsize : r.guard.size ≤ 60
  sets : ∀ s ∈ r.sets, 0 ≤ s.1 ∧ s.1 < n ∧ Sub s.2 n ∧ s.2.size ≤ 60 ∧ mkK s.2.kind = false
structure Md.Pre (m : Md) : Prop where
  six : m.vars.length ≤ 6
  vars : ∀ v ∈ m.vars, v.Ok
  count : countL m.vars ≤ 4096
  twelve : m.rules.length ≤ 12
  rules : ∀ r ∈ m.rules, RlPre m.vars.length r
def ruleE (r : Rl) : Int := if mkK r.guard.kind = true then (if (r.sets.map (·.1)).Nodup then 0 else 7) else 5
def rulesE : List Rl → Int
  | [] => 0
  | r :: l => if ruleE r = 0 then rulesE l else ruleE r
def modelE (m : Md) : Int := if (m.vars.map (·.name)).Nodup then rulesE m.rules else 7
structure Md.Ok (m : Md) : Prop extends m.Pre where
  names : (m.vars.map (·.name)).Nodup
  kinds : ∀ r ∈ m.rules, mkK r.guard.kind = true ∧ (r.sets.map (·.1)).Nodup
theorem rulesE_ok : ∀ {l : List Rl}, (∀ r ∈ l, ruleE r = 0) → rulesE l = 0
  | [], _ => rfl
  | r :: l, h => by
    unfold rulesE
    rw [if_pos (h r (by simp))]
    exact rulesE_ok fun x hx => h x (by simp [hx])
theorem Md.Ok.e {m : Md} (h : m.Ok) : modelE m = 0 := by
  unfold modelE
  rw [if_pos h.names]
  refine rulesE_ok fun r hr => ?_
  obtain ⟨h1, h2⟩ := h.kinds r hr
  unfold ruleE
  rw [if_pos h1, if_pos h2]
def codeL : List Vr → List Int → Int → Int
  | v :: l, x :: xs, n => codeL l xs (n * v.span + x - v.low)
  | _, _, n => n
end Go.Proofs.YtfcaomejbcjfgaaGreatDoor

namespace Go.Proofs.YtfcaomejbcjfgaaGreatDoor
structure Rr where
  guard : List Op2
  sets : List (Int × List Op2)
structure Rt where
  vars : List Vr
  rules : List Rr
  props : List (List Op2)
  form : List Op2
def marksL : List (List UInt8) := [[], [], [], [43], [45], [42], [61], [60], [38], [124], [33], [121, 101, 115], [110, 111], [], [88], [85], [82], [70], [71]]
def nameL (vs : List Vr) (i : Int) : List UInt8 := (vs.getD i.toNat ⟨ByteArray.empty, 0, 0, 0⟩).name.data.toList
def wordO (vs : List Vr) (o : Op2) : List UInt8 :=
  if o.1 = 1 then Lib.itoa o.2 else if o.1 = 2 then nameL vs o.2 else if o.1 = 13 then 80 :: Lib.itoa o.2 else marksL.getD o.1.toNat []
def opsL (vs : List Vr) (l : List Op2) : List UInt8 := l.flatMap fun o => 32 :: wordO vs o
def wordsL (vs : List Vr) (l : List Op2) : List UInt8 := opsL vs l ++ [10]
def varL (v : Vr) : List UInt8 := [118, 97, 114, 32] ++ v.name.data.toList ++ (32 :: Lib.itoa v.low) ++ (32 :: Lib.itoa v.high) ++ (32 :: Lib.itoa v.init) ++ [10]
def setTx (vs : List Vr) (s : Int × List Op2) : List UInt8 := [115, 101, 116, 32] ++ nameL vs s.1 ++ wordsL vs s.2
def ruleL (vs : List Vr) (r : Rr) : List UInt8 := [114, 117, 108, 101] ++ wordsL vs r.guard ++ r.sets.flatMap (setTx vs)
def propL (vs : List Vr) (p : List Op2) : List UInt8 := [112, 114, 111, 112] ++ wordsL vs p
def checkT (vs : List Vr) (f : List Op2) : List UInt8 := [99, 104, 101, 99, 107] ++ wordsL vs f
def showL (t : Rt) : List UInt8 := t.vars.flatMap varL ++ t.rules.flatMap (ruleL t.vars) ++ t.props.flatMap (propL t.vars) ++ checkT t.vars t.form
theorem decDigits_len (n : Nat) : n < 10 ^ 20 → (Lib.decDigits n).length ≤ 20 := by
  have key : ∀ k m, m < 10 ^ (k + 1) → (Lib.decDigits m).length ≤ k + 1 := by
    intro k
    induction k with
    | zero =>
      intro m hm
      have h : m < 10 := by simpa using hm
      rw [Lib.decDigits, dif_pos h]; simp
    | succ k ih =>
      intro m hm
      rw [Lib.decDigits]
      split
      · simp
      · have := ih (m / 10) (by rw [Nat.div_lt_iff_lt_mul (by omega), ← Nat.pow_succ]; exact hm)
        simp; omega
  exact key 19 n
theorem itoa_len {n : Int} (h : I64 n) : (Lib.itoa n).length ≤ 21 := by
  obtain ⟨h1, h2⟩ := h
  unfold Lib.itoa
  split
  · have := decDigits_len n.natAbs (by omega)
    simp; omega
  · have := decDigits_len n.toNat (by omega)
    omega
theorem marks_len (k : Nat) : (marksL.getD k []).length ≤ 3 := by
  by_cases h : k < 19
  · have : ∀ j, j < 19 → (marksL.getD j []).length ≤ 3 := by decide
    exact this k h
  · rw [List.getD_eq_getElem?_getD, List.getElem?_eq_none (by simp [marksL]; omega)]; simp
structure OpFit (n : Nat) (o : Op2) : Prop where
  k0 : 0 ≤ o.1
  k18 : o.1 ≤ 18
  v : I64 o.2
  var : o.1 = 2 → 0 ≤ o.2 ∧ o.2 < n
structure VrFit (v : Vr) : Prop where
  name : v.name.size ≤ 8
  low : I64 v.low
  high : I64 v.high
  init : I64 v.init
theorem nameL_len {vs : List Vr} (h : ∀ v ∈ vs, VrFit v) (i : Int) : (nameL vs i).length ≤ 8 := by
  unfold nameL
  by_cases hi : i.toNat < vs.length
  · rw [List.getD_eq_getElem?_getD, List.getElem?_eq_getElem hi]
    exact (h _ (List.getElem_mem hi)).name
  · rw [List.getD_eq_getElem?_getD, List.getElem?_eq_none (by omega)]; simp
theorem wordO_len {vs : List Vr} (h : ∀ v ∈ vs, VrFit v) {o : Op2} (ho : OpFit vs.length o) : (wordO vs o).length ≤ 22 := by
  have h1 := itoa_len ho.v
  have h2 := nameL_len h o.2
  have h3 := marks_len o.1.toNat
  unfold wordO
  split
  · omega
  · split
    · omega
    · split
      · simp; omega
      · omega
theorem opsL_len {vs : List Vr} (h : ∀ v ∈ vs, VrFit v) : ∀ {l : List Op2}, (∀ o ∈ l, OpFit vs.length o) → (opsL vs l).length ≤ 23 * l.length
  | [], _ => by simp [opsL]
  | o :: l, hl => by
    have h1 := wordO_len h (hl o (by simp))
    have h2 := opsL_len h (l := l) fun x hx => hl x (by simp [hx])
    simp only [opsL, List.flatMap_cons, List.length_append, List.length_cons] at h2 ⊢
    omega
theorem opsL_take (vs : List Vr) (l : List Op2) {i : Nat} (h : i < l.length) : opsL vs (l.take (i + 1)) = opsL vs (l.take i) ++ (32 :: wordO vs l[i]) := by
  unfold opsL
  rw [List.take_succ_eq_append_getElem h, List.flatMap_append]
  simp
end Go.Proofs.YtfcaomejbcjfgaaGreatDoor

namespace Go.Proofs.YtfcaomejbcjfgaaGreatDoor
open Go.RowKit
def EachL {α : Type} (sz : Nat) (E : World → α → List Value → Prop) (w : World) (v : Value) (l : List α) : Prop :=
  ∃ css : List (List Value), css.length = l.length ∧ (∀ cs ∈ css, cs.length = sz) ∧ Reads w sz v l.length css.flatten ∧ ∀ (i : Nat) (cs : List Value) (x : α), css[i]? = some cs → l[i]? = some x → E w x cs
theorem EachL.ext {α : Type} {sz : Nat} {E : World → α → List Value → Prop} {w w' : World} {v : Value} {l : List α} (hE : ∀ x cs, E w x cs → E w' x cs) (h : EachL sz E w v l) (hb : Ext w w') : EachL sz E w' v l := by
  obtain ⟨css, h1, h2, h3, h4⟩ := h
  exact ⟨css, h1, h2, h3.ext hb, fun i cs x a b => hE x cs (h4 i cs x a b)⟩
theorem flatten_at {sz : Nat} : ∀ {css : List (List Value)}, (∀ cs ∈ css, cs.length = sz) → ∀ {i j : Nat} {cs : List Value}, css[i]? = some cs → j < sz → css.flatten[i * sz + j]? = cs[j]?
  | [], _, i, j, cs, h, _ => by simp at h
  | c :: css, hl, 0, j, cs, h, hj => by
    simp at h
    subst h
    have := hl c (by simp)
    rw [List.flatten_cons, Nat.zero_mul, Nat.zero_add, List.getElem?_append_left (by omega)]
  | c :: css, hl, i + 1, j, cs, h, hj => by
    have hc := hl c (by simp)
    rw [List.flatten_cons, List.getElem?_append_right (by rw [hc, Nat.add_mul]; omega), hc, show (i + 1) * sz + j - sz = i * sz + j by rw [Nat.add_mul]; omega]
    exact flatten_at (fun x hx => hl x (by simp [hx])) (by simpa using h) hj
theorem EachL.at {α : Type} {sz : Nat} {E : World → α → List Value → Prop} {w : World} {v : Value} {l : List α} (h : EachL sz E w v l) (hsz : 0 < sz) :
    ∃ a c, v = .slice a l.length c ∧ l.length ≤ maxLen ∧ ∃ b off, (0 < l.length → a = some ⟨b, off, none⟩) ∧ ∀ (i : Nat) (hi : i < l.length), ∃ cs, cs.length = sz ∧ E w l[i] cs ∧ ∀ j u, cs[j]? = some u → w.cell? ⟨b, off + i * sz + j, none⟩ = some u := by
  obtain ⟨css, h1, h2, ⟨a, c, rfl, hr⟩, h4⟩ := h
  obtain ⟨b, off, _, g2, g3⟩ := hr.lie
  refine ⟨a, c, rfl, Nat.le_trans hr.le hr.max, b, off, fun hl => g2 ?_, fun i hi => ?_⟩
  · rw [hr.len]; exact Nat.mul_pos hl hsz
  · have hc : css[i]? = some css[i] := List.getElem?_eq_getElem (by omega)
    have hl := h2 css[i] (by simp)
    refine ⟨css[i], hl, h4 i _ _ hc (List.getElem?_eq_getElem hi), fun j u hu => ?_⟩
    have hj : j < sz := by have := (List.getElem?_eq_some_iff.1 hu).1; omega
    rw [Nat.add_assoc]
    exact g3 _ u ((flatten_at h2 hc hj).trans hu)
theorem EachL.val {α : Type} {sz : Nat} {E : World → α → List Value → Prop} {w : World} {v : Value} {l : List α} (h : EachL sz E w v l) : ∃ a c, v = .slice a l.length c := by
  obtain ⟨css, h1, h2, ⟨a, c, rfl, hr⟩, h4⟩ := h
  exact ⟨a, c, rfl⟩
theorem EachL.nil {α : Type} (sz : Nat) (E : World → α → List Value → Prop) (w : World) : EachL sz E w (.slice none 0 0) ([] : List α) :=
  ⟨[], rfl, by simp, Reads.nil w sz, by simp⟩
theorem EachL.snoc {α : Type} {sz : Nat} {E : World → α → List Value → Prop} {w' : World} {v' : Value} {l : List α} {x : α} {css : List (List Value)} {cs : List Value} (h1 : css.length = l.length) (h2 : ∀ cs ∈ css, cs.length = sz) (hE : ∀ (i : Nat) (cs : List Value) (x : α), css[i]? = some cs → l[i]? = some x → E w' x cs)
    (hr : Reads w' sz v' (l.length + 1) (css.flatten ++ cs)) (hcs : cs.length = sz) (hx : E w' x cs) : EachL sz E w' v' (l ++ [x]) := by
  refine ⟨css ++ [cs], by simp [h1], ?_, by simpa using hr, ?_⟩
  · intro c hc
    rcases List.mem_append.1 hc with hc | hc
    · exact h2 c hc
    · simp at hc; subst hc; exact hcs
  · intro i c y hc hy
    by_cases hi : i < l.length
    · rw [List.getElem?_append_left (by omega)] at hc hy
      exact hE i c y hc hy
    · rw [List.getElem?_append_right (by omega)] at hc hy
      have e0 : i - l.length = 0 := by have := (List.getElem?_eq_some_iff.1 hy).1; simp at this; omega
      rw [h1, e0] at hc
      rw [e0] at hy
      simp at hc hy
      subst hc; subst hy; exact hx
def vrc (v : Vr) : List Value := [.string v.name, .int .i64 v.low, .int .i64 v.high, .int .i64 v.init]
def VarE : World → Vr → List Value → Prop := fun _ v cs => cs = vrc v
def IsVars (w : World) (v : Value) (l : List Vr) : Prop := EachL 4 VarE w v l
theorem IsVars.ext {w w' : World} {v : Value} {l : List Vr} (h : IsVars w v l) (hb : Ext w w') : IsVars w' v l := EachL.ext (E := VarE) (w := w) (w' := w') (fun _ _ h => h) h hb
def SetE : World → Int × Tm → List Value → Prop := fun w s cs => ∃ v, cs = [.int .i64 s.1, v] ∧ IsT w v s.2
def IsSets (w : World) (v : Value) (l : List (Int × Tm)) : Prop := EachL 2 SetE w v l
theorem SetE.ext {w w' : World} {s : Int × Tm} {cs : List Value} (h : SetE w s cs) (hb : Ext w w') : SetE w' s cs := by
  obtain ⟨v, h1, h2⟩ := h
  exact ⟨v, h1, h2.ext hb⟩
theorem IsSets.ext {w w' : World} {v : Value} {l : List (Int × Tm)} (h : IsSets w v l) (hb : Ext w w') : IsSets w' v l := EachL.ext (E := SetE) (w := w) (w' := w') (fun _ _ h => h.ext hb) h hb
def RuleE : World → Rl → List Value → Prop := fun w r cs => ∃ g s, cs = [g, s] ∧ IsT w g r.guard ∧ IsSets w s r.sets
theorem RuleE.ext {w w' : World} {r : Rl} {cs : List Value} (h : RuleE w r cs) (hb : Ext w w') : RuleE w' r cs := by
  obtain ⟨g, s, h1, h2, h3⟩ := h
  exact ⟨g, s, h1, h2.ext hb, h3.ext hb⟩
def IsRules (w : World) (v : Value) (l : List Rl) : Prop := EachL 2 RuleE w v l
theorem IsRules.ext {w w' : World} {v : Value} {l : List Rl} (h : IsRules w v l) (hb : Ext w w') : IsRules w' v l := EachL.ext (E := RuleE) (w := w) (w' := w') (fun _ _ h => h.ext hb) h hb
def TmE : World → Tm → List Value → Prop := fun w t cs => ∃ v, cs = [v] ∧ IsT w v t
theorem TmE.ext {w w' : World} {t : Tm} {cs : List Value} (h : TmE w t cs) (hb : Ext w w') : TmE w' t cs := by
  obtain ⟨v, h1, h2⟩ := h
  exact ⟨v, h1, h2.ext hb⟩
def IsTms (w : World) (v : Value) (l : List Tm) : Prop := EachL 1 TmE w v l
theorem IsTms.ext {w w' : World} {v : Value} {l : List Tm} (h : IsTms w v l) (hb : Ext w w') : IsTms w' v l := EachL.ext (E := TmE) (w := w) (w' := w') (fun _ _ h => h.ext hb) h hb
structure IsMd (w : World) (vv rv : Value) (m : Md) : Prop where
  vars : IsVars w vv m.vars
  rules : IsRules w rv m.rules
theorem IsMd.ext {w w' : World} {vv rv : Value} {m : Md} (h : IsMd w vv rv m) (hb : Ext w w') : IsMd w' vv rv m := ⟨h.vars.ext hb, h.rules.ext hb⟩
theorem IsVars.at {w : World} {v : Value} {l : List Vr} (h : IsVars w v l) : ∃ a c, v = .slice a l.length c ∧ l.length ≤ maxLen ∧ ∃ b off, (0 < l.length → a = some ⟨b, off, none⟩) ∧ ∀ (i : Nat) (hi : i < l.length),
    w.cell? ⟨b, off + i * 4, none⟩ = some (.string l[i].name) ∧ w.cell? ⟨b, off + i * 4 + 1, none⟩ = some (.int .i64 l[i].low) ∧ w.cell? ⟨b, off + i * 4 + 2, none⟩ = some (.int .i64 l[i].high) ∧ w.cell? ⟨b, off + i * 4 + 3, none⟩ = some (.int .i64 l[i].init) := by
  obtain ⟨a, c, h1, h2, b, off, h3, h4⟩ := EachL.at h (by omega)
  refine ⟨a, c, h1, h2, b, off, h3, fun i hi => ?_⟩
  obtain ⟨cs, _, rfl, hc⟩ := h4 i hi
  exact ⟨hc 0 _ rfl, hc 1 _ rfl, hc 2 _ rfl, hc 3 _ rfl⟩
theorem IsSets.at {w : World} {v : Value} {l : List (Int × Tm)} (h : IsSets w v l) : ∃ a c, v = .slice a l.length c ∧ l.length ≤ maxLen ∧ ∃ b off, (0 < l.length → a = some ⟨b, off, none⟩) ∧ ∀ (i : Nat) (hi : i < l.length),
    ∃ u, w.cell? ⟨b, off + i * 2, none⟩ = some (.int .i64 l[i].1) ∧ w.cell? ⟨b, off + i * 2 + 1, none⟩ = some u ∧ IsT w u l[i].2 := by
  obtain ⟨a, c, h1, h2, b, off, h3, h4⟩ := EachL.at h (by omega)
  refine ⟨a, c, h1, h2, b, off, h3, fun i hi => ?_⟩
  obtain ⟨cs, _, ⟨u, rfl, hu⟩, hc⟩ := h4 i hi
  exact ⟨u, hc 0 _ rfl, hc 1 _ rfl, hu⟩
theorem IsRules.at {w : World} {v : Value} {l : List Rl} (h : IsRules w v l) : ∃ a c, v = .slice a l.length c ∧ l.length ≤ maxLen ∧ ∃ b off, (0 < l.length → a = some ⟨b, off, none⟩) ∧ ∀ (i : Nat) (hi : i < l.length),
    ∃ g s, w.cell? ⟨b, off + i * 2, none⟩ = some g ∧ w.cell? ⟨b, off + i * 2 + 1, none⟩ = some s ∧ IsT w g l[i].guard ∧ IsSets w s l[i].sets := by
  obtain ⟨a, c, h1, h2, b, off, h3, h4⟩ := EachL.at h (by omega)
  refine ⟨a, c, h1, h2, b, off, h3, fun i hi => ?_⟩
  obtain ⟨cs, _, ⟨g, s, rfl, hg, hs⟩, hc⟩ := h4 i hi
  exact ⟨g, s, hc 0 _ rfl, hc 1 _ rfl, hg, hs⟩
theorem IsTms.at {w : World} {v : Value} {l : List Tm} (h : IsTms w v l) : ∃ a c, v = .slice a l.length c ∧ l.length ≤ maxLen ∧ ∃ b off, (0 < l.length → a = some ⟨b, off, none⟩) ∧ ∀ (i : Nat) (hi : i < l.length),
    ∃ u, w.cell? ⟨b, off + i, none⟩ = some u ∧ IsT w u l[i] := by
  obtain ⟨a, c, h1, h2, b, off, h3, h4⟩ := EachL.at h (by omega)
  refine ⟨a, c, h1, h2, b, off, h3, fun i hi => ?_⟩
  obtain ⟨cs, _, ⟨u, rfl, hu⟩, hc⟩ := h4 i hi
  have := hc 0 _ rfl
  rw [Nat.mul_one, Nat.add_zero] at this
  exact ⟨u, this, hu⟩
end Go.Proofs.YtfcaomejbcjfgaaGreatDoor

namespace Go.Proofs.YtfcaomejbcjfgaaGreatDoor
open Go Go.RowKit
structure Gl (w : World) : Prop where
  tab : Tab w
  marks : ∀ k : Nat, k < 19 → w.cell? ⟨0, k, none⟩ = some (.string ⟨(marksL.getD k []).toArray⟩)
  pow : Lib.TabIs Tryz.prog w "internal/strconv.uint64pow10" .u64 Lib.pow10Tab
  max : ∃ m : Int, w.cell? ⟨2, 0, none⟩ = some (.int .i64 m)
  syn : ∃ te pe, w.cell? ⟨3, 0, none⟩ = some (.iface te pe)
  rng : ∃ te pe, w.cell? ⟨4, 0, none⟩ = some (.iface te pe)
theorem gPow : Tryz.prog.globalNamed "internal/strconv.uint64pow10" = some 1 := by kernel_rfl
theorem gPow_lt {w : World} (h : Lib.TabIs Tryz.prog w "internal/strconv.uint64pow10" .u64 Lib.pow10Tab) : 1 < w.heap.size := by
  unfold Lib.TabIs World.var? at h
  rw [gPow] at h
  simp only [Option.bind_some] at h
  by_cases hb : 1 < w.heap.size
  · exact hb
  · rw [Array.getElem?_eq_none (by omega)] at h; cases h
theorem Gl.ext {w w' : World} (h : Gl w) (hE : Ext w w') : Gl w' where
  tab := h.tab.ext hE
  marks := fun k hk => cell_later hE (h.marks k hk)
  pow := var?_below hE gPow (gPow_lt h.pow) h.pow
  max := let ⟨m, hm⟩ := h.max; ⟨m, cell_later hE hm⟩
  syn := let ⟨a, b, hm⟩ := h.syn; ⟨a, b, cell_later hE hm⟩
  rng := let ⟨a, b, hm⟩ := h.rng; ⟨a, b, cell_later hE hm⟩
theorem ext_grow (w : World) (os : Array Obj) : Ext w (Go.Sort.grow w os) :=
  ⟨rfl, rfl, rfl, by simp [Go.Sort.grow], fun b hb => by simp [Go.Sort.grow, Array.getElem?_append, hb]⟩
theorem itoa_any (n : Int) (w : World) (h : I64 n) (hg : Gl w) :
    Calls Tryz.prog 14 #[.int .i64 n] w fun e w' => e = .returned (.string ⟨(Lib.itoa n).toArray⟩) ∧ Ext w w' := by
  refine (Tryz.strconv_Itoa n h.1 h.2 w hg.pow).mono ?_
  rintro e w' ⟨rfl, k, os, rfl⟩
  exact ⟨rfl, Ext.trans (below_drewN (Ext.refl w) k) (ext_grow _ os)⟩
def atoiN (l : List UInt8) : Int := match Lib.atoiAll l with | .ok v => v | .range => Lib.atoiSat l | _ => 0
theorem ext_bytes (w : World) (t : TypeId) (s : ByteArray) : Ext w (Lib.bytesWorld w t s) := Lib.bytesWorld_below w t s
theorem atoi_any (s : ByteArray) (w : World) (hl : s.size ≤ 1000000) (hg : Gl w) :
    Calls Tryz.prog 33 #[.string s] w fun e w' => ∃ r, e = .returned (.tuple #[.int .i64 (atoiN s.data.toList), r]) ∧ Ext w w' := by
  unfold atoiN
  cases h : Lib.atoiAll s.data.toList with
  | ok v =>
    refine (Tryz.strconv_Atoi_ok s (by omega) v h w).mono ?_
    rintro e w' ⟨rfl, rfl | ⟨t, rfl⟩⟩
    · exact ⟨_, rfl, Ext.refl _⟩
    · exact ⟨_, rfl, ext_bytes _ _ _⟩
  | range =>
    obtain ⟨te, pe, hv⟩ := hg.rng
    refine (Tryz.strconv_Atoi_range s (by omega) h (.iface te pe) w hv (.inr ⟨te, pe, rfl⟩)).mono ?_
    rintro e w' ⟨N, rfl, _, _, hb⟩
    exact ⟨_, rfl, hb⟩
  | _ =>
    obtain ⟨te, pe, hv⟩ := hg.syn
    refine (Any.strconv_Atoi_syntax Tryz.laysC172 s (by omega) h (.iface te pe) w hv (.inr ⟨te, pe, rfl⟩)).mono ?_
    rintro e w' ⟨N, rfl, _, _, hb⟩
    exact ⟨_, rfl, hb⟩
end Go.Proofs.YtfcaomejbcjfgaaGreatDoor

namespace Go.Proofs.YtfcaomejbcjfgaaGreatDoor
open Go Go.RowKit
theorem old_cell {w W1 wr : World} {b : Nat} {a : Addr} {v : Value} (h : w.cell? a = some v) (hE : Ext w W1) (hb : Below b W1 wr) (ha : w.heap.size ≤ b) : wr.cell? a = some v := by
  have hlt := World.block_lt_of_cell? _ _ h
  exact (hb.cell (p := a) (by omega)).trans (cell_later hE h)
theorem ext_kp {w W1 wr : World} {b : Nat} (hX : Ext w W1) (hk : Kp b W1 wr) (hb : w.heap.size ≤ b) : Ext w wr := Below.trans hX (hk.below.mono hb)
theorem ba_size (l : List UInt8) : (⟨l.toArray⟩ : ByteArray).size = l.length := by simp [ByteArray.size]
theorem ba_app (a b : ByteArray) : (a ++ b).data.toList = a.data.toList ++ b.data.toList := by simp
set_option maxRecDepth 100000 in
set_option maxHeartbeats 8000000 in
theorem words_any (vv rv lv : Value) (vs : List Vr) (l : List Op2) (w : World) (hv : IsVars w vv vs) (hl : Ops w lv l) (hg : Gl w) (hvf : ∀ v ∈ vs, VrFit v) (hf : ∀ o ∈ l, OpFit vs.length o) (hsz : l.length ≤ 1000) :
    Calls Tryz.prog 16 #[.agg #[vv, rv], lv] w fun e w' => e = .returned (.string ⟨(wordsL vs l).toArray⟩) ∧ Ext w w' := by
  have hop := fun i (hi : i < l.length) => hf l[i] (List.getElem_mem hi)
  have hwl : ∀ i, (opsL vs (l.take i)).length ≤ 23 * 1000 := fun i => by
    have h1 := opsL_len hvf (l := l.take i) fun o ho => hf o (List.mem_of_mem_take ho)
    have h2 : (l.take i).length ≤ 1000 := by simp; omega
    omega
  have HWL := Lib.hid hwl
  have HWO := Lib.hid fun i (hi : i < l.length) => wordO_len hvf (hop i hi)
  obtain ⟨al, cl, rfl, hrl⟩ := hl
  obtain ⟨bl, ol, hA, hC⟩ := hrl.ops
  obtain ⟨av, cv, rfl, hvm, bv, ov, hav, hvc⟩ := hv.at
  have HC := Lib.hid hC
  have HVC := Lib.hid hvc
  have HAV := Lib.hid hav
  have HA := Lib.hid hA
  have HG := Lib.hid hg
  have HOP := Lib.hid hop
  have hx1 := ext_al (Ext.refl w) (Obj.cells #[.slice av vs.length cv, rv] 30)
  have hmb := blk_new w (Obj.cells #[.slice av vs.length cv, rv] 30)
  have hx2 := ext_al hx1 (Obj.cells #[.pointer none, .slice none 0 0] 58)
  have hbb := blk_new (w.alloc (Obj.cells #[.slice av vs.length cv, rv] 30)) (Obj.cells #[.pointer none, .slice none 0 0] 58)
  have hs1 : (w.alloc (Obj.cells #[.slice av vs.length cv, rv] 30)).heap.size = w.heap.size + 1 := by simp
  have hmb2 := blk_ext hmb (ext_al (Ext.refl _) (Obj.cells #[.pointer none, .slice none 0 0] 58))
  rw [hs1] at hbb
  clear hC hvc hav hA hrl hv hg hop hf hvf hwl hx1 hmb hs1
  go_enter Tryz.func16, Tryz.ntmps16
  go_wp2_with fail
  generalize (w.alloc (Obj.cells #[.slice av vs.length cv, rv] 30)).alloc (Obj.cells #[.pointer none, .slice none 0 0] 58) = W1 at *
  obtain ⟨b, hb⟩ : ∃ b, w.heap.size + 1 = b := ⟨_, rfl⟩
  rw [hb] at hbb ⊢
  have HX := Lib.hid hx2
  have HM := Lib.hid hmb2
  have HBB := Lib.hid (Bd.fresh hbb)
  have hwb : w.heap.size ≤ b := by omega
  have hwb1 : w.heap.size < b := by omega
  clear hx2 hmb2 hbb hb
  have HSP := Lib.hid fun (L : List UInt8) wx (h : Bd b L wx) (hL : L.length + 1 ≤ 1000000) => (show Calls Tryz.prog 15 #[.pointer (some ⟨b, 0, none⟩), .int .u8 32] wx fun e w' => e = .returned .nilIface ∧ Wr b (L ++ [32]) wx w' from wbyte_any b L 32 wx h hL)
  go_loopg [10] l.length (fun m x wr => ∃ i : Nat, m + i = l.length ∧ x = .int .i64 (i : Int) ∧ Kp b W1 wr ∧ Bd b (opsL vs (l.take i)) wr)
  case atStart => exact ⟨0, by omega, by go_num, Kp.refl _ _, by simpa [opsL] using HBB.out⟩
  case round =>
    obtain ⟨i, hmi, rfl, hk, hbd⟩ := hrel
    have HMI := Lib.hid hmi
    clear hmi
    by_cases hi : i < l.length
    · obtain rfl := HA.out (by omega)
      have c0 := old_cell (HC.out i hi).1 HX.out hk.below hwb
      have c1 := old_cell (HC.out i hi).2 HX.out hk.below hwb
      have ho := HOP.out i hi
      have hwo := HWO.out i hi
      have HTK := Lib.hid (opsL_take vs l hi)
      have hL := HWL.out i
      generalize opsL vs (l.take i) = L at *
      obtain ⟨o, hoE⟩ : ∃ o, l[i] = o := ⟨_, rfl⟩
      rw [hoE] at c0 c1 ho hwo HTK
      clear hoE
      obtain ⟨k, x⟩ := o
      obtain ⟨k0, k18, hxv, hvar⟩ := ho
      simp only at c0 c1 k0 k18 hxv hvar
      have hiI : (i : Int) < (l.length : Int) := by omega
      have hi0 : (0 : Int) ≤ (i : Int) := by omega
      have hEo := ext_al (Ext.refl wr) (Obj.cells #[.int .i64 k, .int .i64 x] 79)
      have hbo := blk_new wr (Obj.cells #[.int .i64 k, .int .i64 x] 79)
      have HBD := Lib.hid (hbd.ext hEo)
      have HK := Lib.hid (hk.trans (Kp.ext hEo (Nat.le_of_lt hbd.lt)))
      have HBO := Lib.hid hbo
      have hob : b < wr.heap.size := hbd.lt
      clear hbd hk hEo hbo
      have HXV := Lib.hid hxv
      have HVAR := Lib.hid hvar
      clear hxv hvar
      go_wp2_with fail
      generalize hWO : wr.alloc (Obj.cells #[.int .i64 k, .int .i64 x] 79) = wo at *
      clear hWO
      refine (HSP.out _ _ HBD.out (by omega)).mono ?_
      rintro e w2 ⟨rfl, hW2⟩
      have hb2 := hW2.2.same wr.heap.size _ _ _ (by omega) HBO.out (by decide)
      have d0 := blk_cell hb2 (i := 0) rfl
      have d1 := blk_cell hb2 (i := 1) rfl
      have HW2 := Lib.hid hW2
      clear hW2 hb2 c0 c1
      have HKW := Lib.hid (HK.out.trans HW2.out.2)
      have HGW := Lib.hid (HG.out.ext (ext_kp HX.out HKW.out hwb))
      have HFI := Lib.hid fun (w' : World) (word : List UInt8) (hk' : Kp b W1 w') (hb' : Bd b (L ++ [32] ++ word) w') (he : word = wordO vs (k, x)) => (show ∃ j : Nat, (gk - 1) + j = l.length ∧ Value.int .i64 ((i : Int) + 1) = .int .i64 (j : Int) ∧ Kp b W1 w' ∧ Bd b (opsL vs (l.take j)) w' from
        ⟨i + 1, by have := HMI.out; omega, by go_num, hk', by rw [HTK.out, List.append_cons, ← he]; exact hb'⟩)
      have hwi := itoa_len HXV.out
      by_cases h1 : k = 1
      · have HWD := Lib.hid (show Lib.itoa x = wordO vs (k, x) by subst h1; simp [wordO])
        have hkI : (k == 1) = true := by rw [beq_iff_eq]; exact h1
        clear hwo
        subst h1
        go_wp2_with fail
        refine (itoa_any x w2 HXV.out HGW.out).mono ?_
        rintro e w3 ⟨rfl, hE3⟩
        have HBD3 := Lib.hid (HW2.out.1.ext hE3)
        have HK3 := Lib.hid (HKW.out.trans (Kp.ext hE3 (Nat.le_of_lt HW2.out.1.lt)))
        clear hE3 d0 d1
        go_wp2_with fail
        refine (wstr_any b (L ++ [32]) ⟨(Lib.itoa x).toArray⟩ w3 HBD3.out (by rw [ba_size]; simp; omega)).mono ?_
        rintro e w4 ⟨rfl, hW4⟩
        have HFF := Lib.hid (HFI.out w4 _ (HK3.out.trans hW4.2) hW4.1 HWD.out)
        clear hW4
        go_wp2_with fail
        go_roundg (gk - 1)
        case measure => have := HMI.out; omega
        case rel => exact HFF.out
      · have h1I : (k == 1) = false := by rw [beq_eq_false_iff_ne]; exact h1
        by_cases h2 : k = 2
        · have hnl : (nameL vs x).length ≤ 22 := by simpa [wordO, h2] using hwo
          have HWD := Lib.hid (show nameL vs x = wordO vs (k, x) by subst h2; simp [wordO])
          clear hwo
          subst h2
          obtain ⟨hx0, hxn⟩ := HVAR.out rfl
          obtain ⟨q, rfl⟩ : ∃ q : Nat, x = (q : Int) := ⟨x.toNat, by omega⟩
          have hqn : q < vs.length := by omega
          have hv0 := (HVC.out q hqn).1
          obtain rfl := HAV.out (by omega)
          have hs0 := old_cell hv0 HX.out HKW.out.below hwb
          have hm2 := (HKW.out.below.block w.heap.size hwb1).trans HM.out
          have m0 := blk_cell hm2 (i := 0) rfl
          have HNM := Lib.hid (show vs[q].name.data.toList = nameL vs (q : Int) by simp [nameL, hqn])
          generalize vs[q].name = nm at *
          have hxI : (q : Int) < (vs.length : Int) := by omega
          clear hv0 hm2 HVAR
          go_wp2_with fail
          refine (wstr_any b (L ++ [32]) nm w2 HW2.out.1 (by rw [show nm.size = nm.data.toList.length from Array.length_toList.symm, HNM.out]; simp; omega)).mono ?_
          rintro e w4 ⟨rfl, hW4⟩
          have HFF := Lib.hid (HFI.out w4 _ (HKW.out.trans hW4.2) hW4.1 (HNM.out.trans HWD.out))
          clear hW4
          go_wp2_with fail
          go_roundg (gk - 1)
          case measure => have := HMI.out; omega
          case rel => exact HFF.out
        · have h2I : (k == 2) = false := by rw [beq_eq_false_iff_ne]; exact h2
          by_cases h13 : k = 13
          · have HWD := Lib.hid (show 80 :: Lib.itoa x = wordO vs (k, x) by subst h13; simp [wordO])
            clear hwo
            subst h13
            go_wp2_with fail
            refine (itoa_any x w2 HXV.out HGW.out).mono ?_
            rintro e w3 ⟨rfl, hE3⟩
            have HBD3 := Lib.hid (HW2.out.1.ext hE3)
            have HK3 := Lib.hid (HKW.out.trans (Kp.ext hE3 (Nat.le_of_lt HW2.out.1.lt)))
            have HPS := Lib.hid (show ((⟨#[80]⟩ : ByteArray) ++ ⟨(Lib.itoa x).toArray⟩).data.toList = 80 :: Lib.itoa x by rw [ba_app]; rfl)
            have HSS := Lib.hid (show ((⟨#[80]⟩ : ByteArray) ++ ⟨(Lib.itoa x).toArray⟩).size ≤ 22 by
              rw [show ((⟨#[80]⟩ : ByteArray) ++ ⟨(Lib.itoa x).toArray⟩).size = ((⟨#[80]⟩ : ByteArray) ++ ⟨(Lib.itoa x).toArray⟩).data.toList.length from Array.length_toList.symm, HPS.out]; simp; omega)
            clear hE3 d0 d1
            go_wp2_with fail
            generalize ((⟨#[80]⟩ : ByteArray) ++ ⟨(Lib.itoa x).toArray⟩) = ps at *
            refine (wstr_any b (L ++ [32]) ps w3 HBD3.out (by have := HSS.out; simp; omega)).mono ?_
            rintro e w4 ⟨rfl, hW4⟩
            have HFF := Lib.hid (HFI.out w4 _ (HK3.out.trans hW4.2) hW4.1 (HPS.out.trans HWD.out))
            clear hW4
            go_wp2_with fail
            go_roundg (gk - 1)
            case measure => have := HMI.out; omega
            case rel => exact HFF.out
          · have h13I : (k == 13) = false := by rw [beq_eq_false_iff_ne]; exact h13
            obtain ⟨q, rfl⟩ : ∃ q : Nat, k = (q : Int) := ⟨k.toNat, by omega⟩
            have hq : q < 19 := by omega
            have HWD := Lib.hid (show marksL.getD q [] = wordO vs ((q : Int), x) by simp [wordO, h1, h2, h13])
            have hmk := HGW.out.marks q hq
            have hml := marks_len q
            generalize marksL.getD q [] = mk at *
            clear hwo
            go_wp2_with fail
            refine (wstr_any b (L ++ [32]) ⟨mk.toArray⟩ w2 HW2.out.1 (by rw [ba_size]; simp; omega)).mono ?_
            rintro e w4 ⟨rfl, hW4⟩
            have HFF := Lib.hid (HFI.out w4 _ (HKW.out.trans hW4.2) hW4.1 HWD.out)
            clear hW4
            go_wp2_with fail
            go_roundg (gk - 1)
            case measure => have := HMI.out; omega
            case rel => exact HFF.out
    · have hiI : ¬ (i : Int) < (l.length : Int) := by omega
      have hin : i = l.length := by have := HMI.out; omega
      have HAL := Lib.hid (show opsL vs (l.take i) = opsL vs l by rw [hin, List.take_length])
      have HBD := Lib.hid hbd
      have HKK := Lib.hid hk
      have hL := HWL.out i
      generalize opsL vs (l.take i) = L at *
      clear hbd hk hin
      go_wp2_with fail
      refine (bstr_any b _ wr HBD.out).mono ?_
      rintro e w5 ⟨rfl, hb5⟩
      have HXX := Lib.hid (Below.trans (ext_kp HX.out HKK.out hwb) (hb5.mono hwb))
      have HEQ := Lib.hid (show ((⟨L.toArray⟩ : ByteArray) ++ ⟨#[10]⟩) = ⟨(wordsL vs l).toArray⟩ by
        have h := ba_app ⟨L.toArray⟩ ⟨#[10]⟩
        unfold wordsL
        rw [← HAL.out]
        generalize ((⟨L.toArray⟩ : ByteArray) ++ ⟨#[10]⟩) = z at *
        obtain ⟨d⟩ := z
        simp only at h
        congr 1
        rw [← h])
      clear hb5
      go_wp2
      go_ret
      exact ⟨by rw [HEQ.out]; rfl, HXX.out⟩
end Go.Proofs.YtfcaomejbcjfgaaGreatDoor

namespace Go.Proofs.YtfcaomejbcjfgaaGreatDoor
structure Pl where
  guard : List Op2
  var : Int
  value : List Op2
  both : Bool
structure Dn where
  s0 : Int
  s1 : Int
  l0 : Int
  l1 : Int
  i0 : Int
  i1 : Int
  rules : List Pl
abbrev nmX : ByteArray := ⟨#[120]⟩
abbrev nmY : ByteArray := ⟨#[121, 50]⟩
def dVar (nm : ByteArray) (s l i : Int) : Vr := ⟨nm, pk l 3 - 1, pk l 3 - 1 + pk s 4, pk l 3 - 1 + pk i (pk s 4 + 1)⟩
def dSets (p : Pl) : List (Int × Tm) := (pk p.var 2, numO p.value 2) :: (if p.both then [(1 - pk p.var 2, .n0 2 (pk p.var 2))] else [])
def dRule (p : Pl) : Rl := ⟨truO p.guard 2, dSets p⟩
def Dn.vars (d : Dn) : List Vr := [dVar nmX d.s0 d.l0 d.i0, dVar nmY d.s1 d.l1 d.i1]
def Dn.md (d : Dn) : Md := ⟨d.vars, (d.rules.take 5).map dRule⟩
theorem nmX_list : nmX.toList = [120] := by rw [ByteArray.toList_eq]
theorem nmY_list : nmY.toList = [121, 50] := by rw [ByteArray.toList_eq]
theorem nmX_ok : NameOk nmX := by
  refine ⟨by decide, by decide, by rw [nmX_list]; decide, by rw [nmX_list]; decide, ?_⟩
  intro i h
  have : i = 0 := by have : nmX.size = 1 := rfl; omega
  subst this
  exact .inl (show 97 ≤ (120 : UInt8).toNat ∧ (120 : UInt8).toNat ≤ 122 by decide)
theorem nmY_ok : NameOk nmY := by
  refine ⟨by decide, by decide, by rw [nmY_list]; decide, by rw [nmY_list]; decide, ?_⟩
  intro i h
  have h2 : nmY.size = 2 := rfl
  have : i = 0 ∨ i = 1 := by omega
  rcases this with rfl | rfl
  · exact .inl (show 97 ≤ (121 : UInt8).toNat ∧ (121 : UInt8).toNat ≤ 122 by decide)
  · exact .inr (show 48 ≤ (50 : UInt8).toNat ∧ (50 : UInt8).toNat ≤ 57 ∧ 1 ≠ 0 by decide)
theorem dVar_ok {nm : ByteArray} (h : NameOk nm) (s l i : Int) : (dVar nm s l i).Ok ∧ 1 ≤ (dVar nm s l i).span ∧ (dVar nm s l i).span ≤ 4 := by
  have h1 := pk_bd l 3 (by omega)
  have h2 := pk_bd s 4 (by omega)
  have h3 := pk_bd i (pk s 4 + 1) (by omega)
  refine ⟨⟨h, ?_, ?_, ?_, ?_, ?_⟩, ?_, ?_⟩ <;> simp only [dVar, Vr.span] <;> omega
theorem fit_sub {t : Tm} {vars : Int} {n : Nat} {b : Bool} (h : Fit t vars n b) : Sub t vars := ⟨h.ok, h.good, h.typed⟩
theorem leaf_var_sub (v : Int) (h0 : 0 ≤ v) (h1 : v < 2) : Sub (.n0 2 v) 2 := by
  refine ⟨?_, ?_, rfl⟩
  · simp only [Tm.ok]
    exact ⟨by omega, by omega, by decide⟩
  · intro o ho
    simp only [Tm.flat, List.mem_singleton] at ho
    subst ho
    have : v = 0 ∨ v = 1 := by omega
    rcases this with rfl | rfl <;> decide
theorem dSets_pre (p : Pl) : ∀ s ∈ dSets p, 0 ≤ s.1 ∧ s.1 < 2 ∧ Sub s.2 2 ∧ s.2.size ≤ 60 ∧ mkK s.2.kind = false := by
  have hv := pk_bd p.var 2 (by omega)
  have hn := fit_num p.value 2 (by omega)
  intro s hs
  unfold dSets at hs
  rcases List.mem_cons.1 hs with rfl | hs
  · have hz := hn.size
    exact ⟨hv.1, hv.2, fit_sub hn, by show (numO p.value 2).size ≤ 60; omega, hn.kind⟩
  · split at hs
    · simp only [List.mem_singleton] at hs
      subst hs
      exact ⟨by show 0 ≤ 1 - pk p.var 2; omega, by show 1 - pk p.var 2 < 2; omega, leaf_var_sub _ hv.1 hv.2, by simp [Tm.size], (show mkK 2 = false by decide)⟩
    · simp at hs
theorem dSets_nodup (p : Pl) : ((dSets p).map (·.1)).Nodup := by
  unfold dSets
  split
  · simp; omega
  · simp
theorem dSets_len (p : Pl) : (dSets p).length ≤ 2 := by
  unfold dSets; split <;> simp
theorem dRule_pre (p : Pl) : RlPre 2 (dRule p) := by
  have hg := fit_tru p.guard 2 (by omega)
  have hz := hg.size
  have hl := dSets_len p
  exact ⟨by show (dSets p).length ≤ 6; omega, fit_sub hg, by show (truO p.guard 2).size ≤ 60; omega, dSets_pre p⟩
theorem Dn.span (d : Dn) : 1 ≤ countL d.vars ∧ countL d.vars ≤ 16 := by
  have h1 := (dVar_ok nmX_ok d.s0 d.l0 d.i0).2
  have h2 := (dVar_ok nmY_ok d.s1 d.l1 d.i1).2
  unfold Dn.vars
  simp only [countL, Int.mul_one]
  generalize (dVar nmX d.s0 d.l0 d.i0).span = a at *
  generalize (dVar nmY d.s1 d.l1 d.i1).span = b at *
  have q1 := Int.mul_le_mul h1.1 h2.1 (by omega) (by omega)
  have q2 := Int.mul_le_mul h1.2 h2.2 (by omega) (by omega)
  omega
theorem Dn.vars_ok (d : Dn) : ∀ v ∈ d.vars, v.Ok := by
  intro v hv
  unfold Dn.vars at hv
  simp only [List.mem_cons, List.not_mem_nil, or_false] at hv
  rcases hv with rfl | rfl
  · exact (dVar_ok nmX_ok _ _ _).1
  · exact (dVar_ok nmY_ok _ _ _).1
theorem names_xy : ([nmX, nmY] : List ByteArray).Nodup := by decide
theorem Dn.ok (d : Dn) : d.md.Ok where
  six := by show 2 ≤ 6; omega
  vars := d.vars_ok
  count := by have := d.span; show countL d.vars ≤ 4096; omega
  twelve := by
    show ((d.rules.take 5).map dRule).length ≤ 12
    rw [List.length_map, List.length_take]; omega
  rules := by
    intro r hr
    show RlPre 2 r
    obtain ⟨p, _, rfl⟩ := List.mem_map.1 hr
    exact dRule_pre p
  names := names_xy
  kinds := by
    intro r hr
    obtain ⟨p, _, rfl⟩ := List.mem_map.1 hr
    exact ⟨(fit_tru p.guard 2 (by omega)).kind, dSets_nodup p⟩
theorem Dn.rules_len (d : Dn) : d.md.rules.length ≤ 5 := by
  show ((d.rules.take 5).map dRule).length ≤ 5
  rw [List.length_map, List.length_take]; omega
end Go.Proofs.YtfcaomejbcjfgaaGreatDoor

namespace Go.Proofs.YtfcaomejbcjfgaaGreatDoor
open Go.RowKit
theorem Tryz.slVars : SlTy Tryz.prog 27 43 (.agg #[.string ⟨#[]⟩, .int .i64 0, .int .i64 0, .int .i64 0]) 4 40 := SlTy.mk' Tryz.underlying27 (by kernel_rfl) (by rfl) (by omega)
theorem Tryz.slSets : SlTy Tryz.prog 44 49 (.agg #[.int .i64 0, .slice none 0 0]) 2 32 := SlTy.mk' Tryz.underlying44 (by kernel_rfl) (by rfl) (by omega)
theorem Tryz.slRules : SlTy Tryz.prog 28 46 (.agg #[.slice none 0 0, .slice none 0 0]) 2 48 := SlTy.mk' Tryz.underlying28 (by kernel_rfl) (by rfl) (by omega)
theorem Row.newK (w : World) (t : TypeId) (sz k : Nat) (cs : List Value) (hs : cs.length = sz) (hk : k = w.heap.size) : Row (w.alloc (.cells cs.toArray t)) sz (some ⟨k, 0, none⟩) 1 1 cs := by
  subst hk
  refine ⟨by omega, Nat.le_refl _, by unfold maxLen; omega, w.heap.size, 0, (by intro h; cases h), fun _ => rfl, fun j u hu => ?_⟩
  rw [Nat.zero_add, World.cell?_alloc_at _ _ _ _ rfl]
  simpa using hu
theorem isVars_of {w : World} {v : Value} {l : List Vr} (h : Reads w 4 v l.length (l.flatMap vrc)) : IsVars w v l := by
  refine ⟨l.map vrc, by simp, ?_, by rw [← List.flatMap_def]; exact h, fun i cs x a b => ?_⟩
  · intro cs hc
    obtain ⟨x, _, rfl⟩ := List.mem_map.1 hc
    rfl
  · rw [List.getElem?_map, b] at a
    simp at a
    exact a.symm
def PlanE : World → Pl → List Value → Prop := fun w p cs => ∃ g v, cs = [g, .int .i64 p.var, v, .bool p.both] ∧ Ops w g p.guard ∧ Ops w v p.value
def IsPlans (w : World) (v : Value) (l : List Pl) : Prop := EachL 4 PlanE w v l
theorem PlanE.ext {w w' : World} {p : Pl} {cs : List Value} (h : PlanE w p cs) (hb : Ext w w') : PlanE w' p cs := by
  obtain ⟨g, v, h1, h2, h3⟩ := h
  exact ⟨g, v, h1, ops_ext h2 hb, ops_ext h3 hb⟩
theorem IsPlans.ext {w w' : World} {v : Value} {l : List Pl} (h : IsPlans w v l) (hb : Ext w w') : IsPlans w' v l := EachL.ext (E := PlanE) (w := w) (w' := w') (fun _ _ h => h.ext hb) h hb
theorem IsPlans.at {w : World} {v : Value} {l : List Pl} (h : IsPlans w v l) : ∃ a c, v = .slice a l.length c ∧ l.length ≤ maxLen ∧ ∃ b off, (0 < l.length → a = some ⟨b, off, none⟩) ∧ ∀ (i : Nat) (hi : i < l.length),
    ∃ g s, w.cell? ⟨b, off + i * 4, none⟩ = some g ∧ w.cell? ⟨b, off + i * 4 + 1, none⟩ = some (.int .i64 l[i].var) ∧ w.cell? ⟨b, off + i * 4 + 2, none⟩ = some s ∧ w.cell? ⟨b, off + i * 4 + 3, none⟩ = some (.bool l[i].both) ∧ Ops w g l[i].guard ∧ Ops w s l[i].value := by
  obtain ⟨a, c, h1, h2, b, off, h3, h4⟩ := EachL.at h (by omega)
  refine ⟨a, c, h1, h2, b, off, h3, fun i hi => ?_⟩
  obtain ⟨cs, _, ⟨g, s, rfl, hg, hs⟩, hc⟩ := h4 i hi
  exact ⟨g, s, hc 0 _ rfl, hc 1 _ rfl, hc 2 _ rfl, hc 3 _ rfl, hg, hs⟩
structure PlI (p : Pl) : Prop where
  guard : RawI p.guard
  var : I64 p.var
  value : RawI p.value
structure DnI (d : Dn) : Prop where
  s0 : I64 d.s0
  s1 : I64 d.s1
  l0 : I64 d.l0
  l1 : I64 d.l1
  i0 : I64 d.i0
  i1 : I64 d.i1
  rules : ∀ p ∈ d.rules, PlI p
def OwnTm (k : Nat) (w : World) (v : Value) (t : Tm) : Prop := w.ownsRow k 79 2 v t.flat.length (t.flat.flatMap opc)
theorem OwnTm.isT {k : Nat} {w : World} {v : Value} {t : Tm} (h : OwnTm k w v t) : IsT w v t := isT_own h
theorem OwnTm.ext {k : Nat} {w w' : World} {v : Value} {t : Tm} (h : OwnTm k w v t) (hb : Ext w w') : OwnTm k w' v t := own_ext h hb
theorem own_all {w : World} {k : Nat} {e : TypeId} {size n : Nat} {v : Value} {xs : List Value} (h : w.ownsRow k e size v n xs) {x : World} (hx : ∀ b, k ≤ b → b < w.heap.size → x.heap[b]? = w.heap[b]?) : x.ownsRow k e size v n xs := by
  refine ⟨h.1, ?_⟩
  rcases h.2 with hn | ⟨g, cap, cur, rfl, h1, hg, rest⟩
  · exact .inl hn
  · exact .inr ⟨g, cap, cur, rfl, h1, by rw [hx g h1 (Array.getElem?_eq_some_iff.1 hg).1]; exact hg, rest⟩
def OwnSets (k : Nat) (w : World) (v : Value) (ss : List (Int × Tm)) : Prop :=
  ∃ css : List (List Value), css.length = ss.length ∧ (∀ cs ∈ css, cs.length = 2) ∧ w.ownsRow k 49 2 v ss.length css.flatten ∧
    ∀ (i : Nat) (cs : List Value) (s : Int × Tm), css[i]? = some cs → ss[i]? = some s → ∃ u, cs = [.int .i64 s.1, u] ∧ OwnTm k w u s.2
theorem OwnSets.isSets {k : Nat} {w : World} {v : Value} {ss : List (Int × Tm)} (h : OwnSets k w v ss) : IsSets w v ss := by
  obtain ⟨css, h1, h2, h3, h4⟩ := h
  refine ⟨css, h1, h2, h3.reads, fun i cs s a b => ?_⟩
  obtain ⟨u, e, hu⟩ := h4 i cs s a b
  exact ⟨u, e, hu.isT⟩
theorem OwnSets.ext {k : Nat} {w w' : World} {v : Value} {ss : List (Int × Tm)} (h : OwnSets k w v ss) (hb : Ext w w') : OwnSets k w' v ss := by
  obtain ⟨css, h1, h2, h3, h4⟩ := h
  refine ⟨css, h1, h2, own_ext h3 hb, fun i cs s a b => ?_⟩
  obtain ⟨u, e, hu⟩ := h4 i cs s a b
  exact ⟨u, e, hu.ext hb⟩
theorem OwnSets.all {k : Nat} {w x : World} {v : Value} {ss : List (Int × Tm)} (h : OwnSets k w v ss) (hx : ∀ b, k ≤ b → b < w.heap.size → x.heap[b]? = w.heap[b]?) : OwnSets k x v ss := by
  obtain ⟨css, h1, h2, h3, h4⟩ := h
  refine ⟨css, h1, h2, own_all h3 hx, fun i cs s a b => ?_⟩
  obtain ⟨u, e, hu⟩ := h4 i cs s a b
  exact ⟨u, e, own_all hu hx⟩
theorem ownSets_one {k : Nat} {w : World} {v u : Value} {s : Int × Tm} (h : w.ownsRow k 49 2 v 1 [.int .i64 s.1, u]) (hu : OwnTm k w u s.2) : OwnSets k w v [s] := by
  refine ⟨[[.int .i64 s.1, u]], rfl, by simp, by simpa using h, fun i cs x a b => ?_⟩
  cases i with
  | zero => simp at a b; subst a; subst b; exact ⟨u, rfl, hu⟩
  | succ i => simp at a
theorem ownSets_two {k : Nat} {w : World} {v u u' : Value} {s s' : Int × Tm} (h : w.ownsRow k 49 2 v 2 [.int .i64 s.1, u, .int .i64 s'.1, u']) (hu : OwnTm k w u s.2) (hu' : OwnTm k w u' s'.2) : OwnSets k w v [s, s'] := by
  refine ⟨[[.int .i64 s.1, u], [.int .i64 s'.1, u']], rfl, by simp, by simpa using h, fun i cs x a b => ?_⟩
  match i with
  | 0 => simp at a b; subst a; subst b; exact ⟨u, rfl, hu⟩
  | 1 => simp at a b; subst a; subst b; exact ⟨u', rfl, hu'⟩
  | i + 2 => simp at a
structure RMem (τ : Nat → Nat) (B : Nat) (w : World) (rv : Value) (l : List Rl) : Prop where
  lo : ∀ b, b < B → τ b = 0
  size : B ≤ w.heap.size
  row : ∃ css : List (List Value), css.length = l.length ∧ (∀ cs ∈ css, cs.length = 2) ∧ OwnT τ 1 w B 46 2 rv l.length css.flatten ∧
    Ent τ 2 w fun x => ∀ (i : Nat) (cs : List Value) (r : Rl), css[i]? = some cs → l[i]? = some r → RuleE x r cs
theorem RMem.nil (w : World) (B : Nat) (h : B ≤ w.heap.size) : RMem (fun _ => 0) B w (.slice none 0 0) [] :=
  ⟨fun _ _ => rfl, h, [], rfl, by simp, OwnT.nil _ _ _ _ _ _, fun x _ _ i cs r hc => by simp at hc⟩
theorem RMem.ext {τ : Nat → Nat} {B : Nat} {w w' : World} {rv : Value} {l : List Rl} (h : RMem τ B w rv l) (hE : Ext w w') : RMem τ B w' rv l := by
  obtain ⟨css, h1, h2, h3, h4⟩ := h.row
  exact ⟨h.lo, Nat.le_trans h.size hE.size, css, h1, h2, h3.ext hE, h4.ext hE⟩
theorem RMem.low {τ : Nat → Nat} {B : Nat} {w : World} {rv : Value} {l : List Rl} (h : RMem τ B w rv l) {p : Addr} (hp : p.block < B) (v : Value) : RMem τ B (w.setCell p v) rv l := by
  obtain ⟨css, h1, h2, h3, h4⟩ := h.row
  exact ⟨h.lo, by simpa using h.size, css, h1, h2, h3.low hp v, h4.set (by rw [h.lo _ hp]; omega) v⟩
theorem RMem.isRules {τ : Nat → Nat} {B : Nat} {w : World} {rv : Value} {l : List Rl} (h : RMem τ B w rv l) : IsRules w rv l := by
  obtain ⟨css, h1, h2, h3, h4⟩ := h.row
  exact ⟨css, h1, h2, h3.reads, h4.now⟩
theorem RMem.own {τ : Nat → Nat} {B : Nat} {w : World} {rv : Value} {l : List Rl} (h : RMem τ B w rv l) : ∃ css : List (List Value), css.length = l.length ∧ (∀ cs ∈ css, cs.length = 2) ∧ w.ownsRow B 46 2 rv l.length css.flatten := by
  obtain ⟨css, h1, h2, h3, _⟩ := h.row
  exact ⟨css, h1, h2, h3.own⟩
theorem RMem.push {τ : Nat → Nat} {B : Nat} {w w7 w8 : World} {rv rv' g s : Value} {l : List Rl} {r : Rl} {css : List (List Value)} (h : RMem τ B w rv l) (hE : Ext w w7) (hg : OwnTm w.heap.size w7 g r.guard) (hs : OwnSets w.heap.size w7 s r.sets)
    (k1 : css.length = l.length) (k2 : ∀ cs ∈ css, cs.length = 2) (k3 : OwnT τ 1 w B 46 2 rv l.length css.flatten) (k4 : Ent τ 2 w fun x => ∀ (i : Nat) (cs : List Value) (r : Rl), css[i]? = some cs → l[i]? = some r → RuleE x r cs) (ho : w8.ownsRow B 46 2 rv' (l.length + 1) (css.flatten ++ [g, s])) (hgr : w7.grownBy w8 rv.ownBlock)
    (hb : rv'.ownBlock = rv.ownBlock ∨ rv'.ownBlock = some w7.heap.size) : ∃ τ', RMem τ' B w8 rv' (l ++ [r]) := by
  have hBw := h.size
  have hlt : ∀ b, rv.ownBlock = some b → b < w.heap.size := fun b hb => (k3.own.lt b hb).2
  let τ1 := tagAt τ w.heap.size 2
  let τ2 := tagAt τ1 w7.heap.size 1
  have t1 : ∀ b, b < w.heap.size → τ1 b = τ b := fun b hb => tagAt_lt hb
  have hEs := hE.size
  refine ⟨τ2, fun b hb => ?_, ?_, css ++ [[g, s]], by simp [k1], ?_, ⟨by simpa using ho, ?_⟩, ?_⟩
  · show tagAt τ1 w7.heap.size 1 b = 0
    rw [tagAt_lt (by omega), t1 b (by omega)]
    exact h.lo b hb
  · have := hgr.size; omega
  · intro cs hc
    rcases List.mem_append.1 hc with hc | hc
    · exact k2 cs hc
    · simp at hc; subst hc; rfl
  · intro b hv
    rcases hb with e | e
    · rw [e] at hv
      show tagAt τ1 w7.heap.size 1 b = 1
      have := hlt b hv
      rw [tagAt_lt (by omega), t1 b this]
      exact k3.tag b hv
    · rw [e] at hv
      injection hv with hv
      exact tagAt_ge (by omega)
  · intro x hx hbx i cs r' hc hr
    have hold : ∀ b, b < w.heap.size → τ b = 2 → x.heap[b]? = w.heap[b]? := by
      intro b hb1 hb2
      have n1 : some b ≠ rv.ownBlock := by
        intro e
        have := k3.tag b e.symm
        omega
      have e1 : τ2 b = 2 := by
        show tagAt τ1 w7.heap.size 1 b = 2
        rw [tagAt_lt (by omega), t1 b hb1]; exact hb2
      rw [hbx b (by have := hgr.size; omega) e1, hgr.block b (by omega) n1, hE.block b hb1]
    have hnew : ∀ b, w.heap.size ≤ b → b < w7.heap.size → x.heap[b]? = w7.heap[b]? := by
      intro b hb1 hb2
      have n1 : some b ≠ rv.ownBlock := by
        intro e
        have := hlt b e.symm
        omega
      have e1 : τ2 b = 2 := by
        show tagAt τ1 w7.heap.size 1 b = 2
        rw [tagAt_lt hb2]
        exact tagAt_ge hb1
      rw [hbx b (by have := hgr.size; omega) e1, hgr.block b hb2 n1]
    by_cases hi : i < l.length
    · rw [List.getElem?_append_left (by omega)] at hc hr
      exact k4 x (by have := hgr.size; omega) hold i cs r' hc hr
    · rw [List.getElem?_append_right (by omega)] at hc hr
      have e0 : i - l.length = 0 := by have := (List.getElem?_eq_some_iff.1 hr).1; simp at this; omega
      rw [k1, e0] at hc
      rw [e0] at hr
      simp at hc hr
      subst hc; subst hr
      exact ⟨g, s, rfl, OwnTm.isT (own_all hg hnew), OwnSets.isSets (hs.all hnew)⟩
end Go.Proofs.YtfcaomejbcjfgaaGreatDoor
