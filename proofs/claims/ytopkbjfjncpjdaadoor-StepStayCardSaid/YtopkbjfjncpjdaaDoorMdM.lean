/- How models lie in memory: rows of structs, and what hangs on them. No condition. -/
import Derived.Test.YtopkbjfjncpjdaaDoorMdP
import Derived.Test.YtopkbjfjncpjdaaDoorFitC
namespace Go.Proofs.YtopkbjfjncpjdaaDoor
open Go.RowKit
def EachL {α : Type} (sz : Nat) (E : World → α → List Value → Prop) (w : World) (v : Value) (l : List α) : Prop :=
  ∃ css : List (List Value), css.length = l.length ∧ (∀ cs ∈ css, cs.length = sz) ∧ Reads w sz v l.length css.flatten ∧ ∀ (i : Nat) (cs : List Value) (x : α), css[i]? = some cs → l[i]? = some x → E w x cs
theorem EachL.ext {α : Type} {sz : Nat} {E : World → α → List Value → Prop} {w w' : World} {v : Value} {l : List α} (hE : ∀ x cs, E w x cs → E w' x cs) (h : EachL sz E w v l) (hb : Ext w w') : EachL sz E w' v l := by
  obtain ⟨css, h1, h2, h3, h4⟩ := h
  exact ⟨css, h1, h2, h3.ext hb, fun i cs x a b => hE x cs (h4 i cs x a b)⟩
theorem flatten_at {sz : Nat} : ∀ {css : List (List Value)}, (∀ cs ∈ css, cs.length = sz) → ∀ {i j : Nat} {cs : List Value}, css[i]? = some cs → j < sz → css.flatten[i * sz + j]? = cs[j]?
  | [], _, i, j, cs, h, _ => by simp at h
  | c :: css, hl, 0, j, cs, h, hj => by
    simp at h
    subst h
    have := hl c (by simp)
    rw [List.flatten_cons, Nat.zero_mul, Nat.zero_add, List.getElem?_append_left (by omega)]
  | c :: css, hl, i + 1, j, cs, h, hj => by
    have hc := hl c (by simp)
    rw [List.flatten_cons, List.getElem?_append_right (by rw [hc, Nat.add_mul]; omega), hc, show (i + 1) * sz + j - sz = i * sz + j by rw [Nat.add_mul]; omega]
    exact flatten_at (fun x hx => hl x (by simp [hx])) (by simpa using h) hj
theorem EachL.at {α : Type} {sz : Nat} {E : World → α → List Value → Prop} {w : World} {v : Value} {l : List α} (h : EachL sz E w v l) (hsz : 0 < sz) :
    ∃ a c, v = .slice a l.length c ∧ l.length ≤ maxLen ∧ ∃ b off, (0 < l.length → a = some ⟨b, off, none⟩) ∧ ∀ (i : Nat) (hi : i < l.length), ∃ cs, cs.length = sz ∧ E w l[i] cs ∧ ∀ j u, cs[j]? = some u → w.cell? ⟨b, off + i * sz + j, none⟩ = some u := by
  obtain ⟨css, h1, h2, ⟨a, c, rfl, hr⟩, h4⟩ := h
  obtain ⟨b, off, _, g2, g3⟩ := hr.lie
  refine ⟨a, c, rfl, Nat.le_trans hr.le hr.max, b, off, fun hl => g2 ?_, fun i hi => ?_⟩
  · rw [hr.len]; exact Nat.mul_pos hl hsz
  · have hc : css[i]? = some css[i] := List.getElem?_eq_getElem (by omega)
    have hl := h2 css[i] (by simp)
    refine ⟨css[i], hl, h4 i _ _ hc (List.getElem?_eq_getElem hi), fun j u hu => ?_⟩
    have hj : j < sz := by have := (List.getElem?_eq_some_iff.1 hu).1; omega
    rw [Nat.add_assoc]
    exact g3 _ u ((flatten_at h2 hc hj).trans hu)
theorem EachL.val {α : Type} {sz : Nat} {E : World → α → List Value → Prop} {w : World} {v : Value} {l : List α} (h : EachL sz E w v l) : ∃ a c, v = .slice a l.length c := by
  obtain ⟨css, h1, h2, ⟨a, c, rfl, hr⟩, h4⟩ := h
  exact ⟨a, c, rfl⟩
theorem EachL.nil {α : Type} (sz : Nat) (E : World → α → List Value → Prop) (w : World) : EachL sz E w (.slice none 0 0) ([] : List α) :=
  ⟨[], rfl, by simp, Reads.nil w sz, by simp⟩
theorem EachL.snoc {α : Type} {sz : Nat} {E : World → α → List Value → Prop} {w' : World} {v' : Value} {l : List α} {x : α} {css : List (List Value)} {cs : List Value} (h1 : css.length = l.length) (h2 : ∀ cs ∈ css, cs.length = sz) (hE : ∀ (i : Nat) (cs : List Value) (x : α), css[i]? = some cs → l[i]? = some x → E w' x cs)
    (hr : Reads w' sz v' (l.length + 1) (css.flatten ++ cs)) (hcs : cs.length = sz) (hx : E w' x cs) : EachL sz E w' v' (l ++ [x]) := by
  refine ⟨css ++ [cs], by simp [h1], ?_, by simpa using hr, ?_⟩
  · intro c hc
    rcases List.mem_append.1 hc with hc | hc
    · exact h2 c hc
    · simp at hc; subst hc; exact hcs
  · intro i c y hc hy
    by_cases hi : i < l.length
    · rw [List.getElem?_append_left (by omega)] at hc hy
      exact hE i c y hc hy
    · rw [List.getElem?_append_right (by omega)] at hc hy
      have e0 : i - l.length = 0 := by have := (List.getElem?_eq_some_iff.1 hy).1; simp at this; omega
      rw [h1, e0] at hc
      rw [e0] at hy
      simp at hc hy
      subst hc; subst hy; exact hx
def vrc (v : Vr) : List Value := [.string v.name, .int .i64 v.low, .int .i64 v.high, .int .i64 v.init]
def VarE : World → Vr → List Value → Prop := fun _ v cs => cs = vrc v
def IsVars (w : World) (v : Value) (l : List Vr) : Prop := EachL 4 VarE w v l
theorem IsVars.ext {w w' : World} {v : Value} {l : List Vr} (h : IsVars w v l) (hb : Ext w w') : IsVars w' v l := EachL.ext (E := VarE) (w := w) (w' := w') (fun _ _ h => h) h hb
def SetE : World → Int × Tm → List Value → Prop := fun w s cs => ∃ v, cs = [.int .i64 s.1, v] ∧ IsT w v s.2
def IsSets (w : World) (v : Value) (l : List (Int × Tm)) : Prop := EachL 2 SetE w v l
theorem SetE.ext {w w' : World} {s : Int × Tm} {cs : List Value} (h : SetE w s cs) (hb : Ext w w') : SetE w' s cs := by
  obtain ⟨v, h1, h2⟩ := h
  exact ⟨v, h1, h2.ext hb⟩
theorem IsSets.ext {w w' : World} {v : Value} {l : List (Int × Tm)} (h : IsSets w v l) (hb : Ext w w') : IsSets w' v l := EachL.ext (E := SetE) (w := w) (w' := w') (fun _ _ h => h.ext hb) h hb
def RuleE : World → Rl → List Value → Prop := fun w r cs => ∃ g s, cs = [g, s] ∧ IsT w g r.guard ∧ IsSets w s r.sets
theorem RuleE.ext {w w' : World} {r : Rl} {cs : List Value} (h : RuleE w r cs) (hb : Ext w w') : RuleE w' r cs := by
  obtain ⟨g, s, h1, h2, h3⟩ := h
  exact ⟨g, s, h1, h2.ext hb, h3.ext hb⟩
def IsRules (w : World) (v : Value) (l : List Rl) : Prop := EachL 2 RuleE w v l
theorem IsRules.ext {w w' : World} {v : Value} {l : List Rl} (h : IsRules w v l) (hb : Ext w w') : IsRules w' v l := EachL.ext (E := RuleE) (w := w) (w' := w') (fun _ _ h => h.ext hb) h hb
def TmE : World → Tm → List Value → Prop := fun w t cs => ∃ v, cs = [v] ∧ IsT w v t
theorem TmE.ext {w w' : World} {t : Tm} {cs : List Value} (h : TmE w t cs) (hb : Ext w w') : TmE w' t cs := by
  obtain ⟨v, h1, h2⟩ := h
  exact ⟨v, h1, h2.ext hb⟩
def IsTms (w : World) (v : Value) (l : List Tm) : Prop := EachL 1 TmE w v l
theorem IsTms.ext {w w' : World} {v : Value} {l : List Tm} (h : IsTms w v l) (hb : Ext w w') : IsTms w' v l := EachL.ext (E := TmE) (w := w) (w' := w') (fun _ _ h => h.ext hb) h hb
structure IsMd (w : World) (vv rv : Value) (m : Md) : Prop where
  vars : IsVars w vv m.vars
  rules : IsRules w rv m.rules
theorem IsMd.ext {w w' : World} {vv rv : Value} {m : Md} (h : IsMd w vv rv m) (hb : Ext w w') : IsMd w' vv rv m := ⟨h.vars.ext hb, h.rules.ext hb⟩
theorem IsVars.at {w : World} {v : Value} {l : List Vr} (h : IsVars w v l) : ∃ a c, v = .slice a l.length c ∧ l.length ≤ maxLen ∧ ∃ b off, (0 < l.length → a = some ⟨b, off, none⟩) ∧ ∀ (i : Nat) (hi : i < l.length),
    w.cell? ⟨b, off + i * 4, none⟩ = some (.string l[i].name) ∧ w.cell? ⟨b, off + i * 4 + 1, none⟩ = some (.int .i64 l[i].low) ∧ w.cell? ⟨b, off + i * 4 + 2, none⟩ = some (.int .i64 l[i].high) ∧ w.cell? ⟨b, off + i * 4 + 3, none⟩ = some (.int .i64 l[i].init) := by
  obtain ⟨a, c, h1, h2, b, off, h3, h4⟩ := EachL.at h (by omega)
  refine ⟨a, c, h1, h2, b, off, h3, fun i hi => ?_⟩
  obtain ⟨cs, _, rfl, hc⟩ := h4 i hi
  exact ⟨hc 0 _ rfl, hc 1 _ rfl, hc 2 _ rfl, hc 3 _ rfl⟩
theorem IsSets.at {w : World} {v : Value} {l : List (Int × Tm)} (h : IsSets w v l) : ∃ a c, v = .slice a l.length c ∧ l.length ≤ maxLen ∧ ∃ b off, (0 < l.length → a = some ⟨b, off, none⟩) ∧ ∀ (i : Nat) (hi : i < l.length),
    ∃ u, w.cell? ⟨b, off + i * 2, none⟩ = some (.int .i64 l[i].1) ∧ w.cell? ⟨b, off + i * 2 + 1, none⟩ = some u ∧ IsT w u l[i].2 := by
  obtain ⟨a, c, h1, h2, b, off, h3, h4⟩ := EachL.at h (by omega)
  refine ⟨a, c, h1, h2, b, off, h3, fun i hi => ?_⟩
  obtain ⟨cs, _, ⟨u, rfl, hu⟩, hc⟩ := h4 i hi
  exact ⟨u, hc 0 _ rfl, hc 1 _ rfl, hu⟩
theorem IsRules.at {w : World} {v : Value} {l : List Rl} (h : IsRules w v l) : ∃ a c, v = .slice a l.length c ∧ l.length ≤ maxLen ∧ ∃ b off, (0 < l.length → a = some ⟨b, off, none⟩) ∧ ∀ (i : Nat) (hi : i < l.length),
    ∃ g s, w.cell? ⟨b, off + i * 2, none⟩ = some g ∧ w.cell? ⟨b, off + i * 2 + 1, none⟩ = some s ∧ IsT w g l[i].guard ∧ IsSets w s l[i].sets := by
  obtain ⟨a, c, h1, h2, b, off, h3, h4⟩ := EachL.at h (by omega)
  refine ⟨a, c, h1, h2, b, off, h3, fun i hi => ?_⟩
  obtain ⟨cs, _, ⟨g, s, rfl, hg, hs⟩, hc⟩ := h4 i hi
  exact ⟨g, s, hc 0 _ rfl, hc 1 _ rfl, hg, hs⟩
theorem IsTms.at {w : World} {v : Value} {l : List Tm} (h : IsTms w v l) : ∃ a c, v = .slice a l.length c ∧ l.length ≤ maxLen ∧ ∃ b off, (0 < l.length → a = some ⟨b, off, none⟩) ∧ ∀ (i : Nat) (hi : i < l.length),
    ∃ u, w.cell? ⟨b, off + i, none⟩ = some u ∧ IsT w u l[i] := by
  obtain ⟨a, c, h1, h2, b, off, h3, h4⟩ := EachL.at h (by omega)
  refine ⟨a, c, h1, h2, b, off, h3, fun i hi => ?_⟩
  obtain ⟨cs, _, ⟨u, rfl, hu⟩, hc⟩ := h4 i hi
  have := hc 0 _ rfl
  rw [Nat.mul_one, Nat.add_zero] at this
  exact ⟨u, this, hu⟩
end Go.Proofs.YtopkbjfjncpjdaaDoor
