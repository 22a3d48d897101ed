/- The law ModelTwice. -/
import Derived.Test.YtkkbefhnklpfaaaDoorMdW
import Derived.Deep.DeepCutAuto
import Derived.Deep.RegionLaw
namespace Go.Proofs.YtkkbefhnklpfaaaDoor
open Go.RowKit

theorem modelE_names {m : Md} (h : ¬ (m.vars.map (·.name)).Nodup) : modelE m = 7 := by unfold modelE; rw [if_neg h]
theorem modelE_last {m : Md} (h : m.Ok) (r : Rl) : modelE ⟨m.vars, m.rules ++ [r]⟩ = if ruleE r = 0 then 0 else ruleE r := by
  unfold modelE
  rw [if_pos h.names]
  have h0 : ∀ j (hj : j < m.rules.length), ruleE m.rules[j] = 0 := fun j hj => by
    obtain ⟨h1, h2⟩ := h.kinds m.rules[j] (by simp)
    unfold ruleE
    rw [if_pos h1, if_pos h2]
  by_cases hr : ruleE r = 0
  · rw [if_pos hr]
    refine rulesE_ok fun x hx => ?_
    rcases List.mem_append.1 hx with hx | hx
    · obtain ⟨j, hj, e⟩ := List.mem_iff_getElem.1 hx
      rw [← e]; exact h0 j hj
    · simp at hx; subst hx; exact hr
  · rw [if_neg hr]
    have := rulesE_at (l := m.rules ++ [r]) (i := m.rules.length) (by simp) (fun j hj hlt => by
      rw [List.getElem_append_left hlt]
      exact h0 j hlt) (by rw [List.getElem_append_right (Nat.le_refl _)]; simpa using hr)
    rw [this, List.getElem_append_right (Nat.le_refl _)]
    simp
theorem Md.Pre.rule {m : Md} (h : m.Pre) {r : Rl} (hr : RlPre m.vars.length r) (hl : m.rules.length + 1 ≤ 12) : (⟨m.vars, m.rules ++ [r]⟩ : Md).Pre where
  six := h.six
  vars := h.vars
  count := h.count
  twelve := by simpa using hl
  rules := fun x hx => by
    rcases List.mem_append.1 hx with hx | hx
    · exact h.rules x hx
    · simp at hx; subst hx; exact hr
theorem not_nodup_again {l : List Vr} {j : Nat} (hj : j < l.length) : ¬ ((l ++ [l[j]]).map (·.name)).Nodup := by
  intro h
  rw [List.map_append, List.nodup_append] at h
  exact h.2.2 l[j].name (List.mem_map.2 ⟨l[j], by simp, rfl⟩) l[j].name (by simp) rfl


end Go.Proofs.YtkkbefhnklpfaaaDoor
