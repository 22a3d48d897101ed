/- Plain words on what is reached. (Begun; not built yet: the contract of step.Reach is to come behind it.) -/
import Derived.Test.YtkkbefhnklpfaaaDoorMdN
namespace Go.Proofs.YtkkbefhnklpfaaaDoor
open Go.RowKit

/-- What is reached from the first state. -/
inductive ReachS (m : Md) : Int → Prop
  | first : ReachS m m.first
  | next {c d : Int} : ReachS m c → NextP m c d → ReachS m d

theorem first_bd {m : Md} (h : m.Pre) : 0 ≤ m.first ∧ m.first < countL m.vars := codeL_bd h.vars (inits_in h.vars)
theorem ReachS.bd {m : Md} (h : m.Pre) {c : Int} (hc : ReachS m c) : 0 ≤ c ∧ c < countL m.vars := by
  induction hc with
  | first => exact first_bd h
  | next _ hn ih => exact NextP.in h ih.1 ih.2 hn

theorem nodup_bound : ∀ (n : Nat) {l : List Int}, l.Nodup → (∀ x ∈ l, 0 ≤ x ∧ x < (n : Int)) → l.length ≤ n
  | 0, l, _, h => by
    cases l with
    | nil => simp
    | cons x r => have := h x (by simp); omega
  | n + 1, l, hn, h => by
    by_cases hm : (n : Int) ∈ l
    · have h1 := nodup_bound n (l := l.erase (n : Int)) (hn.erase _) fun x hx => by
        have h2 := hn.mem_erase_iff.1 hx
        have h3 := h x h2.2
        have h4 := h2.1
        omega
      rw [List.length_erase_of_mem hm] at h1
      omega
    · have h1 := nodup_bound n hn fun x hx => by
        have h3 := h x hx
        have : x ≠ (n : Int) := fun e => hm (e ▸ hx)
        omega
      omega

/-- The list while it grows: what lies ahead of i has all its next ones in it. -/
structure RInv (m : Md) (l : List Int) (i : Nat) : Prop where
  nd : l.Nodup
  rs : ∀ c ∈ l, ReachS m c
  fi : m.first ∈ l
  le : i ≤ l.length
  cl : ∀ j (h : j < l.length), j < i → ∀ d, NextP m l[j] d → d ∈ l

theorem RInv.done {m : Md} {l : List Int} (h : RInv m l l.length) (c : Int) : c ∈ l ↔ ReachS m c := by
  refine ⟨h.rs c, fun hc => ?_⟩
  induction hc with
  | first => exact h.fi
  | next _ hn ih =>
    obtain ⟨j, hj, e⟩ := List.mem_iff_getElem.1 ih
    subst e
    exact h.cl j hj hj _ hn
theorem RInv.start (m : Md) : RInv m [m.first] 0 := ⟨by simp, by intro c hc; simp at hc; subst hc; exact .first, by simp, by simp, by intro j _ h; omega⟩
theorem RInv.add {m : Md} {l : List Int} {i : Nat} (h : RInv m l i) {d : Int} (hd : ReachS m d) (hn : d ∉ l) : RInv m (l ++ [d]) i where
  nd := by
    rw [List.nodup_append]
    refine ⟨h.nd, by simp, ?_⟩
    intro a ha b hb e
    simp at hb
    subst hb; subst e
    exact hn ha
  rs := by
    intro c hc
    rcases List.mem_append.1 hc with hc | hc
    · exact h.rs c hc
    · simp at hc; subst hc; exact hd
  fi := List.mem_append_left _ h.fi
  le := by have := h.le; simp; omega
  cl := by
    intro j hj hji x hx
    by_cases hl : j < l.length
    · rw [List.getElem_append_left hl] at hx
      exact List.mem_append_left _ (h.cl j hl hji x hx)
    · have := h.le; omega

end Go.Proofs.YtkkbefhnklpfaaaDoor
