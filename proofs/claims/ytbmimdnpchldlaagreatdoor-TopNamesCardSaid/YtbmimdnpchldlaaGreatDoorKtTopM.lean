/- What the laws need that change a task's model. -/
import Derived.Test.YtbmimdnpchldlaaGreatDoorKt15
import Derived.Test.YtbmimdnpchldlaaGreatDoorKtTopQ
namespace Go.Proofs.YtbmimdnpchldlaaGreatDoor
open Go.RowKit

theorem row_blk {w : World} {b n sz : Nat} {cs : Array Value} {T : TypeId} (h : w.heap[b]? = some (.cells cs T (0, 0))) (hl : cs.size = n * sz) (hm : n ≤ maxLen) : Row w sz (some ⟨b, 0, none⟩) n n cs.toList :=
  ⟨by simpa using hl, Nat.le_refl _, hm, b, 0, (by intro h; cases h), fun _ => rfl, fun j u hu => by
    rw [Nat.zero_add]
    exact blk_cell h (by simpa using hu)⟩
theorem isT_blk {w : World} {b : Nat} {k v : Int} {T : TypeId} (h : w.heap[b]? = some (.cells #[.int .i64 k, .int .i64 v] T (0, 0))) : IsT w (.slice (some ⟨b, 0, none⟩) 1 1) (.n0 k v) :=
  ⟨_, _, rfl, row_blk (n := 1) (sz := 2) h rfl (by unfold maxLen; omega)⟩
theorem rule_ones {w : World} {l : List Rl} {css : List (List Value)} (hl : css.length = l.length) (h : ∀ (i : Nat) (cs : List Value) (x : Rl), css[i]? = some cs → l[i]? = some x → RuleE w x cs) : ∀ u ∈ css.flatten, u.oneCell' = true := by
  intro u hu
  obtain ⟨cs, hcs, hu⟩ := List.mem_flatten.1 hu
  obtain ⟨i, hi, e⟩ := List.mem_iff_getElem.1 hcs
  obtain ⟨g, s, e2, hg, hs⟩ := h i cs l[i] (by rw [List.getElem?_eq_getElem hi, e]) (List.getElem?_eq_getElem _)
  obtain ⟨_, _, _, rfl⟩ := hg.val
  obtain ⟨_, _, rfl⟩ := EachL.val hs
  subst e2
  simp only [List.mem_cons, List.not_mem_nil, or_false] at hu
  rcases hu with rfl | rfl <;> rfl
theorem stay_pre (n : Int) : RlPre n stayR := ⟨by decide, ⟨by simp only [stayR, Tm.ok]; exact ⟨by omega, by omega, by decide⟩, fun o ho => by
  simp only [stayR, Tm.flat, List.mem_singleton] at ho
  subst ho
  unfold opE
  rw [if_neg (by decide)]
  simp, rfl⟩, by simp [stayR, Tm.size], fun s hs => by simp [stayR] at hs⟩
theorem more_ok {m : Md} (h : m.Ok) (hl : m.rules.length ≤ 11) : (⟨m.vars, m.rules ++ [stayR]⟩ : Md).Ok where
  six := h.six
  vars := h.vars
  count := h.count
  twelve := by show (m.rules ++ [stayR]).length ≤ 12; simp; omega
  rules := fun r hr => by
    rcases List.mem_append.1 hr with h1 | h1
    · exact h.rules r h1
    · obtain rfl := List.mem_singleton.1 h1
      exact stay_pre _
  names := h.names
  kinds := fun r hr => by
    rcases List.mem_append.1 hr with h1 | h1
    · exact h.kinds r h1
    · obtain rfl := List.mem_singleton.1 h1
      exact ⟨rfl, by simp [stayR]⟩

/-- What hangs on old blocks alone, when some of the new ones change. -/
theorem rules_more {w : World} {v : Value} {n : Nat} {l : List Rl} {r : Rl} {css : List (List Value)} {cs : List Value} (hl : css.length = l.length) (hn : n = l.length + 1) (h2 : ∀ c ∈ css, c.length = 2) (hc : cs.length = 2) (hr : Reads w 2 v n (css.flatten ++ cs)) (he : ∀ (i : Nat) (c : List Value) (x : Rl), css[i]? = some c → l[i]? = some x → RuleE w x c) (hx : RuleE w r cs) : IsRules w v (l ++ [r]) := by
  refine ⟨css ++ [cs], by simp [hl], fun c h => ?_, by rw [List.length_append, List.flatten_append]; subst hn; simpa using hr, fun i c x h1 h2 => ?_⟩
  · rcases List.mem_append.1 h with h | h
    · exact h2 c h
    · obtain rfl := List.mem_singleton.1 h; exact hc
  · by_cases hi : i < css.length
    · rw [List.getElem?_append_left hi] at h1
      rw [List.getElem?_append_left (by omega)] at h2
      exact he i c x h1 h2
    · rw [List.getElem?_append_right (by omega)] at h1
      rw [List.getElem?_append_right (by omega)] at h2
      have e : i - css.length = 0 := by have := (List.getElem?_eq_some_iff.1 h1).1; simp at this; omega
      rw [e] at h1
      rw [← hl, e] at h2
      simp at h1 h2
      subst h1; subst h2; exact hx

end Go.Proofs.YtbmimdnpchldlaaGreatDoor
