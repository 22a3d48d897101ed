/- Models with more variables or rules. No condition. -/
import Derived.Test.YtkkbefhnklpfaaaDoorMdV
namespace Go.Proofs.YtkkbefhnklpfaaaDoor
open Go.RowKit

theorem opE_mono {o : Op2} {v v' : Int} (h : opE o v = 0) (hv : v ≤ v') : opE o v' = 0 := by
  unfold opE at h ⊢
  by_cases h1 : okK o.1 = false
  · rw [if_pos h1] at h; omega
  · rw [if_neg h1] at h ⊢
    by_cases e1 : o.1 = 1
    · simpa [e1] using h
    · by_cases e2 : o.1 = 2
      · simp only [e2, if_true] at h ⊢
        split at h
        · omega
        · rw [if_neg (by omega)]
      · simpa [e1, e2] using h
theorem Sub.mono {t : Tm} {v v' : Int} (h : Sub t v) (hv : v ≤ v') : Sub t v' := ⟨h.ok, fun o ho => opE_mono (h.good o ho) hv, h.typed⟩
theorem RlPre.mono {n n' : Int} {r : Rl} (h : RlPre n r) (hn : n ≤ n') : RlPre n' r :=
  ⟨h.many, h.guard.mono hn, h.gsize, fun s hs => by
    obtain ⟨a, b, c, d, e⟩ := h.sets s hs
    exact ⟨a, by omega, c.mono hn, d, e⟩⟩
theorem Md.Pre.more {m : Md} (h : m.Pre) {z : Vr} (hz : z.Ok) (h5 : m.vars.length + 1 ≤ 6) (hc : countL m.vars * z.span ≤ 4096) : (⟨m.vars ++ [z], m.rules⟩ : Md).Pre where
  six := by simpa using h5
  vars := fun v hv => by
    rcases List.mem_append.1 hv with hv | hv
    · exact h.vars v hv
    · simp at hv; subst hv; exact hz
  count := by
    show countL (m.vars ++ [z]) ≤ 4096
    rw [countL_app]
    simpa [countL] using hc
  twelve := h.twelve
  rules := fun r hr => by
    have h1 := (h.rules r hr).mono (n' := ((m.vars ++ [z]).length : Int)) (by simp; omega)
    exact h1
theorem Md.Ok.more {m : Md} (h : m.Ok) {z : Vr} (hz : z.Ok) (h5 : m.vars.length + 1 ≤ 6) (hc : countL m.vars * z.span ≤ 4096) (hn : z.name ∉ m.vars.map (·.name)) : (⟨m.vars ++ [z], m.rules⟩ : Md).Ok where
  toPre := h.toPre.more hz h5 hc
  names := by
    show ((m.vars ++ [z]).map (·.name)).Nodup
    rw [List.map_append, List.nodup_append]
    refine ⟨h.names, by simp, ?_⟩
    intro a ha b hb
    simp at hb
    subst hb
    intro e
    subst e
    exact hn ha
  kinds := h.kinds

abbrev nmZ : ByteArray := ⟨#[122]⟩
theorem nmZ_list : nmZ.toList = [122] := by rw [ByteArray.toList_eq]
theorem nmZ_ok : NameOk nmZ := by
  refine ⟨by decide, by decide, by rw [nmZ_list]; decide, by rw [nmZ_list]; decide, ?_⟩
  intro i h
  have : i = 0 := by have : nmZ.size = 1 := rfl; omega
  subst this
  exact .inl (show 97 ≤ (122 : UInt8).toNat ∧ (122 : UInt8).toNat ≤ 122 by decide)
theorem nmZ_new : nmZ ∉ [nmX, nmY] := by
  intro h
  simp only [List.mem_cons, List.not_mem_nil, or_false] at h
  rcases h with e | e
  · exact absurd (congrArg (fun s => s.toList) e) (by rw [nmZ_list, nmX_list]; decide)
  · exact absurd (congrArg ByteArray.size e) (by decide)
theorem zvar_ok (p : Int) (h0 : 0 ≤ p) (h1 : p < 8) : (⟨nmZ, 0, p, 0⟩ : Vr).Ok := ⟨nmZ_ok, by show (-1000 : Int) ≤ 0; omega, by show p ≤ 1000; omega, Int.le_refl _, h0, by show p - 0 < 64; omega⟩

theorem reads_of_isVars {w : World} {v : Value} {l : List Vr} (h : IsVars w v l) : Reads w 4 v l.length (l.flatMap vrc) := by
  obtain ⟨css, h1, h2, h3, h4⟩ := h
  have e : css = l.map vrc := by
    apply List.ext_getElem?
    intro i
    by_cases hi : i < l.length
    · have a := List.getElem?_eq_getElem (show i < css.length by omega)
      have b := List.getElem?_eq_getElem hi
      rw [a, List.getElem?_map, b]
      have := h4 i _ _ a b
      show some css[i] = some (vrc l[i])
      rw [show css[i] = vrc l[i] from this]
    · rw [List.getElem?_eq_none (by omega), List.getElem?_eq_none (by simp; omega)]
  rw [e, ← List.flatMap_def] at h3
  exact h3
theorem vrcs_one (l : List Vr) : ∀ u ∈ l.flatMap vrc, u.oneCell' = true := by
  intro u hu
  obtain ⟨v, _, h⟩ := List.mem_flatMap.1 hu
  exact vrc_one v u h
theorem own_at {w : World} {base : Nat} {e : TypeId} {size n : Nat} {v : Value} {xs : List Value} (h : w.ownsRow base e size v n xs) (hn : 0 < n) : ∃ g cap, v = .slice (some ⟨g, 0, none⟩) n cap ∧ base ≤ g ∧ ∀ j u, xs[j]? = some u → w.cell? ⟨g, j, none⟩ = some u := by
  obtain ⟨a, cap, e0, hr⟩ := h.row
  rcases h.2 with ⟨h1, h2⟩ | ⟨g, cap', cur, h1, hg, _⟩
  · omega
  · subst h1
    simp only [Value.slice.injEq] at e0
    obtain ⟨rfl, _, rfl⟩ := e0
    exact ⟨g, _, rfl, hg, fun j u hu => by have := hr.cells j u hu; simpa using this⟩

end Go.Proofs.YtkkbefhnklpfaaaDoor
