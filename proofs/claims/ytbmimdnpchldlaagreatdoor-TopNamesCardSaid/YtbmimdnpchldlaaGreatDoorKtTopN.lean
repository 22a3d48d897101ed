/- Plain: variables of other names, and one more that nobody uses. No condition. -/
import Derived.Test.YtbmimdnpchldlaaGreatDoorKtTopQ
namespace Go.Proofs.YtbmimdnpchldlaaGreatDoor

theorem setsV_more {l l' : List Vr} {old ys : List Int} (hl : ∀ i, i < l.length → (l'.getD i ⟨ByteArray.empty, 0, 0, 0⟩).low = (l.getD i ⟨ByteArray.empty, 0, 0, 0⟩).low ∧ (l'.getD i ⟨ByteArray.empty, 0, 0, 0⟩).high = (l.getD i ⟨ByteArray.empty, 0, 0, 0⟩).high) (ho : old.length = l.length) :
    ∀ (ss : List (Int × Tm)) (out : List Int), (∀ q ∈ ss, 0 ≤ q.1 ∧ q.1 < l.length ∧ q.2.good l.length) → out.length = l.length → setsV l' (old ++ ys) ss (out ++ ys) = (setsV l old ss out).map (· ++ ys)
  | [], out, _, _ => rfl
  | q :: ss, out, hq, hout => by
    have h1 := hq q (by simp)
    have hi : q.1.toNat < l.length := by omega
    have h2 := hl _ hi
    unfold setsV
    rw [evalT_more old ys (n := l.length) (by omega) h1.2.2, h2.1, h2.2]
    cases he : evalT old q.2 with
    | none => rfl
    | some n =>
      simp only
      split
      · rw [List.set_append_left _ _ (by omega)]
        exact setsV_more hl ho ss _ (fun x hx => hq x (by simp [hx])) (by rw [List.length_set]; exact hout)
      · rfl

section
variable {m : Md} (hp : m.Pre) {ren : List Vr} (hr : SameV ren m.vars) {id : Vr} (h0 : id.low = 0) (hs : 1 ≤ id.span)
include hp hr
theorem afterV_more (r : Rl) (hrl : RlPre m.vars.length r) {xs : List Int} (hx : xs.length = m.vars.length) (y : Int) : afterV ⟨ren ++ [id], m.rules⟩ r (xs ++ [y]) = (afterV m r xs).map (· ++ [y]) := by
  have _ := hp
  unfold afterV
  rw [evalT_more xs [y] (n := m.vars.length) (by omega) hrl.guard.good]
  cases he : evalT xs r.guard with
  | none => rfl
  | some n =>
    simp only
    split
    · rfl
    · refine setsV_more (fun i hi => ?_) hx _ _ (fun q hq => ?_) hx
      · have h1 := hr.at i ⟨ByteArray.empty, 0, 0, 0⟩
        have h2 := hr.len
        have e : (ren ++ [id]).getD i ⟨ByteArray.empty, 0, 0, 0⟩ = ren.getD i ⟨ByteArray.empty, 0, 0, 0⟩ := by
          simp only [List.getD]
          rw [List.getElem?_append_left (by omega)]
        show ((ren ++ [id]).getD i _).low = _ ∧ ((ren ++ [id]).getD i _).high = _
        rw [e]
        exact h1
      · have := hrl.sets q hq
        exact ⟨this.1, this.2.1, this.2.2.1.good⟩

include h0
theorem code_more {zs : List Int} (hz : zs.length = m.vars.length) (y : Int) : codeL (ren ++ [id]) (zs ++ [y]) 0 = codeL m.vars zs 0 * id.span + y := by
  have _ := hp
  rw [codeL_app _ _ _ _ _ (by have := hr.len; omega), hr.code]
  simp [codeL, h0]

theorem behindL_more (xs : List Int) (hI : InV m.vars xs) (y : Int) : ∀ rs : List Rl, (∀ r ∈ rs, RlPre m.vars.length r) → behindL ⟨ren ++ [id], m.rules⟩ (xs ++ [y]) rs = (behindL m xs rs).map fun d => d * id.span + y
  | [], _ => rfl
  | r :: rs, h => by
    have hrl := h r (by simp)
    simp only [behindL, List.map_append]
    rw [behindL_more xs hI y rs fun q hq => h q (by simp [hq]), afterV_more hp hr r hrl hI.len y]
    congr 1
    cases he : afterV m r xs with
    | none => rfl
    | some zs =>
      have hz := (afterV_in hrl hI he).len
      simp only [Option.map_some, List.map_cons, List.map_nil, List.cons.injEq, and_true]
      exact code_more hp hr h0 hz y

theorem vals_more (c : Int) : valsL (ren ++ [id]) c = valsL m.vars (c / id.span) ++ [c % id.span] := by
  have _ := hp
  rw [vals_app, hr.vals]
  simp [valsL, digL, h0]

theorem next_more (c d : Int) : NextP ⟨ren ++ [id], m.rules⟩ c d ↔ ∃ b, NextP m (c / id.span) b ∧ d = b * id.span + c % id.span := by
  have hb := behindL_more hp hr (id := id) h0 (valsL m.vars (c / id.span)) (digL_in hp.vars _) (c % id.span) m.rules hp.rules
  have hv := vals_more hp hr (id := id) h0 c
  have hc := Int.mul_ediv_add_emod c id.span
  rw [Int.mul_comm] at hc
  unfold NextP
  show d ∈ behindL ⟨ren ++ [id], m.rules⟩ (valsL (ren ++ [id]) c) m.rules ∨ (behindL ⟨ren ++ [id], m.rules⟩ (valsL (ren ++ [id]) c) m.rules = [] ∧ d = c) ↔ _
  rw [hv, hb]
  generalize behindL m (valsL m.vars (c / id.span)) m.rules = B at *
  constructor
  · rintro (h | ⟨h, rfl⟩)
    · obtain ⟨b, hb1, rfl⟩ := List.mem_map.1 h
      exact ⟨b, .inl hb1, rfl⟩
    · exact ⟨_, .inr ⟨List.map_eq_nil_iff.1 h, rfl⟩, hc.symm⟩
  · rintro ⟨b, h | ⟨h, rfl⟩, rfl⟩
    · exact .inl (List.mem_map.2 ⟨b, h, rfl⟩)
    · exact .inr ⟨by rw [h]; rfl, hc⟩

theorem let_more {P : List Tm} (hP : ∀ p ∈ P, p.good m.vars.length) (c : Int) : letS P (valsL (ren ++ [id]) c) = letS P (valsL m.vars (c / id.span)) := by
  rw [vals_more hp hr h0]
  unfold letS
  refine List.map_congr_left fun p hp => ?_
  rw [evalT_more _ _ (n := m.vars.length) (by rw [valsL_len]; omega) (hP p hp)]

include hs
theorem names_holds (hi : id.init = 0) {P : List Tm} (hP : ∀ p ∈ P, p.good m.vars.length) (t : Tm) : holdsB ⟨ren ++ [id], m.rules⟩ P t = holdsB m P t := by
  have hs0 : id.span ≠ 0 := by omega
  have hfirst : (⟨ren ++ [id], m.rules⟩ : Md).first = m.first * id.span := by
    unfold Md.first
    show codeL (ren ++ [id]) ((ren ++ [id]).map (·.init)) 0 = _
    rw [List.map_append, hr.inits]
    have := code_more hp hr (id := id) h0 (zs := m.vars.map (·.init)) (by simp) id.init
    rw [show List.map (·.init) [id] = [id.init] from rfl, this, hi, Int.add_zero]
  have hw : ∀ (n back : Nat) (x x' : Nat → Int), (∀ i, i < n → x' i / id.span = x i) → wdOf ⟨ren ++ [id], m.rules⟩ P n back x' = wdOf m P n back x := by
    intro n back x x' h
    unfold wdOf
    congr 1
    refine List.map_congr_left fun i hi2 => ?_
    show letS P (valsL (ren ++ [id]) (x' i)) = _
    rw [let_more hp hr h0 hP, h i (List.mem_range.1 hi2)]
  refine holdsB_eq ?_
  rw [holdsB_iff]
  constructor
  · intro h n back x hrn
    have h1 := h n back (fun i => x i * id.span) ⟨hrn.hb, by show x 0 * id.span = _; rw [hfirst, hrn.first], fun i hi2 => by
      refine (next_more hp hr h0 _ _).2 ⟨x (nxt n back i), ?_, ?_⟩
      · show NextP m (x i * id.span / id.span) _
        rw [Int.mul_ediv_cancel _ hs0]
        exact hrn.step i hi2
      · show x (nxt n back i) * id.span = x (nxt n back i) * id.span + x i * id.span % id.span
        rw [Int.mul_emod_left, Int.add_zero]⟩
    rwa [hw n back x _ fun i _ => Int.mul_ediv_cancel _ hs0] at h1
  · intro h n back x' hrn
    have hz : ∀ i, i < n → x' i % id.span = 0 := by
      intro i
      induction i with
      | zero => intro _; rw [hrn.first, hfirst, Int.mul_emod_left]
      | succ i ih =>
        intro hi2
        have h2 := hrn.step i (by omega)
        have e : nxt n back i = i + 1 := by unfold nxt; rw [if_pos hi2]
        rw [e] at h2
        obtain ⟨b, _, hb⟩ := (next_more hp hr h0 _ _).1 h2
        rw [hb, ih (by omega), Int.add_zero, Int.mul_emod_left]
    have h1 := h n back (fun i => x' i / id.span) ⟨hrn.hb, by show x' 0 / id.span = _; rw [hrn.first, hfirst, Int.mul_ediv_cancel _ hs0], fun i hi2 => by
      obtain ⟨b, hb, hb2⟩ := (next_more hp hr h0 _ _).1 (hrn.step i hi2)
      show NextP m (x' i / id.span) (x' (nxt n back i) / id.span)
      rw [hb2, hz i hi2, Int.add_zero, Int.mul_ediv_cancel _ hs0]
      exact hb⟩
    rwa [hw n back _ x' fun i _ => rfl]
end

end Go.Proofs.YtbmimdnpchldlaaGreatDoor
