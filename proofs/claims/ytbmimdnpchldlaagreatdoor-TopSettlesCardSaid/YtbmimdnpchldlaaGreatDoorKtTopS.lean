/- Plain: states that lead back to themselves. No condition. -/
import Derived.Test.YtbmimdnpchldlaaGreatDoorKtTopE2
import Derived.Test.YtbmimdnpchldlaaGreatDoorKt10
namespace Go.Proofs.YtbmimdnpchldlaaGreatDoor
open Go.RowKit

theorem hs_step {P : Program} {ops : Array Oper} {w : World} {Q : Act → Prop} {a : Act} {o : Oper} {rest : List Oper}
    (h : ∀ K : Act → Prop, (∀ a, Shut (wpStill P ops w Q rest a) → K a) → if Region.wanted o (yielded ops a.tmps) then o.still P a w K else K (a.put o.dst undef)) : Shut (wpStill P ops w Q (o :: rest) a) :=
  ⟨wpStill_step fun K hK => h K fun a ha => hK a ha.out⟩
theorem hs_nil {P : Program} {ops : Array Oper} {w : World} {Q : Act → Prop} {a : Act} (h : Q a) : Shut (wpStill P ops w Q [] a) := ⟨wpStill_nil h⟩

theorem list_set_same {α : Type} {l : List α} {i : Nat} {x : α} (h : l[i]? = some x) : l.set i x = l := by
  obtain ⟨hi, rfl⟩ := List.getElem?_eq_some_iff.1 h
  exact List.set_getElem_self hi

def BackQ (LA : List (List Bool)) (NA : List (List Int)) (N q c : Nat) : Prop :=
  (∃ l, LA[c]? = some l ∧ l.getD q false = false) ∧ ∃ e, Edge NA c e ∧ LeadI NA (List.replicate N true) ((List.replicate N false).set c true) e

theorem lead_iff {m : Md} {N : Nat} (hN : ∀ c d, InN N c → NextP m c d → InN N d) {al wa : List Bool} {A B : Int → Prop} (hA : MarksS N al A) (hB : MarksS N wa B) {e : Nat} (he : e < N) : LeadI (nextA m N) al wa e ↔ LeadS m A B (e : Int) := by
  have hlt : ∀ c, LeadI (nextA m N) al wa c → c < N := fun c h => by
    cases h with
    | here h => have := (List.getElem?_eq_some_iff.1 h).1; rw [hB.1] at this; exact this
    | step h _ _ => have := (List.getElem?_eq_some_iff.1 h).1; rw [hA.1] at this; exact this
  have hm := lead_marks hN hA hB (inn := (List.range N).map fun c => @decide (LeadI (nextA m N) al wa c) (Classical.propDecidable _)) (fun c => by
    rw [List.getElem?_map]
    by_cases hc : c < N
    · rw [List.getElem?_range hc]
      simp
    · rw [List.getElem?_eq_none (by simp; omega)]
      simp
      exact fun h => hc (hlt c h)) (by simp)
  have h2 := hm.2 e he
  rw [List.getElem?_map, List.getElem?_range he] at h2
  simpa using h2

theorem back_marks {m : Md} {P : List Tm} {N : Nat} (hN : ∀ c d, InN N c → NextP m c d → InN N d) {q : Nat} {bk : List Bool} (hl : bk.length = N) (h : ∀ c : Nat, c < N → (bk[c]? = some true ↔ BackQ (letA m P N) (nextA m N) N q c)) :
    MarksS N bk (fun c => ¬ pS m P (q : Int) c ∧ ∃ d, NextP m c d ∧ LeadS m (fun _ => True) (fun e => e = c) d) := by
  refine ⟨hl, fun c hc => (h c hc).trans ?_⟩
  unfold BackQ
  rw [letA_at m P hc]
  have hx : (∃ l, some (letS P (valsL m.vars (c : Int))) = some l ∧ l.getD q false = false) ↔ ¬ pS m P (q : Int) (c : Int) := by
    unfold pS
    rw [show ((q : Int)).toNat = q by omega]
    simp
  rw [hx]
  refine and_congr Iff.rfl ?_
  constructor
  · rintro ⟨e, he, hle⟩
    have h1 := (nextA_edge.1 he).2
    have h2 := hN _ _ ⟨by omega, by omega⟩ h1
    exact ⟨(e : Int), h1, (lead_iff hN (MarksS.all N) (MarksS.one c hc) (by have := h2.2; omega)).1 hle⟩
  · rintro ⟨d, hd, hle⟩
    have h2 := hN _ _ ⟨by omega, by omega⟩ hd
    obtain ⟨e, rfl⟩ : ∃ e : Nat, d = (e : Int) := ⟨d.toNat, by have := h2.1; omega⟩
    exact ⟨e, nextA_edge.2 ⟨hc, hd⟩, (lead_iff hN (MarksS.all N) (MarksS.one c hc) (by have := h2.2; omega)).2 hle⟩

/-- What the rounds make of one state's place. -/
theorem back_round {LA : List (List Bool)} {NA : List (List Int)} {N q c : Nat} {l : List Bool} {ns : List Int} {inn : List Bool} (hl : LA[c]? = some l) (hn : NA[c]? = some ns) (hi : ∀ d : Nat, inn[d]? = some true ↔ LeadI NA (List.replicate N true) ((List.replicate N false).set c true) d) {y : Bool}
    (hy : y = true ↔ l.getD q false = false ∧ ∃ (j e : Nat), j < ns.length ∧ ns[j]? = some (e : Int) ∧ inn[e]? = some true) : y = true ↔ BackQ LA NA N q c := by
  rw [hy]
  unfold BackQ
  constructor
  · rintro ⟨h1, j, e, _, h2, h3⟩
    exact ⟨⟨l, hl, h1⟩, e, ⟨ns, hn, List.mem_of_getElem? h2⟩, (hi e).1 h3⟩
  · rintro ⟨⟨l', h1, h2⟩, e, ⟨ns', h3, h4⟩, h5⟩
    rw [hl] at h1
    rw [hn] at h3
    obtain rfl := Option.some.inj h1
    obtain rfl := Option.some.inj h3
    obtain ⟨j, hj, e2⟩ := List.mem_iff_getElem.1 h4
    exact ⟨h2, j, e, hj, by rw [List.getElem?_eq_getElem hj, e2], (hi e).2 h5⟩

end Go.Proofs.YtbmimdnpchldlaaGreatDoor
