/- Plain: models with more ways to go, or with the same ones. No condition. -/
import Derived.Test.YtbmimdnpchldlaaGreatDoorKt15
namespace Go.Proofs.YtbmimdnpchldlaaGreatDoor

theorem RunL.in {m : Md} (hp : m.Pre) {n back : Nat} {x : Nat → Int} (hr : RunL m n back x) : ∀ i, i < n → 0 ≤ x i ∧ x i < countL m.vars := by
  intro i
  induction i with
  | zero => intro _; rw [hr.first]; exact first_bd hp
  | succ i ih =>
    intro hi
    have h1 := ih (by omega)
    have h2 := hr.step i (by omega)
    have e : nxt n back i = i + 1 := by unfold nxt; rw [if_pos hi]
    rw [e] at h2
    exact h2.in hp h1.1 h1.2

/-- Where one model's ways are another's, what holds of the other holds of the one. -/
theorem run_more {m m' : Md} (hp : m.Pre) (hv : m'.vars = m.vars) (hn : ∀ c d, 0 ≤ c → c < countL m.vars → NextP m c d → NextP m' c d) {P : List Tm} {t : Tm} (h : HoldsR m' P t) : HoldsR m P t := by
  intro n back x hr
  have hin := hr.in hp
  have h1 := h n back x ⟨hr.hb, by unfold Md.first; rw [hv]; exact hr.first, fun i hi => hn _ _ (hin i hi).1 (hin i hi).2 (hr.step i hi)⟩
  unfold wdOf at h1 ⊢
  rw [hv] at h1
  exact h1

theorem behind_eq {m m' : Md} (hv : m'.vars = m.vars) (xs : List Int) (l : List Rl) : behindL m' xs l = behindL m xs l := by
  induction l with
  | nil => rfl
  | cons r l ih =>
    simp only [behindL, ih]
    unfold afterV
    rw [hv]

/-- A rule that can always be done and changes nothing. -/
def stayR : Rl := ⟨.n0 11 0, []⟩
theorem stay_after (m : Md) (xs : List Int) : afterV m stayR xs = some xs := by
  unfold afterV stayR
  have e : evalT xs (.n0 11 0) = some 1 := by
    show over (leafV xs 11 0) = some 1
    unfold leafV
    rw [if_neg (by omega), if_neg (by omega), if_pos rfl]
    unfold over
    rw [if_pos (show Small 1 by unfold Small; omega)]
  rw [e]
  simp [setsV]
theorem stay_next {m : Md} (hp : m.Pre) {c d : Int} (h0 : 0 ≤ c) (h1 : c < countL m.vars) : NextP ⟨m.vars, m.rules ++ [stayR]⟩ c d ↔ d = c ∨ d ∈ behindL m (valsL m.vars c) m.rules := by
  have hb : behindL ⟨m.vars, m.rules ++ [stayR]⟩ (valsL m.vars c) (m.rules ++ [stayR]) = behindL m (valsL m.vars c) m.rules ++ [c] := by
    rw [behind_eq (m := m) (m' := ⟨m.vars, m.rules ++ [stayR]⟩) rfl, behindL_app]
    congr 1
    simp only [behindL, stay_after, List.append_nil]
    rw [code_valsL hp.vars c h0 h1]
  unfold NextP
  show d ∈ behindL ⟨m.vars, m.rules ++ [stayR]⟩ (valsL m.vars c) (m.rules ++ [stayR]) ∨ (behindL ⟨m.vars, m.rules ++ [stayR]⟩ (valsL m.vars c) (m.rules ++ [stayR]) = [] ∧ d = c) ↔ _
  rw [hb]
  simp only [List.mem_append, List.mem_singleton, List.append_eq_nil_iff, List.cons_ne_nil, and_false, false_and, or_false]
  exact or_comm
theorem stay_more {m : Md} (hp : m.Pre) {P : List Tm} {t : Tm} (h : holdsB ⟨m.vars, m.rules ++ [stayR]⟩ P t = true) : holdsB m P t = true := by
  refine holdsB_iff.2 (run_more (m' := ⟨m.vars, m.rules ++ [stayR]⟩) hp rfl (fun c d h0 h1 hn => ?_) (holdsB_iff.1 h))
  refine (stay_next hp h0 h1).2 ?_
  rcases hn with hn | ⟨_, hn⟩
  · exact .inr hn
  · exact .inl hn

/-- Rules in another order, or twice. -/
theorem same_rules {m m' : Md} (hp : m.Pre) (hp' : m'.Pre) (hv : m'.vars = m.vars) (hn : ∀ c d, NextP m' c d ↔ NextP m c d) (P : List Tm) (t : Tm) : holdsB m' P t = holdsB m P t := by
  refine holdsB_eq ?_
  rw [holdsB_iff]
  exact ⟨run_more hp hv fun c d _ _ h => (hn c d).2 h, run_more hp' hv.symm fun c d _ _ h => (hn c d).1 h⟩

/-! Variables of other names, and one more that nobody uses. -/
theorem vals_app (a b : List Vr) (c : Int) : valsL (a ++ b) c = valsL a (digL b c).2 ++ valsL b c := by
  unfold valsL
  have : (digL (a ++ b) c).1 = (digL a (digL b c).2).1 ++ (digL b c).1 ∧ (digL (a ++ b) c).2 = (digL a (digL b c).2).2 := by
    induction a with
    | nil => simp [digL]
    | cons v l ih => simp [digL, ih.1, ih.2]
  exact this.1
theorem codeL_app : ∀ (a b : List Vr) (xs ys : List Int) (n : Int), xs.length = a.length → codeL (a ++ b) (xs ++ ys) n = codeL b ys (codeL a xs n)
  | [], b, xs, ys, n, h => by
    cases xs with
    | nil => rfl
    | cons x xs => simp at h
  | v :: a, b, xs, ys, n, h => by
    cases xs with
    | nil => simp at h
    | cons x xs => exact codeL_app a b xs ys _ (by simpa using h)

/-- The same variables, but for their names. -/
def SameV (a b : List Vr) : Prop := a.map (fun v => (v.low, v.high, v.init)) = b.map fun v => (v.low, v.high, v.init)
theorem SameV.cons {v u : Vr} {a b : List Vr} (h : SameV (v :: a) (u :: b)) : v.low = u.low ∧ v.high = u.high ∧ v.init = u.init ∧ SameV a b := by
  unfold SameV at *
  simp only [List.map_cons, List.cons.injEq, Prod.mk.injEq] at h
  exact ⟨h.1.1, h.1.2.1, h.1.2.2, h.2⟩
theorem SameV.len {a b : List Vr} (h : SameV a b) : a.length = b.length := by have := congrArg List.length h; simpa using this
theorem SameV.dig : ∀ {a b : List Vr}, SameV a b → ∀ c, digL a c = digL b c
  | [], [], _, c => rfl
  | [], _ :: _, h, c => by have := h.len; simp at this
  | _ :: _, [], h, c => by have := h.len; simp at this
  | v :: a, u :: b, h, c => by
    obtain ⟨h1, h2, _, h4⟩ := h.cons
    simp only [digL, SameV.dig h4 c]
    unfold Vr.span
    rw [h1, h2]
theorem SameV.vals {a b : List Vr} (h : SameV a b) (c : Int) : valsL a c = valsL b c := by unfold valsL; rw [h.dig]
theorem SameV.code : ∀ {a b : List Vr}, SameV a b → ∀ xs n, codeL a xs n = codeL b xs n
  | [], [], _, xs, n => rfl
  | [], _ :: _, h, xs, n => by have := h.len; simp at this
  | _ :: _, [], h, xs, n => by have := h.len; simp at this
  | v :: a, u :: b, h, xs, n => by
    obtain ⟨h1, h2, _, h4⟩ := h.cons
    cases xs with
    | nil => rfl
    | cons x xs =>
      simp only [codeL, SameV.code h4]
      unfold Vr.span
      rw [h1, h2]
theorem SameV.inits {a b : List Vr} (h : SameV a b) : a.map (·.init) = b.map (·.init) := by
  have := congrArg (List.map (fun p : Int × Int × Int => p.2.2)) h
  simpa [List.map_map, Function.comp_def] using this
theorem SameV.at {a b : List Vr} (h : SameV a b) (i : Nat) (z : Vr) : (a.getD i z).low = (b.getD i z).low ∧ (a.getD i z).high = (b.getD i z).high := by
  have h1 : (a.map (fun v => (v.low, v.high, v.init)))[i]? = (b.map fun v => (v.low, v.high, v.init))[i]? := by rw [show a.map (fun v => (v.low, v.high, v.init)) = b.map fun v => (v.low, v.high, v.init) from h]
  rw [List.getElem?_map, List.getElem?_map] at h1
  simp only [List.getD]
  cases ha : a[i]? <;> cases hb : b[i]? <;> rw [ha, hb] at h1 <;> simp at h1 ⊢
  exact ⟨h1.1, h1.2.1⟩

/-- Terms do not see values that they do not name. -/
theorem evalT_more (xs ys : List Int) {n : Int} (hn : n ≤ xs.length) : ∀ {t : Tm}, t.good n → evalT (xs ++ ys) t = evalT xs t := by
  intro t
  induction t with
  | n0 k v =>
    intro h
    show over (leafV (xs ++ ys) k v) = over (leafV xs k v)
    congr 1
    unfold leafV
    by_cases h1 : k = 1
    · rw [if_pos h1, if_pos h1]
    · rw [if_neg h1, if_neg h1]
      by_cases h2 : k = 2
      · rw [if_pos h2, if_pos h2]
        have h3 := h (k, v) (by simp [Tm.flat])
        subst h2
        have h4 : 0 ≤ v ∧ v < n := by
          unfold opE at h3
          simp at h3
          omega
        simp only [List.getD]
        rw [List.getElem?_append_left (by omega)]
      · rw [if_neg h2, if_neg h2]
  | n1 k v a ih =>
    intro h
    show (evalT (xs ++ ys) a).bind _ = (evalT xs a).bind _
    rw [ih (good_1 h)]
  | n2 k v a b iha ihb =>
    intro h
    show (evalT (xs ++ ys) b).bind _ = (evalT xs b).bind _
    rw [ihb (good_2 h).2, iha (good_2 h).1]

end Go.Proofs.YtbmimdnpchldlaaGreatDoor
