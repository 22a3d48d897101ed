/- MdP: what is needed of it. No condition. -/
import Derived.Test.YtopkbjfjncpjdaaDoorEvalB
namespace Go.Proofs.YtopkbjfjncpjdaaDoor
structure Vr where
  name : ByteArray
  low : Int
  high : Int
  init : Int
def Vr.span (v : Vr) : Int := v.high - v.low + 1
structure Rl where
  guard : Tm
  sets : List (Int × Tm)
structure Md where
  vars : List Vr
  rules : List Rl
structure NameOk (s : ByteArray) : Prop where
  pos : 0 < s.size
  le : s.size ≤ 8
  yes : s.toList ≠ [121, 101, 115]
  no : s.toList ≠ [110, 111]
  ch : ∀ i (h : i < s.size), (97 ≤ s[i].toNat ∧ s[i].toNat ≤ 122) ∨ (48 ≤ s[i].toNat ∧ s[i].toNat ≤ 57 ∧ i ≠ 0)
structure Vr.Ok (v : Vr) : Prop where
  name : NameOk v.name
  low : -1000 ≤ v.low
  high : v.high ≤ 1000
  i0 : v.low ≤ v.init
  i1 : v.init ≤ v.high
  sp : v.high - v.low < 64
theorem Vr.Ok.span {v : Vr} (h : v.Ok) : 1 ≤ v.span ∧ v.span ≤ 64 := by
  have := h.i0; have := h.i1; have := h.sp
  unfold Vr.span; omega
def countL : List Vr → Int
  | [] => 1
  | v :: l => v.span * countL l
theorem countL_pos : ∀ {l : List Vr}, (∀ v ∈ l, v.Ok) → 1 ≤ countL l
  | [], _ => by simp [countL]
  | v :: l, h => by
    have h1 := (h v (by simp)).span
    have h2 := countL_pos (l := l) fun x hx => h x (by simp [hx])
    have := Int.mul_le_mul h1.1 h2 (by omega) (by omega)
    simpa [countL] using this
theorem countL_app (a b : List Vr) : countL (a ++ b) = countL a * countL b := by
  induction a with
  | nil => simp [countL]
  | cons v l ih => simp only [List.cons_append, countL, ih]; rw [Int.mul_assoc]
theorem countL_take {l : List Vr} (h : ∀ v ∈ l, v.Ok) (i : Nat) : 1 ≤ countL (l.take i) ∧ countL (l.take i) ≤ countL l := by
  have h1 := countL_pos (l := l.take i) fun v hv => h v (List.mem_of_mem_take hv)
  have h2 := countL_pos (l := l.drop i) fun v hv => h v (List.mem_of_mem_drop hv)
  have e : countL l = countL (l.take i) * countL (l.drop i) := by rw [← countL_app, List.take_append_drop]
  refine ⟨h1, ?_⟩
  rw [e]
  have := Int.mul_le_mul (Int.le_refl (countL (l.take i))) h2 (by omega) (by omega)
  simpa using this
theorem countL_snoc {l : List Vr} {i : Nat} (h : i < l.length) : countL (l.take (i + 1)) = countL (l.take i) * l[i].span := by
  rw [List.take_succ_eq_append_getElem h, countL_app]
  simp [countL]
structure RlPre (n : Int) (r : Rl) : Prop where
  many : r.sets.length ≤ 6
  guard : Sub r.guard n
  gsize : r.guard.size ≤ 60
  sets : ∀ s ∈ r.sets, 0 ≤ s.1 ∧ s.1 < n ∧ Sub s.2 n ∧ s.2.size ≤ 60 ∧ mkK s.2.kind = false
structure Md.Pre (m : Md) : Prop where
  six : m.vars.length ≤ 6
  vars : ∀ v ∈ m.vars, v.Ok
  count : countL m.vars ≤ 4096
  twelve : m.rules.length ≤ 12
  rules : ∀ r ∈ m.rules, RlPre m.vars.length r
def ruleE (r : Rl) : Int := if mkK r.guard.kind = true then (if (r.sets.map (·.1)).Nodup then 0 else 7) else 5
def rulesE : List Rl → Int
  | [] => 0
  | r :: l => if ruleE r = 0 then rulesE l else ruleE r
def modelE (m : Md) : Int := if (m.vars.map (·.name)).Nodup then rulesE m.rules else 7
structure Md.Ok (m : Md) : Prop extends m.Pre where
  names : (m.vars.map (·.name)).Nodup
  kinds : ∀ r ∈ m.rules, mkK r.guard.kind = true ∧ (r.sets.map (·.1)).Nodup
theorem rulesE_ok : ∀ {l : List Rl}, (∀ r ∈ l, ruleE r = 0) → rulesE l = 0
  | [], _ => rfl
  | r :: l, h => by
    unfold rulesE
    rw [if_pos (h r (by simp))]
    exact rulesE_ok fun x hx => h x (by simp [hx])
theorem Md.Ok.e {m : Md} (h : m.Ok) : modelE m = 0 := by
  unfold modelE
  rw [if_pos h.names]
  refine rulesE_ok fun r hr => ?_
  obtain ⟨h1, h2⟩ := h.kinds r hr
  unfold ruleE
  rw [if_pos h1, if_pos h2]
theorem rulesE_at {l : List Rl} {i : Nat} (hi : i < l.length) (h0 : ∀ j (h : j < l.length), j < i → ruleE l[j] = 0) (h1 : ruleE l[i] ≠ 0) : rulesE l = ruleE l[i] := by
  induction l generalizing i with
  | nil => simp at hi
  | cons r l ih =>
    cases i with
    | zero =>
      have h2 : ruleE r ≠ 0 := h1
      unfold rulesE
      rw [if_neg h2]; rfl
    | succ i =>
      have h2 : ruleE r = 0 := h0 0 (by simp) (by omega)
      unfold rulesE
      rw [if_pos h2]
      exact ih (by simpa using hi) (fun j h hj => h0 (j + 1) (by simpa using h) (by omega)) h1
theorem rulesE_all {l : List Rl} (h0 : ∀ j (h : j < l.length), ruleE l[j] = 0) : rulesE l = 0 := by
  refine rulesE_ok fun r hr => ?_
  obtain ⟨j, hj, e⟩ := List.mem_iff_getElem.1 hr
  rw [← e]; exact h0 j hj
def InV : List Vr → List Int → Prop
  | [], [] => True
  | v :: l, x :: xs => v.low ≤ x ∧ x ≤ v.high ∧ InV l xs
  | _, _ => False
def codeL : List Vr → List Int → Int → Int
  | v :: l, x :: xs, n => codeL l xs (n * v.span + x - v.low)
  | _, _, n => n
def digL : List Vr → Int → List Int × Int
  | [], c => ([], c)
  | v :: l, c => ((v.low + (digL l c).2 % v.span) :: (digL l c).1, (digL l c).2 / v.span)
def valsL (l : List Vr) (c : Int) : List Int := (digL l c).1
theorem digL_len (l : List Vr) (c : Int) : (digL l c).1.length = l.length := by
  induction l with
  | nil => rfl
  | cons v l ih => simp [digL, ih]
theorem valsL_len (l : List Vr) (c : Int) : (valsL l c).length = l.length := digL_len l c
theorem InV.len : ∀ {l : List Vr} {xs : List Int}, InV l xs → xs.length = l.length
  | [], [], _ => rfl
  | _ :: l, _ :: xs, h => by simp [InV.len (l := l) (xs := xs) h.2.2]
  | [], _ :: _, h => h.elim
  | _ :: _, [], h => h.elim
theorem InV.get : ∀ {l : List Vr} {xs : List Int}, InV l xs → ∀ i (h : i < l.length) (h2 : i < xs.length), l[i].low ≤ xs[i] ∧ xs[i] ≤ l[i].high
  | [], [], _, i, h, _ => by simp at h
  | v :: l, x :: xs, hI, 0, _, _ => ⟨hI.1, hI.2.1⟩
  | v :: l, x :: xs, hI, i + 1, h, h2 => InV.get (l := l) (xs := xs) hI.2.2 i (by simpa using h) (by simpa using h2)
  | [], _ :: _, hI, _, _, _ => hI.elim
  | _ :: _, [], hI, _, _, _ => hI.elim
theorem InV.of : ∀ {l : List Vr} {xs : List Int}, xs.length = l.length → (∀ i (h : i < l.length) (h2 : i < xs.length), l[i].low ≤ xs[i] ∧ xs[i] ≤ l[i].high) → InV l xs
  | [], [], _, _ => trivial
  | v :: l, x :: xs, hl, h => ⟨(h 0 (by simp) (by simp)).1, (h 0 (by simp) (by simp)).2, InV.of (by simpa using hl) fun i h1 h2 => h (i + 1) (by simpa using h1) (by simpa using h2)⟩
  | [], _ :: _, hl, _ => by simp at hl
  | _ :: _, [], hl, _ => by simp at hl
theorem digL_in : ∀ {l : List Vr}, (∀ v ∈ l, v.Ok) → ∀ c, InV l (digL l c).1
  | [], _, _ => trivial
  | v :: l, h, c => by
    have hs := (h v (by simp)).span
    have h1 := Int.emod_nonneg (digL l c).2 (b := v.span) (by omega)
    have h2 := Int.emod_lt_of_pos (digL l c).2 (b := v.span) (by omega)
    unfold Vr.span at h1 h2 hs
    refine ⟨?_, ?_, digL_in (fun x hx => h x (by simp [hx])) c⟩
    · unfold Vr.span; omega
    · unfold Vr.span; omega
theorem digL_rest : ∀ {l : List Vr}, (∀ v ∈ l, v.Ok) → ∀ c, 0 ≤ c → (digL l c).2 = c / countL l
  | [], _, c, _ => by simp [digL, countL]
  | v :: l, h, c, hc => by
    have hp := countL_pos (l := l) fun x hx => h x (by simp [hx])
    have ih := digL_rest (l := l) (fun x hx => h x (by simp [hx])) c hc
    simp only [digL, countL]
    rw [ih, Int.mul_comm v.span, Int.ediv_ediv, if_neg (by omega), Int.sub_zero]
theorem digL_rest_pos {l : List Vr} (h : ∀ v ∈ l, v.Ok) (c : Int) (hc : 0 ≤ c) : 0 ≤ (digL l c).2 := by
  rw [digL_rest h c hc]
  exact Int.ediv_nonneg hc (by have := countL_pos h; omega)
theorem codeL_add : ∀ {l : List Vr} {xs : List Int}, xs.length = l.length → ∀ n, codeL l xs n = n * countL l + codeL l xs 0
  | [], [], _, n => by simp [codeL, countL]
  | v :: l, x :: xs, hl, n => by
    have ih := codeL_add (l := l) (xs := xs) (by simpa using hl)
    simp only [codeL, countL]
    rw [ih (n * v.span + x - v.low), ih (0 * v.span + x - v.low)]
    have h1 : (n * v.span + x - v.low) * countL l = n * (v.span * countL l) + (x - v.low) * countL l := by
      rw [Int.sub_mul, Int.add_mul, Int.sub_mul, Int.mul_assoc]; omega
    have h2 : 0 * v.span + x - v.low = x - v.low := by rw [Int.zero_mul]; omega
    rw [h1, h2]
    omega
  | [], _ :: _, hl, _ => by simp at hl
  | _ :: _, [], hl, _ => by simp at hl
theorem codeL_bd : ∀ {l : List Vr} {xs : List Int}, (∀ v ∈ l, v.Ok) → InV l xs → 0 ≤ codeL l xs 0 ∧ codeL l xs 0 < countL l
  | [], [], _, _ => by simp [codeL, countL]
  | v :: l, x :: xs, h, hI => by
    have hl := (h v (by simp)).span
    have hp := countL_pos (l := l) fun y hy => h y (by simp [hy])
    have ih := codeL_bd (l := l) (xs := xs) (fun y hy => h y (by simp [hy])) hI.2.2
    simp only [codeL, countL]
    rw [codeL_add hI.2.2.len]
    obtain ⟨h1, h2, _⟩ := hI
    unfold Vr.span at hl
    have e : (0 * v.span + x - v.low) = x - v.low := by simp
    rw [e]
    have a1 : 0 ≤ (x - v.low) * countL l := Int.mul_nonneg (by omega) (by omega)
    have a2 : (x - v.low) * countL l ≤ (v.span - 1) * countL l := Int.mul_le_mul_of_nonneg_right (by unfold Vr.span; omega) (by omega)
    rw [Int.sub_mul v.span 1, Int.one_mul] at a2
    omega
  | [], _ :: _, _, hI => hI.elim
  | _ :: _, [], _, hI => hI.elim
theorem code_vals : ∀ {l : List Vr}, (∀ v ∈ l, v.Ok) → ∀ c, 0 ≤ c → codeL l (digL l c).1 0 + (digL l c).2 * countL l = c
  | [], _, c, _ => by simp [codeL, digL, countL]
  | v :: l, h, c, hc => by
    have hs := (h v (by simp)).span
    have ih := code_vals (l := l) (fun x hx => h x (by simp [hx])) c hc
    have hI := digL_in (l := l) (fun x hx => h x (by simp [hx])) c
    simp only [digL, codeL, countL]
    rw [codeL_add hI.len]
    have e : 0 * v.span + (v.low + (digL l c).2 % v.span) - v.low = (digL l c).2 % v.span := by simp; omega
    rw [e]
    have hd := Int.mul_ediv_add_emod (digL l c).2 v.span
    generalize (digL l c).2 = q at *
    generalize codeL l (digL l c).1 0 = z at *
    generalize countL l = k at *
    rw [← ih]
    have : q * k = (v.span * (q / v.span) + q % v.span) * k := by rw [hd]
    rw [this, Int.add_mul, ← Int.mul_assoc, Int.mul_comm (q / v.span) v.span]
    omega
theorem code_valsL {l : List Vr} (h : ∀ v ∈ l, v.Ok) (c : Int) (h0 : 0 ≤ c) (h1 : c < countL l) : codeL l (valsL l c) 0 = c := by
  have := code_vals h c h0
  rw [digL_rest h c h0, Int.ediv_eq_zero_of_lt h0 h1] at this
  simpa [valsL] using this
theorem inV_small {l : List Vr} {xs : List Int} (h : ∀ v ∈ l, v.Ok) (hI : InV l xs) : ∀ x ∈ xs, -1000 ≤ x ∧ x ≤ 1000 := by
  intro x hx
  obtain ⟨i, hi, rfl⟩ := List.mem_iff_getElem.1 hx
  have hl := hI.len
  have h1 := hI.get i (by omega) hi
  have h2 := h l[i] (by simp)
  have := h2.low; have := h2.high
  omega
def setsV (l : List Vr) (old : List Int) : List (Int × Tm) → List Int → Option (List Int)
  | [], out => some out
  | s :: ss, out => match evalT old s.2 with
    | none => none
    | some n => if (l.getD s.1.toNat ⟨ByteArray.empty, 0, 0, 0⟩).low ≤ n ∧ n ≤ (l.getD s.1.toNat ⟨ByteArray.empty, 0, 0, 0⟩).high then setsV l old ss (out.set s.1.toNat n) else none
def afterV (m : Md) (r : Rl) (xs : List Int) : Option (List Int) :=
  match evalT xs r.guard with
  | none => none
  | some n => if n = 0 then none else setsV m.vars xs r.sets xs
theorem setsV_in {l : List Vr} (old : List Int) : ∀ {ss : List (Int × Tm)} {out ys : List Int}, (∀ s ∈ ss, 0 ≤ s.1 ∧ s.1 < l.length) → InV l out → setsV l old ss out = some ys → InV l ys
  | [], out, ys, _, hI, h => by
    simp only [setsV, Option.some.injEq] at h
    subst h; exact hI
  | s :: ss, out, ys, hs, hI, h => by
    unfold setsV at h
    split at h
    · cases h
    · rename_i n he
      split at h
      · rename_i hb
        refine setsV_in old (fun x hx => hs x (by simp [hx])) ?_ h
        have h1 := hs s (by simp)
        refine InV.of (by rw [List.length_set]; exact hI.len) fun i hi h2 => ?_
        rw [List.getElem_set]
        split
        · rename_i e
          subst e
          rw [List.getD_eq_getElem?_getD, List.getElem?_eq_getElem hi] at hb
          exact hb
        · exact hI.get i hi (by rw [hI.len]; exact hi)
      · cases h
theorem afterV_in {m : Md} {r : Rl} {xs ys : List Int} (hr : RlPre m.vars.length r) (hI : InV m.vars xs) (h : afterV m r xs = some ys) : InV m.vars ys := by
  unfold afterV at h
  split at h
  · cases h
  · split at h
    · cases h
    · exact setsV_in xs (fun s hs => ⟨(hr.sets s hs).1, (hr.sets s hs).2.1⟩) hI h
def behindL (m : Md) (xs : List Int) : List Rl → List Int
  | [] => []
  | r :: l => (match afterV m r xs with
    | none => []
    | some ys => [codeL m.vars ys 0]) ++ behindL m xs l
theorem behindL_mem {m : Md} {xs : List Int} : ∀ {l : List Rl} {c : Int}, c ∈ behindL m xs l ↔ ∃ r ∈ l, ∃ ys, afterV m r xs = some ys ∧ c = codeL m.vars ys 0
  | [], c => by simp [behindL]
  | r :: l, c => by
    rw [behindL, List.mem_append, behindL_mem]
    constructor
    · rintro (h | ⟨r', h1, h2⟩)
      · split at h
        · simp at h
        · rename_i ys he
          exact ⟨r, by simp, ys, he, by simpa using h⟩
      · exact ⟨r', by simp [h1], h2⟩
    · rintro ⟨r', h1, ys, h2, h3⟩
      rcases List.mem_cons.1 h1 with rfl | h1
      · left
        rw [h2]; simpa using h3
      · exact .inr ⟨r', h1, ys, h2, h3⟩
theorem behindL_app (m : Md) (xs : List Int) (a b : List Rl) : behindL m xs (a ++ b) = behindL m xs a ++ behindL m xs b := by
  induction a with
  | nil => rfl
  | cons r l ih => simp only [List.cons_append, behindL, ih, List.append_assoc]
theorem behindL_len (m : Md) (xs : List Int) (l : List Rl) : (behindL m xs l).length ≤ l.length := by
  induction l with
  | nil => simp [behindL]
  | cons r l ih =>
    simp only [behindL, List.length_append, List.length_cons]
    split <;> simp <;> omega
def NextP (m : Md) (c d : Int) : Prop :=
  d ∈ behindL m (valsL m.vars c) m.rules ∨ (behindL m (valsL m.vars c) m.rules = [] ∧ d = c)
def Rises (l : List Int) : Prop := l.Pairwise (· < ·)
structure NextL (m : Md) (c : Int) (l : List Int) : Prop where
  up : Rises l
  mem : ∀ d, d ∈ l ↔ NextP m c d
theorem NextP.in {m : Md} (hm : m.Pre) {c d : Int} (h0 : 0 ≤ c) (h1 : c < countL m.vars) (h : NextP m c d) : 0 ≤ d ∧ d < countL m.vars := by
  rcases h with h | ⟨_, rfl⟩
  · obtain ⟨r, hr, ys, h2, rfl⟩ := behindL_mem.1 h
    exact codeL_bd hm.vars (afterV_in (hm.rules r hr) (digL_in hm.vars c) h2)
  · exact ⟨h0, h1⟩
theorem NextP.some (m : Md) (c : Int) : ∃ d, NextP m c d := by
  cases h : behindL m (valsL m.vars c) m.rules with
  | nil => exact ⟨c, .inr ⟨h, rfl⟩⟩
  | cons x l => exact ⟨x, .inl (by rw [h]; simp)⟩
end Go.Proofs.YtopkbjfjncpjdaaDoor
