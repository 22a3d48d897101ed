/- Several texts in one: MdP; MdG; MdM; MdH. No condition. -/
import Derived.Test.YtciihiiacbnimaaGreatDoorKv17
import Derived.Test.YtciihiiacbnimaaGreatDoorKv13
import Derived.Test.YtciihiiacbnimaaGreatDoorKv1
namespace Go.Proofs.YtciihiiacbnimaaGreatDoor
structure Vr where
  name : ByteArray
  low : Int
  high : Int
  init : Int
def Vr.span (v : Vr) : Int := v.high - v.low + 1
structure Rl where
  guard : Tm
  sets : List (Int × Tm)
structure Md where
  vars : List Vr
  rules : List Rl
structure NameOk (s : ByteArray) : Prop where
  pos : 0 < s.size
  le : s.size ≤ 8
  yes : s.toList ≠ [121, 101, 115]
  no : s.toList ≠ [110, 111]
  ch : ∀ i (h : i < s.size), (97 ≤ s[i].toNat ∧ s[i].toNat ≤ 122) ∨ (48 ≤ s[i].toNat ∧ s[i].toNat ≤ 57 ∧ i ≠ 0)
structure Vr.Ok (v : Vr) : Prop where
  name : NameOk v.name
  low : -1000 ≤ v.low
  high : v.high ≤ 1000
  i0 : v.low ≤ v.init
  i1 : v.init ≤ v.high
  sp : v.high - v.low < 64
theorem Vr.Ok.span {v : Vr} (h : v.Ok) : 1 ≤ v.span ∧ v.span ≤ 64 := by
  have := h.i0; have := h.i1; have := h.sp
  unfold Vr.span; omega
def countL : List Vr → Int
  | [] => 1
  | v :: l => v.span * countL l
theorem countL_pos : ∀ {l : List Vr}, (∀ v ∈ l, v.Ok) → 1 ≤ countL l
  | [], _ => by simp [countL]
  | v :: l, h => by
    have h1 := (h v (by simp)).span
    have h2 := countL_pos (l := l) fun x hx => h x (by simp [hx])
    have := Int.mul_le_mul h1.1 h2 (by omega) (by omega)
    simpa [countL] using this
theorem countL_app (a b : List Vr) : countL (a ++ b) = countL a * countL b := by
  induction a with
  | nil => simp [countL]
  | cons v l ih => simp only [List.cons_append, countL, ih]; rw [Int.mul_assoc]
theorem countL_take {l : List Vr} (h : ∀ v ∈ l, v.Ok) (i : Nat) : 1 ≤ countL (l.take i) ∧ countL (l.take i) ≤ countL l := by
  have h1 := countL_pos (l := l.take i) fun v hv => h v (List.mem_of_mem_take hv)
  have h2 := countL_pos (l := l.drop i) fun v hv => h v (List.mem_of_mem_drop hv)
  have e : countL l = countL (l.take i) * countL (l.drop i) := by rw [← countL_app, List.take_append_drop]
  refine ⟨h1, ?_⟩
  rw [e]
  have := Int.mul_le_mul (Int.le_refl (countL (l.take i))) h2 (by omega) (by omega)
  simpa using this
theorem countL_snoc {l : List Vr} {i : Nat} (h : i < l.length) : countL (l.take (i + 1)) = countL (l.take i) * l[i].span := by
  rw [List.take_succ_eq_append_getElem h, countL_app]
  simp [countL]
structure RlPre (n : Int) (r : Rl) : Prop where
  many : r.sets.length ≤ 6
  guard : Sub r.guard n
  gsize : r.guard.size ≤ 60
  sets : ∀ s ∈ r.sets, 0 ≤ s.1 ∧ s.1 < n ∧ Sub s.2 n ∧ s.2.size ≤ 60 ∧ mkK s.2.kind = false
structure Md.Pre (m : Md) : Prop where
  six : m.vars.length ≤ 6
  vars : ∀ v ∈ m.vars, v.Ok
  count : countL m.vars ≤ 4096
  twelve : m.rules.length ≤ 12
  rules : ∀ r ∈ m.rules, RlPre m.vars.length r
def ruleE (r : Rl) : Int := if mkK r.guard.kind = true then (if (r.sets.map (·.1)).Nodup then 0 else 7) else 5
def rulesE : List Rl → Int
  | [] => 0
  | r :: l => if ruleE r = 0 then rulesE l else ruleE r
def modelE (m : Md) : Int := if (m.vars.map (·.name)).Nodup then rulesE m.rules else 7
structure Md.Ok (m : Md) : Prop extends m.Pre where
  names : (m.vars.map (·.name)).Nodup
  kinds : ∀ r ∈ m.rules, mkK r.guard.kind = true ∧ (r.sets.map (·.1)).Nodup
theorem rulesE_ok : ∀ {l : List Rl}, (∀ r ∈ l, ruleE r = 0) → rulesE l = 0
  | [], _ => rfl
  | r :: l, h => by
    unfold rulesE
    rw [if_pos (h r (by simp))]
    exact rulesE_ok fun x hx => h x (by simp [hx])
theorem Md.Ok.e {m : Md} (h : m.Ok) : modelE m = 0 := by
  unfold modelE
  rw [if_pos h.names]
  refine rulesE_ok fun r hr => ?_
  obtain ⟨h1, h2⟩ := h.kinds r hr
  unfold ruleE
  rw [if_pos h1, if_pos h2]
theorem rulesE_at {l : List Rl} {i : Nat} (hi : i < l.length) (h0 : ∀ j (h : j < l.length), j < i → ruleE l[j] = 0) (h1 : ruleE l[i] ≠ 0) : rulesE l = ruleE l[i] := by
  induction l generalizing i with
  | nil => simp at hi
  | cons r l ih =>
    cases i with
    | zero =>
      have h2 : ruleE r ≠ 0 := h1
      unfold rulesE
      rw [if_neg h2]; rfl
    | succ i =>
      have h2 : ruleE r = 0 := h0 0 (by simp) (by omega)
      unfold rulesE
      rw [if_pos h2]
      exact ih (by simpa using hi) (fun j h hj => h0 (j + 1) (by simpa using h) (by omega)) h1
theorem rulesE_all {l : List Rl} (h0 : ∀ j (h : j < l.length), ruleE l[j] = 0) : rulesE l = 0 := by
  refine rulesE_ok fun r hr => ?_
  obtain ⟨j, hj, e⟩ := List.mem_iff_getElem.1 hr
  rw [← e]; exact h0 j hj
def InV : List Vr → List Int → Prop
  | [], [] => True
  | v :: l, x :: xs => v.low ≤ x ∧ x ≤ v.high ∧ InV l xs
  | _, _ => False
def codeL : List Vr → List Int → Int → Int
  | v :: l, x :: xs, n => codeL l xs (n * v.span + x - v.low)
  | _, _, n => n
def digL : List Vr → Int → List Int × Int
  | [], c => ([], c)
  | v :: l, c => ((v.low + (digL l c).2 % v.span) :: (digL l c).1, (digL l c).2 / v.span)
def valsL (l : List Vr) (c : Int) : List Int := (digL l c).1
theorem digL_len (l : List Vr) (c : Int) : (digL l c).1.length = l.length := by
  induction l with
  | nil => rfl
  | cons v l ih => simp [digL, ih]
theorem valsL_len (l : List Vr) (c : Int) : (valsL l c).length = l.length := digL_len l c
theorem InV.len : ∀ {l : List Vr} {xs : List Int}, InV l xs → xs.length = l.length
  | [], [], _ => rfl
  | _ :: l, _ :: xs, h => by simp [InV.len (l := l) (xs := xs) h.2.2]
  | [], _ :: _, h => h.elim
  | _ :: _, [], h => h.elim
theorem InV.get : ∀ {l : List Vr} {xs : List Int}, InV l xs → ∀ i (h : i < l.length) (h2 : i < xs.length), l[i].low ≤ xs[i] ∧ xs[i] ≤ l[i].high
  | [], [], _, i, h, _ => by simp at h
  | v :: l, x :: xs, hI, 0, _, _ => ⟨hI.1, hI.2.1⟩
  | v :: l, x :: xs, hI, i + 1, h, h2 => InV.get (l := l) (xs := xs) hI.2.2 i (by simpa using h) (by simpa using h2)
  | [], _ :: _, hI, _, _, _ => hI.elim
  | _ :: _, [], hI, _, _, _ => hI.elim
theorem InV.of : ∀ {l : List Vr} {xs : List Int}, xs.length = l.length → (∀ i (h : i < l.length) (h2 : i < xs.length), l[i].low ≤ xs[i] ∧ xs[i] ≤ l[i].high) → InV l xs
  | [], [], _, _ => trivial
  | v :: l, x :: xs, hl, h => ⟨(h 0 (by simp) (by simp)).1, (h 0 (by simp) (by simp)).2, InV.of (by simpa using hl) fun i h1 h2 => h (i + 1) (by simpa using h1) (by simpa using h2)⟩
  | [], _ :: _, hl, _ => by simp at hl
  | _ :: _, [], hl, _ => by simp at hl
theorem digL_in : ∀ {l : List Vr}, (∀ v ∈ l, v.Ok) → ∀ c, InV l (digL l c).1
  | [], _, _ => trivial
  | v :: l, h, c => by
    have hs := (h v (by simp)).span
    have h1 := Int.emod_nonneg (digL l c).2 (b := v.span) (by omega)
    have h2 := Int.emod_lt_of_pos (digL l c).2 (b := v.span) (by omega)
    unfold Vr.span at h1 h2 hs
    refine ⟨?_, ?_, digL_in (fun x hx => h x (by simp [hx])) c⟩
    · unfold Vr.span; omega
    · unfold Vr.span; omega
theorem digL_rest : ∀ {l : List Vr}, (∀ v ∈ l, v.Ok) → ∀ c, 0 ≤ c → (digL l c).2 = c / countL l
  | [], _, c, _ => by simp [digL, countL]
  | v :: l, h, c, hc => by
    have hp := countL_pos (l := l) fun x hx => h x (by simp [hx])
    have ih := digL_rest (l := l) (fun x hx => h x (by simp [hx])) c hc
    simp only [digL, countL]
    rw [ih, Int.mul_comm v.span, Int.ediv_ediv, if_neg (by omega), Int.sub_zero]
theorem digL_rest_pos {l : List Vr} (h : ∀ v ∈ l, v.Ok) (c : Int) (hc : 0 ≤ c) : 0 ≤ (digL l c).2 := by
  rw [digL_rest h c hc]
  exact Int.ediv_nonneg hc (by have := countL_pos h; omega)
theorem codeL_add : ∀ {l : List Vr} {xs : List Int}, xs.length = l.length → ∀ n, codeL l xs n = n * countL l + codeL l xs 0
  | [], [], _, n => by simp [codeL, countL]
  | v :: l, x :: xs, hl, n => by
    have ih := codeL_add (l := l) (xs := xs) (by simpa using hl)
    simp only [codeL, countL]
    rw [ih (n * v.span + x - v.low), ih (0 * v.span + x - v.low)]
    have h1 : (n * v.span + x - v.low) * countL l = n * (v.span * countL l) + (x - v.low) * countL l := by
      rw [Int.sub_mul, Int.add_mul, Int.sub_mul, Int.mul_assoc]; omega
    have h2 : 0 * v.span + x - v.low = x - v.low := by rw [Int.zero_mul]; omega
    rw [h1, h2]
    omega
  | [], _ :: _, hl, _ => by simp at hl
  | _ :: _, [], hl, _ => by simp at hl
theorem codeL_bd : ∀ {l : List Vr} {xs : List Int}, (∀ v ∈ l, v.Ok) → InV l xs → 0 ≤ codeL l xs 0 ∧ codeL l xs 0 < countL l
  | [], [], _, _ => by simp [codeL, countL]
  | v :: l, x :: xs, h, hI => by
    have hl := (h v (by simp)).span
    have hp := countL_pos (l := l) fun y hy => h y (by simp [hy])
    have ih := codeL_bd (l := l) (xs := xs) (fun y hy => h y (by simp [hy])) hI.2.2
    simp only [codeL, countL]
    rw [codeL_add hI.2.2.len]
    obtain ⟨h1, h2, _⟩ := hI
    unfold Vr.span at hl
    have e : (0 * v.span + x - v.low) = x - v.low := by simp
    rw [e]
    have a1 : 0 ≤ (x - v.low) * countL l := Int.mul_nonneg (by omega) (by omega)
    have a2 : (x - v.low) * countL l ≤ (v.span - 1) * countL l := Int.mul_le_mul_of_nonneg_right (by unfold Vr.span; omega) (by omega)
    rw [Int.sub_mul v.span 1, Int.one_mul] at a2
    omega
  | [], _ :: _, _, hI => hI.elim
  | _ :: _, [], _, hI => hI.elim
theorem inV_small {l : List Vr} {xs : List Int} (h : ∀ v ∈ l, v.Ok) (hI : InV l xs) : ∀ x ∈ xs, -1000 ≤ x ∧ x ≤ 1000 := by
  intro x hx
  obtain ⟨i, hi, rfl⟩ := List.mem_iff_getElem.1 hx
  have hl := hI.len
  have h1 := hI.get i (by omega) hi
  have h2 := h l[i] (by simp)
  have := h2.low; have := h2.high
  omega
def setsV (l : List Vr) (old : List Int) : List (Int × Tm) → List Int → Option (List Int)
  | [], out => some out
  | s :: ss, out => match evalT old s.2 with
    | none => none
    | some n => if (l.getD s.1.toNat ⟨ByteArray.empty, 0, 0, 0⟩).low ≤ n ∧ n ≤ (l.getD s.1.toNat ⟨ByteArray.empty, 0, 0, 0⟩).high then setsV l old ss (out.set s.1.toNat n) else none
def afterV (m : Md) (r : Rl) (xs : List Int) : Option (List Int) :=
  match evalT xs r.guard with
  | none => none
  | some n => if n = 0 then none else setsV m.vars xs r.sets xs
theorem setsV_in {l : List Vr} (old : List Int) : ∀ {ss : List (Int × Tm)} {out ys : List Int}, (∀ s ∈ ss, 0 ≤ s.1 ∧ s.1 < l.length) → InV l out → setsV l old ss out = some ys → InV l ys
  | [], out, ys, _, hI, h => by
    simp only [setsV, Option.some.injEq] at h
    subst h; exact hI
  | s :: ss, out, ys, hs, hI, h => by
    unfold setsV at h
    split at h
    · cases h
    · rename_i n he
      split at h
      · rename_i hb
        refine setsV_in old (fun x hx => hs x (by simp [hx])) ?_ h
        have h1 := hs s (by simp)
        refine InV.of (by rw [List.length_set]; exact hI.len) fun i hi h2 => ?_
        rw [List.getElem_set]
        split
        · rename_i e
          subst e
          rw [List.getD_eq_getElem?_getD, List.getElem?_eq_getElem hi] at hb
          exact hb
        · exact hI.get i hi (by rw [hI.len]; exact hi)
      · cases h
theorem afterV_in {m : Md} {r : Rl} {xs ys : List Int} (hr : RlPre m.vars.length r) (hI : InV m.vars xs) (h : afterV m r xs = some ys) : InV m.vars ys := by
  unfold afterV at h
  split at h
  · cases h
  · split at h
    · cases h
    · exact setsV_in xs (fun s hs => ⟨(hr.sets s hs).1, (hr.sets s hs).2.1⟩) hI h
def behindL (m : Md) (xs : List Int) : List Rl → List Int
  | [] => []
  | r :: l => (match afterV m r xs with
    | none => []
    | some ys => [codeL m.vars ys 0]) ++ behindL m xs l
theorem behindL_mem {m : Md} {xs : List Int} : ∀ {l : List Rl} {c : Int}, c ∈ behindL m xs l ↔ ∃ r ∈ l, ∃ ys, afterV m r xs = some ys ∧ c = codeL m.vars ys 0
  | [], c => by simp [behindL]
  | r :: l, c => by
    rw [behindL, List.mem_append, behindL_mem]
    constructor
    · rintro (h | ⟨r', h1, h2⟩)
      · split at h
        · simp at h
        · rename_i ys he
          exact ⟨r, by simp, ys, he, by simpa using h⟩
      · exact ⟨r', by simp [h1], h2⟩
    · rintro ⟨r', h1, ys, h2, h3⟩
      rcases List.mem_cons.1 h1 with rfl | h1
      · left
        rw [h2]; simpa using h3
      · exact .inr ⟨r', h1, ys, h2, h3⟩
theorem behindL_app (m : Md) (xs : List Int) (a b : List Rl) : behindL m xs (a ++ b) = behindL m xs a ++ behindL m xs b := by
  induction a with
  | nil => rfl
  | cons r l ih => simp only [List.cons_append, behindL, ih, List.append_assoc]
theorem behindL_len (m : Md) (xs : List Int) (l : List Rl) : (behindL m xs l).length ≤ l.length := by
  induction l with
  | nil => simp [behindL]
  | cons r l ih =>
    simp only [behindL, List.length_append, List.length_cons]
    split <;> simp <;> omega
def NextP (m : Md) (c d : Int) : Prop :=
  d ∈ behindL m (valsL m.vars c) m.rules ∨ (behindL m (valsL m.vars c) m.rules = [] ∧ d = c)
def Rises (l : List Int) : Prop := l.Pairwise (· < ·)
structure NextL (m : Md) (c : Int) (l : List Int) : Prop where
  up : Rises l
  mem : ∀ d, d ∈ l ↔ NextP m c d
theorem NextP.in {m : Md} (hm : m.Pre) {c d : Int} (h0 : 0 ≤ c) (h1 : c < countL m.vars) (h : NextP m c d) : 0 ≤ d ∧ d < countL m.vars := by
  rcases h with h | ⟨_, rfl⟩
  · obtain ⟨r, hr, ys, h2, rfl⟩ := behindL_mem.1 h
    exact codeL_bd hm.vars (afterV_in (hm.rules r hr) (digL_in hm.vars c) h2)
  · exact ⟨h0, h1⟩
theorem NextP.some (m : Md) (c : Int) : ∃ d, NextP m c d := by
  cases h : behindL m (valsL m.vars c) m.rules with
  | nil => exact ⟨c, .inr ⟨h, rfl⟩⟩
  | cons x l => exact ⟨x, .inl (by rw [h]; simp)⟩
end Go.Proofs.YtciihiiacbnimaaGreatDoor

namespace Go.Proofs.YtciihiiacbnimaaGreatDoor
structure Pl where
  guard : List Op2
  var : Int
  value : List Op2
  both : Bool
structure Dn where
  s0 : Int
  s1 : Int
  l0 : Int
  l1 : Int
  i0 : Int
  i1 : Int
  rules : List Pl
abbrev nmX : ByteArray := ⟨#[120]⟩
abbrev nmY : ByteArray := ⟨#[121, 50]⟩
def dVar (nm : ByteArray) (s l i : Int) : Vr := ⟨nm, pk l 3 - 1, pk l 3 - 1 + pk s 4, pk l 3 - 1 + pk i (pk s 4 + 1)⟩
def dSets (p : Pl) : List (Int × Tm) := (pk p.var 2, numO p.value 2) :: (if p.both then [(1 - pk p.var 2, .n0 2 (pk p.var 2))] else [])
def dRule (p : Pl) : Rl := ⟨truO p.guard 2, dSets p⟩
def Dn.vars (d : Dn) : List Vr := [dVar nmX d.s0 d.l0 d.i0, dVar nmY d.s1 d.l1 d.i1]
def Dn.md (d : Dn) : Md := ⟨d.vars, (d.rules.take 5).map dRule⟩
theorem nmX_list : nmX.toList = [120] := by rw [ByteArray.toList_eq]
theorem nmY_list : nmY.toList = [121, 50] := by rw [ByteArray.toList_eq]
theorem nmX_ok : NameOk nmX := by
  refine ⟨by decide, by decide, by rw [nmX_list]; decide, by rw [nmX_list]; decide, ?_⟩
  intro i h
  have : i = 0 := by have : nmX.size = 1 := rfl; omega
  subst this
  exact .inl (show 97 ≤ (120 : UInt8).toNat ∧ (120 : UInt8).toNat ≤ 122 by decide)
theorem nmY_ok : NameOk nmY := by
  refine ⟨by decide, by decide, by rw [nmY_list]; decide, by rw [nmY_list]; decide, ?_⟩
  intro i h
  have h2 : nmY.size = 2 := rfl
  have : i = 0 ∨ i = 1 := by omega
  rcases this with rfl | rfl
  · exact .inl (show 97 ≤ (121 : UInt8).toNat ∧ (121 : UInt8).toNat ≤ 122 by decide)
  · exact .inr (show 48 ≤ (50 : UInt8).toNat ∧ (50 : UInt8).toNat ≤ 57 ∧ 1 ≠ 0 by decide)
theorem dVar_ok {nm : ByteArray} (h : NameOk nm) (s l i : Int) : (dVar nm s l i).Ok ∧ 1 ≤ (dVar nm s l i).span ∧ (dVar nm s l i).span ≤ 4 := by
  have h1 := pk_bd l 3 (by omega)
  have h2 := pk_bd s 4 (by omega)
  have h3 := pk_bd i (pk s 4 + 1) (by omega)
  refine ⟨⟨h, ?_, ?_, ?_, ?_, ?_⟩, ?_, ?_⟩ <;> simp only [dVar, Vr.span] <;> omega
theorem fit_sub {t : Tm} {vars : Int} {n : Nat} {b : Bool} (h : Fit t vars n b) : Sub t vars := ⟨h.ok, h.good, h.typed⟩
theorem leaf_var_sub (v : Int) (h0 : 0 ≤ v) (h1 : v < 2) : Sub (.n0 2 v) 2 := by
  refine ⟨?_, ?_, rfl⟩
  · simp only [Tm.ok]
    exact ⟨by omega, by omega, by decide⟩
  · intro o ho
    simp only [Tm.flat, List.mem_singleton] at ho
    subst ho
    have : v = 0 ∨ v = 1 := by omega
    rcases this with rfl | rfl <;> decide
theorem dSets_pre (p : Pl) : ∀ s ∈ dSets p, 0 ≤ s.1 ∧ s.1 < 2 ∧ Sub s.2 2 ∧ s.2.size ≤ 60 ∧ mkK s.2.kind = false := by
  have hv := pk_bd p.var 2 (by omega)
  have hn := fit_num p.value 2 (by omega)
  intro s hs
  unfold dSets at hs
  rcases List.mem_cons.1 hs with rfl | hs
  · have hz := hn.size
    exact ⟨hv.1, hv.2, fit_sub hn, by show (numO p.value 2).size ≤ 60; omega, hn.kind⟩
  · split at hs
    · simp only [List.mem_singleton] at hs
      subst hs
      exact ⟨by show 0 ≤ 1 - pk p.var 2; omega, by show 1 - pk p.var 2 < 2; omega, leaf_var_sub _ hv.1 hv.2, by simp [Tm.size], (show mkK 2 = false by decide)⟩
    · simp at hs
theorem dSets_nodup (p : Pl) : ((dSets p).map (·.1)).Nodup := by
  unfold dSets
  split
  · simp; omega
  · simp
theorem dSets_len (p : Pl) : (dSets p).length ≤ 2 := by
  unfold dSets; split <;> simp
theorem dRule_pre (p : Pl) : RlPre 2 (dRule p) := by
  have hg := fit_tru p.guard 2 (by omega)
  have hz := hg.size
  have hl := dSets_len p
  exact ⟨by show (dSets p).length ≤ 6; omega, fit_sub hg, by show (truO p.guard 2).size ≤ 60; omega, dSets_pre p⟩
theorem Dn.span (d : Dn) : 1 ≤ countL d.vars ∧ countL d.vars ≤ 16 := by
  have h1 := (dVar_ok nmX_ok d.s0 d.l0 d.i0).2
  have h2 := (dVar_ok nmY_ok d.s1 d.l1 d.i1).2
  unfold Dn.vars
  simp only [countL, Int.mul_one]
  generalize (dVar nmX d.s0 d.l0 d.i0).span = a at *
  generalize (dVar nmY d.s1 d.l1 d.i1).span = b at *
  have q1 := Int.mul_le_mul h1.1 h2.1 (by omega) (by omega)
  have q2 := Int.mul_le_mul h1.2 h2.2 (by omega) (by omega)
  omega
theorem Dn.vars_ok (d : Dn) : ∀ v ∈ d.vars, v.Ok := by
  intro v hv
  unfold Dn.vars at hv
  simp only [List.mem_cons, List.not_mem_nil, or_false] at hv
  rcases hv with rfl | rfl
  · exact (dVar_ok nmX_ok _ _ _).1
  · exact (dVar_ok nmY_ok _ _ _).1
theorem names_xy : ([nmX, nmY] : List ByteArray).Nodup := by decide
theorem Dn.ok (d : Dn) : d.md.Ok where
  six := by show 2 ≤ 6; omega
  vars := d.vars_ok
  count := by have := d.span; show countL d.vars ≤ 4096; omega
  twelve := by
    show ((d.rules.take 5).map dRule).length ≤ 12
    rw [List.length_map, List.length_take]; omega
  rules := by
    intro r hr
    show RlPre 2 r
    obtain ⟨p, _, rfl⟩ := List.mem_map.1 hr
    exact dRule_pre p
  names := names_xy
  kinds := by
    intro r hr
    obtain ⟨p, _, rfl⟩ := List.mem_map.1 hr
    exact ⟨(fit_tru p.guard 2 (by omega)).kind, dSets_nodup p⟩
theorem Dn.rules_len (d : Dn) : d.md.rules.length ≤ 5 := by
  show ((d.rules.take 5).map dRule).length ≤ 5
  rw [List.length_map, List.length_take]; omega
end Go.Proofs.YtciihiiacbnimaaGreatDoor

namespace Go.Proofs.YtciihiiacbnimaaGreatDoor
open Go.RowKit
def EachL {α : Type} (sz : Nat) (E : World → α → List Value → Prop) (w : World) (v : Value) (l : List α) : Prop :=
  ∃ css : List (List Value), css.length = l.length ∧ (∀ cs ∈ css, cs.length = sz) ∧ Reads w sz v l.length css.flatten ∧ ∀ (i : Nat) (cs : List Value) (x : α), css[i]? = some cs → l[i]? = some x → E w x cs
theorem EachL.ext {α : Type} {sz : Nat} {E : World → α → List Value → Prop} {w w' : World} {v : Value} {l : List α} (hE : ∀ x cs, E w x cs → E w' x cs) (h : EachL sz E w v l) (hb : Ext w w') : EachL sz E w' v l := by
  obtain ⟨css, h1, h2, h3, h4⟩ := h
  exact ⟨css, h1, h2, h3.ext hb, fun i cs x a b => hE x cs (h4 i cs x a b)⟩
theorem flatten_at {sz : Nat} : ∀ {css : List (List Value)}, (∀ cs ∈ css, cs.length = sz) → ∀ {i j : Nat} {cs : List Value}, css[i]? = some cs → j < sz → css.flatten[i * sz + j]? = cs[j]?
  | [], _, i, j, cs, h, _ => by simp at h
  | c :: css, hl, 0, j, cs, h, hj => by
    simp at h
    subst h
    have := hl c (by simp)
    rw [List.flatten_cons, Nat.zero_mul, Nat.zero_add, List.getElem?_append_left (by omega)]
  | c :: css, hl, i + 1, j, cs, h, hj => by
    have hc := hl c (by simp)
    rw [List.flatten_cons, List.getElem?_append_right (by rw [hc, Nat.add_mul]; omega), hc, show (i + 1) * sz + j - sz = i * sz + j by rw [Nat.add_mul]; omega]
    exact flatten_at (fun x hx => hl x (by simp [hx])) (by simpa using h) hj
theorem EachL.at {α : Type} {sz : Nat} {E : World → α → List Value → Prop} {w : World} {v : Value} {l : List α} (h : EachL sz E w v l) (hsz : 0 < sz) :
    ∃ a c, v = .slice a l.length c ∧ l.length ≤ maxLen ∧ ∃ b off, (0 < l.length → a = some ⟨b, off, none⟩) ∧ ∀ (i : Nat) (hi : i < l.length), ∃ cs, cs.length = sz ∧ E w l[i] cs ∧ ∀ j u, cs[j]? = some u → w.cell? ⟨b, off + i * sz + j, none⟩ = some u := by
  obtain ⟨css, h1, h2, ⟨a, c, rfl, hr⟩, h4⟩ := h
  obtain ⟨b, off, _, g2, g3⟩ := hr.lie
  refine ⟨a, c, rfl, Nat.le_trans hr.le hr.max, b, off, fun hl => g2 ?_, fun i hi => ?_⟩
  · rw [hr.len]; exact Nat.mul_pos hl hsz
  · have hc : css[i]? = some css[i] := List.getElem?_eq_getElem (by omega)
    have hl := h2 css[i] (by simp)
    refine ⟨css[i], hl, h4 i _ _ hc (List.getElem?_eq_getElem hi), fun j u hu => ?_⟩
    have hj : j < sz := by have := (List.getElem?_eq_some_iff.1 hu).1; omega
    rw [Nat.add_assoc]
    exact g3 _ u ((flatten_at h2 hc hj).trans hu)
theorem EachL.val {α : Type} {sz : Nat} {E : World → α → List Value → Prop} {w : World} {v : Value} {l : List α} (h : EachL sz E w v l) : ∃ a c, v = .slice a l.length c := by
  obtain ⟨css, h1, h2, ⟨a, c, rfl, hr⟩, h4⟩ := h
  exact ⟨a, c, rfl⟩
theorem EachL.nil {α : Type} (sz : Nat) (E : World → α → List Value → Prop) (w : World) : EachL sz E w (.slice none 0 0) ([] : List α) :=
  ⟨[], rfl, by simp, Reads.nil w sz, by simp⟩
theorem EachL.snoc {α : Type} {sz : Nat} {E : World → α → List Value → Prop} {w' : World} {v' : Value} {l : List α} {x : α} {css : List (List Value)} {cs : List Value} (h1 : css.length = l.length) (h2 : ∀ cs ∈ css, cs.length = sz) (hE : ∀ (i : Nat) (cs : List Value) (x : α), css[i]? = some cs → l[i]? = some x → E w' x cs)
    (hr : Reads w' sz v' (l.length + 1) (css.flatten ++ cs)) (hcs : cs.length = sz) (hx : E w' x cs) : EachL sz E w' v' (l ++ [x]) := by
  refine ⟨css ++ [cs], by simp [h1], ?_, by simpa using hr, ?_⟩
  · intro c hc
    rcases List.mem_append.1 hc with hc | hc
    · exact h2 c hc
    · simp at hc; subst hc; exact hcs
  · intro i c y hc hy
    by_cases hi : i < l.length
    · rw [List.getElem?_append_left (by omega)] at hc hy
      exact hE i c y hc hy
    · rw [List.getElem?_append_right (by omega)] at hc hy
      have e0 : i - l.length = 0 := by have := (List.getElem?_eq_some_iff.1 hy).1; simp at this; omega
      rw [h1, e0] at hc
      rw [e0] at hy
      simp at hc hy
      subst hc; subst hy; exact hx
def vrc (v : Vr) : List Value := [.string v.name, .int .i64 v.low, .int .i64 v.high, .int .i64 v.init]
def VarE : World → Vr → List Value → Prop := fun _ v cs => cs = vrc v
def IsVars (w : World) (v : Value) (l : List Vr) : Prop := EachL 4 VarE w v l
theorem IsVars.ext {w w' : World} {v : Value} {l : List Vr} (h : IsVars w v l) (hb : Ext w w') : IsVars w' v l := EachL.ext (E := VarE) (w := w) (w' := w') (fun _ _ h => h) h hb
def SetE : World → Int × Tm → List Value → Prop := fun w s cs => ∃ v, cs = [.int .i64 s.1, v] ∧ IsT w v s.2
def IsSets (w : World) (v : Value) (l : List (Int × Tm)) : Prop := EachL 2 SetE w v l
theorem SetE.ext {w w' : World} {s : Int × Tm} {cs : List Value} (h : SetE w s cs) (hb : Ext w w') : SetE w' s cs := by
  obtain ⟨v, h1, h2⟩ := h
  exact ⟨v, h1, h2.ext hb⟩
theorem IsSets.ext {w w' : World} {v : Value} {l : List (Int × Tm)} (h : IsSets w v l) (hb : Ext w w') : IsSets w' v l := EachL.ext (E := SetE) (w := w) (w' := w') (fun _ _ h => h.ext hb) h hb
def RuleE : World → Rl → List Value → Prop := fun w r cs => ∃ g s, cs = [g, s] ∧ IsT w g r.guard ∧ IsSets w s r.sets
theorem RuleE.ext {w w' : World} {r : Rl} {cs : List Value} (h : RuleE w r cs) (hb : Ext w w') : RuleE w' r cs := by
  obtain ⟨g, s, h1, h2, h3⟩ := h
  exact ⟨g, s, h1, h2.ext hb, h3.ext hb⟩
def IsRules (w : World) (v : Value) (l : List Rl) : Prop := EachL 2 RuleE w v l
theorem IsRules.ext {w w' : World} {v : Value} {l : List Rl} (h : IsRules w v l) (hb : Ext w w') : IsRules w' v l := EachL.ext (E := RuleE) (w := w) (w' := w') (fun _ _ h => h.ext hb) h hb
def TmE : World → Tm → List Value → Prop := fun w t cs => ∃ v, cs = [v] ∧ IsT w v t
theorem TmE.ext {w w' : World} {t : Tm} {cs : List Value} (h : TmE w t cs) (hb : Ext w w') : TmE w' t cs := by
  obtain ⟨v, h1, h2⟩ := h
  exact ⟨v, h1, h2.ext hb⟩
def IsTms (w : World) (v : Value) (l : List Tm) : Prop := EachL 1 TmE w v l
theorem IsTms.ext {w w' : World} {v : Value} {l : List Tm} (h : IsTms w v l) (hb : Ext w w') : IsTms w' v l := EachL.ext (E := TmE) (w := w) (w' := w') (fun _ _ h => h.ext hb) h hb
structure IsMd (w : World) (vv rv : Value) (m : Md) : Prop where
  vars : IsVars w vv m.vars
  rules : IsRules w rv m.rules
theorem IsMd.ext {w w' : World} {vv rv : Value} {m : Md} (h : IsMd w vv rv m) (hb : Ext w w') : IsMd w' vv rv m := ⟨h.vars.ext hb, h.rules.ext hb⟩
theorem IsVars.at {w : World} {v : Value} {l : List Vr} (h : IsVars w v l) : ∃ a c, v = .slice a l.length c ∧ l.length ≤ maxLen ∧ ∃ b off, (0 < l.length → a = some ⟨b, off, none⟩) ∧ ∀ (i : Nat) (hi : i < l.length),
    w.cell? ⟨b, off + i * 4, none⟩ = some (.string l[i].name) ∧ w.cell? ⟨b, off + i * 4 + 1, none⟩ = some (.int .i64 l[i].low) ∧ w.cell? ⟨b, off + i * 4 + 2, none⟩ = some (.int .i64 l[i].high) ∧ w.cell? ⟨b, off + i * 4 + 3, none⟩ = some (.int .i64 l[i].init) := by
  obtain ⟨a, c, h1, h2, b, off, h3, h4⟩ := EachL.at h (by omega)
  refine ⟨a, c, h1, h2, b, off, h3, fun i hi => ?_⟩
  obtain ⟨cs, _, rfl, hc⟩ := h4 i hi
  exact ⟨hc 0 _ rfl, hc 1 _ rfl, hc 2 _ rfl, hc 3 _ rfl⟩
theorem IsSets.at {w : World} {v : Value} {l : List (Int × Tm)} (h : IsSets w v l) : ∃ a c, v = .slice a l.length c ∧ l.length ≤ maxLen ∧ ∃ b off, (0 < l.length → a = some ⟨b, off, none⟩) ∧ ∀ (i : Nat) (hi : i < l.length),
    ∃ u, w.cell? ⟨b, off + i * 2, none⟩ = some (.int .i64 l[i].1) ∧ w.cell? ⟨b, off + i * 2 + 1, none⟩ = some u ∧ IsT w u l[i].2 := by
  obtain ⟨a, c, h1, h2, b, off, h3, h4⟩ := EachL.at h (by omega)
  refine ⟨a, c, h1, h2, b, off, h3, fun i hi => ?_⟩
  obtain ⟨cs, _, ⟨u, rfl, hu⟩, hc⟩ := h4 i hi
  exact ⟨u, hc 0 _ rfl, hc 1 _ rfl, hu⟩
theorem IsRules.at {w : World} {v : Value} {l : List Rl} (h : IsRules w v l) : ∃ a c, v = .slice a l.length c ∧ l.length ≤ maxLen ∧ ∃ b off, (0 < l.length → a = some ⟨b, off, none⟩) ∧ ∀ (i : Nat) (hi : i < l.length),
    ∃ g s, w.cell? ⟨b, off + i * 2, none⟩ = some g ∧ w.cell? ⟨b, off + i * 2 + 1, none⟩ = some s ∧ IsT w g l[i].guard ∧ IsSets w s l[i].sets := by
  obtain ⟨a, c, h1, h2, b, off, h3, h4⟩ := EachL.at h (by omega)
  refine ⟨a, c, h1, h2, b, off, h3, fun i hi => ?_⟩
  obtain ⟨cs, _, ⟨g, s, rfl, hg, hs⟩, hc⟩ := h4 i hi
  exact ⟨g, s, hc 0 _ rfl, hc 1 _ rfl, hg, hs⟩
theorem IsTms.at {w : World} {v : Value} {l : List Tm} (h : IsTms w v l) : ∃ a c, v = .slice a l.length c ∧ l.length ≤ maxLen ∧ ∃ b off, (0 < l.length → a = some ⟨b, off, none⟩) ∧ ∀ (i : Nat) (hi : i < l.length),
    ∃ u, w.cell? ⟨b, off + i, none⟩ = some u ∧ IsT w u l[i] := by
  obtain ⟨a, c, h1, h2, b, off, h3, h4⟩ := EachL.at h (by omega)
  refine ⟨a, c, h1, h2, b, off, h3, fun i hi => ?_⟩
  obtain ⟨cs, _, ⟨u, rfl, hu⟩, hc⟩ := h4 i hi
  have := hc 0 _ rfl
  rw [Nat.mul_one, Nat.add_zero] at this
  exact ⟨u, this, hu⟩
end Go.Proofs.YtciihiiacbnimaaGreatDoor

namespace Go.Proofs.YtciihiiacbnimaaGreatDoor
open Go.RowKit
theorem Tryz.slVars : SlTy Tryz.prog 28 92 (.agg #[.string ⟨#[]⟩, .int .i64 0, .int .i64 0, .int .i64 0]) 4 40 := SlTy.mk' Tryz.underlying28 (by kernel_rfl) (by rfl) (by omega)
theorem Tryz.slSets : SlTy Tryz.prog 96 100 (.agg #[.int .i64 0, .slice none 0 0]) 2 32 := SlTy.mk' Tryz.underlying96 (by kernel_rfl) (by rfl) (by omega)
theorem Tryz.slRules : SlTy Tryz.prog 29 98 (.agg #[.slice none 0 0, .slice none 0 0]) 2 48 := SlTy.mk' Tryz.underlying29 (by kernel_rfl) (by rfl) (by omega)
theorem Row.newK (w : World) (t : TypeId) (sz k : Nat) (cs : List Value) (hs : cs.length = sz) (hk : k = w.heap.size) : Row (w.alloc (.cells cs.toArray t)) sz (some ⟨k, 0, none⟩) 1 1 cs := by
  subst hk
  refine ⟨by omega, Nat.le_refl _, by unfold maxLen; omega, w.heap.size, 0, (by intro h; cases h), fun _ => rfl, fun j u hu => ?_⟩
  rw [Nat.zero_add, World.cell?_alloc_at _ _ _ _ rfl]
  simpa using hu
theorem isVars_of {w : World} {v : Value} {l : List Vr} (h : Reads w 4 v l.length (l.flatMap vrc)) : IsVars w v l := by
  refine ⟨l.map vrc, by simp, ?_, by rw [← List.flatMap_def]; exact h, fun i cs x a b => ?_⟩
  · intro cs hc
    obtain ⟨x, _, rfl⟩ := List.mem_map.1 hc
    rfl
  · rw [List.getElem?_map, b] at a
    simp at a
    exact a.symm
def PlanE : World → Pl → List Value → Prop := fun w p cs => ∃ g v, cs = [g, .int .i64 p.var, v, .bool p.both] ∧ Ops w g p.guard ∧ Ops w v p.value
def IsPlans (w : World) (v : Value) (l : List Pl) : Prop := EachL 4 PlanE w v l
theorem PlanE.ext {w w' : World} {p : Pl} {cs : List Value} (h : PlanE w p cs) (hb : Ext w w') : PlanE w' p cs := by
  obtain ⟨g, v, h1, h2, h3⟩ := h
  exact ⟨g, v, h1, ops_ext h2 hb, ops_ext h3 hb⟩
theorem IsPlans.ext {w w' : World} {v : Value} {l : List Pl} (h : IsPlans w v l) (hb : Ext w w') : IsPlans w' v l := EachL.ext (E := PlanE) (w := w) (w' := w') (fun _ _ h => h.ext hb) h hb
theorem IsPlans.at {w : World} {v : Value} {l : List Pl} (h : IsPlans w v l) : ∃ a c, v = .slice a l.length c ∧ l.length ≤ maxLen ∧ ∃ b off, (0 < l.length → a = some ⟨b, off, none⟩) ∧ ∀ (i : Nat) (hi : i < l.length),
    ∃ g s, w.cell? ⟨b, off + i * 4, none⟩ = some g ∧ w.cell? ⟨b, off + i * 4 + 1, none⟩ = some (.int .i64 l[i].var) ∧ w.cell? ⟨b, off + i * 4 + 2, none⟩ = some s ∧ w.cell? ⟨b, off + i * 4 + 3, none⟩ = some (.bool l[i].both) ∧ Ops w g l[i].guard ∧ Ops w s l[i].value := by
  obtain ⟨a, c, h1, h2, b, off, h3, h4⟩ := EachL.at h (by omega)
  refine ⟨a, c, h1, h2, b, off, h3, fun i hi => ?_⟩
  obtain ⟨cs, _, ⟨g, s, rfl, hg, hs⟩, hc⟩ := h4 i hi
  exact ⟨g, s, hc 0 _ rfl, hc 1 _ rfl, hc 2 _ rfl, hc 3 _ rfl, hg, hs⟩
structure PlI (p : Pl) : Prop where
  guard : RawI p.guard
  var : I64 p.var
  value : RawI p.value
structure DnI (d : Dn) : Prop where
  s0 : I64 d.s0
  s1 : I64 d.s1
  l0 : I64 d.l0
  l1 : I64 d.l1
  i0 : I64 d.i0
  i1 : I64 d.i1
  rules : ∀ p ∈ d.rules, PlI p
def OwnTm (k : Nat) (w : World) (v : Value) (t : Tm) : Prop := w.ownsRow k 102 2 v t.flat.length (t.flat.flatMap opc)
theorem OwnTm.isT {k : Nat} {w : World} {v : Value} {t : Tm} (h : OwnTm k w v t) : IsT w v t := isT_own h
theorem OwnTm.ext {k : Nat} {w w' : World} {v : Value} {t : Tm} (h : OwnTm k w v t) (hb : Ext w w') : OwnTm k w' v t := own_ext h hb
theorem own_all {w : World} {k : Nat} {e : TypeId} {size n : Nat} {v : Value} {xs : List Value} (h : w.ownsRow k e size v n xs) {x : World} (hx : ∀ b, k ≤ b → b < w.heap.size → x.heap[b]? = w.heap[b]?) : x.ownsRow k e size v n xs := by
  refine ⟨h.1, ?_⟩
  rcases h.2 with hn | ⟨g, cap, cur, rfl, h1, hg, rest⟩
  · exact .inl hn
  · exact .inr ⟨g, cap, cur, rfl, h1, by rw [hx g h1 (Array.getElem?_eq_some_iff.1 hg).1]; exact hg, rest⟩
def OwnSets (k : Nat) (w : World) (v : Value) (ss : List (Int × Tm)) : Prop :=
  ∃ css : List (List Value), css.length = ss.length ∧ (∀ cs ∈ css, cs.length = 2) ∧ w.ownsRow k 100 2 v ss.length css.flatten ∧
    ∀ (i : Nat) (cs : List Value) (s : Int × Tm), css[i]? = some cs → ss[i]? = some s → ∃ u, cs = [.int .i64 s.1, u] ∧ OwnTm k w u s.2
theorem OwnSets.isSets {k : Nat} {w : World} {v : Value} {ss : List (Int × Tm)} (h : OwnSets k w v ss) : IsSets w v ss := by
  obtain ⟨css, h1, h2, h3, h4⟩ := h
  refine ⟨css, h1, h2, h3.reads, fun i cs s a b => ?_⟩
  obtain ⟨u, e, hu⟩ := h4 i cs s a b
  exact ⟨u, e, hu.isT⟩
theorem OwnSets.ext {k : Nat} {w w' : World} {v : Value} {ss : List (Int × Tm)} (h : OwnSets k w v ss) (hb : Ext w w') : OwnSets k w' v ss := by
  obtain ⟨css, h1, h2, h3, h4⟩ := h
  refine ⟨css, h1, h2, own_ext h3 hb, fun i cs s a b => ?_⟩
  obtain ⟨u, e, hu⟩ := h4 i cs s a b
  exact ⟨u, e, hu.ext hb⟩
theorem OwnSets.all {k : Nat} {w x : World} {v : Value} {ss : List (Int × Tm)} (h : OwnSets k w v ss) (hx : ∀ b, k ≤ b → b < w.heap.size → x.heap[b]? = w.heap[b]?) : OwnSets k x v ss := by
  obtain ⟨css, h1, h2, h3, h4⟩ := h
  refine ⟨css, h1, h2, own_all h3 hx, fun i cs s a b => ?_⟩
  obtain ⟨u, e, hu⟩ := h4 i cs s a b
  exact ⟨u, e, own_all hu hx⟩
theorem ownSets_one {k : Nat} {w : World} {v u : Value} {s : Int × Tm} (h : w.ownsRow k 100 2 v 1 [.int .i64 s.1, u]) (hu : OwnTm k w u s.2) : OwnSets k w v [s] := by
  refine ⟨[[.int .i64 s.1, u]], rfl, by simp, by simpa using h, fun i cs x a b => ?_⟩
  cases i with
  | zero => simp at a b; subst a; subst b; exact ⟨u, rfl, hu⟩
  | succ i => simp at a
theorem ownSets_two {k : Nat} {w : World} {v u u' : Value} {s s' : Int × Tm} (h : w.ownsRow k 100 2 v 2 [.int .i64 s.1, u, .int .i64 s'.1, u']) (hu : OwnTm k w u s.2) (hu' : OwnTm k w u' s'.2) : OwnSets k w v [s, s'] := by
  refine ⟨[[.int .i64 s.1, u], [.int .i64 s'.1, u']], rfl, by simp, by simpa using h, fun i cs x a b => ?_⟩
  match i with
  | 0 => simp at a b; subst a; subst b; exact ⟨u, rfl, hu⟩
  | 1 => simp at a b; subst a; subst b; exact ⟨u', rfl, hu'⟩
  | i + 2 => simp at a
structure RMem (τ : Nat → Nat) (B : Nat) (w : World) (rv : Value) (l : List Rl) : Prop where
  lo : ∀ b, b < B → τ b = 0
  size : B ≤ w.heap.size
  row : ∃ css : List (List Value), css.length = l.length ∧ (∀ cs ∈ css, cs.length = 2) ∧ OwnT τ 1 w B 98 2 rv l.length css.flatten ∧
    Ent τ 2 w fun x => ∀ (i : Nat) (cs : List Value) (r : Rl), css[i]? = some cs → l[i]? = some r → RuleE x r cs
theorem RMem.nil (w : World) (B : Nat) (h : B ≤ w.heap.size) : RMem (fun _ => 0) B w (.slice none 0 0) [] :=
  ⟨fun _ _ => rfl, h, [], rfl, by simp, OwnT.nil _ _ _ _ _ _, fun x _ _ i cs r hc => by simp at hc⟩
theorem RMem.ext {τ : Nat → Nat} {B : Nat} {w w' : World} {rv : Value} {l : List Rl} (h : RMem τ B w rv l) (hE : Ext w w') : RMem τ B w' rv l := by
  obtain ⟨css, h1, h2, h3, h4⟩ := h.row
  exact ⟨h.lo, Nat.le_trans h.size hE.size, css, h1, h2, h3.ext hE, h4.ext hE⟩
theorem RMem.low {τ : Nat → Nat} {B : Nat} {w : World} {rv : Value} {l : List Rl} (h : RMem τ B w rv l) {p : Addr} (hp : p.block < B) (v : Value) : RMem τ B (w.setCell p v) rv l := by
  obtain ⟨css, h1, h2, h3, h4⟩ := h.row
  exact ⟨h.lo, by simpa using h.size, css, h1, h2, h3.low hp v, h4.set (by rw [h.lo _ hp]; omega) v⟩
theorem RMem.isRules {τ : Nat → Nat} {B : Nat} {w : World} {rv : Value} {l : List Rl} (h : RMem τ B w rv l) : IsRules w rv l := by
  obtain ⟨css, h1, h2, h3, h4⟩ := h.row
  exact ⟨css, h1, h2, h3.reads, h4.now⟩
theorem RMem.own {τ : Nat → Nat} {B : Nat} {w : World} {rv : Value} {l : List Rl} (h : RMem τ B w rv l) : ∃ css : List (List Value), css.length = l.length ∧ (∀ cs ∈ css, cs.length = 2) ∧ w.ownsRow B 98 2 rv l.length css.flatten := by
  obtain ⟨css, h1, h2, h3, _⟩ := h.row
  exact ⟨css, h1, h2, h3.own⟩
theorem RMem.push {τ : Nat → Nat} {B : Nat} {w w7 w8 : World} {rv rv' g s : Value} {l : List Rl} {r : Rl} {css : List (List Value)} (h : RMem τ B w rv l) (hE : Ext w w7) (hg : OwnTm w.heap.size w7 g r.guard) (hs : OwnSets w.heap.size w7 s r.sets)
    (k1 : css.length = l.length) (k2 : ∀ cs ∈ css, cs.length = 2) (k3 : OwnT τ 1 w B 98 2 rv l.length css.flatten) (k4 : Ent τ 2 w fun x => ∀ (i : Nat) (cs : List Value) (r : Rl), css[i]? = some cs → l[i]? = some r → RuleE x r cs) (ho : w8.ownsRow B 98 2 rv' (l.length + 1) (css.flatten ++ [g, s])) (hgr : w7.grownBy w8 rv.ownBlock)
    (hb : rv'.ownBlock = rv.ownBlock ∨ rv'.ownBlock = some w7.heap.size) : ∃ τ', RMem τ' B w8 rv' (l ++ [r]) := by
  have hBw := h.size
  have hlt : ∀ b, rv.ownBlock = some b → b < w.heap.size := fun b hb => (k3.own.lt b hb).2
  let τ1 := tagAt τ w.heap.size 2
  let τ2 := tagAt τ1 w7.heap.size 1
  have t1 : ∀ b, b < w.heap.size → τ1 b = τ b := fun b hb => tagAt_lt hb
  have hEs := hE.size
  refine ⟨τ2, fun b hb => ?_, ?_, css ++ [[g, s]], by simp [k1], ?_, ⟨by simpa using ho, ?_⟩, ?_⟩
  · show tagAt τ1 w7.heap.size 1 b = 0
    rw [tagAt_lt (by omega), t1 b (by omega)]
    exact h.lo b hb
  · have := hgr.size; omega
  · intro cs hc
    rcases List.mem_append.1 hc with hc | hc
    · exact k2 cs hc
    · simp at hc; subst hc; rfl
  · intro b hv
    rcases hb with e | e
    · rw [e] at hv
      show tagAt τ1 w7.heap.size 1 b = 1
      have := hlt b hv
      rw [tagAt_lt (by omega), t1 b this]
      exact k3.tag b hv
    · rw [e] at hv
      injection hv with hv
      exact tagAt_ge (by omega)
  · intro x hx hbx i cs r' hc hr
    have hold : ∀ b, b < w.heap.size → τ b = 2 → x.heap[b]? = w.heap[b]? := by
      intro b hb1 hb2
      have n1 : some b ≠ rv.ownBlock := by
        intro e
        have := k3.tag b e.symm
        omega
      have e1 : τ2 b = 2 := by
        show tagAt τ1 w7.heap.size 1 b = 2
        rw [tagAt_lt (by omega), t1 b hb1]; exact hb2
      rw [hbx b (by have := hgr.size; omega) e1, hgr.block b (by omega) n1, hE.block b hb1]
    have hnew : ∀ b, w.heap.size ≤ b → b < w7.heap.size → x.heap[b]? = w7.heap[b]? := by
      intro b hb1 hb2
      have n1 : some b ≠ rv.ownBlock := by
        intro e
        have := hlt b e.symm
        omega
      have e1 : τ2 b = 2 := by
        show tagAt τ1 w7.heap.size 1 b = 2
        rw [tagAt_lt hb2]
        exact tagAt_ge hb1
      rw [hbx b (by have := hgr.size; omega) e1, hgr.block b hb2 n1]
    by_cases hi : i < l.length
    · rw [List.getElem?_append_left (by omega)] at hc hr
      exact k4 x (by have := hgr.size; omega) hold i cs r' hc hr
    · rw [List.getElem?_append_right (by omega)] at hc hr
      have e0 : i - l.length = 0 := by have := (List.getElem?_eq_some_iff.1 hr).1; simp at this; omega
      rw [k1, e0] at hc
      rw [e0] at hr
      simp at hc hr
      subst hc; subst hr
      exact ⟨g, s, rfl, OwnTm.isT (own_all hg hnew), OwnSets.isSets (hs.all hnew)⟩
end Go.Proofs.YtciihiiacbnimaaGreatDoor
