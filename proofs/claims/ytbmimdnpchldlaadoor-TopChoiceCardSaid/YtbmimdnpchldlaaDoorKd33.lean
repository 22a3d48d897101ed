/- Several texts in one: RingP; ReachP. No condition. -/
import Derived.Test.YtbmimdnpchldlaaDoorKd32
import Derived.Test.YtbmimdnpchldlaaDoorKd26
import Derived.Test.YtbmimdnpchldlaaDoorKd29
namespace Go.Proofs.YtbmimdnpchldlaaDoor

def ringV (M : Nat) : Vr := ⟨nmX, 0, (M : Int) - 1, 0⟩
def ringR1 (M : Nat) : Rl := ⟨.n2 7 0 (.n0 2 0) (.n0 1 ((M : Int) - 1)), [(0, .n2 3 0 (.n0 2 0) (.n0 1 1))]⟩
def ringR2 (M : Nat) : Rl := ⟨.n2 6 0 (.n0 2 0) (.n0 1 ((M : Int) - 1)), [(0, .n0 1 0)]⟩
def ringM (M : Nat) : Md := ⟨[ringV M], [ringR1 M, ringR2 M]⟩
/-- The proposition: the counter is at v. -/
def ringT (v : Int) : Tm := .n2 6 0 (.n0 2 0) (.n0 1 v)

theorem over_ok {n : Int} (h1 : -1000 ≤ n) (h2 : n ≤ 1000) : over n = some n := by unfold over; rw [if_pos (show Small n by unfold Small; omega)]
theorem ev_var {c : Int} (h1 : -1000 ≤ c) (h2 : c ≤ 1000) : evalT [c] (.n0 2 0) = some c := over_ok h1 h2
theorem ev_num {e : List Int} {c : Int} (h1 : -1000 ≤ c) (h2 : c ≤ 1000) : evalT e (.n0 1 c) = some c := over_ok h1 h2
theorem ev_eq {c v : Int} (h1 : -1000 ≤ c) (h2 : c ≤ 1000) (h3 : -1000 ≤ v) (h4 : v ≤ 1000) : evalT [c] (ringT v) = some (if c = v then 1 else 0) := by
  show ((evalT [c] (.n0 1 v)).bind fun y => (evalT [c] (.n0 2 0)).bind fun x => over (opV 6 x y)) = _
  rw [ev_num h3 h4, ev_var h1 h2]
  show over (if c = v then 1 else 0) = _
  split <;> exact over_ok (by omega) (by omega)
theorem ev_lt {c v : Int} (h1 : -1000 ≤ c) (h2 : c ≤ 1000) (h3 : -1000 ≤ v) (h4 : v ≤ 1000) : evalT [c] (.n2 7 0 (.n0 2 0) (.n0 1 v)) = some (if c < v then 1 else 0) := by
  show ((evalT [c] (.n0 1 v)).bind fun y => (evalT [c] (.n0 2 0)).bind fun x => over (opV 7 x y)) = _
  rw [ev_num h3 h4, ev_var h1 h2]
  show over (if c < v then 1 else 0) = _
  split <;> exact over_ok (by omega) (by omega)
theorem ev_add {c : Int} (h1 : -1000 ≤ c) (h2 : c ≤ 999) : evalT [c] (.n2 3 0 (.n0 2 0) (.n0 1 1)) = some (c + 1) := by
  show ((evalT [c] (.n0 1 1)).bind fun y => (evalT [c] (.n0 2 0)).bind fun x => over (opV 3 x y)) = _
  rw [ev_num (by omega) (by omega), ev_var h1 (by omega)]
  show over (c + 1) = _
  exact over_ok (by omega) (by omega)

section
variable {M : Nat} (h2 : 2 ≤ M) (h9 : M ≤ 9)
include h2 h9
theorem ring_vals {c : Int} (h0 : 0 ≤ c) (h1 : c < M) : valsL [ringV M] c = [c] := by
  have _ := h2
  have _ := h9
  show [(0 : Int) + c % ((M : Int) - 1 - 0 + 1)] = [c]
  rw [show (M : Int) - 1 - 0 + 1 = M by omega, Int.emod_eq_of_lt h0 h1, Int.zero_add]
theorem ring_code (y : Int) : codeL [ringV M] [y] 0 = y := by
  have _ := h2
  have _ := h9
  show (0 : Int) * _ + y - 0 = y
  omega
theorem ring_one {m : Md} (hv : m.vars = [ringV M]) {c : Int} (h0 : 0 ≤ c) (h1 : c < M) : afterV m (ringR1 M) [c] = if c < (M : Int) - 1 then some [c + 1] else none := by
  unfold afterV ringR1
  simp only
  rw [ev_lt (by omega) (by omega) (by omega) (by omega)]
  by_cases h : c < (M : Int) - 1
  · rw [if_pos h, if_pos h]
    simp only [Int.one_ne_zero, if_false]
    unfold setsV
    rw [ev_add (by omega) (by omega), hv]
    simp only
    rw [if_pos (by show (0 : Int) ≤ c + 1 ∧ c + 1 ≤ (M : Int) - 1; omega)]
    rfl
  · rw [if_neg h, if_neg h]
    simp
theorem ring_two {m : Md} (hv : m.vars = [ringV M]) {c : Int} (h0 : 0 ≤ c) (h1 : c < M) : afterV m (ringR2 M) [c] = if c < (M : Int) - 1 then none else some [0] := by
  unfold afterV ringR2
  simp only
  rw [show (Tm.n2 6 0 (.n0 2 0) (.n0 1 ((M : Int) - 1))) = ringT ((M : Int) - 1) from rfl, ev_eq (by omega) (by omega) (by omega) (by omega)]
  by_cases h : c < (M : Int) - 1
  · rw [if_neg (by omega), if_pos h]
    simp
  · rw [if_pos (by omega), if_neg h]
    simp only [Int.one_ne_zero, if_false]
    unfold setsV
    rw [ev_num (by omega) (by omega), hv]
    simp only
    rw [if_pos (by show (0 : Int) ≤ 0 ∧ (0 : Int) ≤ (M : Int) - 1; omega)]
    rfl
theorem ring_behind {m : Md} (hv : m.vars = [ringV M]) {c : Int} (h0 : 0 ≤ c) (h1 : c < M) : behindL m [c] [ringR1 M, ringR2 M] = [if c < (M : Int) - 1 then c + 1 else 0] := by
  simp only [behindL, ring_one h2 h9 hv h0 h1, ring_two h2 h9 hv h0 h1, hv]
  by_cases h : c < (M : Int) - 1
  · simp only [if_pos h, List.append_nil]
    rw [ring_code h2 h9]
  · simp only [if_neg h, List.nil_append, List.append_nil]
    rw [ring_code h2 h9]
theorem ring_next {c d : Int} (h0 : 0 ≤ c) (h1 : c < M) : NextP (ringM M) c d ↔ d = if c < (M : Int) - 1 then c + 1 else 0 := by
  unfold NextP
  show d ∈ behindL (ringM M) (valsL [ringV M] c) [ringR1 M, ringR2 M] ∨ (behindL (ringM M) (valsL [ringV M] c) [ringR1 M, ringR2 M] = [] ∧ d = c) ↔ _
  rw [ring_vals h2 h9 h0 h1, ring_behind h2 h9 rfl h0 h1]
  simp
theorem ring_vok : (ringV M).Ok where
  name := nmX_ok
  low := by show (-1000 : Int) ≤ 0; omega
  high := by show (M : Int) - 1 ≤ 1000; omega
  i0 := by show (0 : Int) ≤ 0; omega
  i1 := by show (0 : Int) ≤ (M : Int) - 1; omega
  sp := by show (M : Int) - 1 - 0 < 64; omega
theorem ring_count : countL [ringV M] = (M : Int) := by
  have _ := h2
  have _ := h9
  show ((M : Int) - 1 - 0 + 1) * 1 = M
  omega

theorem ring_first : (ringM M).first = 0 := ring_code h2 h9 0

/-- A leaf of the counter's terms. -/
theorem ring_leaf (k v : Int) (hk : (k = 1 ∧ 0 ≤ v ∧ v ≤ 9) ∨ (k = 2 ∧ v = 0)) : Sub (.n0 k v) 1 := by
  have _ := h2
  have _ := h9
  refine ⟨?_, ?_, rfl⟩
  · simp only [Tm.ok]
    rcases hk with ⟨rfl, _, _⟩ | ⟨rfl, _⟩ <;> exact ⟨by omega, by omega, by decide⟩
  · intro o ho
    simp only [Tm.flat, List.mem_singleton] at ho
    subst ho
    rcases hk with ⟨rfl, h3, h4⟩ | ⟨rfl, rfl⟩
    · have e : okK (1 : Int) = true := by decide
      simp [opE, e]
      omega
    · decide
theorem ring_two_sub (k : Int) (hk : k = 3 ∨ k = 6 ∨ k = 7) {a b : Tm} (ha : Sub a 1) (hb : Sub b 1) (ka : mkK a.kind = false) (kb : mkK b.kind = false) : Sub (.n2 k 0 a b) 1 := by
  have _ := h2
  have _ := h9
  refine ⟨ok_n2 (by omega) ha.ok hb.ok, good_n2 (by omega) (by omega) ha.good hb.good, ?_⟩
  have ht : tkK k = false := by rcases hk with rfl | rfl | rfl <;> rfl
  simp [Tm.typed, ha.typed, hb.typed, ka, kb, ht]
theorem ring_prop {v : Int} (h0 : 0 ≤ v) (h1 : v < M) : PropsOk 1 [ringT v] := by
  refine ⟨by show 1 ≤ 6; omega, fun p hp => ?_⟩
  obtain rfl := List.mem_singleton.1 hp
  exact ⟨ring_two_sub h2 h9 6 (by omega) (ring_leaf h2 h9 2 0 (by omega)) (ring_leaf h2 h9 1 v (by omega)) rfl rfl, by simp [ringT, Tm.size], rfl⟩
theorem ring_rl : RlPre 1 (ringR1 M) ∧ RlPre 1 (ringR2 M) := by
  have hx := ring_leaf h2 h9 2 0 (by omega)
  have hm := ring_leaf h2 h9 1 ((M : Int) - 1) (by omega)
  have h1 := ring_leaf h2 h9 1 1 (by omega)
  have h0 := ring_leaf h2 h9 1 0 (by omega)
  refine ⟨⟨by show 1 ≤ 6; omega, ring_two_sub h2 h9 7 (by omega) hx hm rfl rfl, by simp [ringR1, Tm.size], fun s hs => ?_⟩, ⟨by show 1 ≤ 6; omega, ring_two_sub h2 h9 6 (by omega) hx hm rfl rfl, by simp [ringR2, Tm.size], fun s hs => ?_⟩⟩
  · obtain rfl := List.mem_singleton.1 hs
    exact ⟨by omega, by omega, ring_two_sub h2 h9 3 (by omega) hx h1 rfl rfl, by simp [Tm.size], rfl⟩
  · obtain rfl := List.mem_singleton.1 hs
    exact ⟨by omega, by omega, h0, by simp [Tm.size], rfl⟩
theorem ring_ok : (ringM M).Ok where
  six := by show 1 ≤ 6; omega
  vars := fun v hv => by obtain rfl := List.mem_singleton.1 hv; exact ring_vok h2 h9
  count := by show countL [ringV M] ≤ 4096; rw [ring_count h2 h9]; omega
  twelve := by show 2 ≤ 12; omega
  rules := fun r hr => by
    show RlPre 1 r
    have h := ring_rl h2 h9
    simp only [ringM, List.mem_cons, List.not_mem_nil, or_false] at hr
    rcases hr with rfl | rfl
    · exact h.1
    · exact h.2
  names := by show ([nmX] : List ByteArray).Nodup; simp
  kinds := fun r hr => by
    simp only [ringM, List.mem_cons, List.not_mem_nil, or_false] at hr
    rcases hr with rfl | rfl
    · exact ⟨rfl, by simp [ringR1]⟩
    · exact ⟨rfl, by simp [ringR2]⟩
theorem stay_sub : RlPre 1 stayR := ⟨by decide, ⟨by simp only [stayR, Tm.ok]; exact ⟨by omega, by omega, by decide⟩, fun o ho => by
  have _ := h2
  have _ := h9
  simp only [stayR, Tm.flat, List.mem_singleton] at ho
  subst ho
  decide, rfl⟩, by simp [stayR, Tm.size], fun s hs => by simp [stayR] at hs⟩
/-- The counter that may stand still. -/
theorem choice_ok : (⟨(ringM M).vars, (ringM M).rules ++ [stayR]⟩ : Md).Ok where
  six := by show 1 ≤ 6; omega
  vars := (ring_ok h2 h9).vars
  count := (ring_ok h2 h9).count
  twelve := by show 3 ≤ 12; omega
  rules := fun r hr => by
    rcases List.mem_append.1 hr with h | h
    · exact (ring_ok h2 h9).rules r h
    · obtain rfl := List.mem_singleton.1 h
      exact stay_sub h2 h9
  names := (ring_ok h2 h9).names
  kinds := fun r hr => by
    rcases List.mem_append.1 hr with h | h
    · exact (ring_ok h2 h9).kinds r h
    · obtain rfl := List.mem_singleton.1 h
      exact ⟨rfl, by simp [stayR]⟩

/-- What the proposition says of a state. -/
theorem ring_pS {m : Md} (hv : m.vars = [ringV M]) {v c : Int} (hv0 : 0 ≤ v) (hv1 : v < M) (h0 : 0 ≤ c) (h1 : c < M) : pS m [ringT v] 0 c ↔ c = v := by
  unfold pS
  rw [hv, ring_vals h2 h9 h0 h1]
  show (decide (evalT [c] (ringT v) = some 1)) = true ↔ _
  rw [ev_eq (by omega) (by omega) (by omega) (by omega)]
  by_cases h : c = v <;> simp [h]

/-- What comes of the counter. -/
theorem ring_seq {z : Nat → Int} (hz : SeqS (ringM M) (ringM M).first z) : ∀ k, z k = ((k % M : Nat) : Int) := by
  intro k
  induction k with
  | zero => rw [hz.zero, ring_first h2 h9]; simp
  | succ k ih =>
    have hk := Nat.mod_lt k (show 0 < M by omega)
    have h1 := hz.step k
    rw [ih] at h1
    rw [(ring_next h2 h9 (by omega) (by omega)).1 h1]
    by_cases h : k % M + 1 < M
    · rw [if_pos (by omega), Nat.mod_add_mod k M 1 |>.symm, Nat.mod_eq_of_lt h]; omega
    · rw [if_neg (by omega), Nat.mod_add_mod k M 1 |>.symm, show k % M + 1 = M by omega, Nat.mod_self]; rfl

theorem ring_in : (∀ c d, InN M c → NextP (ringM M) c d → InN M d) ∧ InN M (ringM M).first := codes_in (ring_ok h2 h9).toPre (ring_count h2 h9)
theorem ring_at {v k : Nat} (hv : v < M) {z : Nat → Int} (hz : SeqS (ringM M) (ringM M).first z) : pS (ringM M) [ringT v] 0 (z k) ↔ k % M = v := by
  have hk := Nat.mod_lt k (show 0 < M by omega)
  rw [ring_seq h2 h9 hz, ring_pS h2 h9 rfl (v := (v : Int)) (by omega) (by omega) (by omega) (by omega)]
  omega
theorem ring_again {v : Nat} (hv : v < M) : holdsB (ringM M) [ringT v] (.n1 18 0 (.n1 17 0 (.n0 13 0))) = true := by
  refine holdsB_iff.2 ((holds_gf 0).2 fun z hz j => ⟨v + (M - 1) * j, (ring_at h2 h9 hv hz).2 ?_⟩)
  have e : j + (v + (M - 1) * j) = v + M * j := by
    obtain ⟨q, rfl⟩ : ∃ q, M = q + 1 := ⟨M - 1, by omega⟩
    rw [Nat.add_sub_cancel, Nat.add_mul, Nat.one_mul]
    omega
  rw [e, Nat.add_mul_mod_self_left, Nat.mod_eq_of_lt hv]
theorem ring_settles {v : Nat} (hv : v < M) : holdsB (ringM M) [ringT v] (.n1 17 0 (.n1 18 0 (.n0 13 0))) = false := by
  refine holdsB_eq ⟨fun h => ?_, fun h => by cases h⟩
  obtain ⟨hN, hF⟩ := ring_in h2 h9
  obtain ⟨z, hz⟩ := seq_any hN hF (NextP.some _) hF
  obtain ⟨j, hj⟩ := (holds_fg 0).1 h z hz
  have a := (ring_at h2 h9 hv hz).1 (hj 0)
  have b := (ring_at h2 h9 hv hz).1 (hj 1)
  rw [Nat.add_zero] at a
  exfalso
  have hk := Nat.mod_lt j (show 0 < M by omega)
  by_cases hq : j % M + 1 < M
  · rw [(Nat.mod_add_mod j M 1).symm, Nat.mod_eq_of_lt hq] at b; omega
  · rw [(Nat.mod_add_mod j M 1).symm, show j % M + 1 = M by omega, Nat.mod_self] at b; omega
end

/-- So many moments on. -/
def nextT : Nat → Tm → Tm
  | 0, t => t
  | n + 1, t => .n1 14 0 (nextT n t)
theorem sat_nexts (W : Wd) (t : Tm) : ∀ n i, Sat W (nextT n t) i ↔ Sat W t (nxtN W.n W.back n i)
  | 0, _ => Iff.rfl
  | n + 1, i => by
    show Sat W (.n1 14 0 (nextT n t)) i ↔ Sat W t (nxtN W.n W.back n (nxt W.n W.back i))
    rw [sat_next]
    exact sat_nexts W t n _
theorem holds_nexts {m : Md} {P : List Tm} (n : Nat) : HoldsR m P (nextT n (.n0 13 0)) ↔ ∀ z, SeqS m m.first z → pS m P 0 (z n) :=
  holds_seq (φ := fun z => pS m P 0 (z n)) fun k back x hb => by
    rw [sat_nexts]
    simp only [wdOf_n]
    exact sat_prop (nxtN_lt hb n 0 (by omega))
theorem holds_gn {m : Md} {P : List Tm} : HoldsR m P (.n1 18 0 (.n1 10 0 (.n0 13 0))) ↔ ∀ z, SeqS m m.first z → ∀ k, ¬ pS m P 0 (z k) :=
  holds_seq (φ := fun z => ∀ k, ¬ pS m P 0 (z k)) fun n back x hb => by
    rw [sat_glo]
    simp only [sat_not, wdOf_n]
    exact forall_congr' fun k => not_congr (sat_prop (nxtN_lt hb k 0 (by omega)))
theorem ever_or_never (m : Md) (P : List Tm) (p : Tm) : holdsB m P (.n2 9 0 (.n1 17 0 p) (.n1 17 0 (.n1 18 0 (.n1 10 0 p)))) = true := by
  refine holdsB_iff.2 fun n back x _ => ?_
  rw [sat_or, sat_fin, sat_fin]
  simp only [sat_glo, sat_not]
  by_cases h : ∃ j, Sat (wdOf m P n back x) p (nxtN (wdOf m P n back x).n (wdOf m P n back x).back j 0)
  · exact .inl h
  · exact .inr ⟨0, fun j hj => h ⟨j, hj⟩⟩

section
variable {M : Nat} (h2 : 2 ≤ M) (h9 : M ≤ 9)
include h2 h9
theorem ring_nexts {v : Nat} (hv : v < M) : holdsB (ringM M) [ringT v] (nextT (min v 6) (.n0 13 0)) = decide (v ≤ 6) := by
  refine holdsB_eq ?_
  rw [holds_nexts, decide_eq_true_iff]
  obtain ⟨hN, hF⟩ := ring_in h2 h9
  constructor
  · intro h
    obtain ⟨z, hz⟩ := seq_any hN hF (NextP.some _) hF
    have := (ring_at h2 h9 hv hz).1 (h z hz)
    rw [Nat.mod_eq_of_lt (by omega)] at this
    omega
  · intro h z hz
    refine (ring_at h2 h9 hv hz).2 ?_
    rw [Nat.mod_eq_of_lt (by omega)]
    omega

/-- The counter that may stand still. -/
def choiceM (M : Nat) : Md := ⟨[ringV M], [ringR1 M, ringR2 M] ++ [stayR]⟩
theorem choice_first : (choiceM M).first = 0 := ring_code h2 h9 0
theorem choice_next {c d : Int} (h0 : 0 ≤ c) (h1 : c < M) : NextP (choiceM M) c d ↔ d = c ∨ d = if c < (M : Int) - 1 then c + 1 else 0 := by
  have := stay_next (m := ringM M) (ring_ok h2 h9).toPre (c := c) (d := d) h0 (by show c < countL [ringV M]; rw [ring_count h2 h9]; exact h1)
  show NextP ⟨(ringM M).vars, (ringM M).rules ++ [stayR]⟩ c d ↔ _
  rw [this]
  show d = c ∨ d ∈ behindL (ringM M) (valsL [ringV M] c) [ringR1 M, ringR2 M] ↔ _
  rw [ring_vals h2 h9 h0 h1, ring_behind h2 h9 rfl h0 h1, List.mem_singleton]
theorem choice_ever {v : Nat} (h1 : 1 ≤ v) (hv : v < M) : holdsB (choiceM M) [ringT v] (.n1 17 0 (.n0 13 0)) = false := by
  refine holdsB_eq ⟨fun h => ?_, fun h => by cases h⟩
  have hz : SeqS (choiceM M) (choiceM M).first fun _ => 0 := ⟨1, 0, fun _ => 0, ⟨by omega, (choice_first h2 h9).symm, fun i _ => (choice_next h2 h9 (by omega) (by omega)).2 (.inl rfl)⟩, fun _ => rfl⟩
  obtain ⟨k, hk⟩ := (holds_fin 0).1 h _ hz
  have := (ring_pS h2 h9 (m := choiceM M) rfl (v := (v : Int)) (by omega) (by omega) (by omega) (by omega)).1 hk
  omega
theorem choice_never {v : Nat} (hv : v < M) : holdsB (choiceM M) [ringT v] (.n1 18 0 (.n1 10 0 (.n0 13 0))) = false := by
  refine holdsB_eq ⟨fun h => ?_, fun h => by cases h⟩
  obtain ⟨hN, hF⟩ := ring_in h2 h9
  obtain ⟨z, hz⟩ := seq_any hN hF (NextP.some _) hF
  have hseq := ring_seq h2 h9 hz
  have hz2 : SeqS (choiceM M) (choiceM M).first z := by
    obtain ⟨n, back, x, hl, hx⟩ := hz
    have hxi : ∀ i, i < n → 0 ≤ x i ∧ x i < M := by
      intro i
      induction i with
      | zero => intro _; rw [hl.first]; exact hF
      | succ i ih =>
        intro hi
        have h2 := hl.step i (by omega)
        have e : nxt n back i = i + 1 := by unfold nxt; rw [if_pos hi]
        rw [e] at h2
        exact hN _ _ (ih (by omega)) h2
    refine ⟨n, back, x, ⟨hl.hb, ?_, fun i hi => (choice_next h2 h9 (hxi i hi).1 (hxi i hi).2).2 (.inr ((ring_next h2 h9 (hxi i hi).1 (hxi i hi).2).1 (hl.step i hi)))⟩, hx⟩
    rw [hl.first, ring_first h2 h9, choice_first h2 h9]
  have := holds_gn.1 h z hz2 v
  rw [hseq, Nat.mod_eq_of_lt hv] at this
  exact (this ((ring_pS h2 h9 (m := choiceM M) rfl (v := (v : Int)) (by omega) (by omega) (by omega) (by omega)).2 rfl)).elim
end

end Go.Proofs.YtbmimdnpchldlaaDoor

namespace Go.Proofs.YtbmimdnpchldlaaDoor

section
variable {m : Md} {P : List Tm} {t : Tm} (hk : TkOk m P t) {X : List Sp2} {L : List (List Int)} (hX : XDone (bX m P t) (oX m t) (iX m P t) X L)
include hk hX
theorem init_get {k : Nat} (hk2 : k < (iX m P t).length) : X[k]? = (iX m P t)[k]? := by
  have _ := hk
  rw [← hX.pre, List.getElem?_take, if_pos hk2]
theorem spot_on {a : Nat} {y z : Sp2} (ha : X[a]? = some y) (hz : z ∈ bX m P t y) : ∃ b : Nat, X[b]? = some z := by
  have _ := hk
  have hal := (List.getElem?_eq_some_iff.1 ha).1
  have hlj : L[a]? = some (L[a]'(by rw [hX.len]; exact hal)) := List.getElem?_eq_getElem _
  have hL := hX.lead a _ y hlj ha
  obtain ⟨q, hq, e⟩ := List.mem_iff_getElem.1 hz
  obtain ⟨b, _, hb2⟩ := hL.2 q _ z (List.getElem?_eq_getElem (by rw [hL.1]; exact hq)) (by rw [List.getElem?_eq_getElem hq, e])
  exact ⟨b, hb2⟩
theorem spots_reached {k : Nat} {x : Sp2} (hx : X[k]? = some x) : ReachS m x.1 := by
  obtain ⟨s, hs, hr⟩ := hX.reach k (List.getElem?_eq_some_iff.1 hx).1
  obtain ⟨c, hc, _⟩ := init_at hk hX hs
  have key : ∀ {a b : Nat}, Reach L a b → ∀ x y, X[a]? = some x → X[b]? = some y → ReachS m x.1 → ReachS m y.1 := by
    intro a b h
    induction h with
    | refl => intro x y h1 h2 h3; rw [h1] at h2; obtain rfl := Option.some.inj h2; exact h3
    | step _ he ih =>
      intro x y h1 h2 h3
      obtain ⟨l, hl, hm⟩ := he
      rename_i b c _
      have hb : b < X.length := by rw [← hX.len]; exact (List.getElem?_eq_some_iff.1 hl).1
      have hg : X[b]? = some X[b] := List.getElem?_eq_getElem hb
      exact (ih x _ h1 hg h3).next ((edge_at hk hX hg h2).1 ⟨l, hl, hm⟩).1
  exact key hr _ _ hc hx .first
end

theorem no_cnt : cntA (Tm.n0 12 0).flat = 0 := rfl
theorem no_spots {m : Md} {P : List Tm} (hk : TkOk m P (.n0 12 0)) {X : List Sp2} {L : List (List Int)} (hX : XDone (bX m P (.n0 12 0)) (oX m (.n0 12 0)) (iX m P (.n0 12 0)) X L) {R : List Int} (hR : ∀ c, c ∈ R ↔ ReachS m c) (hn : R.Nodup) : X.length = R.length := by
  have hz : ∀ x ∈ X, x.2 = 0 := fun x hx => by
    have := hX.ok x hx
    unfold oX at this
    rw [no_cnt] at this
    omega
  have hin : ∀ c, ReachS m c → (c, (0 : Int)) ∈ X := by
    intro c hc
    induction hc with
    | first =>
      have h1 : (m.first, (0 : Int)) ∈ iX m P (.n0 12 0) := by
        unfold iX begL
        rw [no_cnt]
        exact List.mem_map.2 ⟨0, List.mem_filter.2 ⟨by simp, by simp [tvT, aheadB]⟩, rfl⟩
      obtain ⟨k, hk2, e⟩ := List.mem_iff_getElem.1 h1
      exact List.mem_of_getElem? ((init_get hk hX hk2).trans (by rw [List.getElem?_eq_getElem hk2, e]))
    | next _ hd ih =>
      obtain ⟨i, hi, e⟩ := List.mem_iff_getElem.1 ih
      obtain ⟨b, hb⟩ := spot_on hk hX (a := i) (by rw [List.getElem?_eq_getElem hi, e]) (z := (_, (0 : Int))) (by
        unfold bX behL
        refine List.mem_flatMap.2 ⟨_, ((nextL_ok m _).mem _).2 hd, ?_⟩
        unfold behN
        rw [no_cnt]
        exact List.mem_map.2 ⟨0, List.mem_filter.2 ⟨by simp, rfl⟩, rfl⟩)
      exact List.mem_of_getElem? hb
  have hnd : (X.map (·.1)).Nodup := by
    rw [List.Nodup, List.pairwise_map]
    refine hX.nd.imp_of_mem fun {a b} ha hb hab e => hab (Prod.ext e ?_)
    rw [hz a ha, hz b hb]
  have hp := (List.perm_ext_iff_of_nodup hnd hn).2 fun c => by
    rw [hR]
    constructor
    · intro h
      obtain ⟨x, hx, rfl⟩ := List.mem_map.1 h
      obtain ⟨k, hk2, e⟩ := List.mem_iff_getElem.1 hx
      exact spots_reached hk hX (k := k) (by rw [List.getElem?_eq_getElem hk2, e])
    · intro h
      exact List.mem_map.2 ⟨_, hin c h, rfl⟩
  have := hp.length_eq
  simpa using this

end Go.Proofs.YtbmimdnpchldlaaDoor
