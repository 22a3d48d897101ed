/- Eval: what is needed of it. No condition. -/
import Derived.Test.YtopkbjfjncpjdaaDoorDo
namespace Go.Proofs.YtopkbjfjncpjdaaDoor
def over (n : Int) : Option Int := if Small n then some n else none
theorem over_small {n m : Int} (h : over n = some m) : m = n ∧ Small m := by
  unfold over at h
  split at h
  · rename_i hs
    injection h with h
    subst h
    exact ⟨rfl, hs⟩
  · cases h
def leafV (env : List Int) (k v : Int) : Int := if k = 1 then v else if k = 2 then env.getD v.toNat 0 else if k = 11 then 1 else 0
def evalT (env : List Int) : Tm → Option Int
  | .n0 k v => over (leafV env k v)
  | .n1 _ _ a => (evalT env a).bind fun x => over (1 - x)
  | .n2 k _ a b => (evalT env b).bind fun y => (evalT env a).bind fun x => over (opV k x y)
def doS (env : List Int) (k v : Int) (st : List Int) : Option (List Int) :=
  if partsOf k = 0 then (over (leafV env k v)).map (· :: st)
  else if partsOf k = 1 then match st with
    | x :: s => (over (1 - x)).map (· :: s)
    | _ => none
  else match st with
    | x :: y :: s => (over (opV k x y)).map (· :: s)
    | _ => none
def runR (env : List Int) : List Op2 → Option (List Int)
  | [] => some []
  | o :: r => (runR env r).bind (doS env o.1 o.2)
theorem run_flat (env : List Int) (t : Tm) (h : t.ok) : ∀ r, runR env (t.flat ++ r) = (runR env r).bind fun s => (evalT env t).map (· :: s) := by
  induction t with
  | n0 k v =>
    intro r
    obtain ⟨_, _, h3⟩ := h
    simp only [Tm.flat, List.cons_append, List.nil_append, runR, evalT]
    congr 1
    funext s
    simp [doS, h3]
  | n1 k v a ih =>
    intro r
    obtain ⟨_, _, h3, h4⟩ := h
    simp only [Tm.flat, List.cons_append, runR, evalT]
    rw [ih h4]
    cases runR env r with
    | none => rfl
    | some s =>
      cases evalT env a with
      | none => rfl
      | some x => simp [doS, h3]
  | n2 k v a b ih1 ih2 =>
    intro r
    obtain ⟨_, _, h3, h4, h5⟩ := h
    simp only [Tm.flat, List.cons_append, List.append_assoc, runR, evalT]
    rw [ih1 h4, ih2 h5]
    cases runR env r with
    | none => rfl
    | some s =>
      cases evalT env b with
      | none => rfl
      | some y =>
        cases evalT env a with
        | none => rfl
        | some x => simp [doS, h3]
theorem run_term (env : List Int) (t : Tm) (h : t.ok) : runR env t.flat = (evalT env t).map (fun x => [x]) := by
  have := run_flat env t h []
  rw [List.append_nil] at this
  rw [this]
  rfl
theorem run_len (env : List Int) : ∀ (l : List Op2) (st : List Int), runR env l = some st → st.length ≤ l.length
  | [], st, h => by simp [runR] at h; subst h; simp
  | o :: r, st, h => by
    simp only [runR, Option.bind_eq_some_iff] at h
    obtain ⟨s, hs, hd⟩ := h
    have ih := run_len env r s hs
    unfold doS at hd
    split at hd
    · simp only [Option.map_eq_some_iff] at hd
      obtain ⟨n, _, rfl⟩ := hd
      simpa using ih
    · split at hd
      · split at hd
        · simp only [Option.map_eq_some_iff] at hd
          obtain ⟨n, _, rfl⟩ := hd
          simp at ih ⊢; omega
        · cases hd
      · split at hd
        · simp only [Option.map_eq_some_iff] at hd
          obtain ⟨n, _, rfl⟩ := hd
          simp at ih ⊢; omega
        · cases hd
theorem evalT_small (env : List Int) (t : Tm) (n : Int) (h : evalT env t = some n) : Small n := by
  cases t with
  | n0 k v => exact (over_small h).1 ▸ (over_small h).2
  | n1 k v a =>
    simp only [evalT, Option.bind_eq_some_iff] at h
    obtain ⟨x, _, h⟩ := h
    exact (over_small h).1 ▸ (over_small h).2
  | n2 k v a b =>
    simp only [evalT, Option.bind_eq_some_iff] at h
    obtain ⟨y, _, x, _, h⟩ := h
    exact (over_small h).1 ▸ (over_small h).2
theorem good_kind {t : Tm} {vars : Int} (h : t.good vars) : 1 ≤ t.kind ∧ t.kind ≤ 12 := by
  obtain ⟨v, r, hf⟩ := flat_head t
  have := h (t.kind, v) (by rw [hf]; simp)
  unfold opE at this
  split at this
  · cases this
  · rename_i hk
    simpa [okK] using hk
theorem good_1 {k v : Int} {a : Tm} {vars : Int} (h : (Tm.n1 k v a).good vars) : a.good vars := fun o ho => h o (by simp [Tm.flat, ho])
theorem good_2 {k v : Int} {a b : Tm} {vars : Int} (h : (Tm.n2 k v a b).good vars) : a.good vars ∧ b.good vars := ⟨fun o ho => h o (by simp [Tm.flat, ho]), fun o ho => h o (by simp [Tm.flat, ho])⟩
theorem parts_kind {k : Int} (h1 : 1 ≤ k) (h2 : k ≤ 12) : (partsOf k = 0 ∧ (k = 1 ∨ k = 2 ∨ k = 11 ∨ k = 12)) ∨ (partsOf k = 1 ∧ k = 10) ∨ (partsOf k = 2 ∧ 3 ≤ k ∧ k ≤ 9) := by
  unfold partsOf
  by_cases h : k = 10
  · subst h; simp
  · by_cases h3 : 3 ≤ k ∧ k ≤ 9
    · rw [if_pos (by omega)]; exact .inr (.inr ⟨rfl, h3⟩)
    · rw [if_neg (by omega), if_neg (by omega)]; left; exact ⟨rfl, by omega⟩
theorem truth_01 (env : List Int) (t : Tm) (vars : Int) (n : Int) (hok : t.ok) (hg : t.good vars) (ht : t.typed = true) (hk : mkK t.kind = true) (h : evalT env t = some n) : n = 0 ∨ n = 1 := by
  induction t generalizing n with
  | n0 k v =>
    have hb := good_kind hg
    obtain ⟨_, _, h3⟩ := hok
    obtain ⟨rfl, _⟩ := over_small h
    simp only [Tm.kind] at hk hb
    rcases parts_kind hb.1 hb.2 with ⟨_, e⟩ | ⟨e, _⟩ | ⟨e, _⟩
    · rcases e with rfl | rfl | rfl | rfl
      · simp [mkK] at hk
      · simp [mkK] at hk
      · right; rfl
      · left; rfl
    · omega
    · omega
  | n1 k v a ih =>
    have hb := good_kind hg
    obtain ⟨_, _, h3, h4⟩ := hok
    simp only [evalT, Option.bind_eq_some_iff] at h
    obtain ⟨x, hx, h⟩ := h
    obtain ⟨rfl, _⟩ := over_small h
    simp only [Tm.kind] at hk hb
    simp only [Tm.typed, Bool.and_eq_true, beq_iff_eq] at ht
    rcases parts_kind hb.1 hb.2 with ⟨e, _⟩ | ⟨_, rfl⟩ | ⟨e, _⟩
    · omega
    · have := ih x h4 (good_1 hg) ht.2 (by rw [ht.1]; rfl) hx
      omega
    · omega
  | n2 k v a b ih1 ih2 =>
    have hb := good_kind hg
    obtain ⟨_, _, h3, h4, h5⟩ := hok
    simp only [evalT, Option.bind_eq_some_iff] at h
    obtain ⟨y, hy, x, hx, h⟩ := h
    obtain ⟨rfl, _⟩ := over_small h
    simp only [Tm.kind] at hk hb
    have hk' : 6 ≤ k := by simp [mkK] at hk; omega
    unfold opV
    rw [if_neg (by omega), if_neg (by omega), if_neg (by omega)]
    split
    · split <;> simp
    · split
      · split <;> simp
      · split
        · split <;> simp
        · split <;> simp
structure Sub (t : Tm) (vars : Int) : Prop where
  ok : t.ok
  good : t.good vars
  typed : t.typed = true
theorem Sub.one {k v : Int} {a : Tm} {vars : Int} (h : Sub (.n1 k v a) vars) : Sub a vars ∧ mkK a.kind = tkK k := by
  have := h.typed
  simp only [Tm.typed, Bool.and_eq_true, beq_iff_eq] at this
  exact ⟨⟨h.ok.2.2.2, good_1 h.good, this.2⟩, this.1⟩
theorem Sub.two {k v : Int} {a b : Tm} {vars : Int} (h : Sub (.n2 k v a b) vars) : Sub a vars ∧ Sub b vars ∧ mkK a.kind = tkK k ∧ mkK b.kind = tkK k := by
  have := h.typed
  simp only [Tm.typed, Bool.and_eq_true, beq_iff_eq] at this
  exact ⟨⟨h.ok.2.2.2.1, (good_2 h.good).1, this.1.2⟩, ⟨h.ok.2.2.2.2, (good_2 h.good).2, this.2⟩, this.1.1.1, this.1.1.2⟩
theorem suffix (t : Tm) (vars : Int) (h : Sub t vars) : ∀ (i : Nat), i < t.size → ∀ R : List Op2, ∃ (u : Tm) (r : List Op2), Sub u vars ∧ (t.flat ++ R).drop i = u.flat ++ r := by
  induction t with
  | n0 k v =>
    intro i hi R
    simp only [Tm.size] at hi
    obtain rfl : i = 0 := by omega
    exact ⟨_, R, h, rfl⟩
  | n1 k v a ih =>
    intro i hi R
    simp only [Tm.size] at hi
    cases i with
    | zero => exact ⟨_, R, h, rfl⟩
    | succ i =>
      obtain ⟨u, r, hu, hd⟩ := ih h.one.1 i (by omega) R
      exact ⟨u, r, hu, by simpa [Tm.flat] using hd⟩
  | n2 k v a b ih1 ih2 =>
    intro i hi R
    simp only [Tm.size] at hi
    cases i with
    | zero => exact ⟨_, R, h, rfl⟩
    | succ i =>
      by_cases hl : i < a.size
      · obtain ⟨u, r, hu, hd⟩ := ih1 h.two.1 i hl (b.flat ++ R)
        exact ⟨u, r, hu, by simpa [Tm.flat] using hd⟩
      · obtain ⟨u, r, hu, hd⟩ := ih2 h.two.2.1 (i - a.size) (by omega) R
        refine ⟨u, r, hu, ?_⟩
        rw [← hd]
        simp only [Tm.flat, List.cons_append, List.append_assoc, List.drop_succ_cons]
        rw [List.drop_append, Tm.flat_len, List.drop_eq_nil_of_le (by rw [Tm.flat_len]; omega)]
        simp
theorem stack_at (env : List Int) (t : Tm) (vars : Int) (h : Sub t vars) (i : Nat) (hi : i < t.flat.length) (st : List Int) (hst : runR env (t.flat.drop (i + 1)) = some st) :
    ∃ k v, t.flat[i] = (k, v) ∧ 1 ≤ k ∧ k ≤ 12 ∧ opE (k, v) vars = 0 ∧
      ((partsOf k = 0 ∧ (k = 1 ∨ k = 2 ∨ k = 11 ∨ k = 12)) ∨ (k = 10 ∧ ∃ x s, st = x :: s ∧ Small x) ∨
        (3 ≤ k ∧ k ≤ 9 ∧ ∃ x y s, st = x :: y :: s ∧ Small x ∧ Small y ∧ (8 ≤ k → (x = 0 ∨ x = 1) ∧ (y = 0 ∨ y = 1)))) := by
  obtain ⟨u, r, hu, hd⟩ := suffix t vars h i (by rwa [Tm.flat_len] at hi) []
  rw [List.append_nil, List.drop_eq_getElem_cons hi] at hd
  have hb := good_kind hu.good
  have hval : ∀ a : Tm, ∀ x, evalT env a = some x → Small x := fun a x => evalT_small env a x
  cases u with
  | n0 k v =>
    simp only [Tm.flat, List.cons_append, List.nil_append, List.cons.injEq] at hd
    refine ⟨k, v, hd.1, hb.1, hb.2, hu.good (k, v) (by simp [Tm.flat]), ?_⟩
    have h3 := hu.ok.2.2
    rcases parts_kind hb.1 hb.2 with e | ⟨e, _⟩ | ⟨e, _⟩
    · exact .inl e
    · simp only [Tm.kind] at e; omega
    · simp only [Tm.kind] at e; omega
  | n1 k v a =>
    simp only [Tm.flat, List.cons_append, List.cons.injEq] at hd
    refine ⟨k, v, hd.1, hb.1, hb.2, hu.good (k, v) (by simp [Tm.flat]), ?_⟩
    have h3 := hu.ok.2.2.1
    rw [hd.2, run_flat env a hu.one.1.ok, Option.bind_eq_some_iff] at hst
    obtain ⟨s, _, he⟩ := hst
    rw [Option.map_eq_some_iff] at he
    obtain ⟨x, hx, rfl⟩ := he
    simp only [Tm.kind] at hb
    rcases parts_kind hb.1 hb.2 with ⟨e, _⟩ | ⟨_, e⟩ | ⟨e, _⟩
    · omega
    · exact .inr (.inl ⟨e, x, s, rfl, hval a x hx⟩)
    · omega
  | n2 k v a b =>
    simp only [Tm.flat, List.cons_append, List.append_assoc, List.cons.injEq] at hd
    refine ⟨k, v, hd.1, hb.1, hb.2, hu.good (k, v) (by simp [Tm.flat]), ?_⟩
    have h3 := hu.ok.2.2.1
    obtain ⟨ha, hbb, ka, kb⟩ := hu.two
    rw [hd.2, run_flat env a ha.ok, run_flat env b hbb.ok, Option.bind_eq_some_iff] at hst
    obtain ⟨s1, h1, he⟩ := hst
    rw [Option.map_eq_some_iff] at he
    obtain ⟨x, hx, rfl⟩ := he
    rw [Option.bind_eq_some_iff] at h1
    obtain ⟨s, _, he⟩ := h1
    rw [Option.map_eq_some_iff] at he
    obtain ⟨y, hy, rfl⟩ := he
    simp only [Tm.kind] at hb
    rcases parts_kind hb.1 hb.2 with ⟨e, _⟩ | ⟨e, _⟩ | ⟨_, e⟩
    · omega
    · omega
    · refine .inr (.inr ⟨e.1, e.2, x, y, s, rfl, hval a x hx, hval b y hy, fun h8 => ?_⟩)
      have hm := (log_kinds k h8 (by omega)).2
      exact ⟨truth_01 env a vars x ha.ok ha.good ha.typed (by rw [ka, hm]) hx, truth_01 env b vars y hbb.ok hbb.good hbb.typed (by rw [kb, hm]) hy⟩
end Go.Proofs.YtopkbjfjncpjdaaDoor
