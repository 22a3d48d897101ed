/- Typ: what is needed of it. No condition. -/
import Derived.Test.YtopkbjfjncpjdaaDoorTermB
import Derived.Test.YtopkbjfjncpjdaaDoorExpA
namespace Go.Proofs.YtopkbjfjncpjdaaDoor
theorem partsOf_le (k : Int) : partsOf k = 0 ∨ partsOf k = 1 ∨ partsOf k = 2 := by
  unfold partsOf
  split
  · simp
  · split <;> simp
theorem take_drop_cons (l : List Op2) (i n : Nat) (h : i < l.length) : (l.drop i).take (n + 1) = l[i] :: (l.drop (i + 1)).take n := by
  rw [List.drop_eq_getElem_cons h, List.take_succ_cons]
theorem take_drop_add (l : List Op2) (i m n : Nat) : (l.drop i).take (m + n) = (l.drop i).take m ++ (l.drop (i + m)).take n := by
  rw [List.take_add, List.drop_drop]
theorem skip_parse (l : List Op2) : ∀ (f i : Nat) (es : List Int) (n : Nat) (es' : List Int), skipL l f i es = (.ok n, es') → ∃ t : Tm, t.ok ∧ i + t.size = n ∧ (l.drop i).take t.size = t.flat := by
  intro f
  induction f with
  | zero => intro i es n es' h; simp [skipL] at h
  | succ f ih =>
    intro i es n es' h
    unfold skipL at h
    split at h
    · rename_i hi
      split at h
      · rename_i hk
        rcases hlo : loopL (skipL l f) (partsOf l[i].1) (i + 1) es with ⟨r, es1⟩
        rw [hlo] at h
        cases r with
        | error c => simp [closeL] at h
        | ok m =>
          simp only [closeL, Prod.mk.injEq, Except.ok.injEq] at h
          obtain ⟨rfl, _⟩ := h
          rcases partsOf_le l[i].1 with hp | hp | hp
          · rw [hp] at hlo
            simp only [loopL, Prod.mk.injEq, Except.ok.injEq] at hlo
            refine ⟨.n0 l[i].1 l[i].2, ⟨hk.1, hk.2, hp⟩, by simp [Tm.size]; omega, ?_⟩
            rw [show (Tm.n0 l[i].1 l[i].2).size = 0 + 1 from rfl, take_drop_cons l i 0 hi]
            simp [Tm.flat]
          · rw [hp] at hlo
            simp only [loopL] at hlo
            rcases h1 : skipL l f (i + 1) es with ⟨r1, es2⟩
            rw [h1] at hlo
            cases r1 with
            | error c => simp at hlo
            | ok m1 =>
              simp only [Prod.mk.injEq, Except.ok.injEq] at hlo
              obtain ⟨a, ha, hs, ht⟩ := ih _ _ _ _ h1
              refine ⟨.n1 l[i].1 l[i].2 a, ⟨hk.1, hk.2, hp, ha⟩, by simp [Tm.size]; omega, ?_⟩
              rw [show (Tm.n1 l[i].1 l[i].2 a).size = a.size + 1 from rfl, take_drop_cons l i _ hi, ht]
              simp [Tm.flat]
          · rw [hp] at hlo
            simp only [loopL] at hlo
            rcases h1 : skipL l f (i + 1) es with ⟨r1, es2⟩
            rw [h1] at hlo
            cases r1 with
            | error c => simp at hlo
            | ok m1 =>
              simp only at hlo
              rcases h2 : skipL l f m1 es2 with ⟨r2, es3⟩
              rw [h2] at hlo
              cases r2 with
              | error c => simp at hlo
              | ok m2 =>
                simp only [Prod.mk.injEq, Except.ok.injEq] at hlo
                obtain ⟨a, ha, hs, ht⟩ := ih _ _ _ _ h1
                obtain ⟨b, hb, hs2, ht2⟩ := ih _ _ _ _ h2
                refine ⟨.n2 l[i].1 l[i].2 a b, ⟨hk.1, hk.2, hp, ha, hb⟩, by simp [Tm.size]; omega, ?_⟩
                rw [show (Tm.n2 l[i].1 l[i].2 a b).size = (a.size + b.size) + 1 from rfl, take_drop_cons l i _ hi, take_drop_add, ht, hs, ht2]
                simp [Tm.flat]
      · simp at h
    · simp at h
theorem ends_parse (l : List Op2) (es : List Int) (h : endsL l = .ok es) : ∃ t : Tm, t.ok ∧ t.flat = l ∧ t.size ≤ 60 ∧ es = t.ends 0 := by
  unfold endsL at h
  split at h
  · cases h
  · rename_i hl
    rcases hr : skipL l (l.length + 1) 0 (List.replicate l.length 0) with ⟨r, es1⟩
    rw [hr] at h
    cases r with
    | error c => simp at h
    | ok n =>
      simp only at h
      split at h
      · rename_i hn
        obtain ⟨t, ht, hs, hf⟩ := skip_parse _ _ _ _ _ _ hr
        have hsz : t.size = l.length := by omega
        rw [List.drop_zero, hsz, List.take_length] at hf
        have h2 := ends_term t ht (by omega)
        rw [← hf] at h2
        unfold endsL at h2
        rw [if_neg hl, hr] at h2
        simp only [hn, if_true] at h2
        injection h with h
        injection h2 with h2
        exact ⟨t, ht, hf.symm, by omega, by rw [← h, ← h2]⟩
      · cases h
def opAt (l : List Op2) (k : Nat) : Op2 := l.getD k (0, 0)
def endAt (es : List Int) (k : Nat) : Int := es.getD k 0
def chainL (l : List Op2) (es : List Int) (tk : Bool) (lim : Int) : Nat → Nat → Bool
  | 0, _ => true
  | f + 1, k => if (k : Int) < lim then (mkK (opAt l k).1 == tk) && chainL l es tk lim f (endAt es k).toNat else true
def partsB (l : List Op2) (es : List Int) (i : Nat) : Bool := chainL l es (tkK (opAt l i).1) (endAt es i) (l.length + 1) (i + 1)
def checkE (l : List Op2) (es : List Int) (vars : Int) : Except Int Bool :=
  match l.find? (fun o => opE o vars != 0) with
  | some o => .error (opE o vars)
  | none => if (List.range l.length).all (partsB l es) then .ok (mkK (opAt l 0).1) else .error 5
def checkL (l : List Op2) (vars : Int) : Except Int Bool :=
  if vars < 0 ∨ 6 < vars then .error 2
  else match endsL l with
    | .error c => .error c
    | .ok es => checkE l es vars
def Tm.kind : Tm → Int
  | .n0 k _ => k
  | .n1 k _ _ => k
  | .n2 k _ _ _ => k
def Tm.typed : Tm → Bool
  | .n0 _ _ => true
  | .n1 k _ a => (mkK a.kind == tkK k) && a.typed
  | .n2 k _ a b => (mkK a.kind == tkK k) && (mkK b.kind == tkK k) && a.typed && b.typed
theorem flat_head (t : Tm) : ∃ v r, t.flat = (t.kind, v) :: r := by cases t <;> exact ⟨_, _, rfl⟩
end Go.Proofs.YtopkbjfjncpjdaaDoor
