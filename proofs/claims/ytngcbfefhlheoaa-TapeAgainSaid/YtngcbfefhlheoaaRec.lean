/- Plain: which records bytes hold. No program in sight. -/
import Derived.Test.YtngcbfefhlheoaaTapeD
namespace Go.Proofs.Ytngcbfefhlheoaa

theorem get4_nonneg (l : List UInt8) : 0 ≤ get4 l ∧ get4 l < 4294967296 := by
  unfold get4
  split
  · rename_i a b c d _
    have := a.toNat_lt; have := b.toNat_lt; have := c.toNat_lt; have := d.toNat_lt
    omega
  · omega

theorem get4_be4 (n : Int) (h1 : 0 ≤ n) (h2 : n ≤ 2147483647) (r : List UInt8) : get4 (be4 n ++ r) = n := by
  simp only [be4, List.cons_append, List.nil_append, get4]
  have hs : UInt8.size = 256 := rfl
  rw [UInt8.toNat_ofNat_of_lt' (by omega), UInt8.toNat_ofNat_of_lt' (by omega), UInt8.toNat_ofNat_of_lt' (by omega), UInt8.toNat_ofNat_of_lt' (by omega)]
  omega

theorem get4_take (l : List UInt8) (m : Nat) (h : 4 ≤ m) : get4 (l.take m) = get4 l := by
  match l with
  | [] => simp
  | [a] => rw [List.take_of_length_le (by simp; omega)]
  | [a, b] => rw [List.take_of_length_le (by simp; omega)]
  | [a, b, c] => rw [List.take_of_length_le (by simp; omega)]
  | a :: b :: c :: d :: l =>
    obtain ⟨k, rfl⟩ : ∃ k, m = k + 4 := ⟨m - 4, by omega⟩
    simp [get4]

/-- The numbers of a record. -/
def numsL (b : List UInt8) (n : Nat) : List Int := (List.range n).map fun i => get4 (b.drop (4 + 4 * i))

/-- tape.first: the first record, and how many bytes it has. -/
def firstL (b : List UInt8) : Option (List Int × Nat) :=
  if b.length < 4 ∨ 4000 < get4 b ∨ b.length < 4 + 4 * (get4 b).toNat + 4 ∨ get4 (b.drop (4 + 4 * (get4 b).toNat)) ≠ sumL (b.take (4 + 4 * (get4 b).toNat)) ∨ (∃ k ∈ numsL b (get4 b).toNat, 2147483647 < k) then none
  else some (numsL b (get4 b).toNat, 4 + 4 * (get4 b).toNat + 4)

theorem firstL_size {b : List UInt8} {r : List Int} {n : Nat} (h : firstL b = some (r, n)) : 8 ≤ n ∧ n ≤ b.length ∧ n = 8 + 4 * r.length ∧ r.length ≤ 4000 := by
  unfold firstL at h
  split at h
  · cases h
  · rename_i hc
    simp only [not_or, Int.not_lt, Nat.not_lt, Decidable.not_not] at hc
    injection h with h
    injection h with h1 h2
    have := get4_nonneg b
    subst h1 h2
    simp only [numsL, List.length_map, List.length_range]
    omega

theorem firstL_rec (zs : List Int) (hz : zs.length ≤ 4000) (hI : ∀ z ∈ zs, 0 ≤ z ∧ z ≤ 2147483647) (r : List UInt8) : firstL (recB zs ++ r) = some (zs, (recB zs).length) := by
  have hl := recB_len zs
  have hg : get4 (recB zs ++ r) = (zs.length : Int) := by
    unfold recB body
    rw [List.append_assoc, List.append_assoc]
    exact get4_be4 _ (by omega) (by omega) _
  have hb := body_len zs
  have ht : (recB zs ++ r).take (4 + 4 * zs.length) = body zs := by
    unfold recB
    rw [List.append_assoc, List.take_append_of_le_length (by omega), List.take_of_length_le (by omega)]
  have hd : (recB zs ++ r).drop (4 + 4 * zs.length) = be4 (sumL (body zs)) ++ r := by
    unfold recB
    rw [List.append_assoc, List.drop_append_of_le_length (by omega), List.drop_eq_nil_of_le (by omega), List.nil_append]
  have hn : numsL (recB zs ++ r) zs.length = zs := by
    unfold numsL
    apply List.ext_getElem
    · simp
    · intro i h1 h2
      simp only [List.getElem_map, List.getElem_range]
      have e : (recB zs ++ r).drop (4 + 4 * i) = be4 zs[i] ++ ((zs.drop (i + 1)).flatMap be4 ++ (be4 (sumL (body zs)) ++ r)) := by
        have e2 : recB zs ++ r = (be4 zs.length ++ (zs.take i).flatMap be4) ++ (be4 zs[i] ++ ((zs.drop (i + 1)).flatMap be4 ++ (be4 (sumL (body zs)) ++ r))) := by
          have e3 : zs.flatMap be4 = (zs.take i).flatMap be4 ++ (be4 zs[i] ++ (zs.drop (i + 1)).flatMap be4) := by
            have e4 : zs = zs.take i ++ zs[i] :: zs.drop (i + 1) := by rw [← List.drop_eq_getElem_cons h2, List.take_append_drop]
            have e5 := congrArg (List.flatMap be4) e4
            rw [List.flatMap_append, List.flatMap_cons] at e5
            exact e5
          unfold recB
          unfold body at *
          rw [e3]
          simp only [List.append_assoc]
        rw [e2]
        have hll : (be4 zs.length ++ (zs.take i).flatMap be4).length = 4 + 4 * i := by rw [List.length_append, be4_len, flat4_len]; simp; omega
        rw [List.drop_append_of_le_length (by omega), List.drop_eq_nil_of_le (by omega), List.nil_append]
      rw [e]
      have := hI zs[i] (by simp)
      exact get4_be4 _ this.1 this.2 _
  have hs := sumL_bd (body zs)
  unfold firstL
  rw [hg]
  simp only [Int.toNat_natCast]
  rw [ht, hd, get4_be4 _ (by omega) (by omega), hn, if_neg]
  · simp only [Option.some.injEq, Prod.mk.injEq, true_and]; omega
  · simp only [not_or, List.length_append]
    refine ⟨by omega, by omega, by omega, by simp, ?_⟩
    rintro ⟨k, hk, h⟩
    have := hI k hk
    omega

/-- Of a record that is cut there is none. -/
theorem firstL_torn (zs : List Int) (hz : zs.length ≤ 4000) (k : Nat) (hk : k < (recB zs).length) : firstL ((recB zs).take k) = none := by
  have hl := recB_len zs
  unfold firstL
  rw [if_pos]
  by_cases h4 : k < 4
  · left; simp; omega
  · right; right; left
    rw [get4_take _ _ (by omega)]
    have hg : get4 (recB zs) = (zs.length : Int) := by
      unfold recB body
      rw [List.append_assoc]
      exact get4_be4 _ (by omega) (by omega) _
    rw [hg]
    simp
    omega

theorem firstL_nil : firstL [] = none := by simp [firstL]

/-- It hangs on its own bytes alone. -/
theorem firstL_take {b : List UInt8} {r : List Int} {n : Nat} (h : firstL b = some (r, n)) (m : Nat) (hm : n ≤ m) : firstL (b.take m) = some (r, n) := by
  have hsz := firstL_size h
  unfold firstL at h
  split at h
  · cases h
  · rename_i hc
    simp only [not_or, Int.not_lt, Nat.not_lt, Decidable.not_not] at hc
    injection h with h
    injection h with h1 h2
    have hnn := get4_nonneg b
    have hg : get4 (b.take m) = get4 b := get4_take _ _ (by omega)
    have hd : ∀ i, i + 4 ≤ m → get4 ((b.take m).drop i) = get4 (b.drop i) := fun i hi => by
      rw [List.drop_take]
      exact get4_take _ _ (by omega)
    have hn : numsL (b.take m) (get4 b).toNat = numsL b (get4 b).toNat := by
      unfold numsL
      apply List.map_congr_left
      intro i hi
      rw [List.mem_range] at hi
      exact hd _ (by omega)
    unfold firstL
    rw [hg, hn, hd _ (by omega), List.take_take, Nat.min_eq_left (by omega), if_neg]
    · rw [h1, h2]
    · simp only [not_or, List.length_take]
      refine ⟨by omega, by omega, by omega, fun h => h hc.2.2.2.1, hc.2.2.2.2⟩

/-- tape.Read: all whole records, and how many bytes they have. -/
def readF : Nat → List UInt8 → List (List Int) × Nat
  | 0, _ => ([], 0)
  | f + 1, b => match firstL b with
    | none => ([], 0)
    | some (r, n) => (r :: (readF f (b.drop n)).1, n + (readF f (b.drop n)).2)

def readL (b : List UInt8) : List (List Int) × Nat := readF (b.length + 1) b

theorem readF_more : ∀ (f g : Nat) (b : List UInt8), b.length < f → b.length < g → readF f b = readF g b
  | 0, _, _, h, _ => by omega
  | _ + 1, 0, _, _, h => by omega
  | f + 1, g + 1, b, h1, h2 => by
    unfold readF
    cases hf : firstL b with
    | none => rfl
    | some p =>
      obtain ⟨r, n⟩ := p
      have := firstL_size hf
      simp only
      rw [readF_more f g (b.drop n) (by simp; omega) (by simp; omega)]

theorem readL_none {b : List UInt8} (h : firstL b = none) : readL b = ([], 0) := by simp [readL, readF, h]

theorem readL_some {b : List UInt8} {r : List Int} {n : Nat} (h : firstL b = some (r, n)) : readL b = (r :: (readL (b.drop n)).1, n + (readL (b.drop n)).2) := by
  have hs := firstL_size h
  unfold readL
  rw [readF, h]
  simp only
  rw [readF_more b.length ((b.drop n).length + 1) (b.drop n) (by simp; omega) (by omega)]

theorem readL_le : ∀ (f : Nat) (b : List UInt8), (readF f b).2 ≤ b.length
  | 0, b => by simp [readF]
  | f + 1, b => by
    unfold readF
    cases hf : firstL b with
    | none => simp
    | some p =>
      obtain ⟨r, n⟩ := p
      have := firstL_size hf
      have ih := readL_le f (b.drop n)
      simp only [List.length_drop] at ih ⊢
      omega

/-- Records one behind the other. -/
def Good (zs : List Int) : Prop := zs.length ≤ 4000 ∧ ∀ z ∈ zs, 0 ≤ z ∧ z ≤ 2147483647

def tapeB (zss : List (List Int)) : List UInt8 := zss.flatMap recB

theorem readL_app (zss : List (List Int)) (hg : ∀ zs ∈ zss, Good zs) (r : List UInt8) : readL (tapeB zss ++ r) = (zss ++ (readL r).1, (tapeB zss).length + (readL r).2) := by
  induction zss with
  | nil => simp [tapeB]
  | cons zs zss ih =>
    have h := hg zs (by simp)
    have e : tapeB (zs :: zss) ++ r = recB zs ++ (tapeB zss ++ r) := by simp [tapeB]
    have e2 : (tapeB (zs :: zss)).length = (recB zs).length + (tapeB zss).length := by simp [tapeB]
    rw [e, readL_some (firstL_rec zs h.1 h.2 _), List.drop_append_of_le_length (Nat.le_refl _), List.drop_eq_nil_of_le (Nat.le_refl _), List.nil_append, ih (fun z hz => hg z (by simp [hz])), e2]
    simp only [List.cons_append, Prod.mk.injEq, true_and]
    omega

theorem readL_tape (zss : List (List Int)) (hg : ∀ zs ∈ zss, Good zs) : readL (tapeB zss) = (zss, (tapeB zss).length) := by
  have := readL_app zss hg []
  rw [List.append_nil] at this
  rw [this, readL_none firstL_nil]
  simp

/-- Of a torn tape just the whole records are read. -/
theorem readL_torn : ∀ (zss : List (List Int)), (∀ zs ∈ zss, Good zs) → ∀ k, k ≤ (tapeB zss).length → ∃ j, j ≤ zss.length ∧ readL ((tapeB zss).take k) = (zss.take j, (tapeB (zss.take j)).length) ∧ (tapeB (zss.take j)).length ≤ k ∧ (j = zss.length ↔ k = (tapeB zss).length)
  | [], _, k, hk => by
    have : k = 0 := by simpa [tapeB] using hk
    subst this
    exact ⟨0, by simp, by simp [tapeB, readL_none firstL_nil], by simp [tapeB], by simp [tapeB]⟩
  | zs :: zss, hg, k, hk => by
    have h := hg zs (by simp)
    have e : tapeB (zs :: zss) = recB zs ++ tapeB zss := by simp [tapeB]
    have hl := recB_len zs
    rw [e, List.length_append] at hk
    by_cases hc : k < (recB zs).length
    · refine ⟨0, by simp, ?_, by simp [tapeB], ?_⟩
      · rw [e, List.take_append_of_le_length (by omega), readL_none (firstL_torn zs h.1 k hc)]
        simp [tapeB]
      · rw [e, List.length_append]; simp; omega
    · obtain ⟨j, h1, h2, h3, h4⟩ := readL_torn zss (fun z hz => hg z (by simp [hz])) (k - (recB zs).length) (by omega)
      refine ⟨j + 1, by simp; omega, ?_, ?_, ?_⟩
      · have e2 : (tapeB (zs :: zss)).take k = recB zs ++ (tapeB zss).take (k - (recB zs).length) := by
          rw [e, List.take_append]
          congr 1
          exact List.take_of_length_le (by omega)
        rw [e2, readL_some (firstL_rec zs h.1 h.2 _), List.drop_append_of_le_length (Nat.le_refl _), List.drop_eq_nil_of_le (Nat.le_refl _), List.nil_append, h2]
        simp [tapeB]
      · simp only [List.take_succ_cons]
        have : (tapeB (zs :: zss.take j)).length = (recB zs).length + (tapeB (zss.take j)).length := by simp [tapeB]
        omega
      · rw [e, List.length_append]
        simp only [List.length_cons, Nat.add_right_cancel_iff]
        rw [h4]
        omega

/-- What was read is read again of the bytes that it has. -/
theorem readL_again : ∀ (f : Nat) (b : List UInt8), b.length < f → ∀ m, (readL b).2 ≤ m → (m = (readL b).2 ∨ True) → readL (b.take (readL b).2) = readL b
  | 0, _, h, _, _, _ => by omega
  | f + 1, b, h, m, hm, _ => by
    cases hf : firstL b with
    | none => rw [readL_none hf]; simp [readL_none firstL_nil]
    | some p =>
      obtain ⟨r, n⟩ := p
      have hs := firstL_size hf
      have hr := readL_some hf
      have hle : (readL (b.drop n)).2 ≤ (b.drop n).length := readL_le _ _
      have ih := readL_again f (b.drop n) (by simp; omega) _ (Nat.le_refl _) (.inr trivial)
      rw [hr]
      simp only
      rw [readL_some (firstL_take hf (n + (readL (b.drop n)).2) (by omega))]
      have e : (b.take (n + (readL (b.drop n)).2)).drop n = (b.drop n).take (readL (b.drop n)).2 := by
        rw [List.drop_take]; congr 1; omega
      rw [e, ih]

end Go.Proofs.Ytngcbfefhlheoaa
