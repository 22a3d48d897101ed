/- Contracts of store.key, slices.Contains, slices.ContainsFunc, store.merge. -/
import Derived.Test.YtmacgcaehfjoiaaStA
namespace Go.Proofs.Ytmacgcaehfjoiaa
open Go.RowKit

theorem ints_drop {w : World} {b off n cap : Nat} {l : List Int} (h : Ints w (.slice (some ⟨b, off, none⟩) n cap) l) (k : Nat) (hk : k ≤ n) : Ints w (.slice (some ⟨b, off + k, none⟩) (n - k) (cap - k)) (l.drop k) := by
  obtain ⟨a, c, e, hr⟩ := h
  simp only [Value.slice.injEq] at e
  obtain ⟨rfl, rfl, rfl⟩ := e
  obtain ⟨b', off', h1, h2, h3⟩ := hr.lie
  refine ⟨_, _, by rw [List.length_drop], ?_⟩
  rw [List.length_drop]
  refine ⟨by simp, by have := hr.le; omega, by have := hr.max; omega, b, off + k, (by intro h; cases h), fun _ => rfl, fun j u hu => ?_⟩
  rw [List.map_drop, List.getElem?_drop] at hu
  have := hr.cells _ _ hu
  rwa [← Nat.add_assoc] at this

theorem key_any (n : Int) (w : World) : Calls Try.prog 17 #[.int .i64 n] w fun e w' => e = .returned (.bool (decide (0 ≤ n ∧ n ≤ 2147483647))) ∧ w = w' := by
  go_enter Try.func17, Try.ntmps17
  by_cases h1 : 0 ≤ n
  · by_cases h2 : n ≤ 2147483647
    · have e : decide (0 ≤ n ∧ n ≤ 2147483647) = true := decide_eq_true ⟨h1, h2⟩
      rw [e]
      go_wp2
      go_ret
      exact ⟨rfl, rfl⟩
    · have e : decide (0 ≤ n ∧ n ≤ 2147483647) = false := decide_eq_false fun h => h2 h.2
      rw [e]
      go_wp2
      go_ret
      exact ⟨rfl, rfl⟩
  · have e : decide (0 ≤ n ∧ n ≤ 2147483647) = false := decide_eq_false fun h => h1 h.1
    rw [e]
    go_wp2
    go_ret
    exact ⟨rfl, rfl⟩

theorem index_any (v : Value) (l : List Int) (n : Int) (w : World) (h : Ints w v l) :
    Calls Try.prog 27 #[v, .int .i64 n] w fun e w' => (∃ k : Int, e = .returned (.int .i64 k) ∧ (0 ≤ k ↔ n ∈ l)) ∧ w = w' := by
  obtain ⟨a, c, rfl, hr⟩ := h
  obtain ⟨b, off, h1, h2⟩ := ints_at' hr
  have hl : l.length ≤ maxLen := Nat.le_trans hr.le hr.max
  unfold maxLen at hl
  have H1 := Lib.hid h1
  have H2 := Lib.hid h2
  obtain ⟨R, hR⟩ : ∃ R : Prop, (n ∈ l) = R := ⟨_, rfl⟩
  rw [hR]
  have HR := Lib.hid hR
  clear h1 h2 hr hR
  go_enter Try.func27, Try.ntmps27
  go_wp2_with fail
  go_loopg [8] l.length (fun k x wr => ∃ i : Nat, k + i = l.length ∧ x = .int .i64 (i : Int) ∧ w = wr ∧ ∀ j (h : j < l.length), j < i → l[j] ≠ n)
  case atStart => exact ⟨0, by omega, by go_num, rfl, fun j _ h => by omega⟩
  case round =>
    obtain ⟨i, hki, rfl, rfl, hno⟩ := hrel
    have HKI := Lib.hid hki
    have HNO := Lib.hid hno
    clear hno hki
    by_cases hi : i < l.length
    · obtain rfl := H1.out (by omega)
      have cx := H2.out i hi
      have hiI : (i : Int) < (l.length : Int) := by omega
      have hi0 : (0 : Int) ≤ (i : Int) := by omega
      by_cases he : l[i] = n
      · have hm : n ∈ l := by rw [← he]; simp
        have HM := Lib.hid (show R from HR.out ▸ hm)
        rw [he] at cx
        clear hm he
        go_wp2
        go_ret
        exact ⟨⟨_, rfl, fun _ => HM.out, fun _ => hi0⟩, rfl⟩
      · have hb : (n == l[i]) = false := by rw [beq_eq_false_iff_ne]; exact fun e => he e.symm
        have HE := Lib.hid he
        generalize hx : l[i] = x at *
        have HXE := Lib.hid hx
        clear he hx
        go_wp2_with fail
        go_roundg (gk - 1)
        case measure => have := HKI.out; omega
        case rel => exact ⟨i + 1, by have := HKI.out; omega, by go_num, rfl, fun j hj hji => by
          by_cases e : j = i
          · subst e; rw [HXE.out]; exact HE.out
          · exact HNO.out j hj (by omega)⟩
    · have hm : ¬ n ∈ l := fun hm => by
        obtain ⟨j, hj, e⟩ := List.mem_iff_getElem.1 hm
        exact HNO.out j hj (by omega) e
      have HM := Lib.hid (show R → False from HR.out ▸ hm)
      have hiI : ¬ (i : Int) < (l.length : Int) := by omega
      clear hm
      go_wp2
      go_ret
      exact ⟨⟨_, rfl, fun h => absurd h (by decide), fun h => (HM.out h).elim⟩, rfl⟩

theorem contains_any (v : Value) (l : List Int) (n : Int) (w : World) (h : Ints w v l) :
    Calls Try.prog 18 #[v, .int .i64 n] w fun e w' => e = .returned (.bool (decide (n ∈ l))) ∧ w = w' := by
  have HI := Lib.hid (index_any v l n w h)
  obtain ⟨a, c, rfl, hr⟩ := h
  clear hr
  generalize l.length = nl at *
  go_enter Try.func18, Try.ntmps18
  go_wp2_with fail
  refine HI.out.mono ?_
  rintro e w1 ⟨⟨k, rfl, hk⟩, rfl⟩
  have HK := Lib.hid (show decide (0 ≤ k) = decide (n ∈ l) by simp only [hk])
  clear hk
  go_wp2
  go_ret
  exact ⟨by rw [← HK.out]; rfl, rfl⟩

/-- The closure that tells what is no key. -/
theorem nokey_any (n : Int) (w : World) (h : 0 ≤ n ∧ n ≤ 2147483647) : Calls Try.prog 26 #[.int .i64 n] w fun e w' => e = .returned (.bool false) ∧ w = w' := by
  have HK := Lib.hid (key_any n w)
  rw [decide_eq_true h] at HK
  clear h
  go_enter Try.func26, Try.ntmps26
  go_wp2_with fail
  refine HK.out.mono ?_
  rintro e w' ⟨rfl, rfl⟩
  go_wp2
  go_ret
  exact ⟨rfl, rfl⟩

end Go.Proofs.Ytmacgcaehfjoiaa
