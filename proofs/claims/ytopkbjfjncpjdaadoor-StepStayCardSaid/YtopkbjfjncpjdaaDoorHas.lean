/- The contract of foretellkeep.has. No condition. -/
import Derived.Test.YtopkbjfjncpjdaaDoorMdF
import Derived.Deep.LoopGhost
namespace Go.Proofs.YtopkbjfjncpjdaaDoor
open Go.RowKit
set_option maxHeartbeats 4000000 in
theorem has_any (v : Value) (l : List Int) (n : Int) (w : World) (h : Ints w v l) :
    Calls Tryd.prog 10 #[v, .int .i64 n] w fun e w' => e = .returned (.bool (decide (n ∈ l))) ∧ w = w' := by
  obtain ⟨a, c, rfl, hr⟩ := h
  obtain ⟨b, off, h1, h2⟩ := ints_at' hr
  have hl : l.length ≤ maxLen := Nat.le_trans hr.le hr.max
  unfold maxLen at hl
  have H1 := Lib.hid h1
  have H2 := Lib.hid h2
  obtain ⟨res, hres⟩ : ∃ r, decide (n ∈ l) = r := ⟨_, rfl⟩
  rw [hres]
  have HR := Lib.hid hres
  clear h1 h2 hr hres
  go_enter Tryd.func10, Tryd.ntmps10
  go_wp2_with fail
  go_loopg [5] l.length (fun k x wr => ∃ i : Nat, k + i = l.length ∧ x = .int .i64 (i : Int) ∧ w = wr ∧ ∀ j (h : j < l.length), j < i → l[j] ≠ n)
  case atStart => exact ⟨0, by omega, by go_num, rfl, fun j _ h => by omega⟩
  case round =>
    obtain ⟨i, hki, rfl, rfl, hno⟩ := hrel
    have HKI := Lib.hid hki
    have HNO := Lib.hid hno
    clear hno hki
    by_cases hi : i < l.length
    · obtain rfl := H1.out (by omega)
      have cx := H2.out i hi
      have hiI : (i : Int) < (l.length : Int) := by omega
      have hi0 : (0 : Int) ≤ (i : Int) := by omega
      by_cases he : l[i] = n
      · have hm : n ∈ l := by rw [← he]; simp
        obtain rfl : res = true := by rw [← HR.out]; exact decide_eq_true hm
        rw [he] at cx
        clear hm he
        go_wp2
        go_ret
        exact ⟨rfl, rfl⟩
      · have hb : (l[i] == n) = false := by rw [beq_eq_false_iff_ne]; exact he
        have HE := Lib.hid he
        generalize hx : l[i] = x at *
        have HXE := Lib.hid hx
        clear he hx
        go_wp2_with fail
        go_roundg (gk - 1)
        case measure => have := HKI.out; omega
        case rel => exact ⟨i + 1, by have := HKI.out; omega, by go_num, rfl, fun j hj hji => by
          by_cases e : j = i
          · subst e; rw [HXE.out]; exact HE.out
          · exact HNO.out j hj (by omega)⟩
    · have hm : ¬ n ∈ l := fun hm => by
        obtain ⟨j, hj, e⟩ := List.mem_iff_getElem.1 hm
        exact HNO.out j hj (by omega) e
      obtain rfl : res = false := by rw [← HR.out]; exact decide_eq_false hm
      have hiI : ¬ (i : Int) < (l.length : Int) := by omega
      clear hm
      go_wp2
      go_ret
      exact ⟨rfl, rfl⟩
theorem has_yes (v : Value) (l : List Int) (n : Int) (w : World) (h : Ints w v l) (hm : n ∈ l) :
    Calls Tryd.prog 10 #[v, .int .i64 n] w fun e w' => e = .returned (.bool true) ∧ w = w' := by
  have := has_any v l n w h
  rw [decide_eq_true hm] at this
  exact this
end Go.Proofs.YtopkbjfjncpjdaaDoor
