/- The law TapeBack. -/
import Derived.Test.YtngcbfefhlheoaaTaped
namespace Go.Proofs.Ytngcbfefhlheoaa
open Go.RowKit

set_option maxRecDepth 100000 in
set_option maxHeartbeats 4000000 in
theorem tapeBack_walk (v : Value) (ll : List (List Int)) (w : World) (h : Lists w v ll) (hI : ∀ l ∈ ll, ∀ n ∈ l, I64 n) :
    Calls Try.prog 5 #[v] w fun e w' => e = .returned (.bool true) ∧ Ext w w' := by
  obtain ⟨a, c, rfl⟩ : ∃ a c, v = .slice a ll.length c := by
    obtain ⟨vs, he, a, c, rfl, _⟩ := h
    exact ⟨a, c, rfl⟩
  have HT := Lib.hid (taped_any _ ll w h hI)
  have hg := recs_good ll 10
  have hrd := readL_tape (recs ll 10) hg
  have hlen := recs_len ll 10
  have h12 := tapeB_le (recs ll 10) (recs_12 ll 10)
  have hmax : ll.length ≤ 9223372036854775807 := by
    obtain ⟨_, hle, hmx, _⟩ := h.cells
    unfold maxLen at hmx
    omega
  have hbl : (tapeB (recs ll 10)).length ≤ 560 := by omega
  have h8 : ll.length = 0 ∨ 8 ≤ (tapeB (recs ll 10)).length := by omega
  have HRD := Lib.hid hrd
  clear h hI hg hrd hlen h12
  generalize hbs : tapeB (recs ll 10) = bs at *
  have HBS := Lib.hid hbs
  clear hbs
  generalize recs ll 10 = rs at *
  go_enter Try.func5, Try.ntmps5
  go_wp2_with fail
  refine HT.out.mono ?_
  rintro e w1 ⟨vd, vr, rfl, hown, hL, hE1⟩
  obtain ⟨ad, cd, rfl, hr⟩ := hown.row
  have hB : Bytes w1 (.slice ad bs.length cd) bs := ⟨_, _, rfl, hr⟩
  have hA : Ext w1 (w1.alloc (Obj.cells #[.slice ad bs.length cd, .int .i64 0] 30)) := (Ext.refl w1).alloc (Nat.le_refl _) _
  have x0 : (w1.alloc (Obj.cells #[.slice ad bs.length cd, .int .i64 0] 30)).cell? ⟨w1.heap.size, 0, none⟩ = some (.slice ad bs.length cd) := by simp [go_sem]
  have x1 : (w1.alloc (Obj.cells #[.slice ad bs.length cd, .int .i64 0] 30)).cell? ⟨w1.heap.size, 1, none⟩ = some (.int .i64 0) := by simp [go_sem]
  have HR := Lib.hid (read_any _ bs 0 _ (hB.ext hA) (by omega) (by omega) (by omega))
  rw [HRD.out] at HR
  have HL := Lib.hid ((hL.lists).ext hA)
  have HE := Lib.hid (hE1.trans hA)
  obtain ⟨ar, cr, rfl⟩ : ∃ a c, vr = .slice a rs.length c := by
    obtain ⟨vs, he, a, c, rfl, _⟩ := hL.lists
    exact ⟨a, c, rfl⟩
  clear hown hL hE1 hr hB hA HT
  go_wp2_with fail
  generalize w1.alloc (Obj.cells #[.slice ad bs.length cd, .int .i64 0] 30) = W at *
  refine HR.out.mono ?_
  rintro e w2 ⟨v2, rfl, hL2, hE2⟩
  have y0 := cell_later hE2 x0
  have y1 := cell_later hE2 x1
  have HS := Lib.hid (sameLists_any _ _ rs w2 hL2.lists (HL.out.ext hE2))
  have HE2 := Lib.hid (HE.out.trans hE2)
  obtain ⟨a2, c2, rfl⟩ : ∃ a c, v2 = .slice a rs.length c := by
    obtain ⟨vs, he, a, c, rfl, _⟩ := hL2.lists
    exact ⟨a, c, rfl⟩
  clear x0 x1 hE2 hL2 HR
  go_wp2_with fail
  refine HS.out.mono ?_
  rintro e w3 ⟨rfl, m, rfl⟩
  have hb : ((ll.length : Int) == 0 || decide ((8 : Int) ≤ (bs.length : Int))) = true := by
    rcases h8 with h | h
    · simp [h]
    · rw [Bool.or_eq_true]; right; rw [decide_eq_true_iff]; omega
  have HBB := Lib.hid hb
  clear hb h8
  by_cases hz : ll.length = 0
  · clear HBB
    simp only [hz]
    go_wp2
    all_goals
      go_ret
      exact ⟨rfl, below_drewN HE2.out _⟩
  · have h8 : (8 : Int) ≤ (bs.length : Int) := by
      have h := HBB.out
      simp only [Bool.or_eq_true, beq_iff_eq, decide_eq_true_iff] at h
      omega
    have hz2 : ((ll.length : Int) == 0) = false := by rw [beq_eq_false_iff_ne]; omega
    clear HBB
    go_wp2
    all_goals
      go_ret
      exact ⟨rfl, below_drewN HE2.out _⟩

theorem tapeBack_law (v0 : Value) (W : World) (h0 : Cells Try.prog W 35 [v0]) :
    Calls Try.prog 5 #[v0] W fun e w' => e = .returned (.bool true) ∧ Ext W w' := by
  obtain ⟨v, ll, hv, hL, hI⟩ := h0.lists Try.underlying35 Try.underlying27 Try.underlying3 (by kernel_rfl) (by kernel_rfl)
  cases hv
  exact tapeBack_walk _ ll W hL hI

end Go.Proofs.Ytngcbfefhlheoaa
