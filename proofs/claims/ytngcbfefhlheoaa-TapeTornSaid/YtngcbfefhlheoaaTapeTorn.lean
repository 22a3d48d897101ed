/- The law TapeTorn. -/
import Derived.Test.YtngcbfefhlheoaaTaped
namespace Go.Proofs.Ytngcbfefhlheoaa
open Go.RowKit

set_option maxRecDepth 100000 in
set_option maxHeartbeats 4000000 in
theorem tapeTorn_walk (v : Value) (ll : List (List Int)) (cut : Int) (w : World) (h : Lists w v ll) (hI : ∀ l ∈ ll, ∀ n ∈ l, I64 n) (hc1 : -9223372036854775808 ≤ cut) (hc2 : cut ≤ 9223372036854775807) :
    Calls Try.prog 6 #[v, .int .i64 cut] w fun e w' => e = .returned (.bool true) ∧ Ext w w' := by
  obtain ⟨a, c, rfl⟩ : ∃ a c, v = .slice a ll.length c := by
    obtain ⟨vs, he, a, c, rfl, _⟩ := h
    exact ⟨a, c, rfl⟩
  have HT := Lib.hid (taped_any _ ll w h hI)
  have hg := recs_good ll 10
  have hlen := recs_len ll 10
  have h12 := tapeB_le (recs ll 10) (recs_12 ll 10)
  have hbl : (tapeB (recs ll 10)).length ≤ 560 := by omega
  have hrl : (recs ll 10).length ≤ 10 := by omega
  have hpb := pk_bd cut ((tapeB (recs ll 10)).length + 1) (by omega)
  obtain ⟨k, hk⟩ : ∃ k : Nat, pk cut ((tapeB (recs ll 10)).length + 1) = k := ⟨(pk cut ((tapeB (recs ll 10)).length + 1)).toNat, by omega⟩
  have hkl : k ≤ (tapeB (recs ll 10)).length := by omega
  obtain ⟨j, hj1, hj2, hj3, hj4⟩ := readL_torn (recs ll 10) hg k hkl
  have hn : ∃ n : Nat, n = (tapeB ((recs ll 10).take j)).length := ⟨_, rfl⟩
  obtain ⟨n, hn⟩ := hn
  rw [← hn] at hj2 hj3
  have HP := Lib.hid fun wx => picked_any cut ((tapeB (recs ll 10)).length + 1) wx hc1 hc2 (by omega) (by omega)
  have HRD := Lib.hid hj2
  have HK := Lib.hid hk
  clear h hI hg hlen h12 hpb hj2 hn hk hc1 hc2
  generalize hbs : tapeB (recs ll 10) = bs at *
  have HBS := Lib.hid hbs
  clear hbs
  generalize recs ll 10 = rs at *
  go_enter Try.func6, Try.ntmps6
  go_wp2_with fail
  refine HT.out.mono ?_
  rintro e w1 ⟨vd, vr, rfl, hown, hL, hE1⟩
  obtain ⟨ad, cd, rfl, hr⟩ := hown.row
  have hcd := hr.le
  have hcm := hr.max
  unfold maxLen at hcm
  have hcm2 : cd ≤ 9223372036854775807 := by omega
  clear hcm
  have hB : Bytes w1 (.slice ad bs.length cd) bs := ⟨_, _, rfl, hr⟩
  have hA : Ext w1 (w1.alloc (Obj.cells #[.slice ad bs.length cd, .int .i64 0] 30)) := (Ext.refl w1).alloc (Nat.le_refl _) _
  have x0 : (w1.alloc (Obj.cells #[.slice ad bs.length cd, .int .i64 0] 30)).cell? ⟨w1.heap.size, 0, none⟩ = some (.slice ad bs.length cd) := by simp [go_sem]
  have hB3 := bytes_cap (bytes_take (hB.ext hA) k hkl) k (Nat.le_refl _) (by omega)
  have HR := Lib.hid (read_any _ (bs.take k) 0 _ hB3 (by simp; omega) (by omega) (by omega))
  rw [HRD.out] at HR
  have HL := Lib.hid ((hL.lists).ext hA)
  have HE := Lib.hid (hE1.trans hA)
  obtain ⟨ar, cr, rfl⟩ : ∃ a c, vr = .slice a rs.length c := by
    obtain ⟨vs, he, a, c, rfl, _⟩ := hL.lists
    exact ⟨a, c, rfl⟩
  clear hown hL hE1 hr hB hA HT hB3
  go_wp2_with fail
  generalize w1.alloc (Obj.cells #[.slice ad bs.length cd, .int .i64 0] 30) = W at *
  refine (HP.out W).mono ?_
  rw [HK.out]
  rintro e wq ⟨rfl, rfl⟩
  go_wp2_with fail
  refine HR.out.mono ?_
  rintro e w2 ⟨v2, rfl, hL2, hE2⟩
  have y0 := cell_later hE2 x0
  have hjl : (rs.take j).length = j := by rw [List.length_take]; omega
  have hcr : rs.length ≤ cr := (HL.out.cells).2.1
  have HS := Lib.hid (sameLists_any _ _ (rs.take j) w2 hL2.lists ((HL.out.ext hE2).take j hj1))
  have HE2 := Lib.hid (HE.out.trans hE2)
  obtain ⟨a2, c2, rfl⟩ : ∃ a c, v2 = .slice a j c := by
    obtain ⟨vs, he, a, c, rfl, _⟩ := hL2.lists
    exact ⟨a, c, by rw [hjl]⟩
  clear x0 hE2 hL2 HR hjl
  by_cases hjr : j = rs.length
  · have hkb := hj4.1 hjr
    clear hj4
    subst hjr
    subst hkb
    go_wp2_with fail
    refine HS.out.mono ?_
    rintro e w3 ⟨rfl, m, rfl⟩
    go_wp2
    all_goals
      go_ret
      exact ⟨rfl, below_drewN HE2.out _⟩
  · have hkb : ¬ k = bs.length := fun h => hjr (hj4.2 h)
    have e1 : ((j : Int) == (rs.length : Int)) = false := by rw [beq_eq_false_iff_ne]; omega
    have e2 : ((k : Int) == (bs.length : Int)) = false := by rw [beq_eq_false_iff_ne]; omega
    clear hj4
    go_wp2_with fail
    refine HS.out.mono ?_
    rintro e w3 ⟨rfl, m, rfl⟩
    go_wp2
    all_goals
      go_ret
      exact ⟨rfl, below_drewN HE2.out _⟩

theorem tapeTorn_law (v0 v1 : Value) (W : World) (h0 : Cells Try.prog W 35 [v0]) (h1 : Cells Try.prog W 3 [v1]) :
    Calls Try.prog 6 #[v0, v1] W fun e w' => e = .returned (.bool true) ∧ Ext W w' := by
  obtain ⟨v, ll, hv, hL, hI⟩ := h0.lists Try.underlying35 Try.underlying27 Try.underlying3 (by kernel_rfl) (by kernel_rfl)
  obtain ⟨p, hp, p1, p2⟩ := h1.i64 Try.underlying3
  cases hv; cases hp
  exact tapeTorn_walk _ ll p W hL hI p1 p2

end Go.Proofs.Ytngcbfefhlheoaa
