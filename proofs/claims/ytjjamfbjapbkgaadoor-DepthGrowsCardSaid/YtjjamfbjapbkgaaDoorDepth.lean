/- The contract of polish.Depth over a term. -/
import Derived.Test.YtjjamfbjapbkgaaDoorDeep
import Derived.Test.YtjjamfbjapbkgaaDoorJoinT
namespace Go.Proofs.YtjjamfbjapbkgaaDoor
open Go.RowKit

set_option maxRecDepth 100000 in
set_option maxHeartbeats 2000000 in
theorem depth_t (v : Value) (t : Tm) (w : World) (h : IsT w v t) (ht : Tab w) (hok : t.ok) (hs : t.size ≤ 60) :
    Calls Tryd.prog 20 #[v] w fun e w' => e = .returned (.tuple #[.int .i64 t.deep, .int .i64 0]) ∧ Ext w w' := by
  have hen := ends_term t hok hs
  have H := ends_any v t.flat w h ht
  rw [hen] at H
  have hel := Tm.ends_len t 0
  have hfl := Tm.flat_len t
  have hmost := deep_most t
  have hpos := t.size_pos
  obtain ⟨a, cap, rfl, hr⟩ := h
  rw [hfl] at *
  generalize t.ends 0 = es at *
  generalize t.deep = d at *
  generalize t.size = n at *
  generalize t.flat = l at *
  have HH := Lib.hid H
  have HM := Lib.hid hmost
  have HL := Lib.hid hel
  clear H hen hok hr hfl hmost hel
  go_enter Tryd.func20, Tryd.ntmps20
  go_wp2_with fail
  refine HH.out.mono ?_
  rintro e w1 ⟨hE1, v1, rfl, hown⟩
  obtain ⟨a1, c1, rfl, hr1⟩ := hown.row
  rcases hown.2 with ⟨_, hz0⟩ | ⟨g, cg, cur, hv, hgb, hg, hnc, hcm, hcs, htake⟩
  · have := HL.out; omega
  cases hv
  have hec : ∀ k (hk : k < es.length), w1.cell? ⟨g, k, none⟩ = some (.int .i64 es[k]) := by
    intro k hk
    have := hr1.cells k (.int .i64 es[k]) (by simp [hk])
    simpa using this
  have HEC := Lib.hid hec
  have HE1 := Lib.hid hE1
  clear hown hr1 hg htake hcs hec hE1 HH hgb
  go_wp2_with fail
  go_loopw [6, 20] (fun m i wr => ∃ ii : Nat, ii ≤ n ∧ i = .int .i64 ii ∧ m = .int .i64 (mostL (fun i => cntL es i (i + 1)) ii : Nat) ∧ mostL (fun i => cntL es i (i + 1)) ii ≤ 61 ∧ wr = w1) (fun _ i _ => n - (intOf i).toNat)
  case atStart => exact ⟨0, by omega, rfl, rfl, by simp [mostL], rfl⟩
  case round =>
    obtain ⟨ii, hii, rfl, rfl, hm61, rfl⟩ := hrel
    by_cases hlt : ii < n
    · have HS := Lib.hid (show mostL (fun i => cntL es i (i + 1)) (ii + 1) = max (mostL (fun i => cntL es i (i + 1)) ii) (cntL es ii (ii + 1)) from rfl)
      generalize mostL (fun i => cntL es i (i + 1)) ii = m at *
      go_wp2_with fail
      go_loopw [8, 9] (fun d k wr' => ∃ kk : Nat, kk ≤ ii + 1 ∧ k = .int .i64 kk ∧ d = .int .i64 (cntL es ii kk : Nat) ∧ cntL es ii kk ≤ kk ∧ wr' = wr) (fun _ k _ => ii + 1 - (intOf k).toNat)
      case atStart => exact ⟨0, by omega, rfl, by simp [cntL], by simp [cntL], rfl⟩
      case round =>
        obtain ⟨kk, hkk, rfl, rfl, hck, rfl⟩ := hrel
        by_cases hk : kk ≤ ii
        · have hke : kk < es.length := by have := HL.out; omega
          have HC := Lib.hid (cntL_succ es ii kk hke)
          have hcell := HEC.out kk hke
          generalize cntL es ii kk = c at *
          generalize es[kk] = x at *
          by_cases hx : (ii : Int) < x
          · have hc' : Hid (cntL es ii (kk + 1) = c + 1) := by have := HC.out; rw [if_pos hx] at this; exact this
            clear HC
            go_wp2_with fail
            go_roundw
            case rel => exact ⟨kk + 1, by omega, by go_num, by rw [hc'.out]; go_num, by have := hc'.out; omega, trivial⟩
            case measure => simp [intOf]; omega
          · have hc' : Hid (cntL es ii (kk + 1) = c) := by have := HC.out; rw [if_neg hx] at this; exact this
            clear HC
            go_wp2_with fail
            go_roundw
            case rel => exact ⟨kk + 1, by omega, by go_num, by rw [hc'.out], by have := hc'.out; omega, trivial⟩
            case measure => simp [intOf]; omega
        · obtain rfl : kk = ii + 1 := by omega
          generalize cntL es ii (ii + 1) = c at *
          have hmx : Hid (mostL (fun i => cntL es i (i + 1)) (ii + 1) = if m < c then c else m) := by
            rw [HS.out]
            show max m c = _
            split <;> omega
          go_wp2_with fail
          refine ⟨⟨ii + 1, by omega, by go_num, ?_, by rw [hmx.out]; split <;> omega, trivial⟩, by simp [intOf]; omega⟩
          rw [hmx.out]
          split <;> rfl
    · obtain rfl : ii = n := by omega
      have hd := HM.out
      rw [hd] at *
      go_wp2_with fail
      go_ret2
      exact ⟨rfl, HE1.out⟩

end Go.Proofs.YtjjamfbjapbkgaaDoor
