/- The contract of scc.Check. -/
import Derived.Test.YtbndjailimhbdaaReachM
import Derived.Deep.LoopGhost
namespace Go.Proofs.Ytbndjailimhbdaa
open Go.RowKit

/-- A graph in form. -/
structure GOk (n : Nat) (next : List (List Int)) (sets : List Int) (init : Int) (M : Nat) : Prop where
  nx : next.length = n
  st : sets.length = n
  max : n ≤ 20000
  i0 : 0 ≤ init
  i1 : init ≤ n
  m6 : M ≤ 6
  ins : Inside n next
  bits : ∀ s ∈ sets, (0 : Int) ≤ s ∧ s < (2 : Int) ^ M

theorem wrap_pow {M : Nat} (h : M ≤ 6) : IntKind.i64.wrap ((2 : Int) ^ M) = (2 : Int) ^ M := by
  rcases (show M = 0 ∨ M = 1 ∨ M = 2 ∨ M = 3 ∨ M = 4 ∨ M = 5 ∨ M = 6 by omega) with rfl | rfl | rfl | rfl | rfl | rfl | rfl <;> decide

set_option maxRecDepth 100000 in
set_option maxHeartbeats 4000000 in
theorem gcheck_ok (sp nx st : Value) (init : Int) (M : Nat) (S : List Sp2) (next : List (List Int)) (sets : List Int) (w : World) (hS : Spots w sp S) (hN : Lists w nx next) (hT : Ints w st sets) (hk : GOk S.length next sets init M) :
    Calls Try.prog 19 #[.agg #[sp, .int .i64 init, nx, st, .int .i64 (M : Int)]] w fun e w' => e = .returned (.int .i64 0) ∧ Ext w w' := by
  obtain ⟨asp, csp, rfl, _⟩ := hS
  obtain ⟨ax, cx, rfl⟩ : ∃ a c, nx = .slice a next.length c := by
    obtain ⟨vs, he, a, c, rfl, _⟩ := hN
    exact ⟨a, c, rfl⟩
  obtain ⟨at', ct, rfl, hrt⟩ := hT
  obtain ⟨_, _, _, bn, on, han, hcn⟩ := hN.cells
  obtain ⟨bs, os, hs1, hs2⟩ := ints_cells hrt
  have HC := Lib.hid hcn
  have HA := Lib.hid han
  have HS1 := Lib.hid hs1
  have HS2 := Lib.hid hs2
  have HK := Lib.hid hk
  have h1 := hk.max
  have h2 := hk.i0
  have h3 := hk.i1
  have h4 := hk.m6
  have h5 := hk.nx
  have h6 := hk.st
  generalize S.length = n at *
  have HN := Lib.hid h5
  have HST := Lib.hid h6
  have hq1 : ((next.length : Int) != (n : Int)) = false := by rw [bne_eq_false_iff_eq]; omega
  have hq2 : ((sets.length : Int) != (n : Int)) = false := by rw [bne_eq_false_iff_eq]; omega
  have hM : (M : Int) ≤ 6 := by omega
  have h1' : (n : Int) ≤ 20000 := by omega
  obtain ⟨PM, hPM⟩ : ∃ PM, (2 : Int) ^ M = PM := ⟨_, rfl⟩
  have hw0 : IntKind.i64.wrap ((2 : Int) ^ M) = PM := (wrap_pow h4).trans hPM
  have HPM := Lib.hid hPM
  clear hPM
  clear hN hcn han hk hrt hs1 hs2 h5 h6 h4
  go_enter Try.func19, Try.ntmps19
  go_wp2_with fail
  have bA := blk_new w (Obj.cells #[.slice asp n csp, .int .i64 init, .slice ax next.length cx, .slice at' sets.length ct, .int .i64 (M : Int)] 28)
  have hE := ext_al (Ext.refl w) (Obj.cells #[.slice asp n csp, .int .i64 init, .slice ax next.length cx, .slice at' sets.length ct, .int .i64 (M : Int)] 28)
  have BA := Lib.hid bA
  have HE := Lib.hid hE
  clear bA hE
  go_loopg [51] next.length (fun m x wr => ∃ i : Nat, m + i = next.length ∧ x = .int .i64 (i : Int) ∧ wr.heap[w.heap.size]? = some (.cells #[.slice asp n csp, .int .i64 init, .slice ax next.length cx, .slice at' sets.length ct, .int .i64 (M : Int)] 28 (0, 0)) ∧ Ext w wr)
  case atStart => exact ⟨0, by omega, by go_num, BA.out, HE.out⟩
  case round =>
    obtain ⟨i, hm, rfl, bA, hE⟩ := hrel
    clear BA HE
    have HM := Lib.hid hm
    have BA := Lib.hid bA
    have HE := Lib.hid hE
    clear hm bA hE
    by_cases hi : i < next.length
    · obtain rfl := HA.out (by omega)
      obtain ⟨ai, ci, hx, hx2⟩ := HC.out i hi
      replace hx := cell_later HE.out hx
      obtain ⟨_, _, e, hri⟩ := hx2
      simp only [Value.slice.injEq] at e
      obtain ⟨rfl, _, rfl⟩ := e
      have hmi : next[i].length ≤ 9223372036854775807 := by have h1 := hri.max; have h2 := hri.le; unfold maxLen at h1; omega
      obtain ⟨bi, oi, hri1, hri2⟩ := ints_cells hri
      have HLI := Lib.hid (HK.out.ins next[i] (by simp))
      have HI1 := Lib.hid hri1
      have HI2 := Lib.hid hri2
      generalize next[i] = l at *
      clear hri hri1 hri2
      have hiI : (i : Int) < (next.length : Int) := by omega
      have hiI0 : (0 : Int) ≤ (i : Int) := by omega
      have hn9 : next.length ≤ 20000 := by have := HN.out; omega
      go_wp2_with fail
      obtain ⟨wo, rfl⟩ : ∃ wo : World, wo = wr := ⟨_, rfl⟩
      go_loopg [58] l.length (fun m x wi => ∃ k : Nat, m + k = l.length ∧ x = .int .i64 (k : Int) ∧ wi = wo)
      case atStart => exact ⟨0, by omega, by go_num, rfl⟩
      case round =>
        obtain ⟨k, hmk, rfl, rfl⟩ := hrel
        have HMK := Lib.hid hmk
        clear hmk
        by_cases hk : k < l.length
        · obtain rfl := HI1.out (by omega)
          have ck := cell_later HE.out (HI2.out k hk)
          obtain ⟨y0, y1⟩ := HLI.out l[k] (by simp)
          generalize l[k] = y at *
          have y2 : ¬ y < 0 := by omega
          have y3 : ¬ (n : Int) ≤ y := by omega
          go_wp2_with fail
          go_roundg (gk - 1)
          case measure => have := HMK.out; omega
          case rel => exact ⟨k + 1, by have := HMK.out; omega, by go_num, rfl⟩
        · have hkl : ¬ (k : Int) < (l.length : Int) := by omega
          have hist : i < sets.length := by have := HN.out; have := HST.out; omega
          obtain rfl := HS1.out (by omega)
          have cst := cell_later HE.out (HS2.out i hist)
          obtain ⟨s0, s1⟩ := HK.out.bits sets[i] (by simp)
          rw [HPM.out] at s1
          have hiS : (i : Int) < (sets.length : Int) := by omega
          have cA3 := blk_cell BA.out (i := 3) rfl
          have cA4 := blk_cell BA.out (i := 4) rfl
          generalize sets[i] = y at *
          have y2 : decide (y < 0) = false := by rw [decide_eq_false_iff_not]; omega
          have y3 : decide (PM ≤ y) = false := by rw [decide_eq_false_iff_not]; omega
          clear hk
          go_wp2_with fail
          go_quiet (fail)
          go_wp2_with fail
          go_roundg (next.length - (i + 1))
          case measure => have := HM.out; omega
          case rel =>
            have hW : ∀ m, Ext wr (wr.drewN m) := fun m => below_drewN (Ext.refl wr) m
            exact ⟨i + 1, by omega, by go_num, blk_ext BA.out (hW _), HE.out.trans (hW _)⟩
    · have hnI : ¬ (i : Int) < (next.length : Int) := by omega
      clear hi
      go_wp2
      go_ret
      exact ⟨rfl, HE.out⟩

set_option maxRecDepth 100000 in
set_option maxHeartbeats 1000000 in
theorem check_bad (w : World) : Calls Try.prog 19 #[.agg #[.slice none 0 0, .int .i64 1, .slice none 0 0, .slice none 0 0, .int .i64 0]] w fun e w' => e = .returned (.int .i64 9) ∧ Ext w w' := by
  go_enter Try.func19, Try.ntmps19
  go_wp2
  go_ret
  exact ⟨rfl, ext_al (Ext.refl w) _⟩

end Go.Proofs.Ytbndjailimhbdaa
