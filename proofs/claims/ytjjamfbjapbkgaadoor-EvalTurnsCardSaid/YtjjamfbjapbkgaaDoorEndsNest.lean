/- The law EndsNest. -/
import Derived.Test.YtjjamfbjapbkgaaDoorGenD
import Derived.Test.YtjjamfbjapbkgaaDoorTermB
namespace Go.Proofs.YtjjamfbjapbkgaaDoor
open Go.RowKit

/-- Raw numbers that came in. -/
theorem raw_of {W : World} {v : Value} (h : Cells Tryd.prog W 22 [v]) : ∃ raw, Ops W v raw ∧ RawI raw := by
  obtain ⟨a, cap, xss, hv, hr, hx⟩ := h.slice (sz := 2) Tryd.underlying22 (by kernel_rfl)
  have each : ∀ xs ∈ xss, ∃ o : { o : Op2 // I64 o.1 ∧ I64 o.2 }, xs = opc o.val := by
    intro xs hxs
    obtain ⟨hl, hc⟩ := hx xs hxs
    obtain ⟨_, hf⟩ := hc.field Tryd.underlying69
    match xs, hl with
    | [x, y], _ =>
      have c1 : Tryd.prog.cellsOf 3 = 1 := by kernel_rfl
      have f0 : Cells Tryd.prog W 3 [x] := by have := hf 0 _ rfl; simpa [c1] using this
      have f1 : Cells Tryd.prog W 3 [y] := by have := hf 1 _ rfl; simpa [c1] using this
      obtain ⟨m, e0, i0⟩ := Cells.i64 Tryd.underlying3 f0
      obtain ⟨n, e1, i1⟩ := Cells.i64 Tryd.underlying3 f1
      simp at e0 e1
      subst e0; subst e1
      exact ⟨⟨(m, n), i0, i1⟩, rfl⟩
  have build : ∀ yss : List (List Value), (∀ xs ∈ yss, ∃ o : { o : Op2 // I64 o.1 ∧ I64 o.2 }, xs = opc o.val) → ∃ raw : List Op2, yss.length = raw.length ∧ yss.flatten = raw.flatMap opc ∧ ∀ o ∈ raw, I64 o.1 ∧ I64 o.2 := by
    intro yss
    induction yss with
    | nil => intro _; exact ⟨[], rfl, rfl, by simp⟩
    | cons ys yss ih =>
      intro h
      obtain ⟨o, rfl⟩ := h ys (by simp)
      obtain ⟨raw, h1, h2, h3⟩ := ih (fun xs hxs => h xs (by simp [hxs]))
      refine ⟨o.val :: raw, by simp [h1], by simp [h2], ?_⟩
      intro q hq
      rcases List.mem_cons.1 hq with rfl | hq
      · exact o.property
      · exact h3 q hq
  obtain ⟨raw, h1, h2, h3⟩ := build xss each
  simp only [List.cons.injEq, and_true] at hv
  rw [h1, h2] at hr
  refine ⟨raw, ⟨a, cap, by rw [hv, h1], hr⟩, fun p => ?_⟩
  unfold rawAt
  rw [List.getD_eq_getElem?_getD]
  by_cases hp : p < raw.length
  · rw [List.getElem?_eq_getElem hp]; exact h3 _ (by simp)
  · rw [List.getElem?_eq_none (by omega)]; simp [I64]

set_option maxRecDepth 100000 in
set_option maxHeartbeats 2000000 in
theorem endsNest_law (v0 : Value) (W : World) (ht : Tab W) (h0 : Cells Tryd.prog W 22 [v0]) :
    Calls Tryd.prog 3 #[v0] W fun e w' => e = .returned (.bool true) ∧ Ext W w' := by
  obtain ⟨raw, h, hraw⟩ := raw_of h0
  go_enter Tryd.func3, Tryd.ntmps3
  go_wp2_with fail
  refine (mkTruth v0 raw 3 W h hraw (by omega)).mono ?_
  rintro e w1 ⟨v1, rfl, hown, hE1⟩
  have hok : (truO raw 3).ok := truT_ok raw 3 3 0
  have hsm : (truO raw 3).size ≤ 26 := truT_small raw 3
  generalize truO raw 3 = t at *
  have hen := ends_term t hok (by omega)
  have hfl := Tm.flat_len t
  have hel := Tm.ends_len t 0
  have hz := ends_zero t 0 (by rw [hel]; exact t.size_pos)
  have hnn := ends_nest t 0
  have hpos := t.size_pos
  generalize t.flat = l at *
  generalize t.ends 0 = es at *
  rw [← hfl] at hel hsm hpos
  have hz' : es[0]? = some (l.length : Int) := by rw [List.getElem?_eq_getElem (by omega), hz, hfl]; simp
  obtain ⟨n1, n2⟩ := hnn
  obtain ⟨a1, c1, rfl, hr1⟩ := hown.row
  have hops : Ops w1 (.slice a1 l.length c1) l := ⟨_, _, rfl, hr1⟩
  have hends := ends_any _ l w1 hops (ht.ext hE1)
  rw [hen] at hends
  have HEN := Lib.hid hends
  have hw1 := hE1.size
  have N1 := Lib.hid n1
  have N2 := Lib.hid n2
  have HL := Lib.hid hel
  have HZ := Lib.hid hz'
  clear n1 n2 hel hz hz' hends hops hown hr1 hok hfl hen
  go_wp2_with fail
  refine HEN.out.mono ?_
  rintro e w2 ⟨hE2, v2, rfl, hown2⟩
  obtain ⟨a2, c2, rfl, hr2⟩ := hown2.row
  rcases hown2.2 with ⟨_, hz0⟩ | ⟨g, cap, cur, hv, hgb, hg, hnc, hcm, hcs, htake⟩
  · have := HL.out; omega
  cases hv
  have hcell : ∀ k (hk : k < es.length), w2.cell? ⟨g, k, none⟩ = some (.int .i64 es[k]) := by
    intro k hk
    have := hr2.cells k (.int .i64 es[k]) (by simp [hk])
    simpa using this
  have hlen : es.length = l.length := HL.out
  have h00 := hcell 0 (by omega)
  have hz2 := HZ.out
  rw [List.getElem?_eq_getElem (by omega)] at hz2
  rw [Option.some.inj hz2] at h00
  have HC := Lib.hid hcell
  have HE : Hid (Ext W w2) := hE1.trans hE2
  clear hcell hown2 hr2 hg htake hcs hE2 HZ hz2
  generalize l.length = n at *
  have hb2 : ((n : Int) == 0) = false := by rw [beq_eq_false_iff_ne]; omega
  subst hlen
  have hn60 : es.length ≤ 60 := by omega
  go_wp2
  clear h00 hb2
  go_loopw [6] (fun i wr => ∃ ii : Nat, ii ≤ es.length ∧ i = .int .i64 ii ∧ ∃ m, wr = w2.drewN m) (fun i _ => es.length - (intOf i).toNat)
  case atStart => exact ⟨0, by omega, rfl, 0, rfl⟩
  case round =>
    obtain ⟨ii, hii, rfl, m, rfl⟩ := hrel
    by_cases hlt : ii < es.length
    · have hci := HC.out ii hlt
      have hx := (N1.out ii hlt)
      have HX := Lib.hid (fun k hk => N2.out ii k hlt hk)
      generalize es[ii] = x at *
      obtain ⟨hx1, hx2⟩ := hx
      have hx1' : (ii : Int) < x := by omega
      have hx2' : x ≤ (es.length : Int) := by omega
      clear hx1 hx2
      go_wp2
      go_loopw [7] (fun k wr => ∃ kk : Nat, ii < kk ∧ (kk : Int) ≤ x ∧ k = .int .i64 kk ∧ ∃ m, wr = w2.drewN m) (fun k _ => (x - intOf k).toNat)
      case atStart => exact ⟨ii + 1, by omega, by omega, by go_num, m, rfl⟩
      case round =>
        obtain ⟨kk, hk1, hk2, rfl, m2, rfl⟩ := hrel
        by_cases hlk : (kk : Int) < x
        · have hkl : kk < es.length := by omega
          have hck := HC.out kk hkl
          have hle := HX.out kk hkl (by omega) (by omega)
          generalize es[kk] = y at *
          have hxi : (ii : Int) < es.length := by omega
          have hyi : (kk : Int) < es.length := by omega
          have hi0 : (0 : Int) ≤ ii := by omega
          have hk0 : (0 : Int) ≤ kk := by omega
          go_wp2
          go_quiet (fail)
          go_wp2
          go_roundw
          case rel => exact ⟨kk + 1, by omega, by omega, by go_num, _, rfl⟩
          case measure => simp [intOf]; omega
        · go_wp2
          exact ⟨⟨ii + 1, by omega, by go_num, m2, rfl⟩, by simp [intOf]; omega⟩
    · obtain rfl : ii = es.length := by omega
      go_wp2
      go_ret
      exact ⟨rfl, below_drewN HE.out _⟩

end Go.Proofs.YtjjamfbjapbkgaaDoor
