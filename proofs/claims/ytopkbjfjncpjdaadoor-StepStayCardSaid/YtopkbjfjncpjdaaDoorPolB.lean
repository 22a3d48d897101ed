/- PolB: what is needed of it. No condition. -/
import Derived.Test.YtopkbjfjncpjdaaDoorPolA
namespace Go.Proofs.YtopkbjfjncpjdaaDoor
open Go.RowKit
theorem SkipPost.mk {w w' : World} {g n : Nat} {r : (Except Int Nat) × List Int} {e : Ending} (h : match r.1 with
    | .ok m => e = .returned (.int .i64 (m : Int))
    | .error c => e = .panicked [{ v := errV c, recovered := false }]) (h2 : EndsRow w' g n r.2) (h3 : w.grownBy w' (some g)) : SkipPost w g n r e w' := ⟨h, h2, h3⟩
set_option maxRecDepth 100000 in
set_option maxHeartbeats 1000000 in

theorem skip_short (R g cap : Nat) (a : Option Addr) (l : List Op2) (at' : Nat) (es : List Int) (w : World) (hl : l.length ≤ at') (hr : Rd w R g a cap l) (he : EndsRow w g l.length es) :
    Calls Tryd.prog 59 #[.pointer (some ⟨R, 0, none⟩), .int .i64 at'] w (SkipPost w g l.length (.error 4, es)) := by
  have c0 := hr.c0
  have hfin : ∀ e w', (e = .panicked [{ v := errV 4, recovered := false }] ∧ w = w') → SkipPost w g l.length (.error 4, es) e w' := by
    rintro e w' ⟨rfl, rfl⟩
    exact SkipPost.mk rfl he (World.grownBy.refl _ _)
  refine Calls.mono ?_ hfin
  clear hfin he hr
  go_enter Tryd.func59, Tryd.ntmps59
  go_wp2
  exact ⟨rfl, rfl, rfl⟩
set_option maxRecDepth 100000 in
set_option maxHeartbeats 1000000 in
theorem skip_kind (R g cap : Nat) (a : Option Addr) (l : List Op2) (at' : Nat) (es : List Int) (w : World) (hl : at' < l.length) (hb : l.length ≤ 1000) (hr : Rd w R g a cap l) (he : EndsRow w g l.length es) (hk : l[at'].1 < 1 ∨ 18 < l[at'].1) :
    Calls Tryd.prog 59 #[.pointer (some ⟨R, 0, none⟩), .int .i64 at'] w (SkipPost w g l.length (.error 13, es)) := by
  have c0 := hr.c0
  obtain ⟨b, off, ha, hc⟩ := hr.row.ops
  obtain rfl := ha (by omega)
  have k0 := (hc at' hl).1
  have hfin : ∀ e w', (e = .panicked [{ v := errV 13, recovered := false }] ∧ w = w') → SkipPost w g l.length (.error 13, es) e w' := by
    rintro e w' ⟨rfl, rfl⟩
    exact SkipPost.mk rfl he (World.grownBy.refl _ _)
  refine Calls.mono ?_ hfin
  have CP := parts_bad l[at'].1 w hk
  have HCP := Lib.hid CP
  generalize l[at'].1 = k at *
  clear hfin he hr CP hc hk
  go_enter Tryd.func59, Tryd.ntmps59
  go_wp2_with (go_at_call 66; refine (HCP.out).mono ?_; rintro e w' ⟨rfl, rfl⟩)
  exact ⟨rfl, rfl, rfl⟩
set_option maxRecDepth 100000 in
set_option maxHeartbeats 2000000 in
theorem skip_step (R g cap : Nat) (a : Option Addr) (l : List Op2) (at' : Nat) (es : List Int) (w : World) (hl : at' < l.length) (hb : l.length ≤ 1000) (hr : Rd w R g a cap l) (he : EndsRow w g l.length es) (hk1 : 1 ≤ l[at'].1) (hk2 : l[at'].1 ≤ 18)
    (rec : Nat → List Int → (Except Int Nat) × List Int) (hes : es.length = l.length)
    (hbd : ∀ (p : Nat) (es' : List Int), p ≤ l.length → (∀ n, (rec p es').1 = .ok n → p < n ∧ n ≤ l.length) ∧ (rec p es').2.length = es'.length)
    (hrec : ∀ (p : Nat) (es' : List Int) (w' : World), at' < p → p ≤ l.length → es'.length = l.length → Rd w' R g a cap l → EndsRow w' g l.length es' → Calls Tryd.prog 59 #[.pointer (some ⟨R, 0, none⟩), .int .i64 p] w' (SkipPost w' g l.length (rec p es'))) :
    Calls Tryd.prog 59 #[.pointer (some ⟨R, 0, none⟩), .int .i64 at'] w (SkipPost w g l.length (closeL at' (loopL rec (partsOf l[at'].1) (at' + 1) es))) := by
  have c0 := hr.c0
  have c1 := hr.c1
  obtain ⟨b, off, ha, hc⟩ := hr.row.ops
  obtain rfl := ha (by omega)
  have k0 := (hc at' hl).1
  have HCP := Lib.hid (parts_good l[at'].1 w hr.tab hk1 hk2)
  have hpl : partsOf l[at'].1 ≤ 2 := by unfold partsOf; split <;> (try split) <;> omega
  generalize hpp : partsOf l[at'].1 = pp at *
  generalize l[at'].1 = k at *
  generalize hres : loopL rec pp (at' + 1) es = res at *
  have Hres := Lib.hid hres
  generalize hfin : closeL at' res = fin at *
  have Hfin := Lib.hid hfin
  have Hpp := Lib.hid hpp
  have HR := Lib.hid hr
  have HE := Lib.hid he
  have Hes := Lib.hid hes
  have HB := Lib.hid hbd
  have HREC := Lib.hid hrec
  clear hres hfin hpp hc hk1 hk2 hr he hes hbd hrec
  go_enter Tryd.func59, Tryd.ntmps59
  go_wp2_with (go_at_call 66; refine (HCP.out).mono ?_; rintro e w' ⟨rfl, rfl⟩)
  clear HCP
  go_loopw [7, 35] (fun e j wr => ∃ (jj en : Nat) (es' : List Int), jj ≤ pp ∧ j = .int .i64 jj ∧ e = .int .i64 en ∧ at' < en ∧ en ≤ l.length ∧ Hid (es'.length = l.length) ∧ Hid (loopL rec (pp - jj) en es' = res) ∧ Rd wr R g (some ⟨b, off, none⟩) cap l ∧ EndsRow wr g l.length es' ∧ w.grownBy wr (some g)) (fun _ j _ => pp - (intOf j).toNat)
  case atStart => exact ⟨0, at' + 1, es, by omega, rfl, by go_num, by omega, by omega, Hes, Hres, HR.out, HE.out, World.grownBy.refl _ _⟩
  case round =>
    obtain ⟨jj, en, es', hjj, rfl, rfl, hen1, hen2, hes', hlo, hrd, hrow, hgr⟩ := hrel
    clear HR HE Hes Hres
    by_cases hlt : jj < pp
    · go_wp2_with fail
      refine (HREC.out en es' wr hen1 hen2 hes'.out hrd hrow).mono ?_
      have hlo1 : loopL rec (pp - jj) en es' = res := hlo
      rw [show pp - jj = (pp - (jj + 1)) + 1 by omega] at hlo1
      simp only [loopL] at hlo1
      have hb1 := HB.out en es' hen2
      rcases hre : rec en es' with ⟨r1, es1⟩
      rw [hre] at hlo1 hb1
      cases r1 with
      | ok n1 =>
        have hb2 := hb1.1 n1 rfl
        have hb3 : es1.length = es'.length := hb1.2
        have hlo2 : Hid (loopL rec (pp - (jj + 1)) n1 es1 = res) := hlo1
        have hes2 : Hid (es1.length = l.length) := hb3.trans hes'.out
        obtain ⟨hb4, hb5⟩ := hb2
        have Hrd := Lib.hid hrd
        have Hrow := Lib.hid hrow
        have Hgr := Lib.hid hgr
        clear hlo hlo1 hb1 hre hb3 hrd hrow hgr hes'
        rintro e w1 ⟨he1, hrow1, hg1⟩
        obtain rfl : e = .returned (.int .i64 (n1 : Int)) := he1
        have Hrow1 := Lib.hid hrow1
        have Hg1 := Lib.hid hg1
        clear hrow1 hg1
        go_wp2
        go_roundw
        case rel => exact ⟨jj + 1, n1, es1, by omega, by go_num, rfl, by omega, by omega, hes2, hlo2, Hrd.out.grown Hg1.out, Hrow1.out, Hgr.out.trans' Hg1.out⟩
        case measure => simp [intOf]; omega
      | error c =>
        have hlo2 : Hid ((.error c, es1) = res) := hlo1
        have Hgr := Lib.hid hgr
        clear hlo hlo1 hb1 hre hrd hrow hgr hes'
        rintro e w1 ⟨he1, hrow1, hg1⟩
        obtain rfl : e = .panicked [{ v := errV c, recovered := false }] := he1
        have Hrow1 := Lib.hid hrow1
        have Hg1 := Lib.hid hg1
        clear hrow1 hg1
        go_wp2
        refine ⟨rfl, ?_⟩
        rw [← Hfin.out, ← hlo2.out]
        exact SkipPost.mk rfl Hrow1.out (Hgr.out.trans' Hg1.out)
    · obtain rfl : jj = pp := by omega
      have hlo1 : loopL rec (jj - jj) en es' = res := hlo
      rw [Nat.sub_self] at hlo1
      simp only [loopL] at hlo1
      have Hlo := Lib.hid hlo1
      have d0 := hrd.c0
      have d1 := hrd.c1
      have hat : at' < (es'.map (Value.int .i64)).length := by rw [List.length_map, hes'.out]; exact hl
      have hat2 : at' < es'.length := by rw [hes'.out]; exact hl
      have hcell : wr.cell? ⟨g, at', none⟩ = some (.int .i64 es'[at']) := by
        have hrow2 : wr.ownsRow 0 3 1 (.slice (some ⟨g, 0, none⟩) l.length l.length) l.length (es'.map (.int .i64)) := hrow
        rw [hrow2.cellAt at' (by omega), List.getElem?_eq_getElem hat]
        simp
      have hfr : wr.frozen? ⟨g, at', none⟩ = false := World.ownsRow.frozenAt (show wr.ownsRow 0 3 1 (.slice (some ⟨g, 0, none⟩) l.length l.length) l.length (es'.map (.int .i64)) from hrow) at'
      have hst := World.ownsRow.stored (show wr.ownsRow 0 3 1 (.slice (some ⟨g, 0, none⟩) l.length l.length) l.length (es'.map (.int .i64)) from hrow) at' (.int .i64 en)
      rw [← List.map_set] at hst
      have Hst := Lib.hid hst
      have Hgr := Lib.hid hgr
      generalize es'[at'] = old at *
      clear hlo hlo1 hst hgr hrow hrd hat hat2 hes'
      go_wp2
      go_ret
      rw [← Hfin.out, ← Hlo.out]
      exact SkipPost.mk rfl Hst.out.1 (Hgr.out.trans' Hst.out.2)
end Go.Proofs.YtopkbjfjncpjdaaDoor
