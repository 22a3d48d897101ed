/- The walk of SheetFixed: what is read is shown as it was read. No condition. -/
import Derived.Test.YtfcaomejbcjfgaaDoorKzShRf
import Derived.Test.YtfcaomejbcjfgaaDoorKzShLd
namespace Go.Proofs.YtfcaomejbcjfgaaDoor
open Go Go.RowKit
set_option maxRecDepth 100000 in
set_option maxHeartbeats 4000000 in
theorem sheetFixed_law (v0 : Value) (W : World) (hg : Gl W) (g0 : Cells Tryd.prog W 9 [v0]) :
    Calls Tryd.prog 3 #[v0] W fun e w' => e = .returned (.bool true) ∧ Ext W w' := by
  obtain ⟨s, hs, _⟩ := g0.string Tryd.underlying9
  simp only [List.cons.injEq, and_true] at hs
  subst hs
  have HR := Lib.hid (read_any s W hg)
  have HG := Lib.hid hg
  clear hg g0
  go_enter Tryd.func3, Tryd.ntmps3
  go_wp2_with fail
  refine HR.out.mono ?_
  rintro e w2 ⟨hE, h⟩
  have HE := Lib.hid hE
  rcases h with ⟨_, rfl⟩ | ⟨_, _, rfl⟩ | ⟨_, ht, heq, vv, rv, pv, fv, hrt, rfl⟩
  · unfold zeroT
    clear hE HR
    go_wp2
    go_ret
    exact ⟨rfl, ext_al HE.out _⟩
  · unfold zeroT
    clear hE HR
    go_wp2
    go_ret
    exact ⟨rfl, ext_al HE.out _⟩
  · have HT := Lib.hid ht
    have HQ := Lib.hid heq
    obtain ⟨a1, c1, a2, c2, a3, c3, a4, c4, rfl, rfl, rfl, rfl⟩ := hrt.val
    have HSH := Lib.hid fun wx (hx : Ext w2 wx) => show_any _ _ _ _ (rdL s.data.toList) wx (hrt.ext hx) ((HG.out.ext HE.out).ext hx)
    clear hE HR ht heq hrt
    generalize (rdL s.data.toList).vars.length = n1 at *
    generalize (rdL s.data.toList).rules.length = n2 at *
    generalize (rdL s.data.toList).props.length = n3 at *
    generalize (rdL s.data.toList).form.length = n4 at *
    go_wp2_with fail
    refine (HSH.out _ (ext_al (Ext.refl _) _)).mono ?_
    rintro e w3 ⟨c, hc, hE3, rfl⟩
    obtain rfl : c = 0 := hc.2 HT.out
    rw [if_pos rfl, HQ.out, Lib.mk_data]
    have HE3 := Lib.hid hE3
    clear hc hE3 HSH
    go_wp2
    go_ret
    exact ⟨rfl, (ext_al HE.out _).trans HE3.out⟩
end Go.Proofs.YtfcaomejbcjfgaaDoor
