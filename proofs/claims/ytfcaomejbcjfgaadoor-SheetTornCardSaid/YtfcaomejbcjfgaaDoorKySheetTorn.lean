/- The walk of SheetTorn: a text that is cut is none, nor is one with a line behind it. No condition. -/
import Derived.Test.YtfcaomejbcjfgaaDoorKyShRf
import Derived.Test.YtfcaomejbcjfgaaDoorKy24
import Derived.Test.YtfcaomejbcjfgaaDoorKyShLd
import Derived.Test.YtfcaomejbcjfgaaDoorKy10
import Derived.Test.YtfcaomejbcjfgaaDoorKy23
import Derived.Test.YtfcaomejbcjfgaaDoorKy1
namespace Go.Proofs.YtfcaomejbcjfgaaDoor
open Go Go.RowKit
theorem dn7s {w : World} {g : Nat} {a b c d e f k : Value} {T : TypeId} (h : w.heap[g]? = some (.cells #[a, b, c, d, e, f, k] T (0, 0))) :
    w.cell? ⟨g, 0, none⟩ = some a ∧ w.cell? ⟨g, 1, none⟩ = some b ∧ w.cell? ⟨g, 2, none⟩ = some c ∧ w.cell? ⟨g, 3, none⟩ = some d ∧ w.cell? ⟨g, 4, none⟩ = some e ∧ w.cell? ⟨g, 5, none⟩ = some f ∧ w.cell? ⟨g, 6, none⟩ = some k :=
  ⟨blk_cell h rfl, blk_cell h rfl, blk_cell h rfl, blk_cell h rfl, blk_cell h rfl, blk_cell h rfl, blk_cell h rfl⟩
theorem read_torn (s : ByteArray) (w : World) (hg : Gl w) (hs : s.size ≤ 10000) (hn : ∀ u, TaskG u → showL u ≠ s.data.toList) :
    Calls Tryd.prog 5 #[.string s] w fun e w' => e = .returned (.tuple #[zeroT, .int .i64 3]) ∧ Ext w w' := by
  refine (read_any s w hg).mono ?_
  rintro e w' ⟨hE, h⟩
  have hs2 := Lib.size_eq s
  rcases h with ⟨h, rfl⟩ | ⟨_, _, rfl⟩ | ⟨_, ht, heq, _⟩
  · omega
  · exact ⟨rfl, hE⟩
  · exact absurd heq (hn _ ht)
set_option maxRecDepth 100000 in
set_option maxHeartbeats 8000000 in
theorem sheetTorn_law (cs : Array Value) (v1 v2 : Value) (W : World) (hg : Gl W) (h0 : Cells Tryd.prog W 39 cs.toList) (h1 : Cells Tryd.prog W 40 [v1]) (h2 : Cells Tryd.prog W 3 [v2]) :
    Calls Tryd.prog 4 #[.agg cs, v1, v2] W fun e w' => e = .returned (.bool true) ∧ Ext W w' := by
  obtain ⟨d, pv, rfl, hpl, hd⟩ := design_of h0
  obtain ⟨raw, hr, hR⟩ := raw_for h1
  obtain ⟨n, hn, i1, i2⟩ := h2.i64 Tryd.underlying3
  simp only [List.cons.injEq, and_true] at hn
  subst hn
  have EE := ext_al (Ext.refl W) (Obj.cells (dnc d pv) 39)
  have HB := blk_new W (Obj.cells (dnc d pv) 39)
  have HTA := Lib.hid (task_any pv v1 d raw 4 _ (hpl.ext EE) hd (ops_ext hr EE) hR (by omega))
  have HK := Lib.hid (task_ok d raw 4 (by omega)).taskG
  have HL := Lib.hid ((dn_small d raw 4 (by omega)).len HK.out)
  have HG := Lib.hid (hg.ext EE)
  obtain ⟨ar0, cr0, rfl, _⟩ := id hr
  have HRT := Lib.hid fun (wx : World) (vv rv qv fv : Value) (h : IsTask wx vv rv qv fv d.md propT (forO raw 3 4)) => h.rt
  generalize rtOf d.md propT (forO raw 3 4) = t at *
  generalize forO raw 3 4 = fo at *
  simp only [dnc] at HTA HG EE HB ⊢
  generalize d.md = m at *
  generalize raw.length = nraw at *
  have cur := dn7s HB
  have HEE := Lib.hid EE
  have HCUT := Lib.hid fun (k : Nat) (hk : k < (showL t).length) u (hu : TaskG u) => torn_cut HK.out.names hu.names hk
  have HMORE := Lib.hid fun (x : List UInt8) (hx : IsLine x) u (hu : TaskG u) => torn_more HK.out.names hu.names hx
  have HNE := Lib.hid (show 0 < (showL t).length by
    rw [showL_eq, showLs, List.flatten_append, List.length_append, checkT_eq]
    simp only [List.flatten_cons, List.length_append, mkL, wCheck, List.length_cons]
    omega)
  have HI1 := Lib.hid i1
  have HI2 := Lib.hid i2
  clear hg hpl hd HB h0 h1 h2 hr hR EE i1 i2
  go_enter Tryd.func4, Tryd.ntmps4
  go_wp2_with fail
  generalize W.alloc (Obj.cells #[.int .i64 d.s0, .int .i64 d.s1, .int .i64 d.l0, .int .i64 d.l1, .int .i64 d.i0, .int .i64 d.i1, pv] 39) = W0 at *
  refine HTA.out.mono ?_
  rintro e w1 ⟨vv, rv, qv, fv, rfl, hT1, hE1⟩
  have hrt := HRT.out w1 _ _ _ _ hT1
  obtain ⟨a1, c1, a2, c2, a3, c3, a4, c4, rfl, rfl, rfl, rfl⟩ := hrt.val
  have HSH := Lib.hid fun wx (hx : Ext w1 wx) => show_any _ _ _ _ t wx (hrt.ext hx) ((HG.out.ext hE1).ext hx)
  have HE1 := Lib.hid (HEE.out.trans hE1)
  have HG1 := Lib.hid (HG.out.ext hE1)
  clear hT1 hE1 hrt HTA HRT cur
  generalize t.vars.length = n1 at *
  generalize t.rules.length = n2 at *
  generalize t.props.length = n3 at *
  generalize t.form.length = n4 at *
  go_wp2_with fail
  refine (HSH.out _ (ext_al (Ext.refl _) _)).mono ?_
  rintro e w3 ⟨c, hc, hE3, rfl⟩
  obtain rfl : c = 0 := hc.2 HK.out
  rw [if_pos rfl]
  have HX3 := Lib.hid ((HE1.out.trans (ext_al (Ext.refl w1) _)).trans hE3)
  have HG3 := Lib.hid ((HG1.out.ext (ext_al (Ext.refl w1) _)).ext hE3)
  obtain ⟨sx, hsx⟩ : ∃ sx : ByteArray, sx = ⟨(showL t).toArray⟩ := ⟨_, rfl⟩
  have hd : sx.data.toList = showL t := by rw [hsx]
  have hz : sx.size = (showL t).length := by rw [Lib.size_eq, hd]
  have z0 : sx.size ≠ 0 := by have := HNE.out; omega
  have z1 : (0 : Int) < (sx.size : Int) := by omega
  have HP := Lib.hid fun wx => picked_any n (sx.size : Int) wx HI1.out HI2.out z1 (by have := HL.out; omega)
  obtain ⟨k, hk, hk2⟩ : ∃ k : Nat, pk n (sx.size : Int) = (k : Int) ∧ k < sx.size := by
    have := pk_bd n (sx.size : Int) z1
    exact ⟨(pk n (sx.size : Int)).toNat, by omega, by omega⟩
  rw [hk] at HP
  have HR1 := Lib.hid fun wx (hx : Ext w3 wx) => read_torn (sx.extract 0 k) wx (HG3.out.ext hx) (by have := HL.out; simp only [ByteArray.size_extract]; omega) (fun u hu => by
    have := HCUT.out k (by omega) u hu
    rw [Lib.extract_from_zero, hd]; exact this)
  have HR2 := Lib.hid fun wx (hx : Ext w3 wx) => read_torn (sx ++ ⟨#[99, 104, 101, 99, 107, 32, 121, 101, 115, 10]⟩) wx (HG3.out.ext hx) (by have := HL.out; rw [ByteArray.size_append]; show _ + 10 ≤ _; omega) (fun u hu => by
    have := HMORE.out [99, 104, 101, 99, 107, 32, 121, 101, 115, 10] ⟨[99, 104, 101, 99, 107, 32, 121, 101, 115], rfl, by decide⟩ u hu
    rw [ba_app, hd]; exact this)
  have HR3 := Lib.hid fun wx (hx : Ext w3 wx) => read_torn (sx ++ ⟨#[10]⟩) wx (HG3.out.ext hx) (by have := HL.out; rw [ByteArray.size_append]; show _ + 1 ≤ _; omega) (fun u hu => by
    have := HMORE.out [10] ⟨[], rfl, by simp⟩ u hu
    rw [ba_app, hd]; exact this)
  rw [← hsx]
  have k1 : (k : Int) ≤ (sx.size : Int) := by omega
  have z9 : sx.size ≤ 9000 := by have := HL.out; omega
  clear hE3 hc hsx hd hz hk hk2 HSH HCUT HMORE
  go_wp2_with fail
  refine (HP.out _).mono ?_
  rintro e w4 ⟨rfl, rfl⟩
  go_wp2_with fail
  refine (HR1.out _ (Ext.refl _)).mono ?_
  rintro e w4 ⟨rfl, hE4⟩
  unfold zeroT
  have HE4 := Lib.hid (ext_al hE4 (Obj.cells #[.slice none 0 0, .slice none 0 0, .slice none 0 0, .slice none 0 0] 29))
  clear hE4
  go_wp2_with fail
  refine (HR2.out _ HE4.out).mono ?_
  rintro e w5 ⟨rfl, hE5⟩
  unfold zeroT
  have HE5 := Lib.hid (ext_al (HE4.out.trans hE5) (Obj.cells #[.slice none 0 0, .slice none 0 0, .slice none 0 0, .slice none 0 0] 29))
  clear hE5
  go_wp2_with fail
  refine (HR3.out _ HE5.out).mono ?_
  rintro e w6 ⟨rfl, hE6⟩
  unfold zeroT
  have HE6 := Lib.hid (ext_al (HE5.out.trans hE6) (Obj.cells #[.slice none 0 0, .slice none 0 0, .slice none 0 0, .slice none 0 0] 29))
  clear hE6
  go_wp2
  go_ret
  exact ⟨rfl, HX3.out.trans HE6.out⟩
end Go.Proofs.YtfcaomejbcjfgaaDoor
