/- Several texts in one: Fill2; Fill; Open; Holds; ClaimsA; GW. No condition. -/
import Derived.Test.YtciihiiacbnimaaGreatDoorKv15
import Derived.Test.YtciihiiacbnimaaGreatDoorKv14
import Derived.Deep.Cut
import Derived.Deep.DeepCutAuto
import Derived.Deep.RegionHeld3
import Derived.Deep.RegionLaw
import Derived.Test.YtciihiiacbnimaaGreatDoorKv10
import Derived.Test.YtciihiiacbnimaaGreatDoorKv1
namespace Go.Proofs.YtciihiiacbnimaaGreatDoor
open Go.RowKit
set_option maxRecDepth 100000 in
set_option maxHeartbeats 8000000 in
theorem fill_and (W2 w : World) (T RB p : Nat) (l : List Op2) (es : List Int) (S : List Tm) (W : Wd) (af ae aL : Option Addr) (cf ce cL : Nat) (vs : List Value) (props : Nat) (a b : Tm)
    (hI : FIn W2 l es S W af ae cf ce vs props) (hM : TMem W2 w T RB l.length (.slice af l.length cf) (.slice ae es.length ce) aL cL vs W S (p + 1)) (hS : SubAt l es S p (.n2 8 0 a b)) :
    Calls Tryz.prog 55 #[.pointer (some ⟨T, 0, none⟩), .int .i64 (p : Int)] w fun e w' => e = .returned (.tuple #[]) ∧ TMem W2 w' T RB l.length (.slice af l.length cf) (.slice ae es.length ce) aL cL vs W S p := by
  obtain ⟨hpl, hpe⟩ := List.getElem?_eq_some_iff.1 hS.op
  obtain ⟨RA, cA, nT, nB, oA⟩ := hM.rows (p + 1) a (Nat.le_refl _) (hS.two _ _ _ _ rfl).1
  have hp1 : p + 1 < l.length := by have := (List.getElem?_eq_some_iff.1 (hS.two _ _ _ _ rfl).1).1; rw [hI.sl] at this; exact this
  obtain ⟨-, hs1, hs2, hs3⟩ := hS.two _ _ _ _ rfl
  obtain ⟨sc, hsc⟩ : ∃ sc, secAt es p = sc := ⟨_, rfl⟩
  rw [hsc] at hs1 hs2 hs3
  obtain ⟨RC, cC, nCT, nCB, oC⟩ := hM.rows sc b (by omega) hs3
  have hscl : sc < l.length := by have := (List.getElem?_eq_some_iff.1 hs3).1; rw [hI.sl] at this; exact this
  obtain ⟨be, oe, hbe, hce⟩ := row_ints (hI.re.ext hM.ext)
  obtain rfl := hbe (by rw [hI.el]; omega)
  have m1 := hce _ _ hs1
  obtain ⟨xs, hxs⟩ := hM.rb
  have hxl : xs.length = l.length := by simpa using hxs.1
  have cP := own_cellAt hxs (i := p) (by omega)
  have fP := own_freeAt hxs p
  have c2 : w.cell? ⟨T, 2, none⟩ = some (.slice aL W.n cL) := blk_cell hM.tb (i := 2) rfl
  have c4 : w.cell? ⟨T, 4, none⟩ = some (.slice (some ⟨RB, 0, none⟩) l.length l.length) := blk_cell hM.tb (i := 4) rfl
  obtain ⟨bb, off, hb, hc⟩ := hI.rl.ops
  obtain rfl := hb (by omega)
  obtain ⟨k1, k2⟩ := hc p hpl
  rw [hpe] at k1 k2
  simp only [Tm.kd, Tm.vl] at k1 k2
  have HK1 := Lib.hid k1
  have HK2 := Lib.hid k2
  have hTlt : T < w.heap.size := blk_lt hM.tb
  have hTRB : T ≠ RB := hM.ne
  have hpI : (p : Int) < (l.length : Int) := by omega
  have hp0 : (0 : Int) ≤ (p : Int) := by omega
  have hp1I : (p : Int) + 1 < (l.length : Int) := by omega
  have hp10 : (0 : Int) ≤ (p : Int) + 1 := by omega
  have hto : ((p : Int) + 1).toNat = p + 1 := by omega
  have hRAlt : RA < w.heap.size := (oA.lt RA rfl).2
  have HOA := Lib.hid oA
  have HCA := Lib.hid cA
  clear oA cA
  have hRClt : RC < w.heap.size := (oC.lt RC rfl).2
  have hel : es.length = l.length := hI.el
  have hp1E : (p : Int) + 1 < (es.length : Int) := by omega
  have hscI : (sc : Int) < (l.length : Int) := by omega
  have hsc0 : (0 : Int) ≤ (sc : Int) := by omega
  have hscp : sc ≠ p := by omega
  have HOC := Lib.hid oC
  have HCC := Lib.hid cC
  have HME := Lib.hid (hce _ _ hs1)
  have hce0 := hI.re
  obtain ⟨be2, oe2, hbe2, hce2⟩ := row_ints hI.re
  have e2 := hbe2 (by rw [hI.el]; omega)
  simp only [Option.some.injEq, Addr.mk.injEq, and_true] at e2
  obtain ⟨rfl, rfl⟩ := e2
  have HM1 := Lib.hid (hce2 _ _ hs1)
  have HEL := Lib.hid hel
  clear oC cC hce hbe hs1 hs3 hsc m1 hce0 hbe2 hce2 hel HME
  have hn24 := hI.n24
  have hl60 := hI.l60
  have HI := Lib.hid hI
  have HM := Lib.hid hM
  have HS := Lib.hid hS
  have HXS := Lib.hid hxs
  have hlo := hM.lo
  clear hb hc hI hS hxs hpe hM k1 k2
  go_enter Tryz.func55, Tryz.ntmps55
  go_wp2_with (at_make; go_must (refine wpList_make_full _ rfl _ _ 53 rfl W2.heap.size 4 (Tryz.slBools.inf.choose) (.bool false) 1 Tryz.underlying53 Tryz.slBools.inf.choose_spec.1 Tryz.slBools.inf.choose_spec.2.1 Tryz.slBools.inf.choose_spec.2.2.1 .i64 .i64 W.n W.n W.n rfl rfl rfl rfl (by rw [Tryz.slBools.inf.choose_spec.2.2.2]; omega) (by unfold maxLen; omega) HM.out.ext.size ?_))
  intro w1 hown1 hg1
  have hE1 : Ext w w1 := (Ext.refl w).grown hg1 (Nat.le_refl _) (by simp)
  have hmx : (madeCells #[Value.bool false] W.n).toList = rowF W.n (fun _ => false) := by
    rw [toList_madeCells_one, rowF]
    apply List.ext_getElem?
    intro j
    by_cases h : j < W.n <;> simp [h]
  rw [hmx] at hown1
  obtain ⟨hB5, hR5, hA5, hB5', hw1⟩ := mid_world HM.out hE1 hown1 rfl
  have HB5 := Lib.hid hB5
  have HR5 := Lib.hid hR5
  have HA5 := Lib.hid hA5
  have HBB5 := Lib.hid hB5'
  have d4 := cell_later hE1 c4
  have dP := cell_later hE1 cP
  have gP : w1.frozen? ⟨RB, p, none⟩ = false := own_freeAt (own_ext HXS.out hE1) p
  clear hmx hown1 hg1 hE1 c2 c4 cP fP hB5 hR5 hA5 hB5'
  go_upto_region 2 with fail
  clear d4 dP gP
  go_upto_region 3 with fail
  generalize ((w1.setCell ⟨RB, p, none⟩ (.slice (some ⟨w.heap.size, 0, none⟩) W.n W.n)).alloc (Obj.cells #[.slice none 0 0] 53)).alloc (Obj.cells #[.slice none 0 0] 53) = w5 at *
  generalize w1.heap.size = A at *
  have c0 : w5.cell? ⟨T, 0, none⟩ = some (.slice (some ⟨bb, off, none⟩) l.length cf) := blk_cell (HM.out.tbl HB5.out) (i := 0) rfl
  have k1 := cell_later (HM.out.extX HB5.out) HK1.out
  have HPA := Lib.hid (show Calls Tryz.prog 84 #[.int .i64 8] w5 fun e w' => e = .returned (.tuple #[.int .i64 2, .int .i64 0]) ∧ w5 = w' from parts_good 8 w5 (HI.out.tab.ext (HM.out.extX HB5.out)) (by omega) (by omega))
  go_wp2_with fail
  refine HPA.out.mono ?_
  rintro e wq ⟨rfl, rfl⟩
  clear HPA c0 k1
  have c4 : w5.cell? ⟨T, 4, none⟩ = some (.slice (some ⟨RB, 0, none⟩) l.length l.length) := blk_cell (HM.out.tbl HB5.out) (i := 4) rfl
  have cA := HM.out.rowC HB5.out HCA.out (by omega)
  have a0 := blk_cell HA5.out (i := 0) rfl
  have fA := blk_free HA5.out 0
  go_upto_region 6 with fail
  have HB5b := Lib.hid (Below.setCell HB5.out (p := ⟨A, 0, none⟩) (by simp; omega) (.slice (some ⟨RA, 0, none⟩) W.n W.n))
  have HR5b := Lib.hid (own_setCell HR5.out (p := ⟨A, 0, none⟩) (.slice (some ⟨RA, 0, none⟩) W.n W.n) (by simp [Value.ownBlock]; omega))
  have hA6 := blk_set HA5.out (i := 0) (.slice (some ⟨RA, 0, none⟩) W.n W.n)
  have HBB6 := Lib.hid (blk_far HBB5.out (p := ⟨A, 0, none⟩) (by simp) (.slice (some ⟨RA, 0, none⟩) W.n W.n))
  generalize w5.setCell ⟨A, 0, none⟩ (.slice (some ⟨RA, 0, none⟩) W.n W.n) = w5b at *
  have HA5b : Hid (w5b.heap[A]? = some (.cells #[.slice (some ⟨RA, 0, none⟩) W.n W.n] 53 (0, 0))) := Lib.hid hA6
  clear c4 cA a0 fA hA6 HB5 HR5 HA5 HBB5
  have c4 : w5b.cell? ⟨T, 4, none⟩ = some (.slice (some ⟨RB, 0, none⟩) l.length l.length) := blk_cell (HM.out.tbl HB5b.out) (i := 4) rfl
  have c1 : w5b.cell? ⟨T, 1, none⟩ = some (.slice (some ⟨be, oe, none⟩) es.length ce) := blk_cell (HM.out.tbl HB5b.out) (i := 1) rfl
  have m1 := cell_later (HM.out.extX HB5b.out) HM1.out
  have cC := HM.out.rowC HB5b.out HCC.out hscp
  have a0 := blk_cell HBB6.out (i := 0) rfl
  have fA := blk_free HBB6.out 0
  go_upto_region 7 with fail
  have hsz : W2.heap.size ≤ w5b.heap.size := (HM.out.extX HB5b.out).size
  go_region
  go_upto_region 8 with fail
  have hdr := Below.drew (Ext.refl (w5b.setCell ⟨A + 1, 0, none⟩ (.slice (some ⟨RC, 0, none⟩) W.n W.n)))
  have hwle5 : w.heap.size < w5b.heap.size := (HR5b.out.lt _ rfl).2
  have HB6 := Lib.hid (Below.trans (Below.setCell HB5b.out (p := ⟨A + 1, 0, none⟩) (by simp; omega) (.slice (some ⟨RC, 0, none⟩) W.n W.n)) (Below.mono hdr (by simp; omega)))
  have HR6 := Lib.hid (own_ext (own_setCell HR5b.out (p := ⟨A + 1, 0, none⟩) (.slice (some ⟨RC, 0, none⟩) W.n W.n) (by simp [Value.ownBlock]; omega)) hdr)
  have hA6 := blk_ext (blk_far HA5b.out (p := ⟨A + 1, 0, none⟩) (by simp) (.slice (some ⟨RC, 0, none⟩) W.n W.n)) hdr
  have hC6 := blk_ext (blk_set HBB6.out (i := 0) (.slice (some ⟨RC, 0, none⟩) W.n W.n)) hdr
  generalize (w5b.setCell ⟨A + 1, 0, none⟩ (.slice (some ⟨RC, 0, none⟩) W.n W.n)).drew = w6 at *
  have HA6 : Hid (w6.heap[A]? = some (.cells #[.slice (some ⟨RA, 0, none⟩) W.n W.n] 53 (0, 0))) := Lib.hid hA6
  have HC6 : Hid (w6.heap[A + 1]? = some (.cells #[.slice (some ⟨RC, 0, none⟩) W.n W.n] 53 (0, 0))) := Lib.hid hC6
  clear c4 c1 m1 cC a0 fA hA6 hC6 hdr hsz hwle5 HB5b HR5b HA5b HBB6 HEL
  have c0 : w6.cell? ⟨T, 0, none⟩ = some (.slice (some ⟨bb, off, none⟩) l.length cf) := blk_cell (HM.out.tbl HB6.out) (i := 0) rfl
  have k1 := cell_later (HM.out.extX HB6.out) HK1.out
  have k2 := cell_later (HM.out.extX HB6.out) HK2.out
  go_upto_region 9 with fail
  clear c0 k1 k2
  have hx6 := ext_al (Ext.refl w6) (Obj.cells #[.int .i64 8, .int .i64 0] 102)
  have hO7 := blk_new w6 (Obj.cells #[.int .i64 8, .int .i64 0] 102)
  have hwle : w.heap.size < w6.heap.size := (HR6.out.lt _ rfl).2
  have HB7 := Lib.hid (Below.trans HB6.out (Below.mono hx6 (Nat.le_of_lt hwle)))
  have HR7 := Lib.hid (own_ext HR6.out hx6)
  have HA7 := Lib.hid (blk_ext HA6.out hx6)
  have HC7 := Lib.hid (blk_ext HC6.out hx6)
  generalize w6.alloc (Obj.cells #[.int .i64 8, .int .i64 0] 102) = w7 at *
  have hOR : w6.heap.size ≠ w.heap.size := by omega
  generalize w6.heap.size = O at *
  have HO7 := Lib.hid hO7
  have o0 := blk_cell hO7 (i := 0) rfl
  clear hx6 hO7 HB6 HR6 HA6 HC6
  obtain ⟨V, hV⟩ : ∃ V : Nat → Bool, V = satB W (.n2 8 0 a b) := ⟨_, rfl⟩
  have HVS := Lib.hid hV
  have HVI := Lib.hid fun i => (congrFun hV i).trans (satB_and W 0 a b i)
  clear hV
  go_upto_region 10 with fail
  clear o0
  go_wp2_with fail
  go_loopg [73] W.n (fun m x wr => ∃ i : Nat, m + i = W.n ∧ x = .int .i64 (i : Int) ∧ w7.grownBy wr (some w.heap.size) ∧ wr.ownsRow W2.heap.size 4 1 (.slice (some ⟨w.heap.size, 0, none⟩) W.n W.n) W.n (rowF W.n fun j => if j < i then V j else false))
  case atStart => exact ⟨0, by omega, by go_num, ⟨rfl, rfl, rfl, Nat.le_refl _, fun _ _ _ => rfl⟩, by simpa using HR7.out⟩
  case round =>
    obtain ⟨i, hmi, rfl, hg, hr⟩ := hrel
    have HMI := Lib.hid hmi
    have HG := Lib.hid hg
    have HRR := Lib.hid hr
    by_cases hi : i < W.n
    · have hvi := HVI.out i
      have o0 := blk_cell (blk_grown HO7.out hg (by simpa using hOR)) (i := 0) rfl
      have cR := rowF_cell hr hi
      have fR := own_freeAt hr i
      have hiI : (i : Int) < (W.n : Int) := by omega
      have hi0 : (0 : Int) ≤ (i : Int) := by omega
      have a0 := blk_cell (blk_grown HA7.out hg (by simp; omega)) (i := 0) rfl
      have ca := hg.cell (rowF_cell (ownX HB7.out HOA.out nB) hi) (by simp; omega)
      have b0 := blk_cell (blk_grown HC7.out hg (by simp; omega)) (i := 0) rfl
      have cb := hg.cell (rowF_cell (ownX HB7.out HOC.out nCB) hi) (by simp; omega)
      generalize satB W a i = x at *
      generalize satB W b i = y at *
      have HVX := Lib.hid hvi
      clear hmi hg hr hvi
      cases x
      all_goals
        go_wp2_with fail
        go_roundg (gk - 1)
        case measure => have := HMI.out; omega
        case rel => exact ⟨i + 1, by have := HMI.out; omega, by go_num, grown_st HG.out, by have h := own_setAt HRR.out (i := i) (.bool (V i)); rw [rowF_set, upd_val] at h; first | exact h | (rw [HVX.out] at h; exact h) | (rw [HVX.out] at h; simpa using h)⟩
    · have hiI : ¬ (i : Int) < (W.n : Int) := by omega
      have hz : ∀ j, j < W.n → (if j < i then V j else false) = satB W (.n2 8 0 a b) j := fun j hj => by rw [if_pos (by omega)]; exact congrFun HVS.out j
      have HEND := Lib.hid (HM.out.fin rfl hpl (Below.grown HB7.out hg (Nat.le_of_lt (HR7.out.lt _ rfl).2) (fun k hk => by injection hk with hk; omega)) hr HS.out.sub hz)
      clear hz hmi hg hr
      go_wp2
      go_end0
      exact ⟨rfl, HEND.out⟩
set_option maxRecDepth 100000 in
set_option maxHeartbeats 8000000 in
theorem fill_or (W2 w : World) (T RB p : Nat) (l : List Op2) (es : List Int) (S : List Tm) (W : Wd) (af ae aL : Option Addr) (cf ce cL : Nat) (vs : List Value) (props : Nat) (a b : Tm)
    (hI : FIn W2 l es S W af ae cf ce vs props) (hM : TMem W2 w T RB l.length (.slice af l.length cf) (.slice ae es.length ce) aL cL vs W S (p + 1)) (hS : SubAt l es S p (.n2 9 0 a b)) :
    Calls Tryz.prog 55 #[.pointer (some ⟨T, 0, none⟩), .int .i64 (p : Int)] w fun e w' => e = .returned (.tuple #[]) ∧ TMem W2 w' T RB l.length (.slice af l.length cf) (.slice ae es.length ce) aL cL vs W S p := by
  obtain ⟨hpl, hpe⟩ := List.getElem?_eq_some_iff.1 hS.op
  obtain ⟨RA, cA, nT, nB, oA⟩ := hM.rows (p + 1) a (Nat.le_refl _) (hS.two _ _ _ _ rfl).1
  have hp1 : p + 1 < l.length := by have := (List.getElem?_eq_some_iff.1 (hS.two _ _ _ _ rfl).1).1; rw [hI.sl] at this; exact this
  obtain ⟨-, hs1, hs2, hs3⟩ := hS.two _ _ _ _ rfl
  obtain ⟨sc, hsc⟩ : ∃ sc, secAt es p = sc := ⟨_, rfl⟩
  rw [hsc] at hs1 hs2 hs3
  obtain ⟨RC, cC, nCT, nCB, oC⟩ := hM.rows sc b (by omega) hs3
  have hscl : sc < l.length := by have := (List.getElem?_eq_some_iff.1 hs3).1; rw [hI.sl] at this; exact this
  obtain ⟨be, oe, hbe, hce⟩ := row_ints (hI.re.ext hM.ext)
  obtain rfl := hbe (by rw [hI.el]; omega)
  have m1 := hce _ _ hs1
  obtain ⟨xs, hxs⟩ := hM.rb
  have hxl : xs.length = l.length := by simpa using hxs.1
  have cP := own_cellAt hxs (i := p) (by omega)
  have fP := own_freeAt hxs p
  have c2 : w.cell? ⟨T, 2, none⟩ = some (.slice aL W.n cL) := blk_cell hM.tb (i := 2) rfl
  have c4 : w.cell? ⟨T, 4, none⟩ = some (.slice (some ⟨RB, 0, none⟩) l.length l.length) := blk_cell hM.tb (i := 4) rfl
  obtain ⟨bb, off, hb, hc⟩ := hI.rl.ops
  obtain rfl := hb (by omega)
  obtain ⟨k1, k2⟩ := hc p hpl
  rw [hpe] at k1 k2
  simp only [Tm.kd, Tm.vl] at k1 k2
  have HK1 := Lib.hid k1
  have HK2 := Lib.hid k2
  have hTlt : T < w.heap.size := blk_lt hM.tb
  have hTRB : T ≠ RB := hM.ne
  have hpI : (p : Int) < (l.length : Int) := by omega
  have hp0 : (0 : Int) ≤ (p : Int) := by omega
  have hp1I : (p : Int) + 1 < (l.length : Int) := by omega
  have hp10 : (0 : Int) ≤ (p : Int) + 1 := by omega
  have hto : ((p : Int) + 1).toNat = p + 1 := by omega
  have hRAlt : RA < w.heap.size := (oA.lt RA rfl).2
  have HOA := Lib.hid oA
  have HCA := Lib.hid cA
  clear oA cA
  have hRClt : RC < w.heap.size := (oC.lt RC rfl).2
  have hel : es.length = l.length := hI.el
  have hp1E : (p : Int) + 1 < (es.length : Int) := by omega
  have hscI : (sc : Int) < (l.length : Int) := by omega
  have hsc0 : (0 : Int) ≤ (sc : Int) := by omega
  have hscp : sc ≠ p := by omega
  have HOC := Lib.hid oC
  have HCC := Lib.hid cC
  have HME := Lib.hid (hce _ _ hs1)
  have hce0 := hI.re
  obtain ⟨be2, oe2, hbe2, hce2⟩ := row_ints hI.re
  have e2 := hbe2 (by rw [hI.el]; omega)
  simp only [Option.some.injEq, Addr.mk.injEq, and_true] at e2
  obtain ⟨rfl, rfl⟩ := e2
  have HM1 := Lib.hid (hce2 _ _ hs1)
  have HEL := Lib.hid hel
  clear oC cC hce hbe hs1 hs3 hsc m1 hce0 hbe2 hce2 hel HME
  have hn24 := hI.n24
  have hl60 := hI.l60
  have HI := Lib.hid hI
  have HM := Lib.hid hM
  have HS := Lib.hid hS
  have HXS := Lib.hid hxs
  have hlo := hM.lo
  clear hb hc hI hS hxs hpe hM k1 k2
  go_enter Tryz.func55, Tryz.ntmps55
  go_wp2_with (at_make; go_must (refine wpList_make_full _ rfl _ _ 53 rfl W2.heap.size 4 (Tryz.slBools.inf.choose) (.bool false) 1 Tryz.underlying53 Tryz.slBools.inf.choose_spec.1 Tryz.slBools.inf.choose_spec.2.1 Tryz.slBools.inf.choose_spec.2.2.1 .i64 .i64 W.n W.n W.n rfl rfl rfl rfl (by rw [Tryz.slBools.inf.choose_spec.2.2.2]; omega) (by unfold maxLen; omega) HM.out.ext.size ?_))
  intro w1 hown1 hg1
  have hE1 : Ext w w1 := (Ext.refl w).grown hg1 (Nat.le_refl _) (by simp)
  have hmx : (madeCells #[Value.bool false] W.n).toList = rowF W.n (fun _ => false) := by
    rw [toList_madeCells_one, rowF]
    apply List.ext_getElem?
    intro j
    by_cases h : j < W.n <;> simp [h]
  rw [hmx] at hown1
  obtain ⟨hB5, hR5, hA5, hB5', hw1⟩ := mid_world HM.out hE1 hown1 rfl
  have HB5 := Lib.hid hB5
  have HR5 := Lib.hid hR5
  have HA5 := Lib.hid hA5
  have HBB5 := Lib.hid hB5'
  have d4 := cell_later hE1 c4
  have dP := cell_later hE1 cP
  have gP : w1.frozen? ⟨RB, p, none⟩ = false := own_freeAt (own_ext HXS.out hE1) p
  clear hmx hown1 hg1 hE1 c2 c4 cP fP hB5 hR5 hA5 hB5'
  go_upto_region 2 with fail
  clear d4 dP gP
  go_upto_region 3 with fail
  generalize ((w1.setCell ⟨RB, p, none⟩ (.slice (some ⟨w.heap.size, 0, none⟩) W.n W.n)).alloc (Obj.cells #[.slice none 0 0] 53)).alloc (Obj.cells #[.slice none 0 0] 53) = w5 at *
  generalize w1.heap.size = A at *
  have c0 : w5.cell? ⟨T, 0, none⟩ = some (.slice (some ⟨bb, off, none⟩) l.length cf) := blk_cell (HM.out.tbl HB5.out) (i := 0) rfl
  have k1 := cell_later (HM.out.extX HB5.out) HK1.out
  have HPA := Lib.hid (show Calls Tryz.prog 84 #[.int .i64 9] w5 fun e w' => e = .returned (.tuple #[.int .i64 2, .int .i64 0]) ∧ w5 = w' from parts_good 9 w5 (HI.out.tab.ext (HM.out.extX HB5.out)) (by omega) (by omega))
  go_wp2_with fail
  refine HPA.out.mono ?_
  rintro e wq ⟨rfl, rfl⟩
  clear HPA c0 k1
  have c4 : w5.cell? ⟨T, 4, none⟩ = some (.slice (some ⟨RB, 0, none⟩) l.length l.length) := blk_cell (HM.out.tbl HB5.out) (i := 4) rfl
  have cA := HM.out.rowC HB5.out HCA.out (by omega)
  have a0 := blk_cell HA5.out (i := 0) rfl
  have fA := blk_free HA5.out 0
  go_upto_region 6 with fail
  have HB5b := Lib.hid (Below.setCell HB5.out (p := ⟨A, 0, none⟩) (by simp; omega) (.slice (some ⟨RA, 0, none⟩) W.n W.n))
  have HR5b := Lib.hid (own_setCell HR5.out (p := ⟨A, 0, none⟩) (.slice (some ⟨RA, 0, none⟩) W.n W.n) (by simp [Value.ownBlock]; omega))
  have hA6 := blk_set HA5.out (i := 0) (.slice (some ⟨RA, 0, none⟩) W.n W.n)
  have HBB6 := Lib.hid (blk_far HBB5.out (p := ⟨A, 0, none⟩) (by simp) (.slice (some ⟨RA, 0, none⟩) W.n W.n))
  generalize w5.setCell ⟨A, 0, none⟩ (.slice (some ⟨RA, 0, none⟩) W.n W.n) = w5b at *
  have HA5b : Hid (w5b.heap[A]? = some (.cells #[.slice (some ⟨RA, 0, none⟩) W.n W.n] 53 (0, 0))) := Lib.hid hA6
  clear c4 cA a0 fA hA6 HB5 HR5 HA5 HBB5
  have c4 : w5b.cell? ⟨T, 4, none⟩ = some (.slice (some ⟨RB, 0, none⟩) l.length l.length) := blk_cell (HM.out.tbl HB5b.out) (i := 4) rfl
  have c1 : w5b.cell? ⟨T, 1, none⟩ = some (.slice (some ⟨be, oe, none⟩) es.length ce) := blk_cell (HM.out.tbl HB5b.out) (i := 1) rfl
  have m1 := cell_later (HM.out.extX HB5b.out) HM1.out
  have cC := HM.out.rowC HB5b.out HCC.out hscp
  have a0 := blk_cell HBB6.out (i := 0) rfl
  have fA := blk_free HBB6.out 0
  go_upto_region 7 with fail
  have hsz : W2.heap.size ≤ w5b.heap.size := (HM.out.extX HB5b.out).size
  go_region
  go_upto_region 8 with fail
  have hdr := Below.drew (Ext.refl (w5b.setCell ⟨A + 1, 0, none⟩ (.slice (some ⟨RC, 0, none⟩) W.n W.n)))
  have hwle5 : w.heap.size < w5b.heap.size := (HR5b.out.lt _ rfl).2
  have HB6 := Lib.hid (Below.trans (Below.setCell HB5b.out (p := ⟨A + 1, 0, none⟩) (by simp; omega) (.slice (some ⟨RC, 0, none⟩) W.n W.n)) (Below.mono hdr (by simp; omega)))
  have HR6 := Lib.hid (own_ext (own_setCell HR5b.out (p := ⟨A + 1, 0, none⟩) (.slice (some ⟨RC, 0, none⟩) W.n W.n) (by simp [Value.ownBlock]; omega)) hdr)
  have hA6 := blk_ext (blk_far HA5b.out (p := ⟨A + 1, 0, none⟩) (by simp) (.slice (some ⟨RC, 0, none⟩) W.n W.n)) hdr
  have hC6 := blk_ext (blk_set HBB6.out (i := 0) (.slice (some ⟨RC, 0, none⟩) W.n W.n)) hdr
  generalize (w5b.setCell ⟨A + 1, 0, none⟩ (.slice (some ⟨RC, 0, none⟩) W.n W.n)).drew = w6 at *
  have HA6 : Hid (w6.heap[A]? = some (.cells #[.slice (some ⟨RA, 0, none⟩) W.n W.n] 53 (0, 0))) := Lib.hid hA6
  have HC6 : Hid (w6.heap[A + 1]? = some (.cells #[.slice (some ⟨RC, 0, none⟩) W.n W.n] 53 (0, 0))) := Lib.hid hC6
  clear c4 c1 m1 cC a0 fA hA6 hC6 hdr hsz hwle5 HB5b HR5b HA5b HBB6 HEL
  have c0 : w6.cell? ⟨T, 0, none⟩ = some (.slice (some ⟨bb, off, none⟩) l.length cf) := blk_cell (HM.out.tbl HB6.out) (i := 0) rfl
  have k1 := cell_later (HM.out.extX HB6.out) HK1.out
  have k2 := cell_later (HM.out.extX HB6.out) HK2.out
  go_upto_region 9 with fail
  clear c0 k1 k2
  have hx6 := ext_al (Ext.refl w6) (Obj.cells #[.int .i64 9, .int .i64 0] 102)
  have hO7 := blk_new w6 (Obj.cells #[.int .i64 9, .int .i64 0] 102)
  have hwle : w.heap.size < w6.heap.size := (HR6.out.lt _ rfl).2
  have HB7 := Lib.hid (Below.trans HB6.out (Below.mono hx6 (Nat.le_of_lt hwle)))
  have HR7 := Lib.hid (own_ext HR6.out hx6)
  have HA7 := Lib.hid (blk_ext HA6.out hx6)
  have HC7 := Lib.hid (blk_ext HC6.out hx6)
  generalize w6.alloc (Obj.cells #[.int .i64 9, .int .i64 0] 102) = w7 at *
  have hOR : w6.heap.size ≠ w.heap.size := by omega
  generalize w6.heap.size = O at *
  have HO7 := Lib.hid hO7
  have o0 := blk_cell hO7 (i := 0) rfl
  clear hx6 hO7 HB6 HR6 HA6 HC6
  obtain ⟨V, hV⟩ : ∃ V : Nat → Bool, V = satB W (.n2 9 0 a b) := ⟨_, rfl⟩
  have HVS := Lib.hid hV
  have HVI := Lib.hid fun i => (congrFun hV i).trans (satB_or W 0 a b i)
  clear hV
  go_upto_region 10 with fail
  clear o0
  go_wp2_with fail
  go_loopg [73] W.n (fun m x wr => ∃ i : Nat, m + i = W.n ∧ x = .int .i64 (i : Int) ∧ w7.grownBy wr (some w.heap.size) ∧ wr.ownsRow W2.heap.size 4 1 (.slice (some ⟨w.heap.size, 0, none⟩) W.n W.n) W.n (rowF W.n fun j => if j < i then V j else false))
  case atStart => exact ⟨0, by omega, by go_num, ⟨rfl, rfl, rfl, Nat.le_refl _, fun _ _ _ => rfl⟩, by simpa using HR7.out⟩
  case round =>
    obtain ⟨i, hmi, rfl, hg, hr⟩ := hrel
    have HMI := Lib.hid hmi
    have HG := Lib.hid hg
    have HRR := Lib.hid hr
    by_cases hi : i < W.n
    · have hvi := HVI.out i
      have o0 := blk_cell (blk_grown HO7.out hg (by simpa using hOR)) (i := 0) rfl
      have cR := rowF_cell hr hi
      have fR := own_freeAt hr i
      have hiI : (i : Int) < (W.n : Int) := by omega
      have hi0 : (0 : Int) ≤ (i : Int) := by omega
      have a0 := blk_cell (blk_grown HA7.out hg (by simp; omega)) (i := 0) rfl
      have ca := hg.cell (rowF_cell (ownX HB7.out HOA.out nB) hi) (by simp; omega)
      have b0 := blk_cell (blk_grown HC7.out hg (by simp; omega)) (i := 0) rfl
      have cb := hg.cell (rowF_cell (ownX HB7.out HOC.out nCB) hi) (by simp; omega)
      generalize satB W a i = x at *
      generalize satB W b i = y at *
      have HVX := Lib.hid hvi
      clear hmi hg hr hvi
      cases x
      all_goals
        go_wp2_with fail
        go_roundg (gk - 1)
        case measure => have := HMI.out; omega
        case rel => exact ⟨i + 1, by have := HMI.out; omega, by go_num, grown_st HG.out, by have h := own_setAt HRR.out (i := i) (.bool (V i)); rw [rowF_set, upd_val] at h; first | exact h | (rw [HVX.out] at h; exact h) | (rw [HVX.out] at h; simpa using h)⟩
    · have hiI : ¬ (i : Int) < (W.n : Int) := by omega
      have hz : ∀ j, j < W.n → (if j < i then V j else false) = satB W (.n2 9 0 a b) j := fun j hj => by rw [if_pos (by omega)]; exact congrFun HVS.out j
      have HEND := Lib.hid (HM.out.fin rfl hpl (Below.grown HB7.out hg (Nat.le_of_lt (HR7.out.lt _ rfl).2) (fun k hk => by injection hk with hk; omega)) hr HS.out.sub hz)
      clear hz hmi hg hr
      go_wp2
      go_end0
      exact ⟨rfl, HEND.out⟩
set_option maxRecDepth 100000 in
set_option maxHeartbeats 8000000 in
theorem fill_unt (W2 w : World) (T RB p : Nat) (l : List Op2) (es : List Int) (S : List Tm) (W : Wd) (af ae aL : Option Addr) (cf ce cL : Nat) (vs : List Value) (props : Nat) (a b : Tm)
    (hI : FIn W2 l es S W af ae cf ce vs props) (hM : TMem W2 w T RB l.length (.slice af l.length cf) (.slice ae es.length ce) aL cL vs W S (p + 1)) (hS : SubAt l es S p (.n2 15 0 a b)) :
    Calls Tryz.prog 55 #[.pointer (some ⟨T, 0, none⟩), .int .i64 (p : Int)] w fun e w' => e = .returned (.tuple #[]) ∧ TMem W2 w' T RB l.length (.slice af l.length cf) (.slice ae es.length ce) aL cL vs W S p := by
  obtain ⟨hpl, hpe⟩ := List.getElem?_eq_some_iff.1 hS.op
  obtain ⟨RA, cA, nT, nB, oA⟩ := hM.rows (p + 1) a (Nat.le_refl _) (hS.two _ _ _ _ rfl).1
  have hp1 : p + 1 < l.length := by have := (List.getElem?_eq_some_iff.1 (hS.two _ _ _ _ rfl).1).1; rw [hI.sl] at this; exact this
  obtain ⟨-, hs1, hs2, hs3⟩ := hS.two _ _ _ _ rfl
  obtain ⟨sc, hsc⟩ : ∃ sc, secAt es p = sc := ⟨_, rfl⟩
  rw [hsc] at hs1 hs2 hs3
  obtain ⟨RC, cC, nCT, nCB, oC⟩ := hM.rows sc b (by omega) hs3
  have hscl : sc < l.length := by have := (List.getElem?_eq_some_iff.1 hs3).1; rw [hI.sl] at this; exact this
  obtain ⟨be, oe, hbe, hce⟩ := row_ints (hI.re.ext hM.ext)
  obtain rfl := hbe (by rw [hI.el]; omega)
  have m1 := hce _ _ hs1
  obtain ⟨xs, hxs⟩ := hM.rb
  have hxl : xs.length = l.length := by simpa using hxs.1
  have cP := own_cellAt hxs (i := p) (by omega)
  have fP := own_freeAt hxs p
  have c2 : w.cell? ⟨T, 2, none⟩ = some (.slice aL W.n cL) := blk_cell hM.tb (i := 2) rfl
  have c4 : w.cell? ⟨T, 4, none⟩ = some (.slice (some ⟨RB, 0, none⟩) l.length l.length) := blk_cell hM.tb (i := 4) rfl
  obtain ⟨bb, off, hb, hc⟩ := hI.rl.ops
  obtain rfl := hb (by omega)
  obtain ⟨k1, k2⟩ := hc p hpl
  rw [hpe] at k1 k2
  simp only [Tm.kd, Tm.vl] at k1 k2
  have HK1 := Lib.hid k1
  have HK2 := Lib.hid k2
  have hTlt : T < w.heap.size := blk_lt hM.tb
  have hTRB : T ≠ RB := hM.ne
  have hpI : (p : Int) < (l.length : Int) := by omega
  have hp0 : (0 : Int) ≤ (p : Int) := by omega
  have hp1I : (p : Int) + 1 < (l.length : Int) := by omega
  have hp10 : (0 : Int) ≤ (p : Int) + 1 := by omega
  have hto : ((p : Int) + 1).toNat = p + 1 := by omega
  have hRAlt : RA < w.heap.size := (oA.lt RA rfl).2
  have HOA := Lib.hid oA
  have HCA := Lib.hid cA
  clear oA cA
  have hRClt : RC < w.heap.size := (oC.lt RC rfl).2
  have hel : es.length = l.length := hI.el
  have hp1E : (p : Int) + 1 < (es.length : Int) := by omega
  have hscI : (sc : Int) < (l.length : Int) := by omega
  have hsc0 : (0 : Int) ≤ (sc : Int) := by omega
  have hscp : sc ≠ p := by omega
  have HOC := Lib.hid oC
  have HCC := Lib.hid cC
  have HME := Lib.hid (hce _ _ hs1)
  have hce0 := hI.re
  obtain ⟨be2, oe2, hbe2, hce2⟩ := row_ints hI.re
  have e2 := hbe2 (by rw [hI.el]; omega)
  simp only [Option.some.injEq, Addr.mk.injEq, and_true] at e2
  obtain ⟨rfl, rfl⟩ := e2
  have HM1 := Lib.hid (hce2 _ _ hs1)
  have HEL := Lib.hid hel
  clear oC cC hce hbe hs1 hs3 hsc m1 hce0 hbe2 hce2 hel HME
  have hn24 := hI.n24
  have hl60 := hI.l60
  have HI := Lib.hid hI
  have HM := Lib.hid hM
  have HS := Lib.hid hS
  have HXS := Lib.hid hxs
  have hlo := hM.lo
  clear hb hc hI hS hxs hpe hM k1 k2
  go_enter Tryz.func55, Tryz.ntmps55
  go_wp2_with (at_make; go_must (refine wpList_make_full _ rfl _ _ 53 rfl W2.heap.size 4 (Tryz.slBools.inf.choose) (.bool false) 1 Tryz.underlying53 Tryz.slBools.inf.choose_spec.1 Tryz.slBools.inf.choose_spec.2.1 Tryz.slBools.inf.choose_spec.2.2.1 .i64 .i64 W.n W.n W.n rfl rfl rfl rfl (by rw [Tryz.slBools.inf.choose_spec.2.2.2]; omega) (by unfold maxLen; omega) HM.out.ext.size ?_))
  intro w1 hown1 hg1
  have hE1 : Ext w w1 := (Ext.refl w).grown hg1 (Nat.le_refl _) (by simp)
  have hmx : (madeCells #[Value.bool false] W.n).toList = rowF W.n (fun _ => false) := by
    rw [toList_madeCells_one, rowF]
    apply List.ext_getElem?
    intro j
    by_cases h : j < W.n <;> simp [h]
  rw [hmx] at hown1
  obtain ⟨hB5, hR5, hA5, hB5', hw1⟩ := mid_world HM.out hE1 hown1 rfl
  have HB5 := Lib.hid hB5
  have HR5 := Lib.hid hR5
  have HA5 := Lib.hid hA5
  have HBB5 := Lib.hid hB5'
  have d4 := cell_later hE1 c4
  have dP := cell_later hE1 cP
  have gP : w1.frozen? ⟨RB, p, none⟩ = false := own_freeAt (own_ext HXS.out hE1) p
  clear hmx hown1 hg1 hE1 c2 c4 cP fP hB5 hR5 hA5 hB5'
  go_upto_region 2 with fail
  clear d4 dP gP
  go_upto_region 3 with fail
  generalize ((w1.setCell ⟨RB, p, none⟩ (.slice (some ⟨w.heap.size, 0, none⟩) W.n W.n)).alloc (Obj.cells #[.slice none 0 0] 53)).alloc (Obj.cells #[.slice none 0 0] 53) = w5 at *
  generalize w1.heap.size = A at *
  have c0 : w5.cell? ⟨T, 0, none⟩ = some (.slice (some ⟨bb, off, none⟩) l.length cf) := blk_cell (HM.out.tbl HB5.out) (i := 0) rfl
  have k1 := cell_later (HM.out.extX HB5.out) HK1.out
  have HPA := Lib.hid (show Calls Tryz.prog 84 #[.int .i64 15] w5 fun e w' => e = .returned (.tuple #[.int .i64 2, .int .i64 0]) ∧ w5 = w' from parts_good 15 w5 (HI.out.tab.ext (HM.out.extX HB5.out)) (by omega) (by omega))
  go_wp2_with fail
  refine HPA.out.mono ?_
  rintro e wq ⟨rfl, rfl⟩
  clear HPA c0 k1
  have c4 : w5.cell? ⟨T, 4, none⟩ = some (.slice (some ⟨RB, 0, none⟩) l.length l.length) := blk_cell (HM.out.tbl HB5.out) (i := 4) rfl
  have cA := HM.out.rowC HB5.out HCA.out (by omega)
  have a0 := blk_cell HA5.out (i := 0) rfl
  have fA := blk_free HA5.out 0
  go_upto_region 6 with fail
  have HB5b := Lib.hid (Below.setCell HB5.out (p := ⟨A, 0, none⟩) (by simp; omega) (.slice (some ⟨RA, 0, none⟩) W.n W.n))
  have HR5b := Lib.hid (own_setCell HR5.out (p := ⟨A, 0, none⟩) (.slice (some ⟨RA, 0, none⟩) W.n W.n) (by simp [Value.ownBlock]; omega))
  have hA6 := blk_set HA5.out (i := 0) (.slice (some ⟨RA, 0, none⟩) W.n W.n)
  have HBB6 := Lib.hid (blk_far HBB5.out (p := ⟨A, 0, none⟩) (by simp) (.slice (some ⟨RA, 0, none⟩) W.n W.n))
  generalize w5.setCell ⟨A, 0, none⟩ (.slice (some ⟨RA, 0, none⟩) W.n W.n) = w5b at *
  have HA5b : Hid (w5b.heap[A]? = some (.cells #[.slice (some ⟨RA, 0, none⟩) W.n W.n] 53 (0, 0))) := Lib.hid hA6
  clear c4 cA a0 fA hA6 HB5 HR5 HA5 HBB5
  have c4 : w5b.cell? ⟨T, 4, none⟩ = some (.slice (some ⟨RB, 0, none⟩) l.length l.length) := blk_cell (HM.out.tbl HB5b.out) (i := 4) rfl
  have c1 : w5b.cell? ⟨T, 1, none⟩ = some (.slice (some ⟨be, oe, none⟩) es.length ce) := blk_cell (HM.out.tbl HB5b.out) (i := 1) rfl
  have m1 := cell_later (HM.out.extX HB5b.out) HM1.out
  have cC := HM.out.rowC HB5b.out HCC.out hscp
  have a0 := blk_cell HBB6.out (i := 0) rfl
  have fA := blk_free HBB6.out 0
  go_upto_region 7 with fail
  have hsz : W2.heap.size ≤ w5b.heap.size := (HM.out.extX HB5b.out).size
  go_region
  go_upto_region 8 with fail
  have hdr := Below.drew (Ext.refl (w5b.setCell ⟨A + 1, 0, none⟩ (.slice (some ⟨RC, 0, none⟩) W.n W.n)))
  have hwle5 : w.heap.size < w5b.heap.size := (HR5b.out.lt _ rfl).2
  have HB6 := Lib.hid (Below.trans (Below.setCell HB5b.out (p := ⟨A + 1, 0, none⟩) (by simp; omega) (.slice (some ⟨RC, 0, none⟩) W.n W.n)) (Below.mono hdr (by simp; omega)))
  have HR6 := Lib.hid (own_ext (own_setCell HR5b.out (p := ⟨A + 1, 0, none⟩) (.slice (some ⟨RC, 0, none⟩) W.n W.n) (by simp [Value.ownBlock]; omega)) hdr)
  have hA6 := blk_ext (blk_far HA5b.out (p := ⟨A + 1, 0, none⟩) (by simp) (.slice (some ⟨RC, 0, none⟩) W.n W.n)) hdr
  have hC6 := blk_ext (blk_set HBB6.out (i := 0) (.slice (some ⟨RC, 0, none⟩) W.n W.n)) hdr
  generalize (w5b.setCell ⟨A + 1, 0, none⟩ (.slice (some ⟨RC, 0, none⟩) W.n W.n)).drew = w6 at *
  have HA6 : Hid (w6.heap[A]? = some (.cells #[.slice (some ⟨RA, 0, none⟩) W.n W.n] 53 (0, 0))) := Lib.hid hA6
  have HC6 : Hid (w6.heap[A + 1]? = some (.cells #[.slice (some ⟨RC, 0, none⟩) W.n W.n] 53 (0, 0))) := Lib.hid hC6
  clear c4 c1 m1 cC a0 fA hA6 hC6 hdr hsz hwle5 HB5b HR5b HA5b HBB6 HEL
  have c0 : w6.cell? ⟨T, 0, none⟩ = some (.slice (some ⟨bb, off, none⟩) l.length cf) := blk_cell (HM.out.tbl HB6.out) (i := 0) rfl
  have k1 := cell_later (HM.out.extX HB6.out) HK1.out
  have k2 := cell_later (HM.out.extX HB6.out) HK2.out
  go_upto_region 9 with fail
  clear c0 k1 k2
  have hx6 := ext_al (Ext.refl w6) (Obj.cells #[.int .i64 15, .int .i64 0] 102)
  have hO7 := blk_new w6 (Obj.cells #[.int .i64 15, .int .i64 0] 102)
  have hwle : w.heap.size < w6.heap.size := (HR6.out.lt _ rfl).2
  have HB7 := Lib.hid (Below.trans HB6.out (Below.mono hx6 (Nat.le_of_lt hwle)))
  have HR7 := Lib.hid (own_ext HR6.out hx6)
  have HA7 := Lib.hid (blk_ext HA6.out hx6)
  have HC7 := Lib.hid (blk_ext HC6.out hx6)
  generalize w6.alloc (Obj.cells #[.int .i64 15, .int .i64 0] 102) = w7 at *
  have hOR : w6.heap.size ≠ w.heap.size := by omega
  generalize w6.heap.size = O at *
  have HO7 := Lib.hid hO7
  have o0 := blk_cell hO7 (i := 0) rfl
  clear hx6 hO7 HB6 HR6 HA6 HC6
  have hcA : ∀ i, i < W.n → w7.cell? ⟨RA, i, none⟩ = some (.bool (satB W a i)) := fun i hi => rowF_cell (ownX HB7.out HOA.out nB) hi
  have hcC : ∀ i, i < W.n → w7.cell? ⟨RC, i, none⟩ = some (.bool (satB W b i)) := fun i hi => rowF_cell (ownX HB7.out HOC.out nCB) hi
  have HCS := Lib.hid (settle_unt w7 W2.heap.size T w.heap.size W.n W.back p (.slice (some ⟨bb, off, none⟩) l.length cf) (.slice (some ⟨be, oe, none⟩) es.length ce) aL (some ⟨RB, 0, none⟩) cL l.length l.length RB 0 A (A + 1) RA RC (satB W a) (satB W b) (fun _ => false) (HM.out.tbl HB7.out) ⟨rfl, hpl, by simpa using HM.out.cellP HB7.out hpl⟩ HR7.out HA7.out HC7.out hcA hcC ⟨by omega, by omega, by omega, by omega, by omega⟩ hn24 HI.out.bk (by omega))
  clear hcA hcC
  have hmf : ∀ (fn : Fn) (first cap : Array Value) (w : World), (Instr.makeFunc fn first cap).run Tryz.prog w = .ok (.func fn first cap) w := fun _ _ _ _ => rfl
  go_wp2_with fail
  refine HCS.out.mono ?_
  rintro e w8 ⟨rfl, hg, r, hr, hiff⟩
  have HEND := Lib.hid (HM.out.fin rfl hpl (Below.grown HB7.out hg (Nat.le_of_lt (HR7.out.lt _ rfl).2) (fun k hk => by injection hk with hk; omega)) hr HS.out.sub (fun i hi => Bool.eq_iff_iff.2 ((hiff i hi).trans (satB_unt W 0 a b i).symm)))
  clear hg hr hiff HCS
  go_wp2
  go_end0
  exact ⟨rfl, HEND.out⟩
set_option maxRecDepth 100000 in
set_option maxHeartbeats 8000000 in
theorem fill_rel (W2 w : World) (T RB p : Nat) (l : List Op2) (es : List Int) (S : List Tm) (W : Wd) (af ae aL : Option Addr) (cf ce cL : Nat) (vs : List Value) (props : Nat) (a b : Tm)
    (hI : FIn W2 l es S W af ae cf ce vs props) (hM : TMem W2 w T RB l.length (.slice af l.length cf) (.slice ae es.length ce) aL cL vs W S (p + 1)) (hS : SubAt l es S p (.n2 16 0 a b)) :
    Calls Tryz.prog 55 #[.pointer (some ⟨T, 0, none⟩), .int .i64 (p : Int)] w fun e w' => e = .returned (.tuple #[]) ∧ TMem W2 w' T RB l.length (.slice af l.length cf) (.slice ae es.length ce) aL cL vs W S p := by
  obtain ⟨hpl, hpe⟩ := List.getElem?_eq_some_iff.1 hS.op
  obtain ⟨RA, cA, nT, nB, oA⟩ := hM.rows (p + 1) a (Nat.le_refl _) (hS.two _ _ _ _ rfl).1
  have hp1 : p + 1 < l.length := by have := (List.getElem?_eq_some_iff.1 (hS.two _ _ _ _ rfl).1).1; rw [hI.sl] at this; exact this
  obtain ⟨-, hs1, hs2, hs3⟩ := hS.two _ _ _ _ rfl
  obtain ⟨sc, hsc⟩ : ∃ sc, secAt es p = sc := ⟨_, rfl⟩
  rw [hsc] at hs1 hs2 hs3
  obtain ⟨RC, cC, nCT, nCB, oC⟩ := hM.rows sc b (by omega) hs3
  have hscl : sc < l.length := by have := (List.getElem?_eq_some_iff.1 hs3).1; rw [hI.sl] at this; exact this
  obtain ⟨be, oe, hbe, hce⟩ := row_ints (hI.re.ext hM.ext)
  obtain rfl := hbe (by rw [hI.el]; omega)
  have m1 := hce _ _ hs1
  obtain ⟨xs, hxs⟩ := hM.rb
  have hxl : xs.length = l.length := by simpa using hxs.1
  have cP := own_cellAt hxs (i := p) (by omega)
  have fP := own_freeAt hxs p
  have c2 : w.cell? ⟨T, 2, none⟩ = some (.slice aL W.n cL) := blk_cell hM.tb (i := 2) rfl
  have c4 : w.cell? ⟨T, 4, none⟩ = some (.slice (some ⟨RB, 0, none⟩) l.length l.length) := blk_cell hM.tb (i := 4) rfl
  obtain ⟨bb, off, hb, hc⟩ := hI.rl.ops
  obtain rfl := hb (by omega)
  obtain ⟨k1, k2⟩ := hc p hpl
  rw [hpe] at k1 k2
  simp only [Tm.kd, Tm.vl] at k1 k2
  have HK1 := Lib.hid k1
  have HK2 := Lib.hid k2
  have hTlt : T < w.heap.size := blk_lt hM.tb
  have hTRB : T ≠ RB := hM.ne
  have hpI : (p : Int) < (l.length : Int) := by omega
  have hp0 : (0 : Int) ≤ (p : Int) := by omega
  have hp1I : (p : Int) + 1 < (l.length : Int) := by omega
  have hp10 : (0 : Int) ≤ (p : Int) + 1 := by omega
  have hto : ((p : Int) + 1).toNat = p + 1 := by omega
  have hRAlt : RA < w.heap.size := (oA.lt RA rfl).2
  have HOA := Lib.hid oA
  have HCA := Lib.hid cA
  clear oA cA
  have hRClt : RC < w.heap.size := (oC.lt RC rfl).2
  have hel : es.length = l.length := hI.el
  have hp1E : (p : Int) + 1 < (es.length : Int) := by omega
  have hscI : (sc : Int) < (l.length : Int) := by omega
  have hsc0 : (0 : Int) ≤ (sc : Int) := by omega
  have hscp : sc ≠ p := by omega
  have HOC := Lib.hid oC
  have HCC := Lib.hid cC
  have HME := Lib.hid (hce _ _ hs1)
  have hce0 := hI.re
  obtain ⟨be2, oe2, hbe2, hce2⟩ := row_ints hI.re
  have e2 := hbe2 (by rw [hI.el]; omega)
  simp only [Option.some.injEq, Addr.mk.injEq, and_true] at e2
  obtain ⟨rfl, rfl⟩ := e2
  have HM1 := Lib.hid (hce2 _ _ hs1)
  have HEL := Lib.hid hel
  clear oC cC hce hbe hs1 hs3 hsc m1 hce0 hbe2 hce2 hel HME
  have hn24 := hI.n24
  have hl60 := hI.l60
  have HI := Lib.hid hI
  have HM := Lib.hid hM
  have HS := Lib.hid hS
  have HXS := Lib.hid hxs
  have hlo := hM.lo
  clear hb hc hI hS hxs hpe hM k1 k2
  go_enter Tryz.func55, Tryz.ntmps55
  go_wp2_with (at_make; go_must (refine wpList_make_full _ rfl _ _ 53 rfl W2.heap.size 4 (Tryz.slBools.inf.choose) (.bool false) 1 Tryz.underlying53 Tryz.slBools.inf.choose_spec.1 Tryz.slBools.inf.choose_spec.2.1 Tryz.slBools.inf.choose_spec.2.2.1 .i64 .i64 W.n W.n W.n rfl rfl rfl rfl (by rw [Tryz.slBools.inf.choose_spec.2.2.2]; omega) (by unfold maxLen; omega) HM.out.ext.size ?_))
  intro w1 hown1 hg1
  have hE1 : Ext w w1 := (Ext.refl w).grown hg1 (Nat.le_refl _) (by simp)
  have hmx : (madeCells #[Value.bool false] W.n).toList = rowF W.n (fun _ => false) := by
    rw [toList_madeCells_one, rowF]
    apply List.ext_getElem?
    intro j
    by_cases h : j < W.n <;> simp [h]
  rw [hmx] at hown1
  obtain ⟨hB5, hR5, hA5, hB5', hw1⟩ := mid_world HM.out hE1 hown1 rfl
  have HB5 := Lib.hid hB5
  have HR5 := Lib.hid hR5
  have HA5 := Lib.hid hA5
  have HBB5 := Lib.hid hB5'
  have d4 := cell_later hE1 c4
  have dP := cell_later hE1 cP
  have gP : w1.frozen? ⟨RB, p, none⟩ = false := own_freeAt (own_ext HXS.out hE1) p
  clear hmx hown1 hg1 hE1 c2 c4 cP fP hB5 hR5 hA5 hB5'
  go_upto_region 2 with fail
  clear d4 dP gP
  go_upto_region 3 with fail
  generalize ((w1.setCell ⟨RB, p, none⟩ (.slice (some ⟨w.heap.size, 0, none⟩) W.n W.n)).alloc (Obj.cells #[.slice none 0 0] 53)).alloc (Obj.cells #[.slice none 0 0] 53) = w5 at *
  generalize w1.heap.size = A at *
  have c0 : w5.cell? ⟨T, 0, none⟩ = some (.slice (some ⟨bb, off, none⟩) l.length cf) := blk_cell (HM.out.tbl HB5.out) (i := 0) rfl
  have k1 := cell_later (HM.out.extX HB5.out) HK1.out
  have HPA := Lib.hid (show Calls Tryz.prog 84 #[.int .i64 16] w5 fun e w' => e = .returned (.tuple #[.int .i64 2, .int .i64 0]) ∧ w5 = w' from parts_good 16 w5 (HI.out.tab.ext (HM.out.extX HB5.out)) (by omega) (by omega))
  go_wp2_with fail
  refine HPA.out.mono ?_
  rintro e wq ⟨rfl, rfl⟩
  clear HPA c0 k1
  have c4 : w5.cell? ⟨T, 4, none⟩ = some (.slice (some ⟨RB, 0, none⟩) l.length l.length) := blk_cell (HM.out.tbl HB5.out) (i := 4) rfl
  have cA := HM.out.rowC HB5.out HCA.out (by omega)
  have a0 := blk_cell HA5.out (i := 0) rfl
  have fA := blk_free HA5.out 0
  go_upto_region 6 with fail
  have HB5b := Lib.hid (Below.setCell HB5.out (p := ⟨A, 0, none⟩) (by simp; omega) (.slice (some ⟨RA, 0, none⟩) W.n W.n))
  have HR5b := Lib.hid (own_setCell HR5.out (p := ⟨A, 0, none⟩) (.slice (some ⟨RA, 0, none⟩) W.n W.n) (by simp [Value.ownBlock]; omega))
  have hA6 := blk_set HA5.out (i := 0) (.slice (some ⟨RA, 0, none⟩) W.n W.n)
  have HBB6 := Lib.hid (blk_far HBB5.out (p := ⟨A, 0, none⟩) (by simp) (.slice (some ⟨RA, 0, none⟩) W.n W.n))
  generalize w5.setCell ⟨A, 0, none⟩ (.slice (some ⟨RA, 0, none⟩) W.n W.n) = w5b at *
  have HA5b : Hid (w5b.heap[A]? = some (.cells #[.slice (some ⟨RA, 0, none⟩) W.n W.n] 53 (0, 0))) := Lib.hid hA6
  clear c4 cA a0 fA hA6 HB5 HR5 HA5 HBB5
  have c4 : w5b.cell? ⟨T, 4, none⟩ = some (.slice (some ⟨RB, 0, none⟩) l.length l.length) := blk_cell (HM.out.tbl HB5b.out) (i := 4) rfl
  have c1 : w5b.cell? ⟨T, 1, none⟩ = some (.slice (some ⟨be, oe, none⟩) es.length ce) := blk_cell (HM.out.tbl HB5b.out) (i := 1) rfl
  have m1 := cell_later (HM.out.extX HB5b.out) HM1.out
  have cC := HM.out.rowC HB5b.out HCC.out hscp
  have a0 := blk_cell HBB6.out (i := 0) rfl
  have fA := blk_free HBB6.out 0
  go_upto_region 7 with fail
  have hsz : W2.heap.size ≤ w5b.heap.size := (HM.out.extX HB5b.out).size
  go_region
  go_upto_region 8 with fail
  have hdr := Below.drew (Ext.refl (w5b.setCell ⟨A + 1, 0, none⟩ (.slice (some ⟨RC, 0, none⟩) W.n W.n)))
  have hwle5 : w.heap.size < w5b.heap.size := (HR5b.out.lt _ rfl).2
  have HB6 := Lib.hid (Below.trans (Below.setCell HB5b.out (p := ⟨A + 1, 0, none⟩) (by simp; omega) (.slice (some ⟨RC, 0, none⟩) W.n W.n)) (Below.mono hdr (by simp; omega)))
  have HR6 := Lib.hid (own_ext (own_setCell HR5b.out (p := ⟨A + 1, 0, none⟩) (.slice (some ⟨RC, 0, none⟩) W.n W.n) (by simp [Value.ownBlock]; omega)) hdr)
  have hA6 := blk_ext (blk_far HA5b.out (p := ⟨A + 1, 0, none⟩) (by simp) (.slice (some ⟨RC, 0, none⟩) W.n W.n)) hdr
  have hC6 := blk_ext (blk_set HBB6.out (i := 0) (.slice (some ⟨RC, 0, none⟩) W.n W.n)) hdr
  generalize (w5b.setCell ⟨A + 1, 0, none⟩ (.slice (some ⟨RC, 0, none⟩) W.n W.n)).drew = w6 at *
  have HA6 : Hid (w6.heap[A]? = some (.cells #[.slice (some ⟨RA, 0, none⟩) W.n W.n] 53 (0, 0))) := Lib.hid hA6
  have HC6 : Hid (w6.heap[A + 1]? = some (.cells #[.slice (some ⟨RC, 0, none⟩) W.n W.n] 53 (0, 0))) := Lib.hid hC6
  clear c4 c1 m1 cC a0 fA hA6 hC6 hdr hsz hwle5 HB5b HR5b HA5b HBB6 HEL
  have c0 : w6.cell? ⟨T, 0, none⟩ = some (.slice (some ⟨bb, off, none⟩) l.length cf) := blk_cell (HM.out.tbl HB6.out) (i := 0) rfl
  have k1 := cell_later (HM.out.extX HB6.out) HK1.out
  have k2 := cell_later (HM.out.extX HB6.out) HK2.out
  go_upto_region 9 with fail
  clear c0 k1 k2
  have hx6 := ext_al (Ext.refl w6) (Obj.cells #[.int .i64 16, .int .i64 0] 102)
  have hO7 := blk_new w6 (Obj.cells #[.int .i64 16, .int .i64 0] 102)
  have hwle : w.heap.size < w6.heap.size := (HR6.out.lt _ rfl).2
  have HB7 := Lib.hid (Below.trans HB6.out (Below.mono hx6 (Nat.le_of_lt hwle)))
  have HR7 := Lib.hid (own_ext HR6.out hx6)
  have HA7 := Lib.hid (blk_ext HA6.out hx6)
  have HC7 := Lib.hid (blk_ext HC6.out hx6)
  generalize w6.alloc (Obj.cells #[.int .i64 16, .int .i64 0] 102) = w7 at *
  have hOR : w6.heap.size ≠ w.heap.size := by omega
  generalize w6.heap.size = O at *
  have HO7 := Lib.hid hO7
  have o0 := blk_cell hO7 (i := 0) rfl
  clear hx6 hO7 HB6 HR6 HA6 HC6
  have hcA : ∀ i, i < W.n → w7.cell? ⟨RA, i, none⟩ = some (.bool (satB W a i)) := fun i hi => rowF_cell (ownX HB7.out HOA.out nB) hi
  have hcC : ∀ i, i < W.n → w7.cell? ⟨RC, i, none⟩ = some (.bool (satB W b i)) := fun i hi => rowF_cell (ownX HB7.out HOC.out nCB) hi
  have HCS := Lib.hid (settle_rel w7 W2.heap.size T w.heap.size W.n W.back p (.slice (some ⟨bb, off, none⟩) l.length cf) (.slice (some ⟨be, oe, none⟩) es.length ce) aL (some ⟨RB, 0, none⟩) cL l.length l.length RB 0 A (A + 1) RA RC (satB W a) (satB W b) (fun _ => false) (HM.out.tbl HB7.out) ⟨rfl, hpl, by simpa using HM.out.cellP HB7.out hpl⟩ HR7.out HA7.out HC7.out hcA hcC ⟨by omega, by omega, by omega, by omega, by omega⟩ hn24 HI.out.bk (by omega))
  clear hcA hcC
  have hmf : ∀ (fn : Fn) (first cap : Array Value) (w : World), (Instr.makeFunc fn first cap).run Tryz.prog w = .ok (.func fn first cap) w := fun _ _ _ _ => rfl
  go_wp2_with fail
  refine HCS.out.mono ?_
  rintro e w8 ⟨rfl, hg, r, hr, hiff⟩
  have HEND := Lib.hid (HM.out.fin rfl hpl (Below.grown HB7.out hg (Nat.le_of_lt (HR7.out.lt _ rfl).2) (fun k hk => by injection hk with hk; omega)) hr HS.out.sub (fun i hi => Bool.eq_iff_iff.2 ((hiff i hi).trans (satB_rel W 0 a b i).symm)))
  clear hg hr hiff HCS
  go_wp2
  go_end0
  exact ⟨rfl, HEND.out⟩
end Go.Proofs.YtciihiiacbnimaaGreatDoor

namespace Go.Proofs.YtciihiiacbnimaaGreatDoor
open Go.RowKit
theorem fill_any (W2 w : World) (T RB p : Nat) (l : List Op2) (es : List Int) (S : List Tm) (W : Wd) (af ae aL : Option Addr) (cf ce cL : Nat) (vs : List Value) (props : Nat) (s : Tm)
    (hI : FIn W2 l es S W af ae cf ce vs props) (hM : TMem W2 w T RB l.length (.slice af l.length cf) (.slice ae es.length ce) aL cL vs W S (p + 1)) (hS : SubAt l es S p s) (hf : FitOp props (s.kd, s.vl)) :
    Calls Tryz.prog 55 #[.pointer (some ⟨T, 0, none⟩), .int .i64 (p : Int)] w fun e w' => e = .returned (.tuple #[]) ∧ TMem W2 w' T RB l.length (.slice af l.length cf) (.slice ae es.length ce) aL cL vs W S p := by
  rcases tm_cases hS.ok hf with ⟨v, rfl, h1, h2⟩ | rfl | rfl | ⟨a, rfl⟩ | ⟨a, rfl⟩ | ⟨a, rfl⟩ | ⟨a, rfl⟩ | ⟨a, b, rfl⟩ | ⟨a, b, rfl⟩ | ⟨a, b, rfl⟩ | ⟨a, b, rfl⟩
  · exact fill_prop W2 w T RB p l es S W af ae aL cf ce cL vs props v hI hM hS v.toNat (by omega) (by omega)
  · exact fill_yes W2 w T RB p l es S W af ae aL cf ce cL vs props hI hM hS
  · exact fill_no W2 w T RB p l es S W af ae aL cf ce cL vs props hI hM hS
  · exact fill_not W2 w T RB p l es S W af ae aL cf ce cL vs props a hI hM hS
  · exact fill_next W2 w T RB p l es S W af ae aL cf ce cL vs props a hI hM hS
  · exact fill_fin W2 w T RB p l es S W af ae aL cf ce cL vs props a hI hM hS
  · exact fill_glo W2 w T RB p l es S W af ae aL cf ce cL vs props a hI hM hS
  · exact fill_and W2 w T RB p l es S W af ae aL cf ce cL vs props a b hI hM hS
  · exact fill_or W2 w T RB p l es S W af ae aL cf ce cL vs props a b hI hM hS
  · exact fill_unt W2 w T RB p l es S W af ae aL cf ce cL vs props a b hI hM hS
  · exact fill_rel W2 w T RB p l es S W af ae aL cf ce cL vs props a b hI hM hS
end Go.Proofs.YtciihiiacbnimaaGreatDoor

namespace Go.Proofs.YtciihiiacbnimaaGreatDoor
open Go.RowKit
def nils (n : Nat) : Obj := .cells (madeCells #[.slice none 0 0] n) 53
section
variable (w : World) (aA aB : Option Addr) (nA cA nB cB : Nat) (xA xB : List Value) (hA : Row w 1 aA nA cA xA) (hB : Row w 1 aB nB cB xB)
    (oA : ∀ u ∈ xA, u.oneCell' = true) (oB : ∀ u ∈ xB, u.oneCell' = true) (h0 : 0 < nA + nB) (hn : nA + nB ≤ 1000) (T : TypeId) (k : Nat) (hk : k = w.heap.size)
include hA hB oA oB h0 hn hk
theorem concat_new : Calls Tryz.prog 54 #[.slice (some ⟨k, 0, none⟩) 2 2] (w.alloc (.cells #[.slice aA nA cA, .slice aB nB cB] T)).drew fun e w' => ∃ a c, e = .returned (.slice a (nA + nB) c) ∧ (∀ q : Addr, a = some q → w.heap.size + 1 ≤ q.block ∧ q.block < w'.heap.size) ∧ Row w' 1 a (nA + nB) c (xA ++ xB) ∧ Ext (w.alloc (.cells #[.slice aA nA cA, .slice aB nB cB] T)).drew w' := by
  subst hk
  have hx := Below.drew (ext_al (Ext.refl w) (Obj.cells #[.slice aA nA cA, .slice aB nB cB] T))
  refine (concat_two _ _ aA aB 2 nA cA nB cB xA xB (Row.new w T [.slice aA nA cA, .slice aB nB cB] (by simp [maxLen])).drew (hA.ext hx) (hB.ext hx) oA oB h0 hn).mono ?_
  rintro e w' ⟨a, c, rfl, ho, hE⟩
  obtain ⟨_, _, e, hr⟩ := ho.row
  simp only [Value.slice.injEq] at e
  obtain ⟨rfl, _, rfl⟩ := e
  exact ⟨_, _, rfl, fun q hq => by have := ho.lt q.block (by rw [hq]; rfl); simpa using this, hr, hE⟩
theorem concat_new2 (o : Obj) : Calls Tryz.prog 54 #[.slice (some ⟨k, 0, none⟩) 2 2] ((w.alloc (.cells #[.slice aA nA cA, .slice aB nB cB] T)).alloc o).drew fun e w' => ∃ a c, e = .returned (.slice a (nA + nB) c) ∧ (∀ q : Addr, a = some q → w.heap.size + 2 ≤ q.block ∧ q.block < w'.heap.size) ∧ Row w' 1 a (nA + nB) c (xA ++ xB) ∧ Ext ((w.alloc (.cells #[.slice aA nA cA, .slice aB nB cB] T)).alloc o).drew w' := by
  subst hk
  have hx := Below.drew (ext_al (ext_al (Ext.refl w) (Obj.cells #[.slice aA nA cA, .slice aB nB cB] T)) o)
  have hx2 := ext_al (Ext.refl (w.alloc (.cells #[.slice aA nA cA, .slice aB nB cB] T))) o
  refine (concat_two _ _ aA aB 2 nA cA nB cB xA xB ((Row.new w T [.slice aA nA cA, .slice aB nB cB] (by simp [maxLen])).ext hx2).drew (hA.ext hx) (hB.ext hx) oA oB h0 hn).mono ?_
  rintro e w' ⟨a, c, rfl, ho, hE⟩
  obtain ⟨_, _, e, hr⟩ := ho.row
  simp only [Value.slice.injEq] at e
  obtain ⟨rfl, _, rfl⟩ := e
  exact ⟨_, _, rfl, fun q hq => by have := ho.lt q.block (by rw [hq]; rfl); simpa using this, hr, hE⟩
end
theorem nils_own (w : World) (base n : Nat) (hn : n ≤ 60) (hb : base ≤ w.heap.size) : (w.alloc (nils n)).ownsRow base 53 1 (.slice (some ⟨w.heap.size, 0, none⟩) n n) n (List.replicate n (.slice none 0 0)) := by
  have e := toList_madeCells_one (.slice none 0 0) n
  have h := World.ownsRow_lit (base := base) (e := 53) (size := 1) w (madeCells #[.slice none 0 0] n) n hb (by unfold maxLen; omega) (by rw [← Array.length_toList, e]; simp)
  rw [e] at h
  exact h
def OpenCut (w3 wx : World) (T : Nat) (fv ev : Value) (back n N : Nat) (vs : List Value) : Prop := ∃ (RB : Nat) (ac : Option Addr) (cc : Nat), Ext w3 wx ∧ T ≠ RB ∧ w3.heap.size ≤ T ∧
  wx.heap[T]? = some (.cells #[fv, ev, .slice ac n cc, .int .i64 (back : Int), .slice (some ⟨RB, 0, none⟩) N N] 89 (0, 0)) ∧
    (∃ zs, wx.ownsRow w3.heap.size 53 1 (.slice (some ⟨RB, 0, none⟩) N N) N zs) ∧ Row wx 1 ac n cc vs ∧ ∀ q : Addr, ac = some q → q.block ≠ RB
theorem open_cut {w3 wz : World} {RB T n cc N back : Nat} {ac : Option Addr} {fv ev : Value} {zs vs : List Value} (hT : T = wz.heap.size) (hE : Ext w3 wz) (ho : wz.ownsRow w3.heap.size 53 1 (.slice (some ⟨RB, 0, none⟩) N N) N zs) (hr : Row wz 1 ac n cc vs) (hq : ∀ q : Addr, ac = some q → q.block ≠ RB) :
    OpenCut w3 (wz.alloc (.cells #[fv, ev, .slice ac n cc, .int .i64 (back : Int), .slice (some ⟨RB, 0, none⟩) N N] 89)) T fv ev back n N vs := by
  subst hT
  have hx := ext_al (Ext.refl wz) (Obj.cells #[fv, ev, .slice ac n cc, .int .i64 (back : Int), .slice (some ⟨RB, 0, none⟩) N N] 89)
  have h1 : RB < wz.heap.size := (ho.lt RB rfl).2
  exact ⟨RB, ac, cc, hE.trans hx, by omega, hE.size, blk_new _ _, ⟨_, own_ext ho hx⟩, hr.ext hx, hq⟩
structure TFull (w w' : World) (T : Nat) (t : Tm) (W : Wd) (l : List Op2) : Prop where
  ext : Ext w w'
  tm : ∃ (W2 : World) (RB : Nat) (fv ev : Value) (al : Option Addr) (cl : Nat) (vs : List Value), Ext w W2 ∧ TMem W2 w' T RB l.length fv ev al cl vs W (subs t) 0
set_option maxRecDepth 100000 in
set_option maxHeartbeats 8000000 in
theorem open_any (v sv lv : Value) (l : List Op2) (t : Tm) (Sm Lp : List (List Bool)) (props : Nat) (w : World) (h : Ops w v l) (ht : Tab w) (hf : IsF l (props : Int) t) (hS : BLists w sv Sm) (hL : BLists w lv Lp) (h1 : Sm.length ≤ 12) (h2 : 1 ≤ Lp.length) (h3 : Lp.length ≤ 12) (h4 : ∀ x ∈ Sm ++ Lp, x.length = props) :
    Calls Tryz.prog 28 #[v, .agg #[sv, lv], .int .i64 (props : Int)] w fun e w' => ∃ T, e = .returned (.tuple #[.pointer (some ⟨T, 0, none⟩), .int .i64 0]) ∧ TFull w w' T t ⟨Sm ++ Lp, Sm.length⟩ l := by
  have hen := ends_term t hf.ok hf.small
  rw [hf.flat] at hen
  have hx1 := ext_al (Ext.refl w) (Obj.cells #[sv, lv] 52)
  have bW := blk_new w (Obj.cells #[sv, lv] 52)
  have hp6 : props ≤ 6 := by have := hf.p6; omega
  have HLC := Lib.hid fun wx (hx : Ext w wx) => lcheck_ok v l props t wx (h.ext hx) (ht.ext hx) hf
  have HWC := Lib.hid fun wx (hx : Ext w wx) => wcheck_ok sv lv Sm Lp props wx (hS.ext hx) (hL.ext hx) h1 h2 h3 h4 hp6
  have HEN := Lib.hid fun wx (hx : Ext w wx) => by have H := ends_any v l wx (h.ext hx) (ht.ext hx); rw [hen] at H; exact H
  have hl60 : l.length ≤ 60 := by rw [← hf.flat, Tm.flat_len]; exact hf.small
  have hpos : 0 < l.length := by rw [← hf.flat, Tm.flat_len]; exact t.size_pos
  have hel : (t.ends 0).length = l.length := by rw [Tm.ends_len, ← Tm.flat_len, hf.flat]
  obtain ⟨av, cv, rfl, hrv⟩ := h
  obtain ⟨xs, hES, aS, cS, rfl, hrS⟩ := hS
  obtain ⟨ys, hEL, aL, cL, rfl, hrL⟩ := hL
  have hmk : ∀ wx : World, (Instr.makeSlice 50 (.int .i64 (l.length : Int)) (.int .i64 (l.length : Int))).run Tryz.prog wx = .ok (.slice (some ⟨wx.heap.size, 0, none⟩) l.length l.length) (wx.alloc (nils l.length)) := by
    obtain ⟨i0, hi1, hi2, hi3, hi4⟩ := Tryz.slBoolss.inf
    intro wx
    have h := run_make (P := Tryz.prog) wx 50 53 i0 (.slice none 0 0) Tryz.slBoolss.und hi1 hi2 .i64 .i64 l.length l.length (by omega) (Int.le_refl _) (by rw [hi4]; omega) (by omega)
    rw [hi3] at h
    simpa [nils, Value.cells] using h
  have HRV := Lib.hid hrv
  have HRS := Lib.hid hrS
  have HRL := Lib.hid hrL
  have HES := Lib.hid hES
  have HEL := Lib.hid hEL
  have HF := Lib.hid hf
  have HTB := Lib.hid ht
  have HLT := Lib.hid h4
  have HX1 := Lib.hid hx1
  have BW := Lib.hid bW
  have HEE := Lib.hid hel
  have HMK := Lib.hid hmk
  clear hen hf hrv hrS hrL ht hES hEL hx1 bW hmk h4
  go_enter Tryz.func28, Tryz.ntmps28
  go_wp2_with fail
  refine (HLC.out _ HX1.out).mono ?_
  rintro e w1 ⟨rfl, hE⟩
  have HE1 := Lib.hid (HX1.out.trans hE)
  have b1 := blk_ext BW.out hE
  have BW1 := Lib.hid b1
  have c0 := blk_cell b1 (i := 0) rfl
  have c1 := blk_cell b1 (i := 1) rfl
  clear hE b1 HLC
  go_wp2_with fail
  refine (HWC.out _ HE1.out).mono ?_
  rintro e w2 ⟨rfl, hE⟩
  have HE2 := Lib.hid (HE1.out.trans hE)
  have BW2 := Lib.hid (blk_ext BW1.out hE)
  clear hE HWC c0 c1 BW1
  go_wp2_with fail
  refine (HEN.out _ HE2.out).mono ?_
  rintro e w3 ⟨hE, v3, rfl, hown⟩
  obtain ⟨ae, ce, rfl, hre⟩ := hown.row
  have HRE := Lib.hid hre
  have HE3 := Lib.hid (HE2.out.trans hE)
  have b3 := blk_ext BW2.out hE
  have BW3 := Lib.hid b3
  clear hown hre hE HEN BW2
  generalize hes : t.ends 0 = es at *
  have HE0 := Lib.hid hes
  clear hes
  go_upto_region 8 with fail
  go_cut [12] (fun s12 wx => ∃ T : Nat, s12 = .pointer (some ⟨T, 0, none⟩) ∧ OpenCut w3 wx T (.slice av l.length cv) (.slice ae l.length ce) Sm.length (Sm.length + Lp.length) l.length (xs ++ ys))
  case first =>
    have hmk := HMK.out
    have c0 := blk_cell b3 (i := 0) rfl
    have c1 := blk_cell b3 (i := 1) rfl
    have EX := Ext.refl w3
    go_region_held3 (fun w' => w'.cell? ⟨w.heap.size, 0, none⟩ = some (.slice aS Sm.length cS) ∧ w'.cell? ⟨w.heap.size, 1, none⟩ = some (.slice aL Lp.length cL))
      (first | exact ⟨c0, c1⟩ | exact ⟨cell_later EW c0, cell_later EW c1⟩ | exact ⟨cell_later (ext_al EW _) c0, cell_later (ext_al EW _) c1⟩ | exact ⟨cell_later (ext_al (Ext.refl _) _) c0, cell_later (ext_al (Ext.refl _) _) c1⟩ | exact ⟨cell_later (ext_al (ext_al (Ext.refl _) _) _) c0, cell_later (ext_al (ext_al (Ext.refl _) _) _) c1⟩ | exact ⟨cell_later (Below.drew (Ext.refl _)) c0, cell_later (Below.drew (Ext.refl _)) c1⟩ | exact ⟨cell_later (ext_al (ext_al EW _) _) c0, cell_later (ext_al (ext_al EW _) _) c1⟩ | go_keep)
      (first
        | (go_at_call 54
           with_reducible refine (concat_new w3 aS aL Sm.length cS Lp.length cL xs ys (HRS.out.ext HE3.out) (HRL.out.ext HE3.out) HES.out.one HEL.out.one (by omega) (by omega) 50 _ (by simp)).mono ?_
           rintro e wn ⟨ac, cc, rfl, hqb, hrc, hE⟩
           have EW : Ext w3 wn := Ext.trans (Below.drew (ext_al (Ext.refl w3) _)) hE)
        | (go_at_call 54
           with_reducible refine (concat_new (w3.alloc (nils l.length)) aS aL Sm.length cS Lp.length cL xs ys ((HRS.out.ext HE3.out).ext (ext_al (Ext.refl _) _)) ((HRL.out.ext HE3.out).ext (ext_al (Ext.refl _) _)) HES.out.one HEL.out.one (by omega) (by omega) 50 _ (by simp)).mono ?_
           rintro e wn ⟨ac, cc, rfl, hqb, hrc, hE⟩
           have EW : Ext w3 wn := Ext.trans (Below.drew (ext_al (ext_al (Ext.refl w3) _) _)) hE)
        | (go_at_call 54
           with_reducible refine (concat_new2 w3 aS aL Sm.length cS Lp.length cL xs ys (HRS.out.ext HE3.out) (HRL.out.ext HE3.out) HES.out.one HEL.out.one (by omega) (by omega) 50 _ (by simp) (nils l.length)).mono ?_
           rintro e wn ⟨ac, cc, rfl, hqb, hrc, hE⟩
           have EW : Ext w3 wn := Ext.trans (Below.drew (ext_al (ext_al (Ext.refl w3) _) _)) hE))
    all_goals
      go_wp2_with fail
      go_meet
    · exact ⟨_, rfl, open_cut (by simp) (ext_al EW _) (nils_own wn _ _ hl60 EW.size) (hrc.ext (ext_al (Ext.refl _) _)) fun q hq => by have := (hqb q hq).2; omega⟩
    · have h := nils_own (w3.alloc (Obj.cells #[.slice aS Sm.length cS, .slice aL Lp.length cL] 50)) w3.heap.size _ hl60 (by simp)
      rw [show (w3.alloc (Obj.cells #[.slice aS Sm.length cS, .slice aL Lp.length cL] 50)).heap.size = w3.heap.size + 1 by simp] at h
      exact ⟨_, rfl, open_cut rfl EW (own_ext (own_ext h (Below.drew (Ext.refl _))) hE) hrc fun q hq => by have := (hqb q hq).1; omega⟩
    · have h := own_ext (nils_own w3 w3.heap.size _ hl60 (Nat.le_refl _)) (Below.drew (ext_al (Ext.refl _) (Obj.cells #[.slice aS Sm.length cS, .slice aL Lp.length cL] 50)))
      exact ⟨_, rfl, open_cut rfl EW (own_ext h hE) hrc fun q hq => by have := (hqb q hq).1; simp at this; omega⟩
  case rest =>
    obtain ⟨T, rfl, RB, ac, cc, hE, hne, hlo, hb, ⟨zs, ho⟩, hrc, hq⟩ := hcut
    have hnl : (Wd.mk (Sm ++ Lp) Sm.length).n = Sm.length + Lp.length := by simp [Wd.n]
    rw [← hnl] at hb hrc
    have hTM : TMem w3 wc T RB l.length (.slice av l.length cv) (.slice ae l.length ce) ac cc (xs ++ ys) ⟨Sm ++ Lp, Sm.length⟩ (subs t) l.length :=
      ⟨hE, hb, ⟨zs, ho⟩, hne, hlo, hrc, fun q h _ => hq q h, fun q s h1 h2 => by
        have := (List.getElem?_eq_some_iff.1 h2).1
        rw [subs_len, ← Tm.flat_len, HF.out.flat] at this
        omega⟩
    have HTM := Lib.hid hTM
    have HFI := Lib.hid (show FIn w3 l es (subs t) ⟨Sm ++ Lp, Sm.length⟩ av ae cv ce (xs ++ ys) props from
      ⟨HRV.out.ext HE3.out, by rw [HEE.out]; have := HRE.out; rw [HEE.out] at this; exact this, (HES.out.app HEL.out).ext HE3.out, HLT.out, HTB.out.ext HE3.out, by simp [Wd.n]; omega, by simp [Wd.n]; omega, hl60, HEE.out, by rw [subs_len, ← Tm.flat_len, HF.out.flat]⟩)
    have HSB := Lib.hid fun i (hi : i < l.length) => by have h := subs_at t HF.out.ok i (by rw [← Tm.flat_len, HF.out.flat]; exact hi); rw [HF.out.flat, HE0.out] at h; exact h
    clear hE hb ho hrc hq hTM hnl
    go_wp2_with fail
    go_loopg [13] l.length (fun m x wr => ∃ i : Nat, m = i ∧ i ≤ l.length ∧ x = .int .i64 ((i : Int) - 1) ∧ TMem w3 wr T RB l.length (.slice av l.length cv) (.slice ae l.length ce) ac cc (xs ++ ys) ⟨Sm ++ Lp, Sm.length⟩ (subs t) i)
    case atStart => exact ⟨l.length, rfl, Nat.le_refl _, rfl, HTM.out⟩
    case round =>
      obtain ⟨i, hgi, hil, rfl, hT⟩ := hrel
      have HGI := Lib.hid hgi
      have HT := Lib.hid hT
      clear hgi hT
      cases i with
      | zero =>
        go_wp2
        go_ret2
        exact ⟨T, rfl, HE3.out.trans HT.out.ext, w3, RB, _, _, ac, cc, _, HE3.out, HT.out⟩
      | succ j =>
        obtain ⟨s, hs⟩ := HSB.out j (by omega)
        have hfs := HF.out.fit _ (List.mem_of_getElem? hs.op)
        have HCL := Lib.hid (by have h := fill_any w3 wr T RB j l es (subs t) ⟨Sm ++ Lp, Sm.length⟩ av ae ac cv ce cc (xs ++ ys) props s HFI.out (by rw [HEE.out]; exact HT.out) hs hfs; rw [HEE.out] at h; exact h)
        have haj : ((j + 1 : Nat) : Int) - 1 = (j : Int) := by omega
        have hj0 : (0 : Int) ≤ (j : Int) := by omega
        rw [haj]
        clear haj hs hfs
        go_wp2_with fail
        refine HCL.out.mono ?_
        rintro e w5 ⟨rfl, hT5⟩
        have HT5 := Lib.hid hT5
        clear hT5
        go_wp2_with fail
        go_roundg j
        case measure => have := HGI.out; omega
        case rel => exact ⟨j, rfl, by omega, rfl, HT5.out⟩
theorem TFull.row {w w' : World} {T : Nat} {t : Tm} {W : Wd} {l : List Op2} (h : TFull w w' T t W l) : ∃ (RB : Nat) (fv ev : Value) (al : Option Addr) (cl : Nat), w'.heap[T]? = some (.cells #[fv, ev, .slice al W.n cl, .int .i64 (W.back : Int), .slice (some ⟨RB, 0, none⟩) l.length l.length] 89 (0, 0)) ∧
    ∀ q s, (subs t)[q]? = some s → ∃ R, w'.cell? ⟨RB, q, none⟩ = some (.slice (some ⟨R, 0, none⟩) W.n W.n) ∧ w'.ownsRow w.heap.size 4 1 (.slice (some ⟨R, 0, none⟩) W.n W.n) W.n (rowF W.n (satB W s)) := by
  obtain ⟨W2, RB, fv, ev, al, cl, vs, hE, hT⟩ := h.tm
  refine ⟨RB, fv, ev, al, cl, hT.tb, fun q s hs => ?_⟩
  obtain ⟨R, h1, _, _, h2⟩ := hT.rows q s (Nat.zero_le _) hs
  exact ⟨R, h1, own_down h2 hE.size⟩
end Go.Proofs.YtciihiiacbnimaaGreatDoor

namespace Go.Proofs.YtciihiiacbnimaaGreatDoor
open Go.RowKit
structure IsW (w : World) (sv lv : Value) (Sm Lp : List (List Bool)) : Prop where
  st : BLists w sv Sm
  lp : BLists w lv Lp
theorem IsW.ext {w w' : World} {sv lv : Value} {Sm Lp : List (List Bool)} (h : IsW w sv lv Sm Lp) (hE : Ext w w') : IsW w' sv lv Sm Lp := ⟨h.st.ext hE, h.lp.ext hE⟩
structure WdOk (Sm Lp : List (List Bool)) (props : Nat) : Prop where
  s12 : Sm.length ≤ 12
  l1 : 1 ≤ Lp.length
  l12 : Lp.length ≤ 12
  let' : ∀ x ∈ Sm ++ Lp, x.length = props
set_option maxRecDepth 100000 in
set_option maxHeartbeats 2000000 in
theorem moments_any (v sv lv : Value) (t : Tm) (Sm Lp : List (List Bool)) (props : Nat) (w : World) (h : IsT w v t) (ht : Tab w) (hf : IsF t.flat (props : Int) t) (hw : IsW w sv lv Sm Lp) (ho : WdOk Sm Lp props) (n : Nat) (hn : (Sm ++ Lp).length = n) :
    Calls Tryz.prog 46 #[v, .agg #[sv, lv], .int .i64 (props : Int)] w fun e w' => ∃ R, e = .returned (.tuple #[.slice (some ⟨R, 0, none⟩) n n, .int .i64 0]) ∧ w'.ownsRow w.heap.size 4 1 (.slice (some ⟨R, 0, none⟩) n n) n (rowF n (satB ⟨Sm ++ Lp, Sm.length⟩ t)) ∧ Ext w w' := by
  have hx := ext_al (Ext.refl w) (Obj.cells #[sv, lv] 52)
  have HOP := Lib.hid (open_any v sv lv t.flat t Sm Lp props _ (ops_ext h hx) (ht.ext hx) hf (hw.st.ext hx) (hw.lp.ext hx) ho.s12 ho.l1 ho.l12 ho.let')
  have HX := Lib.hid hx
  have hpos : 0 < t.flat.length := by rw [Tm.flat_len]; exact t.size_pos
  have hl60 : t.flat.length ≤ 60 := by rw [Tm.flat_len]; exact hf.small
  have HH := Lib.hid (subs_head t)
  obtain ⟨xs, hES, aS, cS, rfl, hrS⟩ := hw.st
  obtain ⟨ys, hEL, aL, cL, rfl, hrL⟩ := hw.lp
  have HNN := Lib.hid hn
  clear hx h ht hf hw ho hES hrS hEL hrL hn
  go_enter Tryz.func46, Tryz.ntmps46
  go_wp2_with fail
  refine HOP.out.mono ?_
  rintro e w1 ⟨T, rfl, hT⟩
  obtain ⟨RB, fv, ev, al, cl, hb, hrows⟩ := hT.row
  obtain ⟨R, h1, h2⟩ := hrows 0 t HH.out
  have HO := Lib.hid (own_down h2 HX.out.size)
  have HE := Lib.hid (HX.out.trans hT.ext)
  have c4 : w1.cell? ⟨T, 4, none⟩ = some (.slice (some ⟨RB, 0, none⟩) t.flat.length t.flat.length) := blk_cell hb (i := 4) rfl
  have hn : (Wd.mk (Sm ++ Lp) Sm.length).n = n := HNN.out
  rw [hn] at h1 HO
  have hposI : (0 : Int) < (t.flat.length : Int) := by omega
  clear hb hrows hT h2 hn HOP
  go_wp2
  go_ret2
  exact ⟨R, rfl, HO.out, HE.out⟩
set_option maxRecDepth 100000 in
set_option maxHeartbeats 2000000 in
theorem wholds_any (v sv lv : Value) (t : Tm) (Sm Lp : List (List Bool)) (props : Nat) (w : World) (h : IsT w v t) (ht : Tab w) (hf : IsF t.flat (props : Int) t) (hw : IsW w sv lv Sm Lp) (ho : WdOk Sm Lp props) :
    Calls Tryz.prog 23 #[v, .agg #[sv, lv], .int .i64 (props : Int)] w fun e w' => e = .returned (.tuple #[.bool (satB ⟨Sm ++ Lp, Sm.length⟩ t 0), .int .i64 0]) ∧ Ext w w' := by
  have hx := ext_al (Ext.refl w) (Obj.cells #[sv, lv] 52)
  obtain ⟨n, hn⟩ : ∃ n, (Sm ++ Lp).length = n := ⟨_, rfl⟩
  have HM := Lib.hid (moments_any v sv lv t Sm Lp props _ (h.ext hx) (ht.ext hx) hf (hw.ext hx) ho n hn)
  have HX := Lib.hid hx
  have hl0 : 0 < n := by have := ho.l1; rw [← hn]; simp; omega
  obtain ⟨xs, hES, aS, cS, rfl, hrS⟩ := hw.st
  obtain ⟨ys, hEL, aL, cL, rfl, hrL⟩ := hw.lp
  clear hx h ht hf hw ho hES hrS hEL hrL
  clear hn
  generalize satB ⟨Sm ++ Lp, Sm.length⟩ t = f at *
  have hnI : (0 : Int) < (n : Int) := by omega
  obtain ⟨b, hb⟩ : ∃ b, f 0 = b := ⟨_, rfl⟩
  rw [hb]
  have HB := Lib.hid hb
  clear hb
  go_enter Tryz.func23, Tryz.ntmps23
  go_wp2_with fail
  refine HM.out.mono ?_
  rintro e w1 ⟨R, rfl, hO, hE⟩
  have c0 := rowF_cell hO hl0
  rw [HB.out] at c0
  have HE := Lib.hid (HX.out.trans hE)
  clear hO hE HM
  go_wp2
  go_ret2
  exact ⟨rfl, HE.out⟩
end Go.Proofs.YtciihiiacbnimaaGreatDoor

namespace Go.Proofs.YtciihiiacbnimaaGreatDoor
open Go.RowKit
def rowI (n : Nat) (g : Nat → Nat) : List Value := (List.range n).map fun i => .int .i64 ((g i : Nat) : Int)
def updI (g : Nat → Nat) (i v : Nat) : Nat → Nat := fun x => if x = i then v else g x
theorem rowI_get {n : Nat} {g : Nat → Nat} {i : Nat} (h : i < n) : (rowI n g)[i]? = some (.int .i64 (g i : Int)) := by simp [rowI, h]
theorem rowI_len (n : Nat) (g : Nat → Nat) : (rowI n g).length = n := by simp [rowI]
theorem rowI_set {n : Nat} {g : Nat → Nat} {i : Nat} (v : Nat) : (rowI n g).set i (.int .i64 (v : Int)) = rowI n (updI g i v) := by
  apply List.ext_getElem?
  intro j
  rw [List.getElem?_set, rowI_len]
  by_cases hj : j < n
  · rw [rowI_get (g := updI g i v) hj]
    by_cases e : i = j
    · subst e
      rw [if_pos rfl, if_pos hj]
      show some (Value.int .i64 (v : Int)) = some (.int .i64 ((if i = i then v else g i : Nat) : Int))
      rw [if_pos rfl]
    · rw [if_neg e, rowI_get hj]
      show some (Value.int .i64 (g j : Int)) = some (.int .i64 ((if j = i then v else g j : Nat) : Int))
      rw [if_neg (fun h => e h.symm)]
  · rw [List.getElem?_eq_none (by rw [rowI_len]; omega), List.getElem?_eq_none (by rw [rowI_len]; omega)]
    split
    · split
      · omega
      · rfl
    · rfl
theorem rowI_cell {w : World} {base R n : Nat} {g : Nat → Nat} {i : Nat} (h : w.ownsRow base 3 1 (.slice (some ⟨R, 0, none⟩) n n) n (rowI n g)) (hi : i < n) : w.cell? ⟨R, i, none⟩ = some (.int .i64 (g i : Int)) := by
  have hl : i < (rowI n g).length := by rw [rowI_len]; exact hi
  refine (own_cellAt h (i := i) hl).trans ?_
  have := rowI_get (g := g) hi
  rw [List.getElem?_eq_getElem hl] at this
  exact this
theorem updI_val (V G : Nat → Nat) (i : Nat) : updI (fun j => if j < i then V j else G j) i (V i) = fun j => if j < i + 1 then V j else G j := by
  funext j
  unfold updI
  by_cases e : j = i
  · subst e; simp
  · simp only [if_neg e]
    by_cases h : j < i
    · rw [if_pos h, if_pos (by omega)]
    · rw [if_neg h, if_neg (by omega)]
theorem keepI_val {V G : Nat → Nat} {i : Nat} (h : V i = G i) : (fun j => if j < i then V j else G j) = fun j => if j < i + 1 then V j else G j := by
  rw [← updI_val V G i, h]
  funext j
  unfold updI
  by_cases e : j = i
  · subst e; simp
  · rw [if_neg e]
set_option maxRecDepth 100000 in
set_option maxHeartbeats 4000000 in
theorem claims_any (v sv lv : Value) (t : Tm) (Sm Lp : List (List Bool)) (props : Nat) (w : World) (h : IsT w v t) (ht : Tab w) (hf : IsF t.flat (props : Int) t) (hw : IsW w sv lv Sm Lp) (ho : WdOk Sm Lp props) (n : Nat) (hn : (Sm ++ Lp).length = n) (N : Nat) (hN : cntA t.flat = N) :
    Calls Tryz.prog 9 #[v, .agg #[sv, lv], .int .i64 (props : Int)] w fun e w' => ∃ D, e = .returned (.tuple #[.slice (some ⟨D, 0, none⟩) n n, .int .i64 0]) ∧ w'.ownsRow w.heap.size 3 1 (.slice (some ⟨D, 0, none⟩) n n) n (rowI n (clU (ahB ⟨Sm ++ Lp, Sm.length⟩ t) N)) ∧ Ext w w' := by
  have hx := ext_al (Ext.refl w) (Obj.cells #[sv, lv] 52)
  have HOP := Lib.hid (open_any v sv lv t.flat t Sm Lp props _ (ops_ext h hx) (ht.ext hx) hf (hw.st.ext hx) (hw.lp.ext hx) ho.s12 ho.l1 ho.l12 ho.let')
  have HPL := Lib.hid fun wx (hw : Ext w wx) => places_any v t.flat props t wx (ops_ext h hw) (ht.ext hw) hf
  have HX := Lib.hid hx
  have hl60 : t.flat.length ≤ 60 := by rw [Tm.flat_len]; exact hf.small
  have hN6 : N ≤ 6 := by rw [← hN]; exact hf.cnt
  have hn24 : n ≤ 24 := by have := ho.s12; have := ho.l12; rw [← hn, List.length_append]; omega
  have hpl : (plL t.flat).length = N := by rw [plL_len, hN]
  have HSB := Lib.hid fun i (hi : i < t.flat.length) => show ∃ s, (subs t)[i]? = some s from ⟨_, List.getElem?_eq_getElem (show i < (subs t).length by rw [subs_len, ← Tm.flat_len]; exact hi)⟩
  have HPG := Lib.hid fun b (hb : b < N) => show ∃ a, (plUp t.flat t.flat.length)[b]? = some a ∧ a < t.flat.length from by
    have hlen : (plUp t.flat t.flat.length).length = N := by rw [plUp_len t.flat _ (Nat.le_refl _), List.take_length]; exact hN
    exact ⟨_, List.getElem?_eq_getElem (by omega), (plUp_get t.flat _ (Nat.le_refl _) b _ (List.getElem?_eq_getElem (by omega))).1⟩
  obtain ⟨xs, hES, aS, cS, rfl, hrS⟩ := hw.st
  obtain ⟨ys, hEL, aL, cL, rfl, hrL⟩ := hw.lp
  have HNN := Lib.hid (show (Wd.mk (Sm ++ Lp) Sm.length).n = n from hn)
  have HLT := Lib.hid (clU_lt (ahB ⟨Sm ++ Lp, Sm.length⟩ t))
  rw [hpl] at HPL
  clear hx h ht hf hw ho hES hrS hEL hrL hn hN hpl
  go_enter Tryz.func9, Tryz.ntmps9
  go_wp2_with fail
  refine HOP.out.mono ?_
  rintro e w1 ⟨T, rfl, hT⟩
  obtain ⟨RB, fv, ev, al, cl, hb, hrows⟩ := hT.row
  rw [HNN.out] at hb hrows
  have HB := Lib.hid hb
  have HRW := Lib.hid hrows
  have HE1 := Lib.hid (HX.out.trans hT.ext)
  clear hT hb hrows HOP
  go_wp2_with fail
  refine (HPL.out _ HE1.out).mono ?_
  rintro e w2 ⟨ap, cp, rfl, hop, hE2⟩
  have HOP := Lib.hid hop
  have HE2 := Lib.hid (HE1.out.trans hE2)
  have hb2 := blk_ext HB.out hE2
  have HB2 := Lib.hid hb2
  have HX2 := Lib.hid hE2
  have c2 : w2.cell? ⟨T, 2, none⟩ = some (.slice al n cl) := blk_cell hb2 (i := 2) rfl
  clear hop hE2 HPL hb2 HB
  go_wp2_with (at_make; go_must (refine wpList_make_full _ rfl _ _ 27 rfl w2.heap.size 3 (Tryz.slInts.inf.choose) (.int .i64 0) 1 Tryz.underlying27 Tryz.slInts.inf.choose_spec.1 Tryz.slInts.inf.choose_spec.2.1 Tryz.slInts.inf.choose_spec.2.2.1 .i64 .i64 n n n rfl rfl rfl rfl (by rw [Tryz.slInts.inf.choose_spec.2.2.2]; omega) (by unfold maxLen; omega) (Nat.le_refl _) ?_))
  intro w3 hown3 hg3
  have hmx : (madeCells #[Value.int .i64 0] n).toList = rowI n (clU (ahB ⟨Sm ++ Lp, Sm.length⟩ t) 0) := by
    rw [toList_madeCells_one, rowI]
    apply List.ext_getElem?
    intro j
    by_cases h : j < n <;> simp [h, clU]
  rw [hmx] at hown3
  have HO3 := Lib.hid hown3
  have HE3 := Lib.hid ((Ext.refl w2).grown hg3 (Nat.le_refl _) (by simp))
  clear hown3 hg3 hmx c2
  obtain ⟨D, hD⟩ : ∃ D, w2.heap.size = D := ⟨_, rfl⟩
  rw [hD] at HO3 ⊢
  have HD := Lib.hid hD
  clear hD
  generalize hff : ahB ⟨Sm ++ Lp, Sm.length⟩ t = f at *
  have HFF := Lib.hid hff
  clear hff
  go_wp2_with fail
  go_loopg [41] N (fun m x wr => ∃ b : Nat, m + b = N ∧ x = .int .i64 (b : Int) ∧ Ext w2 wr ∧ wr.ownsRow D 3 1 (.slice (some ⟨D, 0, none⟩) n n) n (rowI n (clU f b)))
  case atStart => exact ⟨0, by omega, by go_num, HE3.out, HO3.out⟩
  case round =>
    obtain ⟨b, hmb, rfl, hE, hO⟩ := hrel
    have HMB := Lib.hid hmb
    have HE := Lib.hid hE
    have HO := Lib.hid hO
    obtain ⟨G0, rfl⟩ : ∃ G0 : Nat, G0 = gk := ⟨_, rfl⟩
    by_cases hbN : b < N
    · obtain ⟨_, _, e, hrp⟩ := HOP.out.row
      simp only [Value.slice.injEq] at e
      obtain ⟨rfl, _, rfl⟩ := e
      obtain ⟨bp, op, hp1, hp2⟩ := row_ints hrp
      have hpl0 : 0 < (plL t.flat).length := by
        have := hrp.len
        simp at this
        omega
      obtain rfl := hp1 hpl0
      obtain ⟨q, hq, hql⟩ := HPG.out b hbN
      obtain ⟨s, hs⟩ := HSB.out q hql
      have cP := cell_later hE (hp2 b (q : Int) (by rw [plL, List.getElem?_map, hq]; rfl))
      obtain ⟨R, cR, oR⟩ := HRW.out q s hs
      have cR' := cell_later (HX2.out.trans hE) cR
      have HOR := Lib.hid (own_ext oR (HX2.out.trans hE))
      have hRl : R ≠ D := by have h1 := (oR.lt R rfl).2; have h2 := HX2.out.size; have h3 := HD.out; omega
      have HFV := Lib.hid (show ∀ i, f b i = satB ⟨Sm ++ Lp, Sm.length⟩ s i from fun i => by
        rw [← HFF.out]
        unfold ahB
        have e : (plUp t.flat t.flat.length).getD b 0 = q := by simp [List.getD, hq]
        rw [e, hs])
      have c4 : wr.cell? ⟨T, 4, none⟩ = some (.slice (some ⟨RB, 0, none⟩) t.flat.length t.flat.length) := blk_cell (blk_ext HB2.out hE) (i := 4) rfl
      have hbI : (b : Int) < (N : Int) := by omega
      have hb0 : (0 : Int) ≤ (b : Int) := by omega
      have hqI : (q : Int) < (t.flat.length : Int) := by omega
      have hq0 : (0 : Int) ≤ (q : Int) := by omega
      clear hmb hp1 hp2 hrp hpl0 hq hs cR oR hE hO
      go_wp2_with fail
      clear cP cR' c4
      obtain ⟨wo, rfl⟩ : ∃ wo : World, wo = wr := ⟨_, rfl⟩
      go_loopg [54] n (fun m x wi => ∃ i : Nat, m + i = n ∧ x = .int .i64 (i : Int) ∧ Ext w2 wi ∧ wo.grownBy wi (some D) ∧ wi.ownsRow D 3 1 (.slice (some ⟨D, 0, none⟩) n n) n (rowI n fun j => if j < i then clU f (b + 1) j else clU f b j))
      case atStart => exact ⟨0, by omega, by go_num, HE.out, ⟨rfl, rfl, rfl, Nat.le_refl _, fun _ _ _ => rfl⟩, by simpa using HO.out⟩
      case round =>
        obtain ⟨i, hmi, rfl, hE2, hg, hO2⟩ := hrel
        have HMI := Lib.hid hmi
        have HE2' := Lib.hid hE2
        have HG := Lib.hid hg
        have HO2 := Lib.hid hO2
        by_cases hi : i < n
        · have cr := hg.cell (rowF_cell HOR.out hi) (by simpa using hRl)
          have co : wr.cell? ⟨D, i, none⟩ = some (.int .i64 (clU f b i : Int)) := by
            have h := rowI_cell hO2 hi
            rw [if_neg (by omega)] at h
            exact h
          have fo := own_freeAt hO2 i
          have hlt := HLT.out i b
          have hp6 : 2 ^ b ≤ 2 ^ 6 := Nat.pow_le_pow_right (by omega) (by omega)
          have hpe : ((2 ^ b : Nat) : Int) = (2 : Int) ^ b := by push_cast; rfl
          have hor : bits .or .i64 (clU f b i : Int) ((2 : Int) ^ b) = ((clU f b i ||| 2 ^ b : Nat) : Int) := by rw [← hpe]; exact i64_or_nat (clU f b i) (2 ^ b) (by omega) (by omega)
          have hw0 : IntKind.i64.wrap ((2 : Int) ^ b) = (2 : Int) ^ b := by rw [← hpe]; exact IntWalk.i64_in _ (by omega)
          have hV : clU f (b + 1) i = if f b i then clU f b i ||| 2 ^ b else clU f b i := rfl
          rw [HFV.out i] at hV
          have hiI : (i : Int) < (n : Int) := by omega
          have hi0 : (0 : Int) ≤ (i : Int) := by omega
          generalize hsx : satB ⟨Sm ++ Lp, Sm.length⟩ s i = x at *
          clear hsx hmi hE2 hg hO2 hlt hp6 hpe
          cases x
          · have HV := Lib.hid (show clU f (b + 1) i = clU f b i by simpa using hV)
            clear hV hor hw0
            go_wp2_with fail
            go_roundg (gk - 1)
            case measure => have := HMI.out; omega
            case rel => exact ⟨i + 1, by have := HMI.out; omega, by go_num, HE2'.out, HG.out, by rw [← keepI_val HV.out]; exact HO2.out⟩
          · have HV := Lib.hid (show clU f (b + 1) i = clU f b i ||| 2 ^ b by simpa using hV)
            clear hV
            go_upto_region 13 with fail
            go_region
            all_goals
              go_wp2_with fail
              go_roundg (gk - 1)
              case measure => have := HMI.out; omega
              case rel => exact ⟨i + 1, by have := HMI.out; omega, by go_num, Below.drew (ext_st HE2'.out (p := ⟨D, i, none⟩) (by have := HD.out; simp; omega) _), World.grownBy.later_drew (grown_st HG.out) 1, by have h := own_setAt HO2.out (i := i) (.int .i64 ((clU f (b + 1) i : Nat) : Int)); rw [rowI_set, updI_val, HV.out] at h; exact own_ext h (Below.drew (Ext.refl _))⟩
        · have hiI : ¬ (i : Int) < (n : Int) := by omega
          have hz : (rowI n fun j => if j < i then clU f (b + 1) j else clU f b j) = rowI n (clU f (b + 1)) := by
            unfold rowI
            exact List.map_congr_left fun j hj => by
              show Value.int .i64 ((if j < i then clU f (b + 1) j else clU f b j : Nat) : Int) = _
              rw [if_pos (by have := List.mem_range.1 hj; omega)]
          rw [hz] at hO2
          have HO3' := Lib.hid hO2
          clear hmi hE2 hg hO2 hz
          go_wp2_with fail
          go_roundg (G0 - 1)
          case measure => have := HMB.out; omega
          case rel => exact ⟨b + 1, by have := HMB.out; omega, by go_num, HE2'.out, HO3'.out⟩
    · obtain rfl : b = N := by omega
      have hbI : ¬ (b : Int) < (b : Int) := by omega
      have HEW := Lib.hid (HE2.out.trans hE)
      have HSZ := Lib.hid (show w.heap.size ≤ D by rw [← HD.out]; exact HE2.out.size)
      clear hmb hE hO
      go_wp2
      go_ret2
      exact ⟨D, rfl, by rw [HFF.out]; exact own_down HO.out HSZ.out, HEW.out⟩
end Go.Proofs.YtciihiiacbnimaaGreatDoor

namespace Go.Proofs.YtciihiiacbnimaaGreatDoor
open Go.RowKit
structure GW (W0 Wb w : World) (wB : Nat) (τ : Nat → Nat) (s l : Value) (ns nl : Nat) (vs vl : List Value) (S L : List (List Bool)) : Prop where
  ext : Ext W0 w
  lo : W0.heap.size ≤ wB
  box : w.heap[wB]? = some (.cells #[s, l] 52 (0, 0))
  lt : wB < Wb.heap.size
  old : ∀ b, b < Wb.heap.size → b ≠ wB → w.heap[b]? = Wb.heap[b]?
  zero : ∀ b, b < Wb.heap.size → τ b = 0
  hi : Wb.heap.size ≤ w.heap.size
  so : OwnT τ 1 w Wb.heap.size 53 1 s ns vs
  se : Ent τ 2 w fun x => EachX Bools x vs S
  mo : OwnT τ 3 w Wb.heap.size 53 1 l nl vl
  me : Ent τ 4 w fun x => EachX Bools x vl L
  ls : ns = S.length
  ll : nl = L.length
theorem GW.start {W0 w : World} {wB : Nat} (hE : Ext W0 w) (h1 : W0.heap.size ≤ wB) (hb : w.heap[wB]? = some (.cells #[.slice none 0 0, .slice none 0 0] 52 (0, 0))) : GW W0 w w wB (fun _ => 0) (.slice none 0 0) (.slice none 0 0) 0 0 [] [] [] [] :=
  ⟨hE, h1, hb, blk_lt hb, fun _ _ _ => rfl, fun _ _ => rfl, Nat.le_refl _, OwnT.nil _ _ _ _ _ _, fun x _ _ => ⟨rfl, fun i x l h => by simp at h⟩, OwnT.nil _ _ _ _ _ _, fun x _ _ => ⟨rfl, fun i x l h => by simp at h⟩, rfl, rfl⟩
theorem GW.later {W0 Wb w w' : World} {wB : Nat} {τ : Nat → Nat} {s l : Value} {ns nl : Nat} {vs vl : List Value} {S L : List (List Bool)} (h : GW W0 Wb w wB τ s l ns nl vs vl S L) (hE : Ext w w') : GW W0 Wb w' wB τ s l ns nl vs vl S L :=
  ⟨h.ext.trans hE, h.lo, blk_ext h.box hE, h.lt, fun b h1 h2 => (hE.block b (Nat.lt_of_lt_of_le h1 h.hi)).trans (h.old b h1 h2), h.zero, Nat.le_trans h.hi hE.size, h.so.ext hE, h.se.ext hE, h.mo.ext hE, h.me.ext hE, h.ls, h.ll⟩
theorem GW.done {W0 Wb w : World} {wB : Nat} {τ : Nat → Nat} {s l : Value} {ns nl : Nat} {vs vl : List Value} {S L : List (List Bool)} (h : GW W0 Wb w wB τ s l ns nl vs vl S L) : BLists w s S ∧ BLists w l L :=
  ⟨⟨vs, h.se.now, by rw [← h.ls]; exact h.so.own.reads⟩, ⟨vl, h.me.now, by rw [← h.ll]; exact h.mo.own.reads⟩⟩
theorem GW.stepS {W0 Wb w w1 w3 : World} {wB : Nat} {τ : Nat → Nat} {s l v' : Value} {ns nl : Nat} {vs vl : List Value} {S L : List (List Bool)} (h : GW W0 Wb w wB τ s l ns nl vs vl S L) (hE : Ext w w1) {xs : List Bool} {x : Value} (hL : ∀ τ' : Nat → Nat, (∀ b, w.heap.size ≤ b → τ' b = 2) → Ent τ' 2 w1 fun y => Bools y x xs) (o : Obj)
    (hown : w3.ownsRow Wb.heap.size 53 1 v' (ns + 1) (vs ++ [x])) (hg : (w1.alloc o).grownBy w3 s.ownBlock) (hb : v'.ownBlock = s.ownBlock ∨ v'.ownBlock = some (w1.heap.size + 1)) :
    ∃ τ', GW W0 Wb (w3.setCell ⟨wB, 0, none⟩ v') wB τ' v' l (ns + 1) nl (vs ++ [x]) vl (S ++ [xs]) L := by
  have hx := ext_al (Ext.refl w1) o
  have hhi := h.hi
  have hlt := h.lt
  have e1 : Ent (tagAt τ w.heap.size 2) 2 w1 fun y => EachX Bools y (vs ++ [x]) (S ++ [xs]) := Ent.both (Ent.ext (h.se.tag fun b hb => tagAt_lt hb) hE) (hL _ fun b hb => tagAt_ge hb) fun y p q => p.snoc q
  have o1 : OwnT (tagAt τ w.heap.size 2) 1 (w1.alloc o) Wb.heap.size 53 1 s ns vs := (h.so.keep 2).ext (hE.trans hx)
  have o2 : OwnT (tagAt τ w.heap.size 2) 3 (w1.alloc o) Wb.heap.size 53 1 l nl vl := (h.mo.keep 2).ext (hE.trans hx)
  have e2 : Ent (tagAt τ w.heap.size 2) 4 (w1.alloc o) fun x => EachX Bools x vl L := ((h.me.tag fun b hb => tagAt_lt hb).ext hE).ext hx
  have hsz : (w1.alloc o).heap.size = w1.heap.size + 1 := by simp
  have r1 := (e1.ext hx).app o1 hg (by omega)
  have r2 := o1.app hown (by rw [hsz]; exact hb)
  have r3 := o2.other o1 hg (by omega)
  have r4 := e2.app o1 hg (by omega)
  have hbx := blk_grown (blk_ext h.box (hE.trans hx)) hg (fun e => by have := (o1.own.lt wB e.symm).1; omega)
  have e3 : Ext W0 w3 := Below.grown ((h.ext.trans hE).trans hx) hg ((h.ext.trans hE).trans hx).size fun b hb => by
    have := (o1.own.lt b hb).1
    have := h.lo
    have := h.ext.size
    omega
  have hw1 := hE.size
  have hz : ∀ b, b < Wb.heap.size → tagAt (tagAt τ w.heap.size 2) (w1.alloc o).heap.size 1 b = 0 := fun b hb => by
    rw [tagAt_lt (by omega), tagAt_lt (by omega)]; exact h.zero b hb
  have hb2 := blk_set (i := 0) hbx v'
  have hold : ∀ b, b < Wb.heap.size → b ≠ wB → w3.heap[b]? = Wb.heap[b]? := fun b h1 h2 => ((hg.block b (by rw [hsz]; omega) (fun e => by have := (o1.own.lt b e.symm).1; omega)).trans ((hE.trans hx).block b (by omega))).trans (h.old b h1 h2)
  refine ⟨_, ext_st e3 (p := ⟨wB, 0, none⟩) h.lo v', h.lo, by simpa using hb2, h.lt, fun b h1 h2 => (Below.heap_setCell _ _ _ _ (fun e => h2 (by simpa using e))).trans (hold b h1 h2), hz, ?_, r2.low (p := ⟨wB, 0, none⟩) (by show wB < Wb.heap.size; omega) v', r1.set (p := ⟨wB, 0, none⟩) (by show tagAt _ _ _ wB ≠ _; rw [hz wB hlt]; omega) v', r3.low (p := ⟨wB, 0, none⟩) (by show wB < Wb.heap.size; omega) v', r4.set (p := ⟨wB, 0, none⟩) (by show tagAt _ _ _ wB ≠ _; rw [hz wB hlt]; omega) v', by simp [h.ls], h.ll⟩
  have h3 := hg.size
  rw [World.size_setCell]
  omega
theorem GW.stepL {W0 Wb w w1 w3 : World} {wB : Nat} {τ : Nat → Nat} {s l v' : Value} {ns nl : Nat} {vs vl : List Value} {S L : List (List Bool)} (h : GW W0 Wb w wB τ s l ns nl vs vl S L) (hE : Ext w w1) {xs : List Bool} {x : Value} (hL : ∀ τ' : Nat → Nat, (∀ b, w.heap.size ≤ b → τ' b = 4) → Ent τ' 4 w1 fun y => Bools y x xs) (o : Obj)
    (hown : w3.ownsRow Wb.heap.size 53 1 v' (nl + 1) (vl ++ [x])) (hg : (w1.alloc o).grownBy w3 l.ownBlock) (hb : v'.ownBlock = l.ownBlock ∨ v'.ownBlock = some (w1.heap.size + 1)) :
    ∃ τ', GW W0 Wb (w3.setCell ⟨wB, 1, none⟩ v') wB τ' s v' ns (nl + 1) vs (vl ++ [x]) S (L ++ [xs]) := by
  have hx := ext_al (Ext.refl w1) o
  have hhi := h.hi
  have hlt := h.lt
  have e1 : Ent (tagAt τ w.heap.size 4) 4 w1 fun y => EachX Bools y (vl ++ [x]) (L ++ [xs]) := Ent.both (Ent.ext (h.me.tag fun b hb => tagAt_lt hb) hE) (hL _ fun b hb => tagAt_ge hb) fun y p q => p.snoc q
  have o1 : OwnT (tagAt τ w.heap.size 4) 3 (w1.alloc o) Wb.heap.size 53 1 l nl vl := (h.mo.keep 4).ext (hE.trans hx)
  have o2 : OwnT (tagAt τ w.heap.size 4) 1 (w1.alloc o) Wb.heap.size 53 1 s ns vs := (h.so.keep 4).ext (hE.trans hx)
  have e2 : Ent (tagAt τ w.heap.size 4) 2 (w1.alloc o) fun x => EachX Bools x vs S := ((h.se.tag fun b hb => tagAt_lt hb).ext hE).ext hx
  have hsz : (w1.alloc o).heap.size = w1.heap.size + 1 := by simp
  have r1 := (e1.ext hx).app o1 hg (by omega)
  have r2 := o1.app hown (by rw [hsz]; exact hb)
  have r3 := o2.other o1 hg (by omega)
  have r4 := e2.app o1 hg (by omega)
  have hbx := blk_grown (blk_ext h.box (hE.trans hx)) hg (fun e => by have := (o1.own.lt wB e.symm).1; omega)
  have e3 : Ext W0 w3 := Below.grown ((h.ext.trans hE).trans hx) hg ((h.ext.trans hE).trans hx).size fun b hb => by
    have := (o1.own.lt b hb).1
    have := h.lo
    have := h.ext.size
    omega
  have hw1 := hE.size
  have hz : ∀ b, b < Wb.heap.size → tagAt (tagAt τ w.heap.size 4) (w1.alloc o).heap.size 3 b = 0 := fun b hb => by
    rw [tagAt_lt (by omega), tagAt_lt (by omega)]; exact h.zero b hb
  have hb2 := blk_set (i := 1) hbx v'
  have hold : ∀ b, b < Wb.heap.size → b ≠ wB → w3.heap[b]? = Wb.heap[b]? := fun b h1 h2 => ((hg.block b (by rw [hsz]; omega) (fun e => by have := (o1.own.lt b e.symm).1; omega)).trans ((hE.trans hx).block b (by omega))).trans (h.old b h1 h2)
  refine ⟨_, ext_st e3 (p := ⟨wB, 1, none⟩) h.lo v', h.lo, by simpa using hb2, h.lt, fun b h1 h2 => (Below.heap_setCell _ _ _ _ (fun e => h2 (by simpa using e))).trans (hold b h1 h2), hz, ?_, r3.low (p := ⟨wB, 1, none⟩) (by show wB < Wb.heap.size; omega) v', r4.set (p := ⟨wB, 1, none⟩) (by show tagAt _ _ _ wB ≠ _; rw [hz wB hlt]; omega) v', r2.low (p := ⟨wB, 1, none⟩) (by show wB < Wb.heap.size; omega) v', r1.set (p := ⟨wB, 1, none⟩) (by show tagAt _ _ _ wB ≠ _; rw [hz wB hlt]; omega) v', h.ls, by simp [h.ll]⟩
  have h3 := hg.size
  rw [World.size_setCell]
  omega
theorem GW.cell {W0 Wb w : World} {wB : Nat} {τ : Nat → Nat} {s l : Value} {ns nl : Nat} {vs vl : List Value} {S L : List (List Bool)} (h : GW W0 Wb w wB τ s l ns nl vs vl S L) {b k : Nat} {u : Value} (hc : Wb.cell? ⟨b, k, none⟩ = some u) (hb : b ≠ wB) : w.cell? ⟨b, k, none⟩ = some u :=
  (World.cell?_of_block (h.old b (World.block_lt_of_cell? _ _ hc) hb)).trans hc
theorem own_bools_four {w : World} {k : Nat} {x : Value} {l : List Bool} (h : w.ownsRow k 4 1 x l.length (l.map .bool)) (τ' : Nat → Nat) (ht : ∀ b, k ≤ b → τ' b = 4) : Ent τ' 4 w fun y => Bools y x l :=
  (OwnT.ent ⟨h, fun b hb => ht b (h.lt b hb).1⟩).mono fun _ h => h.reads
end Go.Proofs.YtciihiiacbnimaaGreatDoor
