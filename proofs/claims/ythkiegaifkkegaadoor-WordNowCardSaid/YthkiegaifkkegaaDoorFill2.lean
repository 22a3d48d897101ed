/- Fill2: what is needed of it. No condition. -/
import Derived.Test.YthkiegaifkkegaaDoorFillM
import Derived.Test.YthkiegaifkkegaaDoorTruA
import Derived.Deep.Cut
namespace Go.Proofs.YthkiegaifkkegaaDoor
open Go.RowKit
set_option maxRecDepth 100000 in
set_option maxHeartbeats 8000000 in
theorem fill_and (W2 w : World) (T RB p : Nat) (l : List Op2) (es : List Int) (S : List Tm) (W : Wd) (af ae aL : Option Addr) (cf ce cL : Nat) (vs : List Value) (props : Nat) (a b : Tm)
    (hI : FIn W2 l es S W af ae cf ce vs props) (hM : TMem W2 w T RB l.length (.slice af l.length cf) (.slice ae es.length ce) aL cL vs W S (p + 1)) (hS : SubAt l es S p (.n2 8 0 a b)) :
    Calls Tryd.prog 22 #[.pointer (some ⟨T, 0, none⟩), .int .i64 (p : Int)] w fun e w' => e = .returned (.tuple #[]) ∧ TMem W2 w' T RB l.length (.slice af l.length cf) (.slice ae es.length ce) aL cL vs W S p := by
  obtain ⟨hpl, hpe⟩ := List.getElem?_eq_some_iff.1 hS.op
  obtain ⟨RA, cA, nT, nB, oA⟩ := hM.rows (p + 1) a (Nat.le_refl _) (hS.two _ _ _ _ rfl).1
  have hp1 : p + 1 < l.length := by have := (List.getElem?_eq_some_iff.1 (hS.two _ _ _ _ rfl).1).1; rw [hI.sl] at this; exact this
  obtain ⟨-, hs1, hs2, hs3⟩ := hS.two _ _ _ _ rfl
  obtain ⟨sc, hsc⟩ : ∃ sc, secAt es p = sc := ⟨_, rfl⟩
  rw [hsc] at hs1 hs2 hs3
  obtain ⟨RC, cC, nCT, nCB, oC⟩ := hM.rows sc b (by omega) hs3
  have hscl : sc < l.length := by have := (List.getElem?_eq_some_iff.1 hs3).1; rw [hI.sl] at this; exact this
  obtain ⟨be, oe, hbe, hce⟩ := row_ints (hI.re.ext hM.ext)
  obtain rfl := hbe (by rw [hI.el]; omega)
  have m1 := hce _ _ hs1
  obtain ⟨xs, hxs⟩ := hM.rb
  have hxl : xs.length = l.length := by simpa using hxs.1
  have cP := own_cellAt hxs (i := p) (by omega)
  have fP := own_freeAt hxs p
  have c2 : w.cell? ⟨T, 2, none⟩ = some (.slice aL W.n cL) := blk_cell hM.tb (i := 2) rfl
  have c4 : w.cell? ⟨T, 4, none⟩ = some (.slice (some ⟨RB, 0, none⟩) l.length l.length) := blk_cell hM.tb (i := 4) rfl
  obtain ⟨bb, off, hb, hc⟩ := hI.rl.ops
  obtain rfl := hb (by omega)
  obtain ⟨k1, k2⟩ := hc p hpl
  rw [hpe] at k1 k2
  simp only [Tm.kd, Tm.vl] at k1 k2
  have HK1 := Lib.hid k1
  have HK2 := Lib.hid k2
  have hTlt : T < w.heap.size := blk_lt hM.tb
  have hTRB : T ≠ RB := hM.ne
  have hpI : (p : Int) < (l.length : Int) := by omega
  have hp0 : (0 : Int) ≤ (p : Int) := by omega
  have hp1I : (p : Int) + 1 < (l.length : Int) := by omega
  have hp10 : (0 : Int) ≤ (p : Int) + 1 := by omega
  have hto : ((p : Int) + 1).toNat = p + 1 := by omega
  have hRAlt : RA < w.heap.size := (oA.lt RA rfl).2
  have HOA := Lib.hid oA
  have HCA := Lib.hid cA
  clear oA cA
  have hRClt : RC < w.heap.size := (oC.lt RC rfl).2
  have hel : es.length = l.length := hI.el
  have hp1E : (p : Int) + 1 < (es.length : Int) := by omega
  have hscI : (sc : Int) < (l.length : Int) := by omega
  have hsc0 : (0 : Int) ≤ (sc : Int) := by omega
  have hscp : sc ≠ p := by omega
  have HOC := Lib.hid oC
  have HCC := Lib.hid cC
  have HME := Lib.hid (hce _ _ hs1)
  have hce0 := hI.re
  obtain ⟨be2, oe2, hbe2, hce2⟩ := row_ints hI.re
  have e2 := hbe2 (by rw [hI.el]; omega)
  simp only [Option.some.injEq, Addr.mk.injEq, and_true] at e2
  obtain ⟨rfl, rfl⟩ := e2
  have HM1 := Lib.hid (hce2 _ _ hs1)
  have HEL := Lib.hid hel
  clear oC cC hce hbe hs1 hs3 hsc m1 hce0 hbe2 hce2 hel HME
  have hn24 := hI.n24
  have hl60 := hI.l60
  have HI := Lib.hid hI
  have HM := Lib.hid hM
  have HS := Lib.hid hS
  have HXS := Lib.hid hxs
  have hlo := hM.lo
  clear hb hc hI hS hxs hpe hM k1 k2
  go_enter Tryd.func22, Tryd.ntmps22
  go_wp2_with (at_make; go_must (refine wpList_make_full _ rfl _ _ 32 rfl W2.heap.size 4 (Tryd.slBools.inf.choose) (.bool false) 1 Tryd.underlying32 Tryd.slBools.inf.choose_spec.1 Tryd.slBools.inf.choose_spec.2.1 Tryd.slBools.inf.choose_spec.2.2.1 .i64 .i64 W.n W.n W.n rfl rfl rfl rfl (by rw [Tryd.slBools.inf.choose_spec.2.2.2]; omega) (by unfold maxLen; omega) HM.out.ext.size ?_))
  intro w1 hown1 hg1
  have hE1 : Ext w w1 := (Ext.refl w).grown hg1 (Nat.le_refl _) (by simp)
  have hmx : (madeCells #[Value.bool false] W.n).toList = rowF W.n (fun _ => false) := by
    rw [toList_madeCells_one, rowF]
    apply List.ext_getElem?
    intro j
    by_cases h : j < W.n <;> simp [h]
  rw [hmx] at hown1
  obtain ⟨hB5, hR5, hA5, hB5', hw1⟩ := mid_world HM.out hE1 hown1 rfl
  have HB5 := Lib.hid hB5
  have HR5 := Lib.hid hR5
  have HA5 := Lib.hid hA5
  have HBB5 := Lib.hid hB5'
  have d4 := cell_later hE1 c4
  have dP := cell_later hE1 cP
  have gP : w1.frozen? ⟨RB, p, none⟩ = false := own_freeAt (own_ext HXS.out hE1) p
  clear hmx hown1 hg1 hE1 c2 c4 cP fP hB5 hR5 hA5 hB5'
  go_upto_region 2 with fail
  clear d4 dP gP
  go_upto_region 3 with fail
  generalize ((w1.setCell ⟨RB, p, none⟩ (.slice (some ⟨w.heap.size, 0, none⟩) W.n W.n)).alloc (Obj.cells #[.slice none 0 0] 32)).alloc (Obj.cells #[.slice none 0 0] 32) = w5 at *
  generalize w1.heap.size = A at *
  have c0 : w5.cell? ⟨T, 0, none⟩ = some (.slice (some ⟨bb, off, none⟩) l.length cf) := blk_cell (HM.out.tbl HB5.out) (i := 0) rfl
  have k1 := cell_later (HM.out.extX HB5.out) HK1.out
  have HPA := Lib.hid (show Calls Tryd.prog 28 #[.int .i64 8] w5 fun e w' => e = .returned (.tuple #[.int .i64 2, .int .i64 0]) ∧ w5 = w' from parts_good 8 w5 (HI.out.tab.ext (HM.out.extX HB5.out)) (by omega) (by omega))
  go_wp2_with fail
  refine HPA.out.mono ?_
  rintro e wq ⟨rfl, rfl⟩
  clear HPA c0 k1
  have c4 : w5.cell? ⟨T, 4, none⟩ = some (.slice (some ⟨RB, 0, none⟩) l.length l.length) := blk_cell (HM.out.tbl HB5.out) (i := 4) rfl
  have cA := HM.out.rowC HB5.out HCA.out (by omega)
  have a0 := blk_cell HA5.out (i := 0) rfl
  have fA := blk_free HA5.out 0
  go_upto_region 6 with fail
  have HB5b := Lib.hid (Below.setCell HB5.out (p := ⟨A, 0, none⟩) (by simp; omega) (.slice (some ⟨RA, 0, none⟩) W.n W.n))
  have HR5b := Lib.hid (own_setCell HR5.out (p := ⟨A, 0, none⟩) (.slice (some ⟨RA, 0, none⟩) W.n W.n) (by simp [Value.ownBlock]; omega))
  have hA6 := blk_set HA5.out (i := 0) (.slice (some ⟨RA, 0, none⟩) W.n W.n)
  have HBB6 := Lib.hid (blk_far HBB5.out (p := ⟨A, 0, none⟩) (by simp) (.slice (some ⟨RA, 0, none⟩) W.n W.n))
  generalize w5.setCell ⟨A, 0, none⟩ (.slice (some ⟨RA, 0, none⟩) W.n W.n) = w5b at *
  have HA5b : Hid (w5b.heap[A]? = some (.cells #[.slice (some ⟨RA, 0, none⟩) W.n W.n] 32 (0, 0))) := Lib.hid hA6
  clear c4 cA a0 fA hA6 HB5 HR5 HA5 HBB5
  have c4 : w5b.cell? ⟨T, 4, none⟩ = some (.slice (some ⟨RB, 0, none⟩) l.length l.length) := blk_cell (HM.out.tbl HB5b.out) (i := 4) rfl
  have c1 : w5b.cell? ⟨T, 1, none⟩ = some (.slice (some ⟨be, oe, none⟩) es.length ce) := blk_cell (HM.out.tbl HB5b.out) (i := 1) rfl
  have m1 := cell_later (HM.out.extX HB5b.out) HM1.out
  have cC := HM.out.rowC HB5b.out HCC.out hscp
  have a0 := blk_cell HBB6.out (i := 0) rfl
  have fA := blk_free HBB6.out 0
  go_upto_region 7 with fail
  have hsz : W2.heap.size ≤ w5b.heap.size := (HM.out.extX HB5b.out).size
  go_region
  go_upto_region 8 with fail
  have hdr := Below.drew (Ext.refl (w5b.setCell ⟨A + 1, 0, none⟩ (.slice (some ⟨RC, 0, none⟩) W.n W.n)))
  have hwle5 : w.heap.size < w5b.heap.size := (HR5b.out.lt _ rfl).2
  have HB6 := Lib.hid (Below.trans (Below.setCell HB5b.out (p := ⟨A + 1, 0, none⟩) (by simp; omega) (.slice (some ⟨RC, 0, none⟩) W.n W.n)) (Below.mono hdr (by simp; omega)))
  have HR6 := Lib.hid (own_ext (own_setCell HR5b.out (p := ⟨A + 1, 0, none⟩) (.slice (some ⟨RC, 0, none⟩) W.n W.n) (by simp [Value.ownBlock]; omega)) hdr)
  have hA6 := blk_ext (blk_far HA5b.out (p := ⟨A + 1, 0, none⟩) (by simp) (.slice (some ⟨RC, 0, none⟩) W.n W.n)) hdr
  have hC6 := blk_ext (blk_set HBB6.out (i := 0) (.slice (some ⟨RC, 0, none⟩) W.n W.n)) hdr
  generalize (w5b.setCell ⟨A + 1, 0, none⟩ (.slice (some ⟨RC, 0, none⟩) W.n W.n)).drew = w6 at *
  have HA6 : Hid (w6.heap[A]? = some (.cells #[.slice (some ⟨RA, 0, none⟩) W.n W.n] 32 (0, 0))) := Lib.hid hA6
  have HC6 : Hid (w6.heap[A + 1]? = some (.cells #[.slice (some ⟨RC, 0, none⟩) W.n W.n] 32 (0, 0))) := Lib.hid hC6
  clear c4 c1 m1 cC a0 fA hA6 hC6 hdr hsz hwle5 HB5b HR5b HA5b HBB6 HEL
  have c0 : w6.cell? ⟨T, 0, none⟩ = some (.slice (some ⟨bb, off, none⟩) l.length cf) := blk_cell (HM.out.tbl HB6.out) (i := 0) rfl
  have k1 := cell_later (HM.out.extX HB6.out) HK1.out
  have k2 := cell_later (HM.out.extX HB6.out) HK2.out
  go_upto_region 9 with fail
  clear c0 k1 k2
  have hx6 := ext_al (Ext.refl w6) (Obj.cells #[.int .i64 8, .int .i64 0] 41)
  have hO7 := blk_new w6 (Obj.cells #[.int .i64 8, .int .i64 0] 41)
  have hwle : w.heap.size < w6.heap.size := (HR6.out.lt _ rfl).2
  have HB7 := Lib.hid (Below.trans HB6.out (Below.mono hx6 (Nat.le_of_lt hwle)))
  have HR7 := Lib.hid (own_ext HR6.out hx6)
  have HA7 := Lib.hid (blk_ext HA6.out hx6)
  have HC7 := Lib.hid (blk_ext HC6.out hx6)
  generalize w6.alloc (Obj.cells #[.int .i64 8, .int .i64 0] 41) = w7 at *
  have hOR : w6.heap.size ≠ w.heap.size := by omega
  generalize w6.heap.size = O at *
  have HO7 := Lib.hid hO7
  have o0 := blk_cell hO7 (i := 0) rfl
  clear hx6 hO7 HB6 HR6 HA6 HC6
  obtain ⟨V, hV⟩ : ∃ V : Nat → Bool, V = satB W (.n2 8 0 a b) := ⟨_, rfl⟩
  have HVS := Lib.hid hV
  have HVI := Lib.hid fun i => (congrFun hV i).trans (satB_and W 0 a b i)
  clear hV
  go_upto_region 10 with fail
  clear o0
  go_wp2_with fail
  go_loopg [73] W.n (fun m x wr => ∃ i : Nat, m + i = W.n ∧ x = .int .i64 (i : Int) ∧ w7.grownBy wr (some w.heap.size) ∧ wr.ownsRow W2.heap.size 4 1 (.slice (some ⟨w.heap.size, 0, none⟩) W.n W.n) W.n (rowF W.n fun j => if j < i then V j else false))
  case atStart => exact ⟨0, by omega, by go_num, ⟨rfl, rfl, rfl, Nat.le_refl _, fun _ _ _ => rfl⟩, by simpa using HR7.out⟩
  case round =>
    obtain ⟨i, hmi, rfl, hg, hr⟩ := hrel
    have HMI := Lib.hid hmi
    have HG := Lib.hid hg
    have HRR := Lib.hid hr
    by_cases hi : i < W.n
    · have hvi := HVI.out i
      have o0 := blk_cell (blk_grown HO7.out hg (by simpa using hOR)) (i := 0) rfl
      have cR := rowF_cell hr hi
      have fR := own_freeAt hr i
      have hiI : (i : Int) < (W.n : Int) := by omega
      have hi0 : (0 : Int) ≤ (i : Int) := by omega
      have a0 := blk_cell (blk_grown HA7.out hg (by simp; omega)) (i := 0) rfl
      have ca := hg.cell (rowF_cell (ownX HB7.out HOA.out nB) hi) (by simp; omega)
      have b0 := blk_cell (blk_grown HC7.out hg (by simp; omega)) (i := 0) rfl
      have cb := hg.cell (rowF_cell (ownX HB7.out HOC.out nCB) hi) (by simp; omega)
      generalize satB W a i = x at *
      generalize satB W b i = y at *
      have HVX := Lib.hid hvi
      clear hmi hg hr hvi
      cases x
      all_goals
        go_wp2_with fail
        go_roundg (gk - 1)
        case measure => have := HMI.out; omega
        case rel => exact ⟨i + 1, by have := HMI.out; omega, by go_num, grown_st HG.out, by have h := own_setAt HRR.out (i := i) (.bool (V i)); rw [rowF_set, upd_val] at h; first | exact h | (rw [HVX.out] at h; exact h) | (rw [HVX.out] at h; simpa using h)⟩
    · have hiI : ¬ (i : Int) < (W.n : Int) := by omega
      have hz : ∀ j, j < W.n → (if j < i then V j else false) = satB W (.n2 8 0 a b) j := fun j hj => by rw [if_pos (by omega)]; exact congrFun HVS.out j
      have HEND := Lib.hid (HM.out.fin rfl hpl (Below.grown HB7.out hg (Nat.le_of_lt (HR7.out.lt _ rfl).2) (fun k hk => by injection hk with hk; omega)) hr HS.out.sub hz)
      clear hz hmi hg hr
      go_wp2
      go_end0
      exact ⟨rfl, HEND.out⟩
set_option maxRecDepth 100000 in
set_option maxHeartbeats 8000000 in
theorem fill_or (W2 w : World) (T RB p : Nat) (l : List Op2) (es : List Int) (S : List Tm) (W : Wd) (af ae aL : Option Addr) (cf ce cL : Nat) (vs : List Value) (props : Nat) (a b : Tm)
    (hI : FIn W2 l es S W af ae cf ce vs props) (hM : TMem W2 w T RB l.length (.slice af l.length cf) (.slice ae es.length ce) aL cL vs W S (p + 1)) (hS : SubAt l es S p (.n2 9 0 a b)) :
    Calls Tryd.prog 22 #[.pointer (some ⟨T, 0, none⟩), .int .i64 (p : Int)] w fun e w' => e = .returned (.tuple #[]) ∧ TMem W2 w' T RB l.length (.slice af l.length cf) (.slice ae es.length ce) aL cL vs W S p := by
  obtain ⟨hpl, hpe⟩ := List.getElem?_eq_some_iff.1 hS.op
  obtain ⟨RA, cA, nT, nB, oA⟩ := hM.rows (p + 1) a (Nat.le_refl _) (hS.two _ _ _ _ rfl).1
  have hp1 : p + 1 < l.length := by have := (List.getElem?_eq_some_iff.1 (hS.two _ _ _ _ rfl).1).1; rw [hI.sl] at this; exact this
  obtain ⟨-, hs1, hs2, hs3⟩ := hS.two _ _ _ _ rfl
  obtain ⟨sc, hsc⟩ : ∃ sc, secAt es p = sc := ⟨_, rfl⟩
  rw [hsc] at hs1 hs2 hs3
  obtain ⟨RC, cC, nCT, nCB, oC⟩ := hM.rows sc b (by omega) hs3
  have hscl : sc < l.length := by have := (List.getElem?_eq_some_iff.1 hs3).1; rw [hI.sl] at this; exact this
  obtain ⟨be, oe, hbe, hce⟩ := row_ints (hI.re.ext hM.ext)
  obtain rfl := hbe (by rw [hI.el]; omega)
  have m1 := hce _ _ hs1
  obtain ⟨xs, hxs⟩ := hM.rb
  have hxl : xs.length = l.length := by simpa using hxs.1
  have cP := own_cellAt hxs (i := p) (by omega)
  have fP := own_freeAt hxs p
  have c2 : w.cell? ⟨T, 2, none⟩ = some (.slice aL W.n cL) := blk_cell hM.tb (i := 2) rfl
  have c4 : w.cell? ⟨T, 4, none⟩ = some (.slice (some ⟨RB, 0, none⟩) l.length l.length) := blk_cell hM.tb (i := 4) rfl
  obtain ⟨bb, off, hb, hc⟩ := hI.rl.ops
  obtain rfl := hb (by omega)
  obtain ⟨k1, k2⟩ := hc p hpl
  rw [hpe] at k1 k2
  simp only [Tm.kd, Tm.vl] at k1 k2
  have HK1 := Lib.hid k1
  have HK2 := Lib.hid k2
  have hTlt : T < w.heap.size := blk_lt hM.tb
  have hTRB : T ≠ RB := hM.ne
  have hpI : (p : Int) < (l.length : Int) := by omega
  have hp0 : (0 : Int) ≤ (p : Int) := by omega
  have hp1I : (p : Int) + 1 < (l.length : Int) := by omega
  have hp10 : (0 : Int) ≤ (p : Int) + 1 := by omega
  have hto : ((p : Int) + 1).toNat = p + 1 := by omega
  have hRAlt : RA < w.heap.size := (oA.lt RA rfl).2
  have HOA := Lib.hid oA
  have HCA := Lib.hid cA
  clear oA cA
  have hRClt : RC < w.heap.size := (oC.lt RC rfl).2
  have hel : es.length = l.length := hI.el
  have hp1E : (p : Int) + 1 < (es.length : Int) := by omega
  have hscI : (sc : Int) < (l.length : Int) := by omega
  have hsc0 : (0 : Int) ≤ (sc : Int) := by omega
  have hscp : sc ≠ p := by omega
  have HOC := Lib.hid oC
  have HCC := Lib.hid cC
  have HME := Lib.hid (hce _ _ hs1)
  have hce0 := hI.re
  obtain ⟨be2, oe2, hbe2, hce2⟩ := row_ints hI.re
  have e2 := hbe2 (by rw [hI.el]; omega)
  simp only [Option.some.injEq, Addr.mk.injEq, and_true] at e2
  obtain ⟨rfl, rfl⟩ := e2
  have HM1 := Lib.hid (hce2 _ _ hs1)
  have HEL := Lib.hid hel
  clear oC cC hce hbe hs1 hs3 hsc m1 hce0 hbe2 hce2 hel HME
  have hn24 := hI.n24
  have hl60 := hI.l60
  have HI := Lib.hid hI
  have HM := Lib.hid hM
  have HS := Lib.hid hS
  have HXS := Lib.hid hxs
  have hlo := hM.lo
  clear hb hc hI hS hxs hpe hM k1 k2
  go_enter Tryd.func22, Tryd.ntmps22
  go_wp2_with (at_make; go_must (refine wpList_make_full _ rfl _ _ 32 rfl W2.heap.size 4 (Tryd.slBools.inf.choose) (.bool false) 1 Tryd.underlying32 Tryd.slBools.inf.choose_spec.1 Tryd.slBools.inf.choose_spec.2.1 Tryd.slBools.inf.choose_spec.2.2.1 .i64 .i64 W.n W.n W.n rfl rfl rfl rfl (by rw [Tryd.slBools.inf.choose_spec.2.2.2]; omega) (by unfold maxLen; omega) HM.out.ext.size ?_))
  intro w1 hown1 hg1
  have hE1 : Ext w w1 := (Ext.refl w).grown hg1 (Nat.le_refl _) (by simp)
  have hmx : (madeCells #[Value.bool false] W.n).toList = rowF W.n (fun _ => false) := by
    rw [toList_madeCells_one, rowF]
    apply List.ext_getElem?
    intro j
    by_cases h : j < W.n <;> simp [h]
  rw [hmx] at hown1
  obtain ⟨hB5, hR5, hA5, hB5', hw1⟩ := mid_world HM.out hE1 hown1 rfl
  have HB5 := Lib.hid hB5
  have HR5 := Lib.hid hR5
  have HA5 := Lib.hid hA5
  have HBB5 := Lib.hid hB5'
  have d4 := cell_later hE1 c4
  have dP := cell_later hE1 cP
  have gP : w1.frozen? ⟨RB, p, none⟩ = false := own_freeAt (own_ext HXS.out hE1) p
  clear hmx hown1 hg1 hE1 c2 c4 cP fP hB5 hR5 hA5 hB5'
  go_upto_region 2 with fail
  clear d4 dP gP
  go_upto_region 3 with fail
  generalize ((w1.setCell ⟨RB, p, none⟩ (.slice (some ⟨w.heap.size, 0, none⟩) W.n W.n)).alloc (Obj.cells #[.slice none 0 0] 32)).alloc (Obj.cells #[.slice none 0 0] 32) = w5 at *
  generalize w1.heap.size = A at *
  have c0 : w5.cell? ⟨T, 0, none⟩ = some (.slice (some ⟨bb, off, none⟩) l.length cf) := blk_cell (HM.out.tbl HB5.out) (i := 0) rfl
  have k1 := cell_later (HM.out.extX HB5.out) HK1.out
  have HPA := Lib.hid (show Calls Tryd.prog 28 #[.int .i64 9] w5 fun e w' => e = .returned (.tuple #[.int .i64 2, .int .i64 0]) ∧ w5 = w' from parts_good 9 w5 (HI.out.tab.ext (HM.out.extX HB5.out)) (by omega) (by omega))
  go_wp2_with fail
  refine HPA.out.mono ?_
  rintro e wq ⟨rfl, rfl⟩
  clear HPA c0 k1
  have c4 : w5.cell? ⟨T, 4, none⟩ = some (.slice (some ⟨RB, 0, none⟩) l.length l.length) := blk_cell (HM.out.tbl HB5.out) (i := 4) rfl
  have cA := HM.out.rowC HB5.out HCA.out (by omega)
  have a0 := blk_cell HA5.out (i := 0) rfl
  have fA := blk_free HA5.out 0
  go_upto_region 6 with fail
  have HB5b := Lib.hid (Below.setCell HB5.out (p := ⟨A, 0, none⟩) (by simp; omega) (.slice (some ⟨RA, 0, none⟩) W.n W.n))
  have HR5b := Lib.hid (own_setCell HR5.out (p := ⟨A, 0, none⟩) (.slice (some ⟨RA, 0, none⟩) W.n W.n) (by simp [Value.ownBlock]; omega))
  have hA6 := blk_set HA5.out (i := 0) (.slice (some ⟨RA, 0, none⟩) W.n W.n)
  have HBB6 := Lib.hid (blk_far HBB5.out (p := ⟨A, 0, none⟩) (by simp) (.slice (some ⟨RA, 0, none⟩) W.n W.n))
  generalize w5.setCell ⟨A, 0, none⟩ (.slice (some ⟨RA, 0, none⟩) W.n W.n) = w5b at *
  have HA5b : Hid (w5b.heap[A]? = some (.cells #[.slice (some ⟨RA, 0, none⟩) W.n W.n] 32 (0, 0))) := Lib.hid hA6
  clear c4 cA a0 fA hA6 HB5 HR5 HA5 HBB5
  have c4 : w5b.cell? ⟨T, 4, none⟩ = some (.slice (some ⟨RB, 0, none⟩) l.length l.length) := blk_cell (HM.out.tbl HB5b.out) (i := 4) rfl
  have c1 : w5b.cell? ⟨T, 1, none⟩ = some (.slice (some ⟨be, oe, none⟩) es.length ce) := blk_cell (HM.out.tbl HB5b.out) (i := 1) rfl
  have m1 := cell_later (HM.out.extX HB5b.out) HM1.out
  have cC := HM.out.rowC HB5b.out HCC.out hscp
  have a0 := blk_cell HBB6.out (i := 0) rfl
  have fA := blk_free HBB6.out 0
  go_upto_region 7 with fail
  have hsz : W2.heap.size ≤ w5b.heap.size := (HM.out.extX HB5b.out).size
  go_region
  go_upto_region 8 with fail
  have hdr := Below.drew (Ext.refl (w5b.setCell ⟨A + 1, 0, none⟩ (.slice (some ⟨RC, 0, none⟩) W.n W.n)))
  have hwle5 : w.heap.size < w5b.heap.size := (HR5b.out.lt _ rfl).2
  have HB6 := Lib.hid (Below.trans (Below.setCell HB5b.out (p := ⟨A + 1, 0, none⟩) (by simp; omega) (.slice (some ⟨RC, 0, none⟩) W.n W.n)) (Below.mono hdr (by simp; omega)))
  have HR6 := Lib.hid (own_ext (own_setCell HR5b.out (p := ⟨A + 1, 0, none⟩) (.slice (some ⟨RC, 0, none⟩) W.n W.n) (by simp [Value.ownBlock]; omega)) hdr)
  have hA6 := blk_ext (blk_far HA5b.out (p := ⟨A + 1, 0, none⟩) (by simp) (.slice (some ⟨RC, 0, none⟩) W.n W.n)) hdr
  have hC6 := blk_ext (blk_set HBB6.out (i := 0) (.slice (some ⟨RC, 0, none⟩) W.n W.n)) hdr
  generalize (w5b.setCell ⟨A + 1, 0, none⟩ (.slice (some ⟨RC, 0, none⟩) W.n W.n)).drew = w6 at *
  have HA6 : Hid (w6.heap[A]? = some (.cells #[.slice (some ⟨RA, 0, none⟩) W.n W.n] 32 (0, 0))) := Lib.hid hA6
  have HC6 : Hid (w6.heap[A + 1]? = some (.cells #[.slice (some ⟨RC, 0, none⟩) W.n W.n] 32 (0, 0))) := Lib.hid hC6
  clear c4 c1 m1 cC a0 fA hA6 hC6 hdr hsz hwle5 HB5b HR5b HA5b HBB6 HEL
  have c0 : w6.cell? ⟨T, 0, none⟩ = some (.slice (some ⟨bb, off, none⟩) l.length cf) := blk_cell (HM.out.tbl HB6.out) (i := 0) rfl
  have k1 := cell_later (HM.out.extX HB6.out) HK1.out
  have k2 := cell_later (HM.out.extX HB6.out) HK2.out
  go_upto_region 9 with fail
  clear c0 k1 k2
  have hx6 := ext_al (Ext.refl w6) (Obj.cells #[.int .i64 9, .int .i64 0] 41)
  have hO7 := blk_new w6 (Obj.cells #[.int .i64 9, .int .i64 0] 41)
  have hwle : w.heap.size < w6.heap.size := (HR6.out.lt _ rfl).2
  have HB7 := Lib.hid (Below.trans HB6.out (Below.mono hx6 (Nat.le_of_lt hwle)))
  have HR7 := Lib.hid (own_ext HR6.out hx6)
  have HA7 := Lib.hid (blk_ext HA6.out hx6)
  have HC7 := Lib.hid (blk_ext HC6.out hx6)
  generalize w6.alloc (Obj.cells #[.int .i64 9, .int .i64 0] 41) = w7 at *
  have hOR : w6.heap.size ≠ w.heap.size := by omega
  generalize w6.heap.size = O at *
  have HO7 := Lib.hid hO7
  have o0 := blk_cell hO7 (i := 0) rfl
  clear hx6 hO7 HB6 HR6 HA6 HC6
  obtain ⟨V, hV⟩ : ∃ V : Nat → Bool, V = satB W (.n2 9 0 a b) := ⟨_, rfl⟩
  have HVS := Lib.hid hV
  have HVI := Lib.hid fun i => (congrFun hV i).trans (satB_or W 0 a b i)
  clear hV
  go_upto_region 10 with fail
  clear o0
  go_wp2_with fail
  go_loopg [73] W.n (fun m x wr => ∃ i : Nat, m + i = W.n ∧ x = .int .i64 (i : Int) ∧ w7.grownBy wr (some w.heap.size) ∧ wr.ownsRow W2.heap.size 4 1 (.slice (some ⟨w.heap.size, 0, none⟩) W.n W.n) W.n (rowF W.n fun j => if j < i then V j else false))
  case atStart => exact ⟨0, by omega, by go_num, ⟨rfl, rfl, rfl, Nat.le_refl _, fun _ _ _ => rfl⟩, by simpa using HR7.out⟩
  case round =>
    obtain ⟨i, hmi, rfl, hg, hr⟩ := hrel
    have HMI := Lib.hid hmi
    have HG := Lib.hid hg
    have HRR := Lib.hid hr
    by_cases hi : i < W.n
    · have hvi := HVI.out i
      have o0 := blk_cell (blk_grown HO7.out hg (by simpa using hOR)) (i := 0) rfl
      have cR := rowF_cell hr hi
      have fR := own_freeAt hr i
      have hiI : (i : Int) < (W.n : Int) := by omega
      have hi0 : (0 : Int) ≤ (i : Int) := by omega
      have a0 := blk_cell (blk_grown HA7.out hg (by simp; omega)) (i := 0) rfl
      have ca := hg.cell (rowF_cell (ownX HB7.out HOA.out nB) hi) (by simp; omega)
      have b0 := blk_cell (blk_grown HC7.out hg (by simp; omega)) (i := 0) rfl
      have cb := hg.cell (rowF_cell (ownX HB7.out HOC.out nCB) hi) (by simp; omega)
      generalize satB W a i = x at *
      generalize satB W b i = y at *
      have HVX := Lib.hid hvi
      clear hmi hg hr hvi
      cases x
      all_goals
        go_wp2_with fail
        go_roundg (gk - 1)
        case measure => have := HMI.out; omega
        case rel => exact ⟨i + 1, by have := HMI.out; omega, by go_num, grown_st HG.out, by have h := own_setAt HRR.out (i := i) (.bool (V i)); rw [rowF_set, upd_val] at h; first | exact h | (rw [HVX.out] at h; exact h) | (rw [HVX.out] at h; simpa using h)⟩
    · have hiI : ¬ (i : Int) < (W.n : Int) := by omega
      have hz : ∀ j, j < W.n → (if j < i then V j else false) = satB W (.n2 9 0 a b) j := fun j hj => by rw [if_pos (by omega)]; exact congrFun HVS.out j
      have HEND := Lib.hid (HM.out.fin rfl hpl (Below.grown HB7.out hg (Nat.le_of_lt (HR7.out.lt _ rfl).2) (fun k hk => by injection hk with hk; omega)) hr HS.out.sub hz)
      clear hz hmi hg hr
      go_wp2
      go_end0
      exact ⟨rfl, HEND.out⟩
set_option maxRecDepth 100000 in
set_option maxHeartbeats 8000000 in
theorem fill_unt (W2 w : World) (T RB p : Nat) (l : List Op2) (es : List Int) (S : List Tm) (W : Wd) (af ae aL : Option Addr) (cf ce cL : Nat) (vs : List Value) (props : Nat) (a b : Tm)
    (hI : FIn W2 l es S W af ae cf ce vs props) (hM : TMem W2 w T RB l.length (.slice af l.length cf) (.slice ae es.length ce) aL cL vs W S (p + 1)) (hS : SubAt l es S p (.n2 15 0 a b)) :
    Calls Tryd.prog 22 #[.pointer (some ⟨T, 0, none⟩), .int .i64 (p : Int)] w fun e w' => e = .returned (.tuple #[]) ∧ TMem W2 w' T RB l.length (.slice af l.length cf) (.slice ae es.length ce) aL cL vs W S p := by
  obtain ⟨hpl, hpe⟩ := List.getElem?_eq_some_iff.1 hS.op
  obtain ⟨RA, cA, nT, nB, oA⟩ := hM.rows (p + 1) a (Nat.le_refl _) (hS.two _ _ _ _ rfl).1
  have hp1 : p + 1 < l.length := by have := (List.getElem?_eq_some_iff.1 (hS.two _ _ _ _ rfl).1).1; rw [hI.sl] at this; exact this
  obtain ⟨-, hs1, hs2, hs3⟩ := hS.two _ _ _ _ rfl
  obtain ⟨sc, hsc⟩ : ∃ sc, secAt es p = sc := ⟨_, rfl⟩
  rw [hsc] at hs1 hs2 hs3
  obtain ⟨RC, cC, nCT, nCB, oC⟩ := hM.rows sc b (by omega) hs3
  have hscl : sc < l.length := by have := (List.getElem?_eq_some_iff.1 hs3).1; rw [hI.sl] at this; exact this
  obtain ⟨be, oe, hbe, hce⟩ := row_ints (hI.re.ext hM.ext)
  obtain rfl := hbe (by rw [hI.el]; omega)
  have m1 := hce _ _ hs1
  obtain ⟨xs, hxs⟩ := hM.rb
  have hxl : xs.length = l.length := by simpa using hxs.1
  have cP := own_cellAt hxs (i := p) (by omega)
  have fP := own_freeAt hxs p
  have c2 : w.cell? ⟨T, 2, none⟩ = some (.slice aL W.n cL) := blk_cell hM.tb (i := 2) rfl
  have c4 : w.cell? ⟨T, 4, none⟩ = some (.slice (some ⟨RB, 0, none⟩) l.length l.length) := blk_cell hM.tb (i := 4) rfl
  obtain ⟨bb, off, hb, hc⟩ := hI.rl.ops
  obtain rfl := hb (by omega)
  obtain ⟨k1, k2⟩ := hc p hpl
  rw [hpe] at k1 k2
  simp only [Tm.kd, Tm.vl] at k1 k2
  have HK1 := Lib.hid k1
  have HK2 := Lib.hid k2
  have hTlt : T < w.heap.size := blk_lt hM.tb
  have hTRB : T ≠ RB := hM.ne
  have hpI : (p : Int) < (l.length : Int) := by omega
  have hp0 : (0 : Int) ≤ (p : Int) := by omega
  have hp1I : (p : Int) + 1 < (l.length : Int) := by omega
  have hp10 : (0 : Int) ≤ (p : Int) + 1 := by omega
  have hto : ((p : Int) + 1).toNat = p + 1 := by omega
  have hRAlt : RA < w.heap.size := (oA.lt RA rfl).2
  have HOA := Lib.hid oA
  have HCA := Lib.hid cA
  clear oA cA
  have hRClt : RC < w.heap.size := (oC.lt RC rfl).2
  have hel : es.length = l.length := hI.el
  have hp1E : (p : Int) + 1 < (es.length : Int) := by omega
  have hscI : (sc : Int) < (l.length : Int) := by omega
  have hsc0 : (0 : Int) ≤ (sc : Int) := by omega
  have hscp : sc ≠ p := by omega
  have HOC := Lib.hid oC
  have HCC := Lib.hid cC
  have HME := Lib.hid (hce _ _ hs1)
  have hce0 := hI.re
  obtain ⟨be2, oe2, hbe2, hce2⟩ := row_ints hI.re
  have e2 := hbe2 (by rw [hI.el]; omega)
  simp only [Option.some.injEq, Addr.mk.injEq, and_true] at e2
  obtain ⟨rfl, rfl⟩ := e2
  have HM1 := Lib.hid (hce2 _ _ hs1)
  have HEL := Lib.hid hel
  clear oC cC hce hbe hs1 hs3 hsc m1 hce0 hbe2 hce2 hel HME
  have hn24 := hI.n24
  have hl60 := hI.l60
  have HI := Lib.hid hI
  have HM := Lib.hid hM
  have HS := Lib.hid hS
  have HXS := Lib.hid hxs
  have hlo := hM.lo
  clear hb hc hI hS hxs hpe hM k1 k2
  go_enter Tryd.func22, Tryd.ntmps22
  go_wp2_with (at_make; go_must (refine wpList_make_full _ rfl _ _ 32 rfl W2.heap.size 4 (Tryd.slBools.inf.choose) (.bool false) 1 Tryd.underlying32 Tryd.slBools.inf.choose_spec.1 Tryd.slBools.inf.choose_spec.2.1 Tryd.slBools.inf.choose_spec.2.2.1 .i64 .i64 W.n W.n W.n rfl rfl rfl rfl (by rw [Tryd.slBools.inf.choose_spec.2.2.2]; omega) (by unfold maxLen; omega) HM.out.ext.size ?_))
  intro w1 hown1 hg1
  have hE1 : Ext w w1 := (Ext.refl w).grown hg1 (Nat.le_refl _) (by simp)
  have hmx : (madeCells #[Value.bool false] W.n).toList = rowF W.n (fun _ => false) := by
    rw [toList_madeCells_one, rowF]
    apply List.ext_getElem?
    intro j
    by_cases h : j < W.n <;> simp [h]
  rw [hmx] at hown1
  obtain ⟨hB5, hR5, hA5, hB5', hw1⟩ := mid_world HM.out hE1 hown1 rfl
  have HB5 := Lib.hid hB5
  have HR5 := Lib.hid hR5
  have HA5 := Lib.hid hA5
  have HBB5 := Lib.hid hB5'
  have d4 := cell_later hE1 c4
  have dP := cell_later hE1 cP
  have gP : w1.frozen? ⟨RB, p, none⟩ = false := own_freeAt (own_ext HXS.out hE1) p
  clear hmx hown1 hg1 hE1 c2 c4 cP fP hB5 hR5 hA5 hB5'
  go_upto_region 2 with fail
  clear d4 dP gP
  go_upto_region 3 with fail
  generalize ((w1.setCell ⟨RB, p, none⟩ (.slice (some ⟨w.heap.size, 0, none⟩) W.n W.n)).alloc (Obj.cells #[.slice none 0 0] 32)).alloc (Obj.cells #[.slice none 0 0] 32) = w5 at *
  generalize w1.heap.size = A at *
  have c0 : w5.cell? ⟨T, 0, none⟩ = some (.slice (some ⟨bb, off, none⟩) l.length cf) := blk_cell (HM.out.tbl HB5.out) (i := 0) rfl
  have k1 := cell_later (HM.out.extX HB5.out) HK1.out
  have HPA := Lib.hid (show Calls Tryd.prog 28 #[.int .i64 15] w5 fun e w' => e = .returned (.tuple #[.int .i64 2, .int .i64 0]) ∧ w5 = w' from parts_good 15 w5 (HI.out.tab.ext (HM.out.extX HB5.out)) (by omega) (by omega))
  go_wp2_with fail
  refine HPA.out.mono ?_
  rintro e wq ⟨rfl, rfl⟩
  clear HPA c0 k1
  have c4 : w5.cell? ⟨T, 4, none⟩ = some (.slice (some ⟨RB, 0, none⟩) l.length l.length) := blk_cell (HM.out.tbl HB5.out) (i := 4) rfl
  have cA := HM.out.rowC HB5.out HCA.out (by omega)
  have a0 := blk_cell HA5.out (i := 0) rfl
  have fA := blk_free HA5.out 0
  go_upto_region 6 with fail
  have HB5b := Lib.hid (Below.setCell HB5.out (p := ⟨A, 0, none⟩) (by simp; omega) (.slice (some ⟨RA, 0, none⟩) W.n W.n))
  have HR5b := Lib.hid (own_setCell HR5.out (p := ⟨A, 0, none⟩) (.slice (some ⟨RA, 0, none⟩) W.n W.n) (by simp [Value.ownBlock]; omega))
  have hA6 := blk_set HA5.out (i := 0) (.slice (some ⟨RA, 0, none⟩) W.n W.n)
  have HBB6 := Lib.hid (blk_far HBB5.out (p := ⟨A, 0, none⟩) (by simp) (.slice (some ⟨RA, 0, none⟩) W.n W.n))
  generalize w5.setCell ⟨A, 0, none⟩ (.slice (some ⟨RA, 0, none⟩) W.n W.n) = w5b at *
  have HA5b : Hid (w5b.heap[A]? = some (.cells #[.slice (some ⟨RA, 0, none⟩) W.n W.n] 32 (0, 0))) := Lib.hid hA6
  clear c4 cA a0 fA hA6 HB5 HR5 HA5 HBB5
  have c4 : w5b.cell? ⟨T, 4, none⟩ = some (.slice (some ⟨RB, 0, none⟩) l.length l.length) := blk_cell (HM.out.tbl HB5b.out) (i := 4) rfl
  have c1 : w5b.cell? ⟨T, 1, none⟩ = some (.slice (some ⟨be, oe, none⟩) es.length ce) := blk_cell (HM.out.tbl HB5b.out) (i := 1) rfl
  have m1 := cell_later (HM.out.extX HB5b.out) HM1.out
  have cC := HM.out.rowC HB5b.out HCC.out hscp
  have a0 := blk_cell HBB6.out (i := 0) rfl
  have fA := blk_free HBB6.out 0
  go_upto_region 7 with fail
  have hsz : W2.heap.size ≤ w5b.heap.size := (HM.out.extX HB5b.out).size
  go_region
  go_upto_region 8 with fail
  have hdr := Below.drew (Ext.refl (w5b.setCell ⟨A + 1, 0, none⟩ (.slice (some ⟨RC, 0, none⟩) W.n W.n)))
  have hwle5 : w.heap.size < w5b.heap.size := (HR5b.out.lt _ rfl).2
  have HB6 := Lib.hid (Below.trans (Below.setCell HB5b.out (p := ⟨A + 1, 0, none⟩) (by simp; omega) (.slice (some ⟨RC, 0, none⟩) W.n W.n)) (Below.mono hdr (by simp; omega)))
  have HR6 := Lib.hid (own_ext (own_setCell HR5b.out (p := ⟨A + 1, 0, none⟩) (.slice (some ⟨RC, 0, none⟩) W.n W.n) (by simp [Value.ownBlock]; omega)) hdr)
  have hA6 := blk_ext (blk_far HA5b.out (p := ⟨A + 1, 0, none⟩) (by simp) (.slice (some ⟨RC, 0, none⟩) W.n W.n)) hdr
  have hC6 := blk_ext (blk_set HBB6.out (i := 0) (.slice (some ⟨RC, 0, none⟩) W.n W.n)) hdr
  generalize (w5b.setCell ⟨A + 1, 0, none⟩ (.slice (some ⟨RC, 0, none⟩) W.n W.n)).drew = w6 at *
  have HA6 : Hid (w6.heap[A]? = some (.cells #[.slice (some ⟨RA, 0, none⟩) W.n W.n] 32 (0, 0))) := Lib.hid hA6
  have HC6 : Hid (w6.heap[A + 1]? = some (.cells #[.slice (some ⟨RC, 0, none⟩) W.n W.n] 32 (0, 0))) := Lib.hid hC6
  clear c4 c1 m1 cC a0 fA hA6 hC6 hdr hsz hwle5 HB5b HR5b HA5b HBB6 HEL
  have c0 : w6.cell? ⟨T, 0, none⟩ = some (.slice (some ⟨bb, off, none⟩) l.length cf) := blk_cell (HM.out.tbl HB6.out) (i := 0) rfl
  have k1 := cell_later (HM.out.extX HB6.out) HK1.out
  have k2 := cell_later (HM.out.extX HB6.out) HK2.out
  go_upto_region 9 with fail
  clear c0 k1 k2
  have hx6 := ext_al (Ext.refl w6) (Obj.cells #[.int .i64 15, .int .i64 0] 41)
  have hO7 := blk_new w6 (Obj.cells #[.int .i64 15, .int .i64 0] 41)
  have hwle : w.heap.size < w6.heap.size := (HR6.out.lt _ rfl).2
  have HB7 := Lib.hid (Below.trans HB6.out (Below.mono hx6 (Nat.le_of_lt hwle)))
  have HR7 := Lib.hid (own_ext HR6.out hx6)
  have HA7 := Lib.hid (blk_ext HA6.out hx6)
  have HC7 := Lib.hid (blk_ext HC6.out hx6)
  generalize w6.alloc (Obj.cells #[.int .i64 15, .int .i64 0] 41) = w7 at *
  have hOR : w6.heap.size ≠ w.heap.size := by omega
  generalize w6.heap.size = O at *
  have HO7 := Lib.hid hO7
  have o0 := blk_cell hO7 (i := 0) rfl
  clear hx6 hO7 HB6 HR6 HA6 HC6
  have hcA : ∀ i, i < W.n → w7.cell? ⟨RA, i, none⟩ = some (.bool (satB W a i)) := fun i hi => rowF_cell (ownX HB7.out HOA.out nB) hi
  have hcC : ∀ i, i < W.n → w7.cell? ⟨RC, i, none⟩ = some (.bool (satB W b i)) := fun i hi => rowF_cell (ownX HB7.out HOC.out nCB) hi
  have HCS := Lib.hid (settle_unt w7 W2.heap.size T w.heap.size W.n W.back p (.slice (some ⟨bb, off, none⟩) l.length cf) (.slice (some ⟨be, oe, none⟩) es.length ce) aL (some ⟨RB, 0, none⟩) cL l.length l.length RB 0 A (A + 1) RA RC (satB W a) (satB W b) (fun _ => false) (HM.out.tbl HB7.out) ⟨rfl, hpl, by simpa using HM.out.cellP HB7.out hpl⟩ HR7.out HA7.out HC7.out hcA hcC ⟨by omega, by omega, by omega, by omega, by omega⟩ hn24 HI.out.bk (by omega))
  clear hcA hcC
  have hmf : ∀ (fn : Fn) (first cap : Array Value) (w : World), (Instr.makeFunc fn first cap).run Tryd.prog w = .ok (.func fn first cap) w := fun _ _ _ _ => rfl
  go_wp2_with fail
  refine HCS.out.mono ?_
  rintro e w8 ⟨rfl, hg, r, hr, hiff⟩
  have HEND := Lib.hid (HM.out.fin rfl hpl (Below.grown HB7.out hg (Nat.le_of_lt (HR7.out.lt _ rfl).2) (fun k hk => by injection hk with hk; omega)) hr HS.out.sub (fun i hi => Bool.eq_iff_iff.2 ((hiff i hi).trans (satB_unt W 0 a b i).symm)))
  clear hg hr hiff HCS
  go_wp2
  go_end0
  exact ⟨rfl, HEND.out⟩
set_option maxRecDepth 100000 in
set_option maxHeartbeats 8000000 in
theorem fill_rel (W2 w : World) (T RB p : Nat) (l : List Op2) (es : List Int) (S : List Tm) (W : Wd) (af ae aL : Option Addr) (cf ce cL : Nat) (vs : List Value) (props : Nat) (a b : Tm)
    (hI : FIn W2 l es S W af ae cf ce vs props) (hM : TMem W2 w T RB l.length (.slice af l.length cf) (.slice ae es.length ce) aL cL vs W S (p + 1)) (hS : SubAt l es S p (.n2 16 0 a b)) :
    Calls Tryd.prog 22 #[.pointer (some ⟨T, 0, none⟩), .int .i64 (p : Int)] w fun e w' => e = .returned (.tuple #[]) ∧ TMem W2 w' T RB l.length (.slice af l.length cf) (.slice ae es.length ce) aL cL vs W S p := by
  obtain ⟨hpl, hpe⟩ := List.getElem?_eq_some_iff.1 hS.op
  obtain ⟨RA, cA, nT, nB, oA⟩ := hM.rows (p + 1) a (Nat.le_refl _) (hS.two _ _ _ _ rfl).1
  have hp1 : p + 1 < l.length := by have := (List.getElem?_eq_some_iff.1 (hS.two _ _ _ _ rfl).1).1; rw [hI.sl] at this; exact this
  obtain ⟨-, hs1, hs2, hs3⟩ := hS.two _ _ _ _ rfl
  obtain ⟨sc, hsc⟩ : ∃ sc, secAt es p = sc := ⟨_, rfl⟩
  rw [hsc] at hs1 hs2 hs3
  obtain ⟨RC, cC, nCT, nCB, oC⟩ := hM.rows sc b (by omega) hs3
  have hscl : sc < l.length := by have := (List.getElem?_eq_some_iff.1 hs3).1; rw [hI.sl] at this; exact this
  obtain ⟨be, oe, hbe, hce⟩ := row_ints (hI.re.ext hM.ext)
  obtain rfl := hbe (by rw [hI.el]; omega)
  have m1 := hce _ _ hs1
  obtain ⟨xs, hxs⟩ := hM.rb
  have hxl : xs.length = l.length := by simpa using hxs.1
  have cP := own_cellAt hxs (i := p) (by omega)
  have fP := own_freeAt hxs p
  have c2 : w.cell? ⟨T, 2, none⟩ = some (.slice aL W.n cL) := blk_cell hM.tb (i := 2) rfl
  have c4 : w.cell? ⟨T, 4, none⟩ = some (.slice (some ⟨RB, 0, none⟩) l.length l.length) := blk_cell hM.tb (i := 4) rfl
  obtain ⟨bb, off, hb, hc⟩ := hI.rl.ops
  obtain rfl := hb (by omega)
  obtain ⟨k1, k2⟩ := hc p hpl
  rw [hpe] at k1 k2
  simp only [Tm.kd, Tm.vl] at k1 k2
  have HK1 := Lib.hid k1
  have HK2 := Lib.hid k2
  have hTlt : T < w.heap.size := blk_lt hM.tb
  have hTRB : T ≠ RB := hM.ne
  have hpI : (p : Int) < (l.length : Int) := by omega
  have hp0 : (0 : Int) ≤ (p : Int) := by omega
  have hp1I : (p : Int) + 1 < (l.length : Int) := by omega
  have hp10 : (0 : Int) ≤ (p : Int) + 1 := by omega
  have hto : ((p : Int) + 1).toNat = p + 1 := by omega
  have hRAlt : RA < w.heap.size := (oA.lt RA rfl).2
  have HOA := Lib.hid oA
  have HCA := Lib.hid cA
  clear oA cA
  have hRClt : RC < w.heap.size := (oC.lt RC rfl).2
  have hel : es.length = l.length := hI.el
  have hp1E : (p : Int) + 1 < (es.length : Int) := by omega
  have hscI : (sc : Int) < (l.length : Int) := by omega
  have hsc0 : (0 : Int) ≤ (sc : Int) := by omega
  have hscp : sc ≠ p := by omega
  have HOC := Lib.hid oC
  have HCC := Lib.hid cC
  have HME := Lib.hid (hce _ _ hs1)
  have hce0 := hI.re
  obtain ⟨be2, oe2, hbe2, hce2⟩ := row_ints hI.re
  have e2 := hbe2 (by rw [hI.el]; omega)
  simp only [Option.some.injEq, Addr.mk.injEq, and_true] at e2
  obtain ⟨rfl, rfl⟩ := e2
  have HM1 := Lib.hid (hce2 _ _ hs1)
  have HEL := Lib.hid hel
  clear oC cC hce hbe hs1 hs3 hsc m1 hce0 hbe2 hce2 hel HME
  have hn24 := hI.n24
  have hl60 := hI.l60
  have HI := Lib.hid hI
  have HM := Lib.hid hM
  have HS := Lib.hid hS
  have HXS := Lib.hid hxs
  have hlo := hM.lo
  clear hb hc hI hS hxs hpe hM k1 k2
  go_enter Tryd.func22, Tryd.ntmps22
  go_wp2_with (at_make; go_must (refine wpList_make_full _ rfl _ _ 32 rfl W2.heap.size 4 (Tryd.slBools.inf.choose) (.bool false) 1 Tryd.underlying32 Tryd.slBools.inf.choose_spec.1 Tryd.slBools.inf.choose_spec.2.1 Tryd.slBools.inf.choose_spec.2.2.1 .i64 .i64 W.n W.n W.n rfl rfl rfl rfl (by rw [Tryd.slBools.inf.choose_spec.2.2.2]; omega) (by unfold maxLen; omega) HM.out.ext.size ?_))
  intro w1 hown1 hg1
  have hE1 : Ext w w1 := (Ext.refl w).grown hg1 (Nat.le_refl _) (by simp)
  have hmx : (madeCells #[Value.bool false] W.n).toList = rowF W.n (fun _ => false) := by
    rw [toList_madeCells_one, rowF]
    apply List.ext_getElem?
    intro j
    by_cases h : j < W.n <;> simp [h]
  rw [hmx] at hown1
  obtain ⟨hB5, hR5, hA5, hB5', hw1⟩ := mid_world HM.out hE1 hown1 rfl
  have HB5 := Lib.hid hB5
  have HR5 := Lib.hid hR5
  have HA5 := Lib.hid hA5
  have HBB5 := Lib.hid hB5'
  have d4 := cell_later hE1 c4
  have dP := cell_later hE1 cP
  have gP : w1.frozen? ⟨RB, p, none⟩ = false := own_freeAt (own_ext HXS.out hE1) p
  clear hmx hown1 hg1 hE1 c2 c4 cP fP hB5 hR5 hA5 hB5'
  go_upto_region 2 with fail
  clear d4 dP gP
  go_upto_region 3 with fail
  generalize ((w1.setCell ⟨RB, p, none⟩ (.slice (some ⟨w.heap.size, 0, none⟩) W.n W.n)).alloc (Obj.cells #[.slice none 0 0] 32)).alloc (Obj.cells #[.slice none 0 0] 32) = w5 at *
  generalize w1.heap.size = A at *
  have c0 : w5.cell? ⟨T, 0, none⟩ = some (.slice (some ⟨bb, off, none⟩) l.length cf) := blk_cell (HM.out.tbl HB5.out) (i := 0) rfl
  have k1 := cell_later (HM.out.extX HB5.out) HK1.out
  have HPA := Lib.hid (show Calls Tryd.prog 28 #[.int .i64 16] w5 fun e w' => e = .returned (.tuple #[.int .i64 2, .int .i64 0]) ∧ w5 = w' from parts_good 16 w5 (HI.out.tab.ext (HM.out.extX HB5.out)) (by omega) (by omega))
  go_wp2_with fail
  refine HPA.out.mono ?_
  rintro e wq ⟨rfl, rfl⟩
  clear HPA c0 k1
  have c4 : w5.cell? ⟨T, 4, none⟩ = some (.slice (some ⟨RB, 0, none⟩) l.length l.length) := blk_cell (HM.out.tbl HB5.out) (i := 4) rfl
  have cA := HM.out.rowC HB5.out HCA.out (by omega)
  have a0 := blk_cell HA5.out (i := 0) rfl
  have fA := blk_free HA5.out 0
  go_upto_region 6 with fail
  have HB5b := Lib.hid (Below.setCell HB5.out (p := ⟨A, 0, none⟩) (by simp; omega) (.slice (some ⟨RA, 0, none⟩) W.n W.n))
  have HR5b := Lib.hid (own_setCell HR5.out (p := ⟨A, 0, none⟩) (.slice (some ⟨RA, 0, none⟩) W.n W.n) (by simp [Value.ownBlock]; omega))
  have hA6 := blk_set HA5.out (i := 0) (.slice (some ⟨RA, 0, none⟩) W.n W.n)
  have HBB6 := Lib.hid (blk_far HBB5.out (p := ⟨A, 0, none⟩) (by simp) (.slice (some ⟨RA, 0, none⟩) W.n W.n))
  generalize w5.setCell ⟨A, 0, none⟩ (.slice (some ⟨RA, 0, none⟩) W.n W.n) = w5b at *
  have HA5b : Hid (w5b.heap[A]? = some (.cells #[.slice (some ⟨RA, 0, none⟩) W.n W.n] 32 (0, 0))) := Lib.hid hA6
  clear c4 cA a0 fA hA6 HB5 HR5 HA5 HBB5
  have c4 : w5b.cell? ⟨T, 4, none⟩ = some (.slice (some ⟨RB, 0, none⟩) l.length l.length) := blk_cell (HM.out.tbl HB5b.out) (i := 4) rfl
  have c1 : w5b.cell? ⟨T, 1, none⟩ = some (.slice (some ⟨be, oe, none⟩) es.length ce) := blk_cell (HM.out.tbl HB5b.out) (i := 1) rfl
  have m1 := cell_later (HM.out.extX HB5b.out) HM1.out
  have cC := HM.out.rowC HB5b.out HCC.out hscp
  have a0 := blk_cell HBB6.out (i := 0) rfl
  have fA := blk_free HBB6.out 0
  go_upto_region 7 with fail
  have hsz : W2.heap.size ≤ w5b.heap.size := (HM.out.extX HB5b.out).size
  go_region
  go_upto_region 8 with fail
  have hdr := Below.drew (Ext.refl (w5b.setCell ⟨A + 1, 0, none⟩ (.slice (some ⟨RC, 0, none⟩) W.n W.n)))
  have hwle5 : w.heap.size < w5b.heap.size := (HR5b.out.lt _ rfl).2
  have HB6 := Lib.hid (Below.trans (Below.setCell HB5b.out (p := ⟨A + 1, 0, none⟩) (by simp; omega) (.slice (some ⟨RC, 0, none⟩) W.n W.n)) (Below.mono hdr (by simp; omega)))
  have HR6 := Lib.hid (own_ext (own_setCell HR5b.out (p := ⟨A + 1, 0, none⟩) (.slice (some ⟨RC, 0, none⟩) W.n W.n) (by simp [Value.ownBlock]; omega)) hdr)
  have hA6 := blk_ext (blk_far HA5b.out (p := ⟨A + 1, 0, none⟩) (by simp) (.slice (some ⟨RC, 0, none⟩) W.n W.n)) hdr
  have hC6 := blk_ext (blk_set HBB6.out (i := 0) (.slice (some ⟨RC, 0, none⟩) W.n W.n)) hdr
  generalize (w5b.setCell ⟨A + 1, 0, none⟩ (.slice (some ⟨RC, 0, none⟩) W.n W.n)).drew = w6 at *
  have HA6 : Hid (w6.heap[A]? = some (.cells #[.slice (some ⟨RA, 0, none⟩) W.n W.n] 32 (0, 0))) := Lib.hid hA6
  have HC6 : Hid (w6.heap[A + 1]? = some (.cells #[.slice (some ⟨RC, 0, none⟩) W.n W.n] 32 (0, 0))) := Lib.hid hC6
  clear c4 c1 m1 cC a0 fA hA6 hC6 hdr hsz hwle5 HB5b HR5b HA5b HBB6 HEL
  have c0 : w6.cell? ⟨T, 0, none⟩ = some (.slice (some ⟨bb, off, none⟩) l.length cf) := blk_cell (HM.out.tbl HB6.out) (i := 0) rfl
  have k1 := cell_later (HM.out.extX HB6.out) HK1.out
  have k2 := cell_later (HM.out.extX HB6.out) HK2.out
  go_upto_region 9 with fail
  clear c0 k1 k2
  have hx6 := ext_al (Ext.refl w6) (Obj.cells #[.int .i64 16, .int .i64 0] 41)
  have hO7 := blk_new w6 (Obj.cells #[.int .i64 16, .int .i64 0] 41)
  have hwle : w.heap.size < w6.heap.size := (HR6.out.lt _ rfl).2
  have HB7 := Lib.hid (Below.trans HB6.out (Below.mono hx6 (Nat.le_of_lt hwle)))
  have HR7 := Lib.hid (own_ext HR6.out hx6)
  have HA7 := Lib.hid (blk_ext HA6.out hx6)
  have HC7 := Lib.hid (blk_ext HC6.out hx6)
  generalize w6.alloc (Obj.cells #[.int .i64 16, .int .i64 0] 41) = w7 at *
  have hOR : w6.heap.size ≠ w.heap.size := by omega
  generalize w6.heap.size = O at *
  have HO7 := Lib.hid hO7
  have o0 := blk_cell hO7 (i := 0) rfl
  clear hx6 hO7 HB6 HR6 HA6 HC6
  have hcA : ∀ i, i < W.n → w7.cell? ⟨RA, i, none⟩ = some (.bool (satB W a i)) := fun i hi => rowF_cell (ownX HB7.out HOA.out nB) hi
  have hcC : ∀ i, i < W.n → w7.cell? ⟨RC, i, none⟩ = some (.bool (satB W b i)) := fun i hi => rowF_cell (ownX HB7.out HOC.out nCB) hi
  have HCS := Lib.hid (settle_rel w7 W2.heap.size T w.heap.size W.n W.back p (.slice (some ⟨bb, off, none⟩) l.length cf) (.slice (some ⟨be, oe, none⟩) es.length ce) aL (some ⟨RB, 0, none⟩) cL l.length l.length RB 0 A (A + 1) RA RC (satB W a) (satB W b) (fun _ => false) (HM.out.tbl HB7.out) ⟨rfl, hpl, by simpa using HM.out.cellP HB7.out hpl⟩ HR7.out HA7.out HC7.out hcA hcC ⟨by omega, by omega, by omega, by omega, by omega⟩ hn24 HI.out.bk (by omega))
  clear hcA hcC
  have hmf : ∀ (fn : Fn) (first cap : Array Value) (w : World), (Instr.makeFunc fn first cap).run Tryd.prog w = .ok (.func fn first cap) w := fun _ _ _ _ => rfl
  go_wp2_with fail
  refine HCS.out.mono ?_
  rintro e w8 ⟨rfl, hg, r, hr, hiff⟩
  have HEND := Lib.hid (HM.out.fin rfl hpl (Below.grown HB7.out hg (Nat.le_of_lt (HR7.out.lt _ rfl).2) (fun k hk => by injection hk with hk; omega)) hr HS.out.sub (fun i hi => Bool.eq_iff_iff.2 ((hiff i hi).trans (satB_rel W 0 a b i).symm)))
  clear hg hr hiff HCS
  go_wp2
  go_end0
  exact ⟨rfl, HEND.out⟩
end Go.Proofs.YthkiegaifkkegaaDoor
