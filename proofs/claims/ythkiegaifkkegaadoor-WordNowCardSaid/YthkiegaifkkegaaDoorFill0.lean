/- Fill0: what is needed of it. No condition. -/
import Derived.Test.YthkiegaifkkegaaDoorFillM
import Derived.Test.YthkiegaifkkegaaDoorTruA
import Derived.Deep.Cut
namespace Go.Proofs.YthkiegaifkkegaaDoor
open Go.RowKit
set_option maxRecDepth 100000 in
set_option maxHeartbeats 8000000 in
theorem fill_prop (W2 w : World) (T RB p : Nat) (l : List Op2) (es : List Int) (S : List Tm) (W : Wd) (af ae aL : Option Addr) (cf ce cL : Nat) (vs : List Value) (props : Nat) (v : Int)
    (hI : FIn W2 l es S W af ae cf ce vs props) (hM : TMem W2 w T RB l.length (.slice af l.length cf) (.slice ae es.length ce) aL cL vs W S (p + 1)) (hS : SubAt l es S p (.n0 13 v)) (vn : Nat) (hvp : vn < props) (hvv : v = (vn : Int)) :
    Calls Tryd.prog 22 #[.pointer (some ⟨T, 0, none⟩), .int .i64 (p : Int)] w fun e w' => e = .returned (.tuple #[]) ∧ TMem W2 w' T RB l.length (.slice af l.length cf) (.slice ae es.length ce) aL cL vs W S p := by
  obtain ⟨hpl, hpe⟩ := List.getElem?_eq_some_iff.1 hS.op
  obtain ⟨xs, hxs⟩ := hM.rb
  have hxl : xs.length = l.length := by simpa using hxs.1
  have cP := own_cellAt hxs (i := p) (by omega)
  have fP := own_freeAt hxs p
  have c2 : w.cell? ⟨T, 2, none⟩ = some (.slice aL W.n cL) := blk_cell hM.tb (i := 2) rfl
  have c4 : w.cell? ⟨T, 4, none⟩ = some (.slice (some ⟨RB, 0, none⟩) l.length l.length) := blk_cell hM.tb (i := 4) rfl
  obtain ⟨bb, off, hb, hc⟩ := hI.rl.ops
  obtain rfl := hb (by omega)
  obtain ⟨k1, k2⟩ := hc p hpl
  rw [hpe] at k1 k2
  simp only [Tm.kd, Tm.vl] at k1 k2
  have HK1 := Lib.hid k1
  have HK2 := Lib.hid k2
  have hTlt : T < w.heap.size := blk_lt hM.tb
  have hTRB : T ≠ RB := hM.ne
  have hpI : (p : Int) < (l.length : Int) := by omega
  have hp0 : (0 : Int) ≤ (p : Int) := by omega
  have hn24 := hI.n24
  have hl60 := hI.l60
  have HI := Lib.hid hI
  have HM := Lib.hid hM
  have HS := Lib.hid hS
  have HXS := Lib.hid hxs
  have hlo := hM.lo
  clear hb hc hI hS hxs hpe hM k1 k2
  subst hvv
  go_enter Tryd.func22, Tryd.ntmps22
  go_wp2_with (at_make; go_must (refine wpList_make_full _ rfl _ _ 32 rfl W2.heap.size 4 (Tryd.slBools.inf.choose) (.bool false) 1 Tryd.underlying32 Tryd.slBools.inf.choose_spec.1 Tryd.slBools.inf.choose_spec.2.1 Tryd.slBools.inf.choose_spec.2.2.1 .i64 .i64 W.n W.n W.n rfl rfl rfl rfl (by rw [Tryd.slBools.inf.choose_spec.2.2.2]; omega) (by unfold maxLen; omega) HM.out.ext.size ?_))
  intro w1 hown1 hg1
  have hE1 : Ext w w1 := (Ext.refl w).grown hg1 (Nat.le_refl _) (by simp)
  have hmx : (madeCells #[Value.bool false] W.n).toList = rowF W.n (fun _ => false) := by
    rw [toList_madeCells_one, rowF]
    apply List.ext_getElem?
    intro j
    by_cases h : j < W.n <;> simp [h]
  rw [hmx] at hown1
  obtain ⟨hB5, hR5, hA5, hB5', hw1⟩ := mid_world HM.out hE1 hown1 rfl
  have HB5 := Lib.hid hB5
  have HR5 := Lib.hid hR5
  have HA5 := Lib.hid hA5
  have HBB5 := Lib.hid hB5'
  have d4 := cell_later hE1 c4
  have dP := cell_later hE1 cP
  have gP : w1.frozen? ⟨RB, p, none⟩ = false := own_freeAt (own_ext HXS.out hE1) p
  clear hmx hown1 hg1 hE1 c2 c4 cP fP hB5 hR5 hA5 hB5'
  go_upto_region 2 with fail
  clear d4 dP gP
  go_upto_region 3 with fail
  generalize ((w1.setCell ⟨RB, p, none⟩ (.slice (some ⟨w.heap.size, 0, none⟩) W.n W.n)).alloc (Obj.cells #[.slice none 0 0] 32)).alloc (Obj.cells #[.slice none 0 0] 32) = w5 at *
  generalize w1.heap.size = A at *
  have c0 : w5.cell? ⟨T, 0, none⟩ = some (.slice (some ⟨bb, off, none⟩) l.length cf) := blk_cell (HM.out.tbl HB5.out) (i := 0) rfl
  have k1 := cell_later (HM.out.extX HB5.out) HK1.out
  have HPA := Lib.hid (show Calls Tryd.prog 28 #[.int .i64 13] w5 fun e w' => e = .returned (.tuple #[.int .i64 0, .int .i64 0]) ∧ w5 = w' from parts_good 13 w5 (HI.out.tab.ext (HM.out.extX HB5.out)) (by omega) (by omega))
  go_wp2_with fail
  refine HPA.out.mono ?_
  rintro e wq ⟨rfl, rfl⟩
  clear HPA c0 k1
  go_upto_region 8 with fail
  obtain ⟨w6, hw6⟩ : ∃ w6 : World, w6 = w5 := ⟨_, rfl⟩
  rw [← hw6]
  have HB6 := Lib.hid (hw6 ▸ HB5.out)
  have HR6 := Lib.hid (hw6 ▸ HR5.out)
  clear hw6 HB5 HR5 HA5 HBB5
  have c0 : w6.cell? ⟨T, 0, none⟩ = some (.slice (some ⟨bb, off, none⟩) l.length cf) := blk_cell (HM.out.tbl HB6.out) (i := 0) rfl
  have k1 := cell_later (HM.out.extX HB6.out) HK1.out
  have k2 := cell_later (HM.out.extX HB6.out) HK2.out
  go_upto_region 9 with fail
  clear c0 k1 k2
  have hx6 := ext_al (Ext.refl w6) (Obj.cells #[.int .i64 13, .int .i64 (vn : Int)] 41)
  have hO7 := blk_new w6 (Obj.cells #[.int .i64 13, .int .i64 (vn : Int)] 41)
  have hwle : w.heap.size < w6.heap.size := (HR6.out.lt _ rfl).2
  have HB7 := Lib.hid (Below.trans HB6.out (Below.mono hx6 (Nat.le_of_lt hwle)))
  have HR7 := Lib.hid (own_ext HR6.out hx6)
  generalize w6.alloc (Obj.cells #[.int .i64 13, .int .i64 (vn : Int)] 41) = w7 at *
  have hOR : w6.heap.size ≠ w.heap.size := by omega
  generalize w6.heap.size = O at *
  have HO7 := Lib.hid hO7
  have o0 := blk_cell hO7 (i := 0) rfl
  clear hx6 hO7 HB6 HR6
  obtain ⟨V, hV⟩ : ∃ V : Nat → Bool, V = satB W (.n0 13 (vn : Int)) := ⟨_, rfl⟩
  have HVS := Lib.hid hV
  have HVI := Lib.hid fun i => (congrFun hV i).trans (satB_prop W (vn : Int) i)
  clear hV
  go_upto_region 10 with fail
  clear o0
  go_wp2_with fail
  go_loopg [73] W.n (fun m x wr => ∃ i : Nat, m + i = W.n ∧ x = .int .i64 (i : Int) ∧ w7.grownBy wr (some w.heap.size) ∧ wr.ownsRow W2.heap.size 4 1 (.slice (some ⟨w.heap.size, 0, none⟩) W.n W.n) W.n (rowF W.n fun j => if j < i then V j else false))
  case atStart => exact ⟨0, by omega, by go_num, ⟨rfl, rfl, rfl, Nat.le_refl _, fun _ _ _ => rfl⟩, by simpa using HR7.out⟩
  case round =>
    obtain ⟨i, hmi, rfl, hg, hr⟩ := hrel
    have HMI := Lib.hid hmi
    have HG := Lib.hid hg
    have HRR := Lib.hid hr
    by_cases hi : i < W.n
    · have hvi := HVI.out i
      have o0 := blk_cell (blk_grown HO7.out hg (by simpa using hOR)) (i := 0) rfl
      have cR := rowF_cell hr hi
      have fR := own_freeAt hr i
      have hiI : (i : Int) < (W.n : Int) := by omega
      have hi0 : (0 : Int) ≤ (i : Int) := by omega
      have hll : i < W.ls.length := hi
      have hvl : vs.length = W.ls.length := HI.out.eL.1
      have c2 : wr.cell? ⟨T, 2, none⟩ = some (.slice aL W.n cL) := blk_cell (blk_grown (HM.out.tbl HB7.out) hg (by simp; omega)) (i := 2) rfl
      obtain ⟨bL, oL, rfl, hbl, cL1'⟩ := HM.out.letC HB7.out (List.getElem?_eq_getElem (show i < vs.length by omega))
      have hlx := HM.out.extX HB7.out
      obtain ⟨ax, cx, ex, rx⟩ := HI.out.eL.2 i _ _ (List.getElem?_eq_getElem (by omega)) (List.getElem?_eq_getElem hll)
      have hlen := HI.out.lets _ (List.getElem_mem hll)
      rw [ex, hlen] at cL1'
      obtain ⟨bx, ox, hx1, hx2⟩ := row_ints rx
      obtain rfl := hx1 (by omega)
      have cL2' := hx2 vn _ (getD_some (by omega))
      have b2 := World.block_lt_of_cell? _ _ cL2'
      have hW2 : W2.heap.size ≤ w.heap.size := HM.out.ext.size
      have cL1 := hg.cell cL1' (by simp; omega)
      have cL2 := hg.cell (cell_later hlx cL2') (by simp only at b2; simp; omega)
      have o1 := blk_cell (blk_grown HO7.out hg (by simpa using hOR)) (i := 1) rfl
      have hvi2 : V i = W.ls[i].getD vn false := by
        rw [hvi]; simp [List.getD, List.getElem?_eq_getElem hll]
      generalize W.ls[i].getD vn false = x at *
      have HVX := Lib.hid hvi2
      have hvI : (vn : Int) < (props : Int) := by omega
      have hvI0 : (0 : Int) ≤ (vn : Int) := by omega
      clear hmi hg hr hvi hvi2 hlx cL1' cL2' hx1 hx2 rx ex hlen b2 hll hvl hbl
      go_upto_region 15 with fail
      go_region
      all_goals
        go_wp2_with fail
        go_roundg (gk - 1)
        case measure => have := HMI.out; omega
        case rel => exact ⟨i + 1, by have := HMI.out; omega, by go_num, by first | exact grown_st HG.out | exact (grown_st HG.out).later_drew _, by have h := own_setAt HRR.out (i := i) (.bool (V i)); rw [rowF_set, upd_val] at h; first | exact h | exact own_ext h (Below.drew (Ext.refl _)) | (rw [HVX.out] at h; exact h)⟩
    · have hiI : ¬ (i : Int) < (W.n : Int) := by omega
      have hz : ∀ j, j < W.n → (if j < i then V j else false) = satB W (.n0 13 (vn : Int)) j := fun j hj => by rw [if_pos (by omega)]; exact congrFun HVS.out j
      have HEND := Lib.hid (HM.out.fin rfl hpl (Below.grown HB7.out hg (Nat.le_of_lt (HR7.out.lt _ rfl).2) (fun k hk => by injection hk with hk; omega)) hr HS.out.sub hz)
      clear hz hmi hg hr
      go_wp2
      go_end0
      exact ⟨rfl, HEND.out⟩
set_option maxRecDepth 100000 in
set_option maxHeartbeats 8000000 in
theorem fill_yes (W2 w : World) (T RB p : Nat) (l : List Op2) (es : List Int) (S : List Tm) (W : Wd) (af ae aL : Option Addr) (cf ce cL : Nat) (vs : List Value) (props : Nat)
    (hI : FIn W2 l es S W af ae cf ce vs props) (hM : TMem W2 w T RB l.length (.slice af l.length cf) (.slice ae es.length ce) aL cL vs W S (p + 1)) (hS : SubAt l es S p (.n0 11 0)) :
    Calls Tryd.prog 22 #[.pointer (some ⟨T, 0, none⟩), .int .i64 (p : Int)] w fun e w' => e = .returned (.tuple #[]) ∧ TMem W2 w' T RB l.length (.slice af l.length cf) (.slice ae es.length ce) aL cL vs W S p := by
  obtain ⟨hpl, hpe⟩ := List.getElem?_eq_some_iff.1 hS.op
  obtain ⟨xs, hxs⟩ := hM.rb
  have hxl : xs.length = l.length := by simpa using hxs.1
  have cP := own_cellAt hxs (i := p) (by omega)
  have fP := own_freeAt hxs p
  have c2 : w.cell? ⟨T, 2, none⟩ = some (.slice aL W.n cL) := blk_cell hM.tb (i := 2) rfl
  have c4 : w.cell? ⟨T, 4, none⟩ = some (.slice (some ⟨RB, 0, none⟩) l.length l.length) := blk_cell hM.tb (i := 4) rfl
  obtain ⟨bb, off, hb, hc⟩ := hI.rl.ops
  obtain rfl := hb (by omega)
  obtain ⟨k1, k2⟩ := hc p hpl
  rw [hpe] at k1 k2
  simp only [Tm.kd, Tm.vl] at k1 k2
  have HK1 := Lib.hid k1
  have HK2 := Lib.hid k2
  have hTlt : T < w.heap.size := blk_lt hM.tb
  have hTRB : T ≠ RB := hM.ne
  have hpI : (p : Int) < (l.length : Int) := by omega
  have hp0 : (0 : Int) ≤ (p : Int) := by omega
  have hn24 := hI.n24
  have hl60 := hI.l60
  have HI := Lib.hid hI
  have HM := Lib.hid hM
  have HS := Lib.hid hS
  have HXS := Lib.hid hxs
  have hlo := hM.lo
  clear hb hc hI hS hxs hpe hM k1 k2
  go_enter Tryd.func22, Tryd.ntmps22
  go_wp2_with (at_make; go_must (refine wpList_make_full _ rfl _ _ 32 rfl W2.heap.size 4 (Tryd.slBools.inf.choose) (.bool false) 1 Tryd.underlying32 Tryd.slBools.inf.choose_spec.1 Tryd.slBools.inf.choose_spec.2.1 Tryd.slBools.inf.choose_spec.2.2.1 .i64 .i64 W.n W.n W.n rfl rfl rfl rfl (by rw [Tryd.slBools.inf.choose_spec.2.2.2]; omega) (by unfold maxLen; omega) HM.out.ext.size ?_))
  intro w1 hown1 hg1
  have hE1 : Ext w w1 := (Ext.refl w).grown hg1 (Nat.le_refl _) (by simp)
  have hmx : (madeCells #[Value.bool false] W.n).toList = rowF W.n (fun _ => false) := by
    rw [toList_madeCells_one, rowF]
    apply List.ext_getElem?
    intro j
    by_cases h : j < W.n <;> simp [h]
  rw [hmx] at hown1
  obtain ⟨hB5, hR5, hA5, hB5', hw1⟩ := mid_world HM.out hE1 hown1 rfl
  have HB5 := Lib.hid hB5
  have HR5 := Lib.hid hR5
  have HA5 := Lib.hid hA5
  have HBB5 := Lib.hid hB5'
  have d4 := cell_later hE1 c4
  have dP := cell_later hE1 cP
  have gP : w1.frozen? ⟨RB, p, none⟩ = false := own_freeAt (own_ext HXS.out hE1) p
  clear hmx hown1 hg1 hE1 c2 c4 cP fP hB5 hR5 hA5 hB5'
  go_upto_region 2 with fail
  clear d4 dP gP
  go_upto_region 3 with fail
  generalize ((w1.setCell ⟨RB, p, none⟩ (.slice (some ⟨w.heap.size, 0, none⟩) W.n W.n)).alloc (Obj.cells #[.slice none 0 0] 32)).alloc (Obj.cells #[.slice none 0 0] 32) = w5 at *
  generalize w1.heap.size = A at *
  have c0 : w5.cell? ⟨T, 0, none⟩ = some (.slice (some ⟨bb, off, none⟩) l.length cf) := blk_cell (HM.out.tbl HB5.out) (i := 0) rfl
  have k1 := cell_later (HM.out.extX HB5.out) HK1.out
  have HPA := Lib.hid (show Calls Tryd.prog 28 #[.int .i64 11] w5 fun e w' => e = .returned (.tuple #[.int .i64 0, .int .i64 0]) ∧ w5 = w' from parts_good 11 w5 (HI.out.tab.ext (HM.out.extX HB5.out)) (by omega) (by omega))
  go_wp2_with fail
  refine HPA.out.mono ?_
  rintro e wq ⟨rfl, rfl⟩
  clear HPA c0 k1
  go_upto_region 8 with fail
  obtain ⟨w6, hw6⟩ : ∃ w6 : World, w6 = w5 := ⟨_, rfl⟩
  rw [← hw6]
  have HB6 := Lib.hid (hw6 ▸ HB5.out)
  have HR6 := Lib.hid (hw6 ▸ HR5.out)
  clear hw6 HB5 HR5 HA5 HBB5
  have c0 : w6.cell? ⟨T, 0, none⟩ = some (.slice (some ⟨bb, off, none⟩) l.length cf) := blk_cell (HM.out.tbl HB6.out) (i := 0) rfl
  have k1 := cell_later (HM.out.extX HB6.out) HK1.out
  have k2 := cell_later (HM.out.extX HB6.out) HK2.out
  go_upto_region 9 with fail
  clear c0 k1 k2
  have hx6 := ext_al (Ext.refl w6) (Obj.cells #[.int .i64 11, .int .i64 0] 41)
  have hO7 := blk_new w6 (Obj.cells #[.int .i64 11, .int .i64 0] 41)
  have hwle : w.heap.size < w6.heap.size := (HR6.out.lt _ rfl).2
  have HB7 := Lib.hid (Below.trans HB6.out (Below.mono hx6 (Nat.le_of_lt hwle)))
  have HR7 := Lib.hid (own_ext HR6.out hx6)
  generalize w6.alloc (Obj.cells #[.int .i64 11, .int .i64 0] 41) = w7 at *
  have hOR : w6.heap.size ≠ w.heap.size := by omega
  generalize w6.heap.size = O at *
  have HO7 := Lib.hid hO7
  have o0 := blk_cell hO7 (i := 0) rfl
  clear hx6 hO7 HB6 HR6
  obtain ⟨V, hV⟩ : ∃ V : Nat → Bool, V = satB W (.n0 11 0) := ⟨_, rfl⟩
  have HVS := Lib.hid hV
  have HVI := Lib.hid fun i => (congrFun hV i).trans (satB_yes W 0 i)
  clear hV
  go_upto_region 10 with fail
  clear o0
  go_wp2_with fail
  go_loopg [73] W.n (fun m x wr => ∃ i : Nat, m + i = W.n ∧ x = .int .i64 (i : Int) ∧ w7.grownBy wr (some w.heap.size) ∧ wr.ownsRow W2.heap.size 4 1 (.slice (some ⟨w.heap.size, 0, none⟩) W.n W.n) W.n (rowF W.n fun j => if j < i then V j else false))
  case atStart => exact ⟨0, by omega, by go_num, ⟨rfl, rfl, rfl, Nat.le_refl _, fun _ _ _ => rfl⟩, by simpa using HR7.out⟩
  case round =>
    obtain ⟨i, hmi, rfl, hg, hr⟩ := hrel
    have HMI := Lib.hid hmi
    have HG := Lib.hid hg
    have HRR := Lib.hid hr
    by_cases hi : i < W.n
    · have hvi := HVI.out i
      have o0 := blk_cell (blk_grown HO7.out hg (by simpa using hOR)) (i := 0) rfl
      have cR := rowF_cell hr hi
      have fR := own_freeAt hr i
      have hiI : (i : Int) < (W.n : Int) := by omega
      have hi0 : (0 : Int) ≤ (i : Int) := by omega
      have HVX := Lib.hid hvi
      clear hmi hg hr hvi
      go_wp2_with fail
      go_roundg (gk - 1)
      case measure => have := HMI.out; omega
      case rel => exact ⟨i + 1, by have := HMI.out; omega, by go_num, grown_st HG.out, by have h := own_setAt HRR.out (i := i) (.bool (V i)); rw [rowF_set, upd_val] at h; first | exact h | (rw [HVX.out] at h; exact h)⟩
    · have hiI : ¬ (i : Int) < (W.n : Int) := by omega
      have hz : ∀ j, j < W.n → (if j < i then V j else false) = satB W (.n0 11 0) j := fun j hj => by rw [if_pos (by omega)]; exact congrFun HVS.out j
      have HEND := Lib.hid (HM.out.fin rfl hpl (Below.grown HB7.out hg (Nat.le_of_lt (HR7.out.lt _ rfl).2) (fun k hk => by injection hk with hk; omega)) hr HS.out.sub hz)
      clear hz hmi hg hr
      go_wp2
      go_end0
      exact ⟨rfl, HEND.out⟩
set_option maxRecDepth 100000 in
set_option maxHeartbeats 8000000 in
theorem fill_no (W2 w : World) (T RB p : Nat) (l : List Op2) (es : List Int) (S : List Tm) (W : Wd) (af ae aL : Option Addr) (cf ce cL : Nat) (vs : List Value) (props : Nat)
    (hI : FIn W2 l es S W af ae cf ce vs props) (hM : TMem W2 w T RB l.length (.slice af l.length cf) (.slice ae es.length ce) aL cL vs W S (p + 1)) (hS : SubAt l es S p (.n0 12 0)) :
    Calls Tryd.prog 22 #[.pointer (some ⟨T, 0, none⟩), .int .i64 (p : Int)] w fun e w' => e = .returned (.tuple #[]) ∧ TMem W2 w' T RB l.length (.slice af l.length cf) (.slice ae es.length ce) aL cL vs W S p := by
  obtain ⟨hpl, hpe⟩ := List.getElem?_eq_some_iff.1 hS.op
  obtain ⟨xs, hxs⟩ := hM.rb
  have hxl : xs.length = l.length := by simpa using hxs.1
  have cP := own_cellAt hxs (i := p) (by omega)
  have fP := own_freeAt hxs p
  have c2 : w.cell? ⟨T, 2, none⟩ = some (.slice aL W.n cL) := blk_cell hM.tb (i := 2) rfl
  have c4 : w.cell? ⟨T, 4, none⟩ = some (.slice (some ⟨RB, 0, none⟩) l.length l.length) := blk_cell hM.tb (i := 4) rfl
  obtain ⟨bb, off, hb, hc⟩ := hI.rl.ops
  obtain rfl := hb (by omega)
  obtain ⟨k1, k2⟩ := hc p hpl
  rw [hpe] at k1 k2
  simp only [Tm.kd, Tm.vl] at k1 k2
  have HK1 := Lib.hid k1
  have HK2 := Lib.hid k2
  have hTlt : T < w.heap.size := blk_lt hM.tb
  have hTRB : T ≠ RB := hM.ne
  have hpI : (p : Int) < (l.length : Int) := by omega
  have hp0 : (0 : Int) ≤ (p : Int) := by omega
  have hn24 := hI.n24
  have hl60 := hI.l60
  have HI := Lib.hid hI
  have HM := Lib.hid hM
  have HS := Lib.hid hS
  have HXS := Lib.hid hxs
  have hlo := hM.lo
  clear hb hc hI hS hxs hpe hM k1 k2
  go_enter Tryd.func22, Tryd.ntmps22
  go_wp2_with (at_make; go_must (refine wpList_make_full _ rfl _ _ 32 rfl W2.heap.size 4 (Tryd.slBools.inf.choose) (.bool false) 1 Tryd.underlying32 Tryd.slBools.inf.choose_spec.1 Tryd.slBools.inf.choose_spec.2.1 Tryd.slBools.inf.choose_spec.2.2.1 .i64 .i64 W.n W.n W.n rfl rfl rfl rfl (by rw [Tryd.slBools.inf.choose_spec.2.2.2]; omega) (by unfold maxLen; omega) HM.out.ext.size ?_))
  intro w1 hown1 hg1
  have hE1 : Ext w w1 := (Ext.refl w).grown hg1 (Nat.le_refl _) (by simp)
  have hmx : (madeCells #[Value.bool false] W.n).toList = rowF W.n (fun _ => false) := by
    rw [toList_madeCells_one, rowF]
    apply List.ext_getElem?
    intro j
    by_cases h : j < W.n <;> simp [h]
  rw [hmx] at hown1
  obtain ⟨hB5, hR5, hA5, hB5', hw1⟩ := mid_world HM.out hE1 hown1 rfl
  have HB5 := Lib.hid hB5
  have HR5 := Lib.hid hR5
  have HA5 := Lib.hid hA5
  have HBB5 := Lib.hid hB5'
  have d4 := cell_later hE1 c4
  have dP := cell_later hE1 cP
  have gP : w1.frozen? ⟨RB, p, none⟩ = false := own_freeAt (own_ext HXS.out hE1) p
  clear hmx hown1 hg1 hE1 c2 c4 cP fP hB5 hR5 hA5 hB5'
  go_upto_region 2 with fail
  clear d4 dP gP
  go_upto_region 3 with fail
  generalize ((w1.setCell ⟨RB, p, none⟩ (.slice (some ⟨w.heap.size, 0, none⟩) W.n W.n)).alloc (Obj.cells #[.slice none 0 0] 32)).alloc (Obj.cells #[.slice none 0 0] 32) = w5 at *
  generalize w1.heap.size = A at *
  have c0 : w5.cell? ⟨T, 0, none⟩ = some (.slice (some ⟨bb, off, none⟩) l.length cf) := blk_cell (HM.out.tbl HB5.out) (i := 0) rfl
  have k1 := cell_later (HM.out.extX HB5.out) HK1.out
  have HPA := Lib.hid (show Calls Tryd.prog 28 #[.int .i64 12] w5 fun e w' => e = .returned (.tuple #[.int .i64 0, .int .i64 0]) ∧ w5 = w' from parts_good 12 w5 (HI.out.tab.ext (HM.out.extX HB5.out)) (by omega) (by omega))
  go_wp2_with fail
  refine HPA.out.mono ?_
  rintro e wq ⟨rfl, rfl⟩
  clear HPA c0 k1
  go_upto_region 8 with fail
  obtain ⟨w6, hw6⟩ : ∃ w6 : World, w6 = w5 := ⟨_, rfl⟩
  rw [← hw6]
  have HB6 := Lib.hid (hw6 ▸ HB5.out)
  have HR6 := Lib.hid (hw6 ▸ HR5.out)
  clear hw6 HB5 HR5 HA5 HBB5
  have c0 : w6.cell? ⟨T, 0, none⟩ = some (.slice (some ⟨bb, off, none⟩) l.length cf) := blk_cell (HM.out.tbl HB6.out) (i := 0) rfl
  have k1 := cell_later (HM.out.extX HB6.out) HK1.out
  have k2 := cell_later (HM.out.extX HB6.out) HK2.out
  go_upto_region 9 with fail
  clear c0 k1 k2
  have hx6 := ext_al (Ext.refl w6) (Obj.cells #[.int .i64 12, .int .i64 0] 41)
  have hO7 := blk_new w6 (Obj.cells #[.int .i64 12, .int .i64 0] 41)
  have hwle : w.heap.size < w6.heap.size := (HR6.out.lt _ rfl).2
  have HB7 := Lib.hid (Below.trans HB6.out (Below.mono hx6 (Nat.le_of_lt hwle)))
  have HR7 := Lib.hid (own_ext HR6.out hx6)
  generalize w6.alloc (Obj.cells #[.int .i64 12, .int .i64 0] 41) = w7 at *
  have hOR : w6.heap.size ≠ w.heap.size := by omega
  generalize w6.heap.size = O at *
  have HO7 := Lib.hid hO7
  have o0 := blk_cell hO7 (i := 0) rfl
  clear hx6 hO7 HB6 HR6
  obtain ⟨V, hV⟩ : ∃ V : Nat → Bool, V = satB W (.n0 12 0) := ⟨_, rfl⟩
  have HVS := Lib.hid hV
  have HVI := Lib.hid fun i => (congrFun hV i).trans (satB_no W 0 i)
  clear hV
  go_upto_region 10 with fail
  clear o0
  go_wp2_with fail
  go_loopg [73] W.n (fun m x wr => ∃ i : Nat, m + i = W.n ∧ x = .int .i64 (i : Int) ∧ w7.grownBy wr (some w.heap.size) ∧ wr.ownsRow W2.heap.size 4 1 (.slice (some ⟨w.heap.size, 0, none⟩) W.n W.n) W.n (rowF W.n fun j => if j < i then V j else false))
  case atStart => exact ⟨0, by omega, by go_num, ⟨rfl, rfl, rfl, Nat.le_refl _, fun _ _ _ => rfl⟩, by simpa using HR7.out⟩
  case round =>
    obtain ⟨i, hmi, rfl, hg, hr⟩ := hrel
    have HMI := Lib.hid hmi
    have HG := Lib.hid hg
    have HRR := Lib.hid hr
    by_cases hi : i < W.n
    · have hvi := HVI.out i
      have o0 := blk_cell (blk_grown HO7.out hg (by simpa using hOR)) (i := 0) rfl
      have cR := rowF_cell hr hi
      have fR := own_freeAt hr i
      have hiI : (i : Int) < (W.n : Int) := by omega
      have hi0 : (0 : Int) ≤ (i : Int) := by omega
      have HVX := Lib.hid hvi
      clear hmi hg hr cR fR hvi
      go_wp2_with fail
      go_roundg (gk - 1)
      case measure => have := HMI.out; omega
      case rel => exact ⟨i + 1, by have := HMI.out; omega, by go_num, HG.out, by rw [← keep_val HVX.out]; exact HRR.out⟩
    · have hiI : ¬ (i : Int) < (W.n : Int) := by omega
      have hz : ∀ j, j < W.n → (if j < i then V j else false) = satB W (.n0 12 0) j := fun j hj => by rw [if_pos (by omega)]; exact congrFun HVS.out j
      have HEND := Lib.hid (HM.out.fin rfl hpl (Below.grown HB7.out hg (Nat.le_of_lt (HR7.out.lt _ rfl).2) (fun k hk => by injection hk with hk; omega)) hr HS.out.sub hz)
      clear hz hmi hg hr
      go_wp2
      go_end0
      exact ⟨rfl, HEND.out⟩
end Go.Proofs.YthkiegaifkkegaaDoor
