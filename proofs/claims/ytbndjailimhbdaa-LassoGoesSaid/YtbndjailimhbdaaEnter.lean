/- The contract of scc's (*search).enter. -/
import Derived.Test.YtbndjailimhbdaaSMem
import Derived.Deep.RegionWith
namespace Go.Proofs.Ytbndjailimhbdaa
open Go.RowKit

section
variable {τ : Nat → Nat} {B P n Do Dl Dp : Nat} {g0 g1 g2 g3 g4 : Value} {w w' : World} {vo vc : Value} {ow lw pw : List Int} {ol : List Int} {cl : List Sp2} {met : Int}
theorem SM.pushOpn (h : SM τ B P n Do Dl Dp g0 g1 g2 g3 g4 w vo vc ow lw pw ol cl met) {v' : Value} {m : Nat} {xs : List Value} (x : Int) (ho : w'.ownsRow B 3 1 v' m xs) (hm : m = ol.length + 1) (hx : xs = ol.map (.int .i64) ++ [.int .i64 x])
    (hg : w.grownBy w' vo.ownBlock) (hb : v'.ownBlock = vo.ownBlock ∨ v'.ownBlock = some w.heap.size) :
    w'.heap[P]? = w.heap[P]? ∧ ∃ τ', SM τ' B P n Do Dl Dp g0 g1 g2 g3 g4 (w'.setCell ⟨P, 8, none⟩ v') v' vc ow lw pw (ol ++ [x]) cl met ∧ Below B w (w'.setCell ⟨P, 8, none⟩ v') := by
  obtain ⟨τ', _, o4, hP, hP0, o1, o2, o3, o5, hB⟩ := h.appOpn x ho hm hx hg hb
  have b := blk_set (hP.trans h.blk) (i := 8) v'
  refine ⟨hP, τ', ⟨b, o1.set (p := ⟨P, 8, none⟩) (by show τ' P ≠ 1; omega) _, o2.set (p := ⟨P, 8, none⟩) (by show τ' P ≠ 2; omega) _, o3.set (p := ⟨P, 8, none⟩) (by show τ' P ≠ 3; omega) _, o4.set (p := ⟨P, 8, none⟩) (by show τ' P ≠ 4; omega) _, o5.set (p := ⟨P, 8, none⟩) (by show τ' P ≠ 5; omega) _, hP0, h.new⟩, hB.setCell (p := ⟨P, 8, none⟩) h.new _⟩
theorem SM.pushCls (h : SM τ B P n Do Dl Dp g0 g1 g2 g3 g4 w vo vc ow lw pw ol cl met) {v' : Value} {m : Nat} {xs : List Value} (x : Sp2) (ho : w'.ownsRow B 62 2 v' m xs) (hm : m = cl.length + 1) (hx : xs = cl.flatMap spc ++ spc x)
    (hg : w.grownBy w' vc.ownBlock) (hb : v'.ownBlock = vc.ownBlock ∨ v'.ownBlock = some w.heap.size) :
    w'.heap[P]? = w.heap[P]? ∧ ∃ τ', SM τ' B P n Do Dl Dp g0 g1 g2 g3 g4 (w'.setCell ⟨P, 9, none⟩ v') vo v' ow lw pw ol (cl ++ [x]) met ∧ Below B w (w'.setCell ⟨P, 9, none⟩ v') := by
  obtain ⟨τ', _, o5, hP, hP0, o1, o2, o3, o4, hB⟩ := h.appCls x ho hm hx hg hb
  have b := blk_set (hP.trans h.blk) (i := 9) v'
  refine ⟨hP, τ', ⟨b, o1.set (p := ⟨P, 9, none⟩) (by show τ' P ≠ 1; omega) _, o2.set (p := ⟨P, 9, none⟩) (by show τ' P ≠ 2; omega) _, o3.set (p := ⟨P, 9, none⟩) (by show τ' P ≠ 3; omega) _, o4.set (p := ⟨P, 9, none⟩) (by show τ' P ≠ 4; omega) _, o5.set (p := ⟨P, 9, none⟩) (by show τ' P ≠ 5; omega) _, hP0, h.new⟩, hB.setCell (p := ⟨P, 9, none⟩) h.new _⟩
end

set_option maxRecDepth 100000 in
set_option maxHeartbeats 4000000 in
theorem enter_any (τ : Nat → Nat) (B P n Do Dl Dp : Nat) (g0 g1 g2 g3 g4 : Value) (w : World) (vo vc : Value) (ow lw pw : List Int) (ol : List Int) (cl : List Sp2) (met : Int) (h : SM τ B P n Do Dl Dp g0 g1 g2 g3 g4 w vo vc ow lw pw ol cl met)
    (a : Nat) (ha : a < n) (h1 : ol.length ≤ 20000) (h2 : cl.length ≤ 20000) (h3 : 0 ≤ met) (h4 : met ≤ 20000) :
    Calls Try.prog 20 #[.pointer (some ⟨P, 0, none⟩), .int .i64 (a : Int)] w fun e w' => e = .returned (.tuple #[]) ∧ (∃ τ' vo' vc', SM τ' B P n Do Dl Dp g0 g1 g2 g3 g4 w' vo' vc' (ow.set a (met + 1)) (lw.set a (met + 1)) pw (ol ++ [(a : Int)]) (cl ++ [((a : Int), 0)]) (met + 1)) ∧ Below B w w' := by
  obtain ⟨ao, co, rfl, _⟩ := h.opn.own.row
  obtain ⟨ac, cc, rfl, _⟩ := h.cls.own.row
  have hnew := h.new
  have hP := blk_lt h.blk
  have c10 := blk_cell h.blk (i := 10) rfl
  have f10 := blk_free h.blk 10
  have hm := h.setMet (met + 1)
  have c5 := blk_cell hm.blk (i := 5) rfl
  have c6 := blk_cell hm.blk (i := 6) rfl
  have c10' := blk_cell hm.blk (i := 10) rfl
  obtain ⟨l1, l2, l3⟩ := h.lens
  obtain ⟨y1, co0⟩ : ∃ y, (w.setCell ⟨P, 10, none⟩ (.int .i64 (met + 1))).cell? ⟨Do, a, none⟩ = some (.int .i64 y) := ⟨_, (own_cellAt hm.ord.own (i := a) (by simpa using (by omega : a < ow.length))).trans (by rw [List.getElem_map])⟩
  obtain ⟨y2, cl0⟩ : ∃ y, (w.setCell ⟨P, 10, none⟩ (.int .i64 (met + 1))).cell? ⟨Dl, a, none⟩ = some (.int .i64 y) := ⟨_, (own_cellAt hm.low.own (i := a) (by simpa using (by omega : a < lw.length))).trans (by rw [List.getElem_map])⟩
  have fo0 := own_freeAt hm.ord.own a
  have fl0 := own_freeAt hm.low.own a
  obtain ⟨n1, n2, n3, n4, n5, n6⟩ := h.nes
  have n1' := Ne.symm n1
  have n2' := Ne.symm n2
  have n4' := Ne.symm n4
  have haI : (a : Int) < (n : Int) := by omega
  have haI0 : (0 : Int) ≤ (a : Int) := by omega
  have hb1 : Below B w (w.setCell ⟨P, 10, none⟩ (.int .i64 (met + 1))) := (Below.refl B w).setCell (p := ⟨P, 10, none⟩) hnew _
  have HM := Lib.hid hm
  have HB1 := Lib.hid hb1
  have hbs := h.bases
  have HBS := Lib.hid hbs
  clear h hm hb1 hbs l1 l2 l3
  go_enter Try.func20, Try.ntmps20
  go_wp2_with fail
  generalize w.setCell ⟨P, 10, none⟩ (.int .i64 (met + 1)) = W1 at *
  clear c10 f10
  go_region
  all_goals
    have hE : Ext ((W1.setCell ⟨Do, a, none⟩ (.int .i64 (met + 1))).setCell ⟨Dl, a, none⟩ (.int .i64 (met + 1))) ((W1.setCell ⟨Do, a, none⟩ (.int .i64 (met + 1))).setCell ⟨Dl, a, none⟩ (.int .i64 (met + 1))).drew := Below.drew (Ext.refl _)
    have hm2 := ((HM.out.setOrd a (met + 1)).setLow a (met + 1)).ext hE
    have hb2 : Below B w ((W1.setCell ⟨Do, a, none⟩ (.int .i64 (met + 1))).setCell ⟨Dl, a, none⟩ (.int .i64 (met + 1))).drew := Below.drew ((HB1.out.setCell (p := ⟨Do, a, none⟩) HBS.out.1 _).setCell (p := ⟨Dl, a, none⟩) HBS.out.2.1 _)
    clear hE c5 c6 c10' co0 cl0 fo0 fl0 HM HB1
    generalize ((W1.setCell ⟨Do, a, none⟩ (.int .i64 (met + 1))).setCell ⟨Dl, a, none⟩ (.int .i64 (met + 1))).drew = W2 at *
    have c8 := blk_cell hm2.blk (i := 8) rfl
    have ho2 := hm2.opn.own.alloc (Obj.cells #[.int .i64 (a : Int)] 3)
    have hs2 : P < W2.heap.size := blk_lt hm2.blk
    have HM2 := Lib.hid (hm2.ext (ext_al (Ext.refl _) (Obj.cells #[.int .i64 (a : Int)] 3)))
    have HB2 := Lib.hid (Below.alloc hb2 (by omega) (Obj.cells #[.int .i64 (a : Int)] 3))
    clear hm2 hb2
    go_wp2_with (at_builtin; go_must (refine wpl_append rfl rfl Try.slIntsG B rfl ho2 rfl (Row.oneG _ _ _ _ (by simp)) (one_int _) (by unfold maxLen; omega) (by omega) (by simp; omega) ?_))
    intro v3 w3 hown3 hg3 hb3 _
    obtain ⟨hP3, τ3, hm3, hB3⟩ := HM2.out.pushOpn (a : Int) hown3 rfl rfl hg3 (by rcases hb3 with h | h; exact .inl h; right; rw [h]; simp)
    obtain ⟨a3, c3, rfl, _⟩ := hown3.row
    have c8 := blk_cell (hP3.trans HM2.out.blk) (i := 8) rfl
    have f8 := blk_free (hP3.trans HM2.out.blk) 8
    have c9 := blk_cell (hP3.trans HM2.out.blk) (i := 9) rfl
    have hb4 : Below B w (w3.setCell ⟨P, 8, none⟩ (.slice a3 (ol.length + 1) c3)) := HB2.out.trans hB3
    have ho3 := hm3.cls.own.alloc (Obj.cells #[.int .i64 (a : Int), .int .i64 0] 62)
    have hs3 : P < w3.heap.size := by have := blk_lt hm3.blk; simpa using this
    have HM3 := Lib.hid (hm3.ext (ext_al (Ext.refl _) (Obj.cells #[.int .i64 (a : Int), .int .i64 0] 62)))
    have HB3 := Lib.hid (Below.alloc hb4 (by simp; omega) (Obj.cells #[.int .i64 (a : Int), .int .i64 0] 62))
    clear hown3 hg3 hb3 hP3 hm3 hB3 hb4 ho2 HM2 HB2
    go_wp2_with (at_builtin; go_must (refine wpl_append rfl rfl Try.slFrames B rfl ho3 rfl (Row.newOpAt _ _ _ _ _ (by simp)) (by simp [spc, Value.oneCell']) (by unfold maxLen; omega) (by omega) (by simp; omega) ?_))
    intro v4 w4 hown4 hg4 hb4 _
    obtain ⟨hP4, τ4, hm4, hB4⟩ := HM3.out.pushCls ((a : Int), 0) hown4 rfl rfl hg4 (by rcases hb4 with h | h; exact .inl h; right; rw [h]; simp)
    obtain ⟨a4, c4, rfl, _⟩ := hown4.row
    have c9 := blk_cell (hP4.trans HM3.out.blk) (i := 9) rfl
    have f9 := blk_free (hP4.trans HM3.out.blk) 9
    have hb5 := HB3.out.trans hB4
    have HM4 := Lib.hid hm4
    have HB4 := Lib.hid hb5
    clear hown4 hg4 hb4 hP4 hm4 hB4 hb5 ho3 HM3 HB3 c8 f8
    go_wp2
    go_end0
    exact ⟨rfl, ⟨τ4, _, _, HM4.out⟩, HB4.out⟩

end Go.Proofs.Ytbndjailimhbdaa
