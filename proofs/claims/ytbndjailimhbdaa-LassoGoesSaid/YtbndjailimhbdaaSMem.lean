/- What a search of scc's holds. -/
import Derived.Test.YtbndjailimhbdaaReached
import Derived.Test.YtbndjailimhbdaaTarjan
namespace Go.Proofs.Ytbndjailimhbdaa
open Go.RowKit

theorem Try.slFrames : SlTy Try.prog 55 62 (.agg #[.int .i64 0, .int .i64 0]) 2 16 := SlTy.mk' Try.underlying55 (by kernel_rfl) (by rfl) (by omega)

theorem Row.newOpAt (w : World) (t : TypeId) (k v : Int) (b : Nat) (hb : b = w.heap.size) : Row (w.alloc (.cells #[.int .i64 k, .int .i64 v] t)) 2 (some ⟨b, 0, none⟩) 1 1 (spc (k, v)) := by subst hb; exact Row.newSp w t k v

/-- The search's block P (its graph's five cells, then order, low, part, open, calls, met), and the rows behind it. -/
structure SM (τ : Nat → Nat) (B P n : Nat) (Do Dl Dp : Nat) (g0 g1 g2 g3 g4 : Value) (w : World) (vo vc : Value) (ow lw pw : List Int) (ol : List Int) (cl : List Sp2) (met : Int) : Prop where
  blk : w.heap[P]? = some (.cells #[g0, g1, g2, g3, g4, .slice (some ⟨Do, 0, none⟩) n n, .slice (some ⟨Dl, 0, none⟩) n n, .slice (some ⟨Dp, 0, none⟩) n n, vo, vc, .int .i64 met] 57 (0, 0))
  ord : OwnT τ 1 w B 3 1 (.slice (some ⟨Do, 0, none⟩) n n) n (ow.map (.int .i64))
  low : OwnT τ 2 w B 3 1 (.slice (some ⟨Dl, 0, none⟩) n n) n (lw.map (.int .i64))
  prt : OwnT τ 3 w B 3 1 (.slice (some ⟨Dp, 0, none⟩) n n) n (pw.map (.int .i64))
  opn : OwnT τ 4 w B 3 1 vo ol.length (ol.map (.int .i64))
  cls : OwnT τ 5 w B 62 2 vc cl.length (cl.flatMap spc)
  tag : τ P = 0
  new : B ≤ P

section
variable {τ : Nat → Nat} {B P n Do Dl Dp : Nat} {g0 g1 g2 g3 g4 : Value} {w w' : World} {vo vc : Value} {ow lw pw : List Int} {ol : List Int} {cl : List Sp2} {met : Int}
theorem SM.ext (h : SM τ B P n Do Dl Dp g0 g1 g2 g3 g4 w vo vc ow lw pw ol cl met) (hE : Ext w w') : SM τ B P n Do Dl Dp g0 g1 g2 g3 g4 w' vo vc ow lw pw ol cl met :=
  ⟨blk_ext h.blk hE, h.ord.ext hE, h.low.ext hE, h.prt.ext hE, h.opn.ext hE, h.cls.ext hE, h.tag, h.new⟩
theorem SM.lens (h : SM τ B P n Do Dl Dp g0 g1 g2 g3 g4 w vo vc ow lw pw ol cl met) : ow.length = n ∧ lw.length = n ∧ pw.length = n := ⟨by simpa using h.ord.own.1, by simpa using h.low.own.1, by simpa using h.prt.own.1⟩
theorem SM.tags (h : SM τ B P n Do Dl Dp g0 g1 g2 g3 g4 w vo vc ow lw pw ol cl met) : τ Do = 1 ∧ τ Dl = 2 ∧ τ Dp = 3 := ⟨h.ord.tag Do rfl, h.low.tag Dl rfl, h.prt.tag Dp rfl⟩
theorem SM.nes (h : SM τ B P n Do Dl Dp g0 g1 g2 g3 g4 w vo vc ow lw pw ol cl met) : P ≠ Do ∧ P ≠ Dl ∧ P ≠ Dp ∧ Do ≠ Dl ∧ Do ≠ Dp ∧ Dl ≠ Dp := by
  obtain ⟨h1, h2, h3⟩ := h.tags
  have h0 := h.tag
  exact ⟨fun e => by rw [e] at h0; omega, fun e => by rw [e] at h0; omega, fun e => by rw [e] at h0; omega, fun e => by rw [e] at h1; omega, fun e => by rw [e] at h1; omega, fun e => by rw [e] at h2; omega⟩
theorem SM.bases (h : SM τ B P n Do Dl Dp g0 g1 g2 g3 g4 w vo vc ow lw pw ol cl met) : B ≤ Do ∧ B ≤ Dl ∧ B ≤ Dp := ⟨(h.ord.own.lt Do rfl).1, (h.low.own.lt Dl rfl).1, (h.prt.own.lt Dp rfl).1⟩

theorem set_map_int (l : List Int) (i : Nat) (x : Int) : (l.map (Value.int .i64)).set i (.int .i64 x) = (l.set i x).map (.int .i64) := by rw [List.map_set]

theorem SM.setOrd (h : SM τ B P n Do Dl Dp g0 g1 g2 g3 g4 w vo vc ow lw pw ol cl met) (i : Nat) (x : Int) : SM τ B P n Do Dl Dp g0 g1 g2 g3 g4 (w.setCell ⟨Do, i, none⟩ (.int .i64 x)) vo vc (ow.set i x) lw pw ol cl met := by
  obtain ⟨t1, t2, t3⟩ := h.tags
  obtain ⟨n1, n2, n3, n4, n5, n6⟩ := h.nes
  exact ⟨blk_far h.blk (p := ⟨Do, i, none⟩) (Ne.symm n1) _, by rw [← set_map_int]; exact h.ord.setAt _, h.low.set (p := ⟨Do, i, none⟩) (by show τ Do ≠ 2; omega) _, h.prt.set (p := ⟨Do, i, none⟩) (by show τ Do ≠ 3; omega) _, h.opn.set (p := ⟨Do, i, none⟩) (by show τ Do ≠ 4; omega) _, h.cls.set (p := ⟨Do, i, none⟩) (by show τ Do ≠ 5; omega) _, h.tag, h.new⟩
theorem SM.setLow (h : SM τ B P n Do Dl Dp g0 g1 g2 g3 g4 w vo vc ow lw pw ol cl met) (i : Nat) (x : Int) : SM τ B P n Do Dl Dp g0 g1 g2 g3 g4 (w.setCell ⟨Dl, i, none⟩ (.int .i64 x)) vo vc ow (lw.set i x) pw ol cl met := by
  obtain ⟨t1, t2, t3⟩ := h.tags
  obtain ⟨n1, n2, n3, n4, n5, n6⟩ := h.nes
  exact ⟨blk_far h.blk (p := ⟨Dl, i, none⟩) (Ne.symm n2) _, h.ord.set (p := ⟨Dl, i, none⟩) (by show τ Dl ≠ 1; omega) _, by rw [← set_map_int]; exact h.low.setAt _, h.prt.set (p := ⟨Dl, i, none⟩) (by show τ Dl ≠ 3; omega) _, h.opn.set (p := ⟨Dl, i, none⟩) (by show τ Dl ≠ 4; omega) _, h.cls.set (p := ⟨Dl, i, none⟩) (by show τ Dl ≠ 5; omega) _, h.tag, h.new⟩
theorem SM.setPrt (h : SM τ B P n Do Dl Dp g0 g1 g2 g3 g4 w vo vc ow lw pw ol cl met) (i : Nat) (x : Int) : SM τ B P n Do Dl Dp g0 g1 g2 g3 g4 (w.setCell ⟨Dp, i, none⟩ (.int .i64 x)) vo vc ow lw (pw.set i x) ol cl met := by
  obtain ⟨t1, t2, t3⟩ := h.tags
  obtain ⟨n1, n2, n3, n4, n5, n6⟩ := h.nes
  exact ⟨blk_far h.blk (p := ⟨Dp, i, none⟩) (Ne.symm n3) _, h.ord.set (p := ⟨Dp, i, none⟩) (by show τ Dp ≠ 1; omega) _, h.low.set (p := ⟨Dp, i, none⟩) (by show τ Dp ≠ 2; omega) _, by rw [← set_map_int]; exact h.prt.setAt _, h.opn.set (p := ⟨Dp, i, none⟩) (by show τ Dp ≠ 4; omega) _, h.cls.set (p := ⟨Dp, i, none⟩) (by show τ Dp ≠ 5; omega) _, h.tag, h.new⟩
theorem SM.setMet (h : SM τ B P n Do Dl Dp g0 g1 g2 g3 g4 w vo vc ow lw pw ol cl met) (x : Int) : SM τ B P n Do Dl Dp g0 g1 g2 g3 g4 (w.setCell ⟨P, 10, none⟩ (.int .i64 x)) vo vc ow lw pw ol cl x := by
  have t0 := h.tag
  exact ⟨blk_set h.blk (i := 10) _, h.ord.set (p := ⟨P, 10, none⟩) (by show τ P ≠ 1; omega) _, h.low.set (p := ⟨P, 10, none⟩) (by show τ P ≠ 2; omega) _, h.prt.set (p := ⟨P, 10, none⟩) (by show τ P ≠ 3; omega) _, h.opn.set (p := ⟨P, 10, none⟩) (by show τ P ≠ 4; omega) _, h.cls.set (p := ⟨P, 10, none⟩) (by show τ P ≠ 5; omega) _, h.tag, h.new⟩
/-- Open is stored anew. -/
theorem SM.setOpn (h : SM τ B P n Do Dl Dp g0 g1 g2 g3 g4 w vo vc ow lw pw ol cl met) {vo' : Value} {ol' : List Int} (ho : OwnT τ 4 w B 3 1 vo' ol'.length (ol'.map (.int .i64))) : SM τ B P n Do Dl Dp g0 g1 g2 g3 g4 (w.setCell ⟨P, 8, none⟩ vo') vo' vc ow lw pw ol' cl met := by
  have t0 := h.tag
  exact ⟨blk_set h.blk (i := 8) _, h.ord.set (p := ⟨P, 8, none⟩) (by show τ P ≠ 1; omega) _, h.low.set (p := ⟨P, 8, none⟩) (by show τ P ≠ 2; omega) _, h.prt.set (p := ⟨P, 8, none⟩) (by show τ P ≠ 3; omega) _, ho.set (p := ⟨P, 8, none⟩) (by show τ P ≠ 4; omega) _, h.cls.set (p := ⟨P, 8, none⟩) (by show τ P ≠ 5; omega) _, h.tag, h.new⟩
theorem SM.setCls (h : SM τ B P n Do Dl Dp g0 g1 g2 g3 g4 w vo vc ow lw pw ol cl met) {vc' : Value} {cl' : List Sp2} (ho : OwnT τ 5 w B 62 2 vc' cl'.length (cl'.flatMap spc)) : SM τ B P n Do Dl Dp g0 g1 g2 g3 g4 (w.setCell ⟨P, 9, none⟩ vc') vo vc' ow lw pw ol cl' met := by
  have t0 := h.tag
  exact ⟨blk_set h.blk (i := 9) _, h.ord.set (p := ⟨P, 9, none⟩) (by show τ P ≠ 1; omega) _, h.low.set (p := ⟨P, 9, none⟩) (by show τ P ≠ 2; omega) _, h.prt.set (p := ⟨P, 9, none⟩) (by show τ P ≠ 3; omega) _, h.opn.set (p := ⟨P, 9, none⟩) (by show τ P ≠ 4; omega) _, ho.set (p := ⟨P, 9, none⟩) (by show τ P ≠ 5; omega) _, h.tag, h.new⟩
/-- Behind an append onto open's row (not yet stored). -/
theorem SM.appOpn (h : SM τ B P n Do Dl Dp g0 g1 g2 g3 g4 w vo vc ow lw pw ol cl met) {v' : Value} {m : Nat} {xs : List Value} (x : Int) (ho : w'.ownsRow B 3 1 v' m xs) (hm : m = ol.length + 1) (hx : xs = ol.map (.int .i64) ++ [.int .i64 x])
    (hg : w.grownBy w' vo.ownBlock) (hb : v'.ownBlock = vo.ownBlock ∨ v'.ownBlock = some w.heap.size) :
    ∃ τ', (∀ b, b < w.heap.size → τ' b = τ b) ∧ OwnT τ' 4 w' B 3 1 v' (ol ++ [x]).length ((ol ++ [x]).map (.int .i64)) ∧ w'.heap[P]? = w.heap[P]? ∧ τ' P = 0 ∧
      OwnT τ' 1 w' B 3 1 (.slice (some ⟨Do, 0, none⟩) n n) n (ow.map (.int .i64)) ∧ OwnT τ' 2 w' B 3 1 (.slice (some ⟨Dl, 0, none⟩) n n) n (lw.map (.int .i64)) ∧ OwnT τ' 3 w' B 3 1 (.slice (some ⟨Dp, 0, none⟩) n n) n (pw.map (.int .i64)) ∧ OwnT τ' 5 w' B 62 2 vc cl.length (cl.flatMap spc) ∧ Below B w w' := by
  subst hm; subst hx
  have hP := blk_lt h.blk
  have hne : some P ≠ vo.ownBlock := fun e => by have := h.opn.tag P e.symm; have := h.tag; omega
  have o4 := h.opn.app ho hb
  have hB : B ≤ w.heap.size := by have := h.new; omega
  refine ⟨tagAt τ w.heap.size 4, fun b hb => tagAt_lt hb, by simpa using o4, hg.block P hP hne, by rw [tagAt_lt hP]; exact h.tag, h.ord.other h.opn hg (by omega), h.low.other h.opn hg (by omega), h.prt.other h.opn hg (by omega), h.cls.other h.opn hg (by omega), (Below.refl B w).grown hg hB (fun b hb => (h.opn.own.lt b hb).1)⟩
theorem SM.appCls (h : SM τ B P n Do Dl Dp g0 g1 g2 g3 g4 w vo vc ow lw pw ol cl met) {v' : Value} {m : Nat} {xs : List Value} (x : Sp2) (ho : w'.ownsRow B 62 2 v' m xs) (hm : m = cl.length + 1) (hx : xs = cl.flatMap spc ++ spc x)
    (hg : w.grownBy w' vc.ownBlock) (hb : v'.ownBlock = vc.ownBlock ∨ v'.ownBlock = some w.heap.size) :
    ∃ τ', (∀ b, b < w.heap.size → τ' b = τ b) ∧ OwnT τ' 5 w' B 62 2 v' (cl ++ [x]).length ((cl ++ [x]).flatMap spc) ∧ w'.heap[P]? = w.heap[P]? ∧ τ' P = 0 ∧
      OwnT τ' 1 w' B 3 1 (.slice (some ⟨Do, 0, none⟩) n n) n (ow.map (.int .i64)) ∧ OwnT τ' 2 w' B 3 1 (.slice (some ⟨Dl, 0, none⟩) n n) n (lw.map (.int .i64)) ∧ OwnT τ' 3 w' B 3 1 (.slice (some ⟨Dp, 0, none⟩) n n) n (pw.map (.int .i64)) ∧ OwnT τ' 4 w' B 3 1 vo ol.length (ol.map (.int .i64)) ∧ Below B w w' := by
  subst hm; subst hx
  have hP := blk_lt h.blk
  have hne : some P ≠ vc.ownBlock := fun e => by have := h.cls.tag P e.symm; have := h.tag; omega
  have o5 := h.cls.app ho hb
  have hB : B ≤ w.heap.size := by have := h.new; omega
  refine ⟨tagAt τ w.heap.size 5, fun b hb => tagAt_lt hb, by simpa using o5, hg.block P hP hne, by rw [tagAt_lt hP]; exact h.tag, h.ord.other h.cls hg (by omega), h.low.other h.cls hg (by omega), h.prt.other h.cls hg (by omega), h.opn.other h.cls hg (by omega), (Below.refl B w).grown hg hB (fun b hb => (h.cls.own.lt b hb).1)⟩
end

end Go.Proofs.Ytbndjailimhbdaa
