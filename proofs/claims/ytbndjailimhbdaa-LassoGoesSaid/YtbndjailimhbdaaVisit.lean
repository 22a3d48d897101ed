/- The contract of scc.Reached's inner function: a spot that is met for the first time is marked and kept. -/
import Derived.Test.YtbndjailimhbdaaSccChk
namespace Go.Proofs.Ytbndjailimhbdaa
open Go.RowKit

/-- What the search's two variables hold: S the marks, T what is still to be gone through. -/
structure VMem (τ : Nat → Nat) (B S T D n : Nat) (w : World) (seen : List Bool) (todo : List Int) : Prop where
  ms : w.heap[S]? = some (.cells #[.slice (some ⟨D, 0, none⟩) n n] 48 (0, 0))
  mt : ∃ a c, w.heap[T]? = some (.cells #[.slice a todo.length c] 23 (0, 0)) ∧ OwnT τ 2 w B 3 1 (.slice a todo.length c) todo.length (todo.map (.int .i64))
  os : OwnT τ 1 w D 4 1 (.slice (some ⟨D, 0, none⟩) n n) n (seen.map .bool)
  ord : D < S ∧ S < T ∧ T < B
  tag : τ T = 0 ∧ B ≤ w.heap.size

theorem VMem.ext {τ : Nat → Nat} {B S T D n : Nat} {w w' : World} {seen : List Bool} {todo : List Int} (h : VMem τ B S T D n w seen todo) (hE : Ext w w') : VMem τ B S T D n w' seen todo := by
  obtain ⟨a, c, h1, h2⟩ := h.mt
  exact ⟨blk_ext h.ms hE, ⟨a, c, blk_ext h1 hE, h2.ext hE⟩, h.os.ext hE, h.ord, h.tag.1, Nat.le_trans h.tag.2 hE.size⟩
theorem VMem.len {τ : Nat → Nat} {B S T D n : Nat} {w : World} {seen : List Bool} {todo : List Int} (h : VMem τ B S T D n w seen todo) : seen.length = n := by simpa using h.os.own.1

def visL (seen : List Bool) (todo : List Int) (y : Nat) : List Bool × List Int := if seen[y]? = some true then (seen, todo) else (seen.set y true, todo ++ [(y : Int)])

set_option maxRecDepth 100000 in
set_option maxHeartbeats 2000000 in
theorem visit_any (τ : Nat → Nat) (B S T D n : Nat) (w : World) (seen : List Bool) (todo : List Int) (y : Nat) (h : VMem τ B S T D n w seen todo) (hy : y < n) (ht : todo.length ≤ 100000) :
    Calls Try.prog 22 #[.int .i64 (y : Int), .pointer (some ⟨S, 0, none⟩), .pointer (some ⟨T, 0, none⟩)] w fun e w' => e = .returned (.tuple #[]) ∧ (∃ τ', VMem τ' B S T D n w' (visL seen todo y).1 (visL seen todo y).2) ∧ Below D w w' := by
  have hl := h.len
  obtain ⟨h1, h2, h3⟩ := h.ord
  obtain ⟨h4, h5⟩ := h.tag
  have H4 := Lib.hid h4
  clear h4
  obtain ⟨a, c, b1, b2⟩ := h.mt
  have cS := blk_cell h.ms (i := 0) rfl
  have cT := blk_cell b1 (i := 0) rfl
  have fT := blk_free b1 0
  have hyl : y < seen.length := by omega
  have cy := own_cellAt h.os.own (i := y) (by simpa using hyl)
  have fy := own_freeAt h.os.own y
  rw [List.getElem_map] at cy
  have hD : D < w.heap.size := (h.os.own.lt D rfl).2
  have H := Lib.hid h
  have B2 := Lib.hid b2
  have B1 := Lib.hid b1
  have hyI : (y : Int) < (n : Int) := by omega
  have htD : τ D = 1 := h.os.tag D rfl
  have HTD := Lib.hid htD
  clear h b1 b2 hl htD
  cases hsy : seen[y] with
  | true =>
    rw [hsy] at cy
    have HV := Lib.hid (show visL seen todo y = (seen, todo) by simp [visL, List.getElem?_eq_getElem hyl, hsy])
    clear hsy
    go_enter Try.func22, Try.ntmps22
    go_wp2
    go_end0
    exact ⟨rfl, ⟨τ, by rw [HV.out]; exact H.out⟩, Below.refl _ _⟩
  | false =>
    rw [hsy] at cy
    have HV := Lib.hid (show visL seen todo y = (seen.set y true, todo ++ [(y : Int)]) by simp [visL, List.getElem?_eq_getElem hyl, hsy])
    clear hsy
    have q1 := H.out.os.setAt (i := y) (.bool true)
    rw [set_map_bool] at q1
    have q2 := B2.out.set (p := ⟨D, y, none⟩) (by show τ D ≠ 2; have := HTD.out; omega) (.bool true)
    have hal : Ext (w.setCell ⟨D, y, none⟩ (.bool true)) ((w.setCell ⟨D, y, none⟩ (.bool true)).alloc (Obj.cells #[.int .i64 (y : Int)] 3)) := ext_al (Ext.refl _) _
    have ho2 := q2.own.alloc (Obj.cells #[.int .i64 (y : Int)] 3)
    have bS := blk_ext (blk_far H.out.ms (p := ⟨D, y, none⟩) (by show D ≠ S; omega) (.bool true)) hal
    have bT := blk_ext (blk_far B1.out (p := ⟨D, y, none⟩) (by show D ≠ T; omega) (.bool true)) hal
    have Q1 := Lib.hid (q1.ext hal)
    have Q2 := Lib.hid (q2.ext hal)
    have BS := Lib.hid bS
    have BT := Lib.hid bT
    have HE := Lib.hid (show Below D w ((w.setCell ⟨D, y, none⟩ (.bool true)).alloc (Obj.cells #[.int .i64 (y : Int)] 3)) from Below.alloc (Below.setCell (Below.refl _ _) (p := ⟨D, y, none⟩) (by show D ≤ D; omega) _) (by simp; omega) _)
    clear q1 q2 bS bT hal
    go_enter Try.func22, Try.ntmps22
    go_wp2_with (at_builtin; go_must (refine wpl_append rfl rfl Try.slIntsG B rfl ho2 rfl (Row.oneG _ _ _ _ (by simp)) (one_int _) (by unfold maxLen; omega) (by omega) (by simp; omega) ?_))
    intro v3 w3 hown3 hg3 hb3 _
    have hb3' : v3.ownBlock = (Value.slice a todo.length c).ownBlock ∨ v3.ownBlock = some ((w.setCell ⟨D, y, none⟩ (.bool true)).alloc (Obj.cells #[.int .i64 (y : Int)] 3)).heap.size := by
      rcases hb3 with h | h
      · exact .inl h
      · right; rw [h]; simp
    have hlo : ∀ b, (Value.slice a todo.length c).ownBlock = some b → B ≤ b := fun b hb => (B2.out.own.lt b hb).1
    have r2 := Q2.out.app hown3 hb3'
    have r1 := Q1.out.other Q2.out hg3 (by omega)
    have rS := blk_grown BS.out hg3 (fun e => by have := hlo _ e.symm; omega)
    have rT := blk_grown BT.out hg3 (fun e => by have := hlo _ e.symm; omega)
    have rE := HE.out.grown hg3 (by simp; omega) (fun b hb => by have := hlo b hb; omega)
    obtain ⟨a3, c3, rfl, _⟩ := hown3.row
    have cT := blk_cell rT (i := 0) rfl
    have fT := blk_free rT 0
    have HR := Lib.hid r2
    have HG := Lib.hid hg3
    have R1 := Lib.hid r1
    have RS := Lib.hid rS
    have RT := Lib.hid rT
    have RE := Lib.hid rE
    clear hown3 hg3 hb3 hb3' r1 r2 rS rT rE cy fy ho2
    go_wp2
    go_end0
    refine ⟨rfl, ?_, RE.out.setCell (p := ⟨T, 0, none⟩) (by show D ≤ T; omega) _⟩
    rw [HV.out]
    have z := blk_set RT.out (i := 0) (.slice a3 (todo.length + 1) c3)
    have z2 := HR.out.low (p := ⟨T, 0, none⟩) (by show T < B; omega) (.slice a3 (todo.length + 1) c3)
    have t0 : tagAt τ ((w.setCell ⟨D, y, none⟩ (.bool true)).alloc (Obj.cells #[.int .i64 (y : Int)] 3)).heap.size 2 T = 0 := by rw [tagAt_lt (by simp; omega)]; exact H4.out
    have hsz := HG.out.size
    exact ⟨_, blk_far RS.out (p := ⟨T, 0, none⟩) (by show T ≠ S; omega) _, ⟨a3, c3, by simpa using z, by simpa using z2⟩, R1.out.set (p := ⟨T, 0, none⟩) (by rw [t0]; omega) _, ⟨h1, h2, h3⟩, t0, by simp at hsz ⊢; omega⟩

end Go.Proofs.Ytbndjailimhbdaa
