/- Letter: what is needed of it. No condition. -/
import Derived.Test.YthkiegaifkkegaaDoorPick
import Derived.Test.YthkiegaifkkegaaDoorTag
namespace Go.Proofs.YthkiegaifkkegaaDoor
open Go.RowKit
def letL (n : Int) : List Bool := [decide (pk n 8 % 2 = 1), decide (pk n 8 / 2 % 2 = 1), decide (pk n 8 / 4 = 1)]
set_option maxRecDepth 100000 in
set_option maxHeartbeats 2000000 in
theorem letter_any (n : Int) (w : World) (hn : I64 n) :
    Calls Tryd.prog 11 #[.int .i64 n] w fun e w' => ∃ a, e = .returned (.slice (some ⟨a, 0, none⟩) 3 3) ∧ w'.ownsRow w.heap.size 4 1 (.slice (some ⟨a, 0, none⟩) 3 3) 3 ((letL n).map .bool) ∧ Ext w w' := by
  unfold I64 at hn
  have HP := Lib.hid (picked_any n 8 w hn.1 hn.2 (by omega) (by omega))
  have hb := pk_bd n 8 (by omega)
  unfold letL
  generalize pk n 8 = k at *
  have hfin : ∀ b1 b2 b3 : Bool, (w.alloc (.cells #[.bool b1, .bool b2, .bool b3] 4)).ownsRow w.heap.size 4 1 (.slice (some ⟨w.heap.size, 0, none⟩) 3 3) 3 ([b1, b2, b3].map .bool) := fun b1 b2 b3 =>
    World.ownsRow_lit (base := w.heap.size) (e := 4) (size := 1) w #[.bool b1, .bool b2, .bool b3] 3 (Nat.le_refl _) (by unfold maxLen; omega) rfl
  have HFIN := Lib.hid hfin
  clear hfin
  rcases (show k = 0 ∨ k = 1 ∨ k = 2 ∨ k = 3 ∨ k = 4 ∨ k = 5 ∨ k = 6 ∨ k = 7 by omega) with rfl | rfl | rfl | rfl | rfl | rfl | rfl | rfl
  all_goals
    clear hb hn
    go_enter Tryd.func11, Tryd.ntmps11
    go_wp2_with fail
    refine HP.out.mono ?_
    rintro e wx ⟨rfl, rfl⟩
    go_wp2
    go_ret
    exact ⟨_, rfl, HFIN.out _ _ _, ext_al (Ext.refl w) _⟩
end Go.Proofs.YthkiegaifkkegaaDoor
