/- Has at what is no key; a new block that holds a store. -/
import Derived.Test.YtmacgcaehfjoiaaStH
import Derived.Deep.DeepCutAuto
import Derived.Deep.RegionLaw
namespace Go.Proofs.Ytmacgcaehfjoiaa
open Go.RowKit

set_option maxRecDepth 100000 in
set_option maxHeartbeats 4000000 in
theorem has_bad (lv rv : Value) (s : St) (n : Int) (w : World) (h : IsSt w lv rv s) (hp : s.Ok) (hl : s.keys.length ≤ 1000) (hn : ¬ (0 ≤ n ∧ n ≤ 2147483647)) :
    Calls Try.prog 9 #[.agg #[lv, rv], .int .i64 n] w fun e w' => e = .returned (.tuple #[.bool false, .int .i64 2]) ∧ Ext w w' := by
  have HCK := Lib.hid fun wx (hx : Ext w wx) => check_st lv rv s wx (h.ext hx) hp hl
  have HKY := Lib.hid fun wx => key_any n wx
  rw [decide_eq_false hn] at HKY
  obtain ⟨al, cl, ar, cr, rfl, rfl⟩ := h.val
  have hbk := blk_new w (Obj.cells #[.slice al s.loose.length cl, .slice ar s.runs.length cr] 25)
  have HE := Lib.hid (ext_al (Ext.refl w) (Obj.cells #[.slice al s.loose.length cl, .slice ar s.runs.length cr] 25))
  have d0 := blk_cell hbk (i := 0) (v := .slice al s.loose.length cl) rfl
  have d1 := blk_cell hbk (i := 1) (v := .slice ar s.runs.length cr) rfl
  clear h hp hbk hn
  go_enter Try.func9, Try.ntmps9
  go_wp2_with fail
  generalize w.alloc (Obj.cells #[.slice al s.loose.length cl, .slice ar s.runs.length cr] 25) = W1 at *
  refine (HCK.out _ HE.out).mono ?_
  rintro e w2 ⟨rfl, hE2⟩
  have HX2 := Lib.hid (HE.out.trans hE2)
  clear hE2 HCK d0 d1
  go_wp2_with fail
  refine (HKY.out _).mono ?_
  rintro e w' ⟨rfl, rfl⟩
  go_wp2
  go_ret2
  exact ⟨rfl, HX2.out⟩

/-- A new block that holds a store whose rows are new, too. -/
structure NewSt (w : World) (l r : Value) (s : St) (Q : Nat) (x : World) : Prop where
  b : x.heap[Q]? = some (.cells #[l, r] 25 (0, 0))
  s : FrSt x w.heap.size l r s
  e : Ext w x

end Go.Proofs.Ytmacgcaehfjoiaa
