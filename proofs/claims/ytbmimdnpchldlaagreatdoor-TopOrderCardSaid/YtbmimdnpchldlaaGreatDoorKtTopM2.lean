/- Plain: rules in another order. No condition. -/
import Derived.Test.YtbmimdnpchldlaaGreatDoorKtTopM
namespace Go.Proofs.YtbmimdnpchldlaaGreatDoor
open Go.RowKit

theorem nextP_same {m m' : Md} (hv : m'.vars = m.vars) (hr : ∀ r, r ∈ m'.rules ↔ r ∈ m.rules) (c d : Int) : NextP m' c d ↔ NextP m c d := by
  have ha : ∀ r xs, afterV m' r xs = afterV m r xs := fun r xs => by unfold afterV; rw [hv]
  have hb : ∀ x, x ∈ behindL m' (valsL m'.vars c) m'.rules ↔ x ∈ behindL m (valsL m.vars c) m.rules := fun x => by
    rw [behindL_mem, behindL_mem, hv]
    simp only [ha, hr]
  have he : behindL m' (valsL m'.vars c) m'.rules = [] ↔ behindL m (valsL m.vars c) m.rules = [] := by
    rw [List.eq_nil_iff_forall_not_mem, List.eq_nil_iff_forall_not_mem]
    exact forall_congr' fun x => not_congr (hb x)
  unfold NextP
  rw [hb, he]
theorem nextL_same {m m' : Md} (hv : m'.vars = m.vars) (hr : ∀ r, r ∈ m'.rules ↔ r ∈ m.rules) (c : Int) : nextL m' c = nextL m c :=
  NextL.eq (m := m) (c := c) ⟨(nextL_ok m' c).up, fun d => ((nextL_ok m' c).mem d).trans (nextP_same hv hr c d)⟩ (nextL_ok m c)
theorem Md.Ok.rules' {m : Md} (h : m.Ok) {rs : List Rl} (hl : rs.length ≤ 12) (hs : ∀ r ∈ rs, r ∈ m.rules) : (⟨m.vars, rs⟩ : Md).Ok where
  six := h.six
  vars := h.vars
  count := h.count
  twelve := hl
  rules := fun r hr => h.rules r (hs r hr)
  names := h.names
  kinds := fun r hr => h.kinds r (hs r hr)

end Go.Proofs.YtbmimdnpchldlaaGreatDoor
