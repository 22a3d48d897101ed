/- The law SplitJoin. -/
import Derived.Test.YtjjamfbjapbkgaaDoorSplit
import Derived.Test.YtjjamfbjapbkgaaDoorCheckType
namespace Go.Proofs.YtjjamfbjapbkgaaDoor
open Go.RowKit

def Tm.val : Tm → Int
  | .n0 _ v => v
  | .n1 _ v _ => v
  | .n2 _ v _ _ => v

theorem flat_kids (t : Tm) : t.flat = (t.kind, t.val) :: (t.kids.map Tm.flat).flatten := by
  cases t <;> simp [Tm.flat, Tm.kids, Tm.kind, Tm.val]

theorem parts_kids (t : Tm) (h : t.ok) : 1 ≤ t.kind ∧ t.kind ≤ 18 ∧ partsOf t.kind = t.kids.length := by
  cases t with
  | n0 k v => exact ⟨h.1, h.2.1, by have := h.2.2; simpa [Tm.kids, Tm.kind] using this⟩
  | n1 k v a => exact ⟨h.1, h.2.1, by have := h.2.2.1; simpa [Tm.kids, Tm.kind] using this⟩
  | n2 k v a b => exact ⟨h.1, h.2.1, by have := h.2.2.1; simpa [Tm.kids, Tm.kind] using this⟩

theorem kids_ok (t : Tm) (h : t.ok) : ∀ a ∈ t.kids, a.ok ∧ a.size ≤ t.size := by
  cases t with
  | n0 k v => simp [Tm.kids]
  | n1 k v a => simp only [Tm.kids, Tm.size, List.mem_singleton, forall_eq]; exact ⟨h.2.2.2, by omega⟩
  | n2 k v a b =>
    intro x hx
    simp only [Tm.kids, List.mem_cons, List.not_mem_nil, or_false] at hx
    rcases hx with rfl | rfl
    · exact ⟨h.2.2.2.1, by simp only [Tm.size]; omega⟩
    · exact ⟨h.2.2.2.2, by simp only [Tm.size]; omega⟩

/-- The op and the first parts. -/
def backL (k x : Int) (ll : List (List Op2)) (j : Nat) : List Op2 := (k, x) :: (ll.take j).flatten

theorem back_succ (k x : Int) (ll : List (List Op2)) (j : Nat) (h : j < ll.length) : backL k x ll (j + 1) = backL k x ll j ++ ll[j] := by
  unfold backL
  rw [List.take_succ_eq_append_getElem h, List.flatten_append]
  simp

theorem back_le (k x : Int) (ll : List (List Op2)) (j : Nat) : (backL k x ll j).length ≤ (backL k x ll ll.length).length := by
  have := take_flat_le ll j
  simp only [backL, List.length_cons, List.take_length]
  omega

structure Splits (l : List Op2) (k x : Int) (ll : List (List Op2)) : Prop where
  all : backL k x ll ll.length = l
  two : ll.length ≤ 2
  size : l.length ≤ 26
  pos : 0 < l.length
  kind : 1 ≤ k ∧ k ≤ 18 ∧ partsOf k = ll.length
  ends : ∀ j (h : j < ll.length), ∃ es, endsL ll[j] = .ok es

theorem splits_of (t : Tm) (h : t.ok) (hs : t.size ≤ 26) : Splits t.flat t.kind t.val (t.kids.map Tm.flat) := by
  obtain ⟨h1, h2, h3⟩ := parts_kids t h
  refine ⟨?_, ?_, by rw [Tm.flat_len]; exact hs, by rw [Tm.flat_len]; exact t.size_pos, ⟨h1, h2, by simpa using h3⟩, ?_⟩
  · rw [flat_kids]; simp only [backL, List.length_map]; rw [← List.length_map (f := Tm.flat), List.take_length]
  · cases t <;> simp [Tm.kids]
  · intro j hj
    simp only [List.length_map] at hj
    have := kids_ok t h t.kids[j] (by simp)
    exact ⟨_, by simpa using ends_term t.kids[j] this.1 (by omega)⟩

theorem Splits.head {l : List Op2} {k x : Int} {ll : List (List Op2)} (h : Splits l k x ll) : l[0]'h.pos = (k, x) := by
  have := h.all
  subst this
  rfl

set_option maxRecDepth 100000 in
set_option maxHeartbeats 1000000 in
theorem splitJoin_law (v0 : Value) (W : World) (ht : Tab W) (h0 : Cells Tryd.prog W 22 [v0]) :
    Calls Tryd.prog 5 #[v0] W fun e w' => e = .returned (.bool true) ∧ Ext W w' := by
  obtain ⟨raw, h, hraw⟩ := raw_of h0
  go_enter Tryd.func5, Tryd.ntmps5
  go_wp2_with fail
  refine (mkTruth v0 raw 3 W h hraw (by omega)).mono ?_
  rintro e w1 ⟨vt, rfl, hown, hE1⟩
  have hit : Ops w1 vt (truO raw 3).flat := ops_own hown
  have hok := truT_ok raw 3 3 0
  have hsm : (truO raw 3).size ≤ 26 := truT_small raw 3
  have HSP := Lib.hid (split_t vt (truO raw 3) w1 hit (ht.ext hE1) hok (by omega))
  have HS := Lib.hid (splits_of (truO raw 3) hok hsm)
  generalize (truO raw 3).kids.map Tm.flat = ll at *
  generalize (truO raw 3).flat = l at *
  generalize (truO raw 3).kind = k at *
  generalize (truO raw 3).val = x at *
  have HIT := Lib.hid hit
  have HTab := Lib.hid (ht.ext hE1)
  have HE1 := Lib.hid hE1
  obtain ⟨at', ct, rfl, hrt⟩ := hit
  obtain ⟨b, off, ha, hc⟩ := hrt.ops
  obtain rfl := ha HS.out.pos
  have hc0 := hc 0 HS.out.pos
  rw [HS.out.head] at hc0
  simp only [Nat.zero_mul, Nat.add_zero] at hc0
  have HC0 := Lib.hid hc0
  have hlp := HS.out.pos
  have hls := HS.out.size
  have hll := HS.out.two
  clear hown h h0 ht hE1 hrt ha hc hc0 hok hsm hraw
  go_wp2_with fail
  refine HSP.out.mono ?_
  rintro e w2 ⟨vv, rfl, hol, hE2⟩
  have HOL := Lib.hid hol
  obtain ⟨vs, hvl, ⟨av, cv, rfl, hrv⟩, _⟩ := hol
  have hc1 := cell_later hE2 HC0.out.1
  have hc2 := cell_later hE2 HC0.out.2
  have hpar := parts_good k w2 (HTab.out.ext hE2) HS.out.kind.1 HS.out.kind.2.1
  rw [HS.out.kind.2.2] at hpar
  have HP := Lib.hid hpar
  have HE2 := Lib.hid hE2
  clear HSP hvl hrv hE2 hpar
  go_wp2_with fail
  refine HP.out.mono ?_
  rintro e _ ⟨rfl, rfl⟩
  go_wp2_with fail
  have hE0 : Ext w2 (w2.alloc (.cells #[.int .i64 k, .int .i64 x] 32)) := (Ext.refl w2).alloc (Nat.le_refl _) _
  have hown0 : (w2.alloc (.cells #[.int .i64 k, .int .i64 x] 32)).ownsRow w2.heap.size 32 2 (.slice (some ⟨w2.heap.size, 0, none⟩) 1 1) (backL k x ll 0).length ((backL k x ll 0).flatMap opc) := by
    have := World.ownsRow_lit (e := 32) (size := 2) (base := w2.heap.size) w2 #[.int .i64 k, .int .i64 x] 1 (Nat.le_refl _) (by unfold maxLen; omega) rfl
    simpa [backL, opc] using this
  clear hc1 hc2 HP
  go_loopw [8, 9] (fun bk i wr => ∃ j : Nat, j ≤ ll.length ∧ i = .int .i64 j ∧ wr.ownsRow w2.heap.size 32 2 bk (backL k x ll j).length ((backL k x ll j).flatMap opc) ∧ Ext w2 wr) (fun _ i _ => ll.length - (intOf i).toNat)
  case atStart => exact ⟨0, by omega, rfl, hown0, hE0⟩
  case round =>
    clear hown0 hE0
    obtain ⟨j, hj, rfl, hown, hext⟩ := hrel
    by_cases hlt : j < ll.length
    · obtain ⟨vs', hvl, ⟨av', cv', hve, hrv⟩, hops⟩ := HOL.out
      cases hve
      have hvi : j < vs'.length := by omega
      have hO2 := hops j vs'[j] ll[j] (by simp) (by simp)
      obtain ⟨bb, oo, _, hav, hcv⟩ := hrv.lie
      obtain rfl := hav (by omega)
      have hcell := cell_later hext (hcv j _ (List.getElem?_eq_getElem hvi))
      have hO := hO2.ext hext
      obtain ⟨es, hes⟩ := HS.out.ends j hlt
      have hb1 := back_le k x ll (j + 1)
      rw [HS.out.all] at hb1
      have HB := Lib.hid (back_succ k x ll j hlt)
      have hlen : (backL k x ll j).length + ll[j].length ≤ 26 := by
        have := congrArg List.length HB.out
        rw [List.length_append] at this
        omega
      have hends := ends_any _ _ wr hO (((HTab.out.ext HE2.out)).ext hext)
      rw [hes] at hends
      have HEN := Lib.hid hends
      have HOO := Lib.hid hO
      obtain ⟨ap, cp, hvx, _⟩ := hO2
      rw [hvx] at hcell HEN HOO
      have HVX := Lib.hid hvx
      have hone := Lib.hid (opc_one ll[j])
      have hws := hext.size
      have HOWN := Lib.hid hown
      have HX := Lib.hid hext
      clear hvx hO hends hes hb1 hcv hrv hops hav hvl hown hext
      generalize hbj : backL k x ll j = bl at *
      have HBJ := Lib.hid hbj
      clear hbj
      generalize ll[j] = p at *
      go_wp2_with fail
      refine HEN.out.mono ?_
      rintro e w3 ⟨hE3, ve, rfl, _⟩
      have hrow := HOO.out.ext hE3
      obtain ⟨ap', cp', hve', hrp⟩ := hrow
      cases hve'
      have hcell3 := cell_later hE3 hcell
      have hown3 := own_ext HOWN.out hE3
      have hw3 : w2.heap.size ≤ w3.heap.size := Nat.le_trans hws hE3.size
      have HE3 := Lib.hid hE3
      clear hcell hE3
      go_wp2_with (at_builtin; go_must (refine wpl_append rfl rfl Tryd.slOps w2.heap.size rfl hown3 rfl hrp hone.out (by unfold maxLen; omega) (by omega) hw3 ?_))
      intro vo wo hoo hgo _ _
      have hE4 : Ext w2 wo := (HX.out.trans HE3.out).grown hgo hw3 (fun g hg => (hown3.lt g hg).1)
      clear hgo hown3 hrp hcell3
      go_wp2_with fail
      go_roundw
      case rel => exact ⟨j + 1, by omega, by go_num, by rw [HB.out, List.length_append, List.flatMap_append]; exact hoo, hE4⟩
      case measure => simp [intOf]; omega
    · obtain rfl : j = ll.length := by omega
      rw [HS.out.all] at hown
      have HO1 := Lib.hid (ops_own hown)
      have HO2 := Lib.hid (HIT.out.ext (HE2.out.trans hext))
      have HX := Lib.hid (HE1.out.trans (HE2.out.trans hext))
      clear hown hext
      go_wp2_with fail
      refine (same_ops _ _ l wr HO1.out HO2.out).mono ?_
      rintro e w3 ⟨rfl, hE3⟩
      have HX3 := Lib.hid (HX.out.trans hE3)
      clear hE3
      go_wp2
      go_ret
      exact ⟨rfl, HX3.out⟩

end Go.Proofs.YtjjamfbjapbkgaaDoor
