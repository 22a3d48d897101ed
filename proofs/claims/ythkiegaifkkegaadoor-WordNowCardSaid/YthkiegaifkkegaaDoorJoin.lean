/- Join: what is needed of it. No condition. -/
import Derived.Test.YthkiegaifkkegaaDoorGenA
namespace Go.Proofs.YthkiegaifkkegaaDoor
open Go.RowKit
def OpsL (w : World) (v : Value) (ll : List (List Op2)) : Prop :=
  ∃ vs : List Value, vs.length = ll.length ∧ Reads w 1 v ll.length vs ∧ ∀ (i : Nat) (x : Value) (l : List Op2), vs[i]? = some x → ll[i]? = some l → Ops w x l
theorem OpsL.ext {w w' : World} {v : Value} {ll : List (List Op2)} (h : OpsL w v ll) (hb : Ext w w') : OpsL w' v ll := by
  obtain ⟨vs, h1, h2, h3⟩ := h
  exact ⟨vs, h1, h2.ext hb, fun i x l hx hl => (h3 i x l hx hl).ext hb⟩
def joinL (k : Int) (ll : List (List Op2)) : List Op2 := (k, 0) :: ll.flatten
theorem join_succ (k : Int) (ll : List (List Op2)) (i : Nat) (h : i < ll.length) : joinL k (ll.take (i + 1)) = joinL k (ll.take i) ++ ll[i] := by
  unfold joinL
  rw [List.take_succ_eq_append_getElem h, List.flatten_append]
  simp
theorem take_flat_le (ll : List (List Op2)) (i : Nat) : (ll.take i).flatten.length ≤ ll.flatten.length := by
  have := List.take_append_drop i ll
  have h2 := congrArg (fun l => (List.flatten l).length) this
  simp only [List.flatten_append, List.length_append] at h2
  omega
set_option maxRecDepth 100000 in
set_option maxHeartbeats 1000000 in
theorem joined_any (k : Int) (v : Value) (ll : List (List Op2)) (w : World) (h : OpsL w v ll) (hl : ll.flatten.length ≤ 10000) (hn : ll.length ≤ 1000) :
    Calls Tryd.prog 9 #[.int .i64 k, v] w fun e w' => ∃ v', e = .returned v' ∧ w'.ownsRow w.heap.size 41 2 v' (joinL k ll).length ((joinL k ll).flatMap opc) ∧ Ext w w' := by
  obtain ⟨vs, hvl, ⟨a, cap, rfl, hr⟩, hops⟩ := h
  obtain ⟨b, off, hnil, ha, hc⟩ := hr.lie
  have HA := Lib.hid ha
  have HC := Lib.hid hc
  have HV := Lib.hid hvl
  have HO := Lib.hid hops
  clear ha hc hvl hops hnil hr
  have hown0 : (w.alloc (.cells #[.int .i64 k, .int .i64 0] 41)).ownsRow w.heap.size 41 2 (.slice (some ⟨w.heap.size, 0, none⟩) 1 1) (joinL k []).length ((joinL k []).flatMap opc) := by
    have := World.ownsRow_lit (e := 41) (size := 2) (base := w.heap.size) w #[.int .i64 k, .int .i64 0] 1 (Nat.le_refl _) (by unfold maxLen; omega) rfl
    simpa [joinL, opc] using this
  have hE0 : Ext w (w.alloc (.cells #[.int .i64 k, .int .i64 0] 41)) := (Ext.refl w).alloc (Nat.le_refl _) _
  go_enter Tryd.func9, Tryd.ntmps9
  go_wp2
  go_loopw [5, 6] (fun o i wr => ∃ ii : Nat, ii ≤ ll.length ∧ i = .int .i64 ii ∧ wr.ownsRow w.heap.size 41 2 o (joinL k (ll.take ii)).length ((joinL k (ll.take ii)).flatMap opc) ∧ Ext w wr) (fun _ i _ => ll.length - (intOf i).toNat)
  case atStart => exact ⟨0, by omega, rfl, by simpa using hown0, hE0⟩
  case round =>
    obtain ⟨ii, hii, rfl, hown, hext⟩ := hrel
    clear hown0 hE0
    by_cases hlt : ii < ll.length
    · have hvi : ii < vs.length := by have := HV.out; omega
      have hcell : wr.cell? ⟨b, off + ii, none⟩ = some vs[ii] := cell_later hext (HC.out ii _ (by simp [hvi]))
      obtain rfl := HA.out (by omega)
      have hO := (HO.out ii vs[ii] ll[ii] (by simp [hvi]) (by simp [hlt])).ext hext
      obtain ⟨ax, cx, hvx, hrx⟩ := hO
      rw [hvx] at hcell
      have HS := Lib.hid (join_succ k ll ii hlt)
      have hl1 := take_flat_le ll ii
      have hl2 := take_flat_le ll (ii + 1)
      have hl3 : (joinL k (ll.take (ii + 1))).length ≤ 10001 := by simp only [joinL, List.length_cons]; omega
      have hl4 : (joinL k (ll.take (ii + 1))).length = (joinL k (ll.take ii)).length + ll[ii].length := by rw [HS.out, List.length_append]
      have hl5 : (joinL k (ll.take ii)).length + ll[ii].length ≤ 10001 := by omega
      have hone := opc_one ll[ii]
      have hws := hext.size
      generalize hj : joinL k (ll.take ii) = j at *
      have HJ := Lib.hid hj
      generalize ll[ii] = li at *
      clear hvx HC HA HV HO hl1 hl2 hl3 hl4 hj
      go_wp2_with (at_builtin; go_must (refine wpl_append rfl rfl Tryd.slOps w.heap.size rfl hown rfl hrx hone (by unfold maxLen; omega) (by omega) hws ?_))
      intro o' w1 hown1 hg1 _ _
      have hE1 : Ext w w1 := hext.grown hg1 hws (fun g hg => (hown.lt g hg).1)
      clear hg1 hown
      go_wp2
      go_roundw
      case rel => exact ⟨ii + 1, by omega, by go_num, by rw [HS.out, List.length_append, List.flatMap_append]; exact hown1, hE1⟩
      case measure => simp [intOf]; omega
    · obtain rfl : ii = ll.length := by omega
      rw [List.take_length] at hown
      go_wp2
      go_ret
      exact ⟨_, rfl, hown, hext⟩
end Go.Proofs.YthkiegaifkkegaaDoor
