/- WordA: what is needed of it. No condition. -/
import Derived.Test.YthkiegaifkkegaaDoorConcat
import Derived.Test.YthkiegaifkkegaaDoorTruA
import Derived.Test.YthkiegaifkkegaaDoorWordP
namespace Go.Proofs.YthkiegaifkkegaaDoor
open Go.RowKit
def EachB (w : World) (vs : List Value) (ll : List (List Bool)) : Prop :=
  vs.length = ll.length ∧ ∀ (i : Nat) (x : Value) (l : List Bool), vs[i]? = some x → ll[i]? = some l → Bools w x l
def BLists (w : World) (v : Value) (ll : List (List Bool)) : Prop := ∃ vs, EachB w vs ll ∧ Reads w 1 v ll.length vs
theorem bools_ext {w w' : World} {v : Value} {l : List Bool} (h : Bools w v l) (hb : Ext w w') : Bools w' v l := Reads.ext h hb
theorem EachB.ext {w w' : World} {vs : List Value} {ll : List (List Bool)} (h : EachB w vs ll) (hb : Ext w w') : EachB w' vs ll := ⟨h.1, fun i x l hx hl => bools_ext (h.2 i x l hx hl) hb⟩
theorem BLists.ext {w w' : World} {v : Value} {ll : List (List Bool)} (h : BLists w v ll) (hb : Ext w w') : BLists w' v ll := by
  obtain ⟨vs, h1, h2⟩ := h
  exact ⟨vs, h1.ext hb, h2.ext hb⟩
theorem EachB.one {w : World} {vs : List Value} {ll : List (List Bool)} (h : EachB w vs ll) : ∀ u ∈ vs, u.oneCell' = true := by
  intro u hu
  obtain ⟨i, hi, rfl⟩ := List.mem_iff_getElem.1 hu
  have hl : i < ll.length := by rw [← h.1]; exact hi
  obtain ⟨a, c, e, _⟩ := h.2 i _ _ (List.getElem?_eq_getElem hi) (List.getElem?_eq_getElem hl)
  rw [e]; rfl
theorem EachB.app {w : World} {vs us : List Value} {ll mm : List (List Bool)} (h : EachB w vs ll) (k : EachB w us mm) : EachB w (vs ++ us) (ll ++ mm) := by
  refine ⟨by simp [h.1, k.1], fun i x l hx hl => ?_⟩
  by_cases hi : i < vs.length
  · rw [List.getElem?_append_left hi] at hx
    rw [List.getElem?_append_left (by rw [← h.1]; exact hi)] at hl
    exact h.2 i x l hx hl
  · rw [List.getElem?_append_right (by omega)] at hx
    rw [List.getElem?_append_right (by rw [← h.1]; omega), ← h.1] at hl
    exact k.2 _ x l hx hl
set_option maxRecDepth 100000 in
set_option maxHeartbeats 400000 in
theorem wcheck_ok (sv lv : Value) (S Lp : List (List Bool)) (props : Nat) (w : World) (hS : BLists w sv S) (hL : BLists w lv Lp) (h1 : S.length ≤ 12) (h2 : 1 ≤ Lp.length) (h3 : Lp.length ≤ 12) (h4 : ∀ l ∈ S ++ Lp, l.length = props) (h5 : props ≤ 6) :
    Calls Tryd.prog 19 #[.agg #[sv, lv], .int .i64 (props : Int)] w fun e w' => e = .returned (.int .i64 0) ∧ Ext w w' := by
  obtain ⟨vs, hE1, aS, cS, rfl, hr1⟩ := hS
  obtain ⟨us, hE2, aL, cL, rfl, hr2⟩ := hL
  have HX := Lib.hid (hE1.app hE2)
  have hA := ext_al (Ext.refl w) (Obj.cells #[.slice aS S.length cS, .slice aL Lp.length cL] 28)
  have hB := ext_al hA (Obj.cells #[.slice aS S.length cS, .slice aL Lp.length cL] 26)
  have hrow : Row ((w.alloc (Obj.cells #[.slice aS S.length cS, .slice aL Lp.length cL] 28)).alloc (Obj.cells #[.slice aS S.length cS, .slice aL Lp.length cL] 26)) 1 (some ⟨w.heap.size + 1, 0, none⟩) 2 2 [.slice aS S.length cS, .slice aL Lp.length cL] := by
    have h := Row.new (w.alloc (Obj.cells #[.slice aS S.length cS, .slice aL Lp.length cL] 28)) 26 [.slice aS S.length cS, .slice aL Lp.length cL] (by simp [maxLen])
    rw [show (w.alloc (Obj.cells #[.slice aS S.length cS, .slice aL Lp.length cL] 28)).heap.size = w.heap.size + 1 by simp] at h
    exact h
  have HCC := Lib.hid (concat_two ((w.alloc (Obj.cells #[.slice aS S.length cS, .slice aL Lp.length cL] 28)).alloc (Obj.cells #[.slice aS S.length cS, .slice aL Lp.length cL] 26)) (some ⟨w.heap.size + 1, 0, none⟩) aS aL 2 S.length cS Lp.length cL vs us hrow (hr1.ext hB) (hr2.ext hB) hE1.one hE2.one (by omega) (by omega))
  have HB := Lib.hid hB
  have H4 := Lib.hid h4
  have hp6 : ¬ (6 : Int) < (props : Int) := by omega
  have hp0 : ¬ (props : Int) < 0 := by omega
  have hs12 : ¬ (12 : Int) < (S.length : Int) := by omega
  have hl1 : ¬ (Lp.length : Int) < 1 := by omega
  have hl12 : ¬ (12 : Int) < (Lp.length : Int) := by omega
  clear hE1 hE2 hr1 hr2 hA hB hrow h4
  go_enter Tryd.func19, Tryd.ntmps19
  go_wp2_with fail
  refine HCC.out.mono ?_
  rintro e w1 ⟨ac, cc, rfl, hown, hE1⟩
  obtain ⟨_, _, e, hrow⟩ := hown.row
  simp only [Value.slice.injEq] at e
  obtain ⟨rfl, _, rfl⟩ := e
  have HR := Lib.hid hrow
  have HE1 := Lib.hid (HB.out.trans hE1)
  clear hown hrow hE1 HCC
  go_wp2_with fail
  go_loopg [36] (S.length + Lp.length) (fun m x wr => ∃ i : Nat, m + i = S.length + Lp.length ∧ x = .int .i64 (i : Int) ∧ wr = w1)
  case atStart => exact ⟨0, by omega, by go_num, rfl⟩
  case round =>
    obtain ⟨i, hmi, rfl, rfl⟩ := hrel
    have HMI := Lib.hid hmi
    by_cases hi : i < S.length + Lp.length
    · obtain ⟨b, off, _, k2, k3⟩ := HR.out.lie
      have hvl : (vs ++ us).length = (S ++ Lp).length := HX.out.1
      have hil : i < (vs ++ us).length := by rw [hvl, List.length_append]; exact hi
      have hil2 : i < (S ++ Lp).length := by rw [← hvl]; exact hil
      obtain rfl := k2 (by omega)
      have ck := k3 i _ (List.getElem?_eq_getElem hil)
      obtain ⟨a, c, e, -⟩ := HX.out.2 i _ _ (List.getElem?_eq_getElem hil) (List.getElem?_eq_getElem hil2)
      rw [e, H4.out _ (List.getElem_mem hil2)] at ck
      have hiI : (i : Int) < (S.length : Int) + (Lp.length : Int) := by omega
      have hi0 : (0 : Int) ≤ (i : Int) := by omega
      clear k2 k3 hvl hil hil2 e hmi
      go_wp2_with fail
      go_roundg (gk - 1)
      case measure => have := HMI.out; omega
      case rel => exact ⟨i + 1, by have := HMI.out; omega, by go_num, rfl⟩
    · have hiI : ¬ (i : Int) < (S.length : Int) + (Lp.length : Int) := by omega
      clear hmi
      go_wp2
      go_ret
      exact ⟨rfl, HE1.out⟩
end Go.Proofs.YthkiegaifkkegaaDoor
