/- Several texts in one: Concat; WordA; TopL; TopU; TopWb; TopWc; TopWd; TopWe; TopWa; TopWf; TopE. No condition. -/
import Derived.Test.YtbmimdnpchldlaaGreatDoorKt11
import Derived.Lib.AppendZeros
import Derived.Test.YtbmimdnpchldlaaGreatDoorKt12
import Derived.Test.YtbmimdnpchldlaaGreatDoorKt13
import Derived.Test.YtbmimdnpchldlaaGreatDoorKt1
import Derived.Test.YtbmimdnpchldlaaGreatDoorKt15
import Derived.Deep.LoopGhost
import Derived.Deep.DeepCutAuto
import Derived.BigQuiet
import Derived.Deep.RegionLaw
namespace Go.Proofs.YtbmimdnpchldlaaGreatDoor
open Go.RowKit

theorem Tryz.slBoolss : SlTy Tryz.prog 50 53 (.slice none 0 0) 1 24 := SlTy.mk' Tryz.underlying50 (by kernel_rfl) (by rfl) (by omega)

set_option maxRecDepth 100000 in
set_option maxHeartbeats 2000000 in
theorem grow_any (n : Nat) (w : World) (h0 : 0 < n) (hn : n ≤ 1000) :
    Calls Tryz.prog 126 #[.slice none 0 0, .int .i64 (n : Int)] w fun e w' => ∃ c, e = .returned (.slice (some ⟨w.heap.size, 0, none⟩) 0 c) ∧ n ≤ c ∧ w'.ownsRow w.heap.size 53 1 (.slice (some ⟨w.heap.size, 0, none⟩) 0 c) 0 [] ∧ Ext w w' := by
  obtain ⟨i, hi, hz, hs, hby⟩ := Tryz.slBoolss.inf
  have hr := Lib.run_append_nil_zeros (P := Tryz.prog) w 50 3 50 53 i (.slice none 0 0) .i64 .i64 Tryz.slBoolss.und Tryz.underlying3 hi hz n h0 (by omega) (by omega) (by rw [hby]; omega)
  have hge := grownCap_ge w n 0 53
  have hle := grownCap_le_maxLen w n 0 53 (by unfold maxLen; omega)
  generalize grownCap w n 0 53 = cap at *
  have hcs : (Builtin.zeroCells (Value.cells (.slice none 0 0)) n ++ Builtin.zeroCells (Value.cells (.slice none 0 0)) (cap - n)).size = cap * 1 := by
    simp [Builtin.zeroCells, Value.cells]
    omega
  have hown := World.ownsRow_made (base := w.heap.size) (e := 53) (size := 1) w.drew (Builtin.zeroCells (Value.cells (.slice none 0 0)) n ++ Builtin.zeroCells (Value.cells (.slice none 0 0)) (cap - n)) cap (Nat.le_refl _) hle hcs
  have hE : Ext w (w.drew.alloc (.cells (Builtin.zeroCells (Value.cells (.slice none 0 0)) n ++ Builtin.zeroCells (Value.cells (.slice none 0 0)) (cap - n)) 53)) := ext_al (Below.drew (Ext.refl w)) _
  generalize Builtin.zeroCells (Value.cells (.slice none 0 0)) n ++ Builtin.zeroCells (Value.cells (.slice none 0 0)) (cap - n) = cur at *
  have HO := Lib.hid hown
  have HE := Lib.hid hE
  have hnI : (0 : Int) < (n : Int) := by omega
  have hnI2 : ¬ (n : Int) < 0 := by omega
  unfold maxLen at hle
  clear hown hE hcs hi hz hs hby
  go_enter Tryz.func126, Tryz.ntmps126
  go_wp2_with (at_builtin; go_must (refine Lib.wpList_append_run w rfl _ _ 50 3 rfl _ _ rfl rfl _ _ hr ?_))
  go_wp2
  go_ret
  exact ⟨cap, rfl, hge, HO.out, HE.out⟩

set_option maxRecDepth 100000 in
set_option maxHeartbeats 2000000 in
theorem concat_two (w : World) (p aA aB : Option Addr) (c nA cA nB cB : Nat) (xA xB : List Value) (h : Row w 1 p 2 c [.slice aA nA cA, .slice aB nB cB]) (hA : Row w 1 aA nA cA xA) (hB : Row w 1 aB nB cB xB)
    (oA : ∀ u ∈ xA, u.oneCell' = true) (oB : ∀ u ∈ xB, u.oneCell' = true) (h0 : 0 < nA + nB) (hn : nA + nB ≤ 1000) :
    Calls Tryz.prog 92 #[.slice p 2 c] w fun e w' => ∃ a c, e = .returned (.slice a (nA + nB) c) ∧ w'.ownsRow w.heap.size 53 1 (.slice a (nA + nB) c) (nA + nB) (xA ++ xB) ∧ Ext w w' := by
  obtain ⟨b, off, _, h2, h3⟩ := h.lie
  obtain rfl := h2 (by simp)
  have c0 : w.cell? ⟨b, off, none⟩ = some (.slice aA nA cA) := by simpa using h3 0 _ rfl
  have c1 := h3 1 _ rfl
  have C0 := Lib.hid c0
  have C1 := Lib.hid c1
  have HA := Lib.hid hA
  have HB := Lib.hid hB
  obtain ⟨N, hN⟩ : ∃ N, nA + nB = N := ⟨_, rfl⟩
  rw [hN] at h0 hn
  have HGR := Lib.hid (grow_any N w h0 hn)
  have hsI : (nA : Int) + (nB : Int) = (N : Int) := by omega
  have hwI : IntKind.i64.wrap ((nA : Int) + (nB : Int)) = (N : Int) := by rw [hsI]; exact IntWalk.i64_in _ (by omega)
  have hA0 : ¬ (nA : Int) < 0 := by omega
  have hS0 : ¬ (N : Int) < 0 := by omega
  have hnA : nA ≤ 1000 := by omega
  have HN := Lib.hid hN
  clear hN
  clear h h2 h3 hA hB c0 c1
  go_enter Tryz.func92, Tryz.ntmps92
  go_wp2_with fail
  go_loopg [3, 11] 2 (fun m y x wr => ((m = 2 ∧ x = .int .i64 0 ∧ y = .int .i64 0) ∨ (m = 1 ∧ x = .int .i64 1 ∧ y = .int .i64 (nA : Int)) ∨ (m = 0 ∧ x = .int .i64 2 ∧ y = .int .i64 (N : Int))) ∧ wr = w)
  case atStart => exact ⟨.inl ⟨rfl, rfl, rfl⟩, rfl⟩
  case round =>
    obtain ⟨hc, rfl⟩ := hrel
    rcases hc with ⟨hm, rfl, rfl⟩ | ⟨hm, rfl, rfl⟩ | ⟨hm, rfl, rfl⟩
    · have HM := Lib.hid hm
      have c0 := C0.out
      clear hm
      go_wp2_with fail
      go_roundg 1
      case measure => have := HM.out; omega
      case rel => exact ⟨.inr (.inl ⟨rfl, rfl, by go_num⟩), rfl⟩
    · have HM := Lib.hid hm
      have c1 := C1.out
      clear hm
      go_wp2_with fail
      go_roundg 0
      case measure => have := HM.out; omega
      case rel => exact ⟨.inr (.inr ⟨rfl, rfl, by go_num⟩), rfl⟩
    · clear hm
      obtain ⟨wr0, rfl⟩ : ∃ wr0 : World, wr0 = wr := ⟨_, rfl⟩
      go_wp2_with fail
      refine HGR.out.mono ?_
      rintro e w1 ⟨cg, rfl, hcg, hown, hE1⟩
      have HO := Lib.hid hown
      have HE1 := Lib.hid hE1
      clear hown hE1 HGR hcg
      go_wp2_with fail
      go_loopg [6, 27] 2 (fun m y x wr => ∃ (a : Option Addr) (n cc : Nat) (xs : List Value), y = .slice a n cc ∧ wr.ownsRow wr0.heap.size 53 1 (.slice a n cc) n xs ∧ Ext wr0 wr ∧
        ((m = 2 ∧ x = .int .i64 0 ∧ n = 0 ∧ xs = []) ∨ (m = 1 ∧ x = .int .i64 1 ∧ n = nA ∧ xs = xA) ∨ (m = 0 ∧ x = .int .i64 2 ∧ n = nA + nB ∧ xs = xA ++ xB)))
      case atStart => exact ⟨_, _, _, _, rfl, HO.out, HE1.out, .inl ⟨rfl, rfl, rfl, rfl⟩⟩
      case round =>
        obtain ⟨a, n, cc, xs, rfl, ho, hE, hc⟩ := hrel
        have HE := Lib.hid hE
        have HOX := Lib.hid ho
        rcases hc with ⟨hm, rfl, rfl, rfl⟩ | ⟨hm, rfl, rfl, rfl⟩ | ⟨hm, rfl, rfl, rfl⟩
        · have HM := Lib.hid hm
          have c0 := cell_later hE C0.out
          clear hm hE
          go_wp2_with (at_builtin; go_must (refine wpl_append rfl rfl Tryz.slBoolss wr0.heap.size rfl ho rfl (HA.out.ext HE.out) oA (by unfold maxLen; omega) (by omega) HE.out.size ?_))
          intro v3 w3 hown3 hg3 hb3 _
          have HE3 := Lib.hid (Below.grown HE.out hg3 HE.out.size (fun b hb => (HOX.out.lt b hb).1))
          obtain ⟨a3, c3, rfl, _⟩ := hown3.row
          have HO3 := Lib.hid hown3
          clear hown3 hg3 hb3 ho
          go_wp2_with fail
          go_roundg 1
          case measure => have := HM.out; omega
          case rel => exact ⟨a3, _, c3, _, rfl, HO3.out, HE3.out, .inr (.inl ⟨rfl, rfl, by omega, by simp⟩)⟩
        · have HM := Lib.hid hm
          have c1 := cell_later hE C1.out
          clear hm hE
          go_wp2_with (at_builtin; go_must (refine wpl_append rfl rfl Tryz.slBoolss wr0.heap.size rfl ho rfl (HB.out.ext HE.out) oB (by have := HN.out; unfold maxLen; omega) (by have := HN.out; omega) HE.out.size ?_))
          intro v3 w3 hown3 hg3 hb3 _
          have HE3 := Lib.hid (Below.grown HE.out hg3 HE.out.size (fun b hb => (HOX.out.lt b hb).1))
          obtain ⟨a3, c3, rfl, _⟩ := hown3.row
          have HO3 := Lib.hid hown3
          clear hown3 hg3 hb3 ho
          go_wp2_with fail
          go_roundg 0
          case measure => have := HM.out; omega
          case rel => exact ⟨a3, _, c3, _, rfl, HO3.out, HE3.out, .inr (.inr ⟨rfl, rfl, rfl, rfl⟩)⟩
        · clear hm hE ho
          go_wp2
          go_ret
          exact ⟨_, _, rfl, HOX.out, HE.out⟩

end Go.Proofs.YtbmimdnpchldlaaGreatDoor

namespace Go.Proofs.YtbmimdnpchldlaaGreatDoor
open Go.RowKit

/-- Each of the values reads as its list. -/
def EachB (w : World) (vs : List Value) (ll : List (List Bool)) : Prop :=
  vs.length = ll.length ∧ ∀ (i : Nat) (x : Value) (l : List Bool), vs[i]? = some x → ll[i]? = some l → Bools w x l
def BLists (w : World) (v : Value) (ll : List (List Bool)) : Prop := ∃ vs, EachB w vs ll ∧ Reads w 1 v ll.length vs

theorem bools_ext {w w' : World} {v : Value} {l : List Bool} (h : Bools w v l) (hb : Ext w w') : Bools w' v l := Reads.ext h hb
theorem EachB.ext {w w' : World} {vs : List Value} {ll : List (List Bool)} (h : EachB w vs ll) (hb : Ext w w') : EachB w' vs ll := ⟨h.1, fun i x l hx hl => bools_ext (h.2 i x l hx hl) hb⟩
theorem BLists.ext {w w' : World} {v : Value} {ll : List (List Bool)} (h : BLists w v ll) (hb : Ext w w') : BLists w' v ll := by
  obtain ⟨vs, h1, h2⟩ := h
  exact ⟨vs, h1.ext hb, h2.ext hb⟩
theorem EachB.one {w : World} {vs : List Value} {ll : List (List Bool)} (h : EachB w vs ll) : ∀ u ∈ vs, u.oneCell' = true := by
  intro u hu
  obtain ⟨i, hi, rfl⟩ := List.mem_iff_getElem.1 hu
  have hl : i < ll.length := by rw [← h.1]; exact hi
  obtain ⟨a, c, e, _⟩ := h.2 i _ _ (List.getElem?_eq_getElem hi) (List.getElem?_eq_getElem hl)
  rw [e]; rfl
theorem EachB.app {w : World} {vs us : List Value} {ll mm : List (List Bool)} (h : EachB w vs ll) (k : EachB w us mm) : EachB w (vs ++ us) (ll ++ mm) := by
  refine ⟨by simp [h.1, k.1], fun i x l hx hl => ?_⟩
  by_cases hi : i < vs.length
  · rw [List.getElem?_append_left hi] at hx
    rw [List.getElem?_append_left (by rw [← h.1]; exact hi)] at hl
    exact h.2 i x l hx hl
  · rw [List.getElem?_append_right (by omega)] at hx
    rw [List.getElem?_append_right (by rw [← h.1]; omega), ← h.1] at hl
    exact k.2 _ x l hx hl

set_option maxRecDepth 100000 in
set_option maxHeartbeats 400000 in
theorem wcheck_ok (sv lv : Value) (S Lp : List (List Bool)) (props : Nat) (w : World) (hS : BLists w sv S) (hL : BLists w lv Lp) (h1 : S.length ≤ 12) (h2 : 1 ≤ Lp.length) (h3 : Lp.length ≤ 12) (h4 : ∀ l ∈ S ++ Lp, l.length = props) (h5 : props ≤ 6) :
    Calls Tryz.prog 91 #[.agg #[sv, lv], .int .i64 (props : Int)] w fun e w' => e = .returned (.int .i64 0) ∧ Ext w w' := by
  obtain ⟨vs, hE1, aS, cS, rfl, hr1⟩ := hS
  obtain ⟨us, hE2, aL, cL, rfl, hr2⟩ := hL
  have HX := Lib.hid (hE1.app hE2)
  have hA := ext_al (Ext.refl w) (Obj.cells #[.slice aS S.length cS, .slice aL Lp.length cL] 52)
  have hB := ext_al hA (Obj.cells #[.slice aS S.length cS, .slice aL Lp.length cL] 50)
  have hrow : Row ((w.alloc (Obj.cells #[.slice aS S.length cS, .slice aL Lp.length cL] 52)).alloc (Obj.cells #[.slice aS S.length cS, .slice aL Lp.length cL] 50)) 1 (some ⟨w.heap.size + 1, 0, none⟩) 2 2 [.slice aS S.length cS, .slice aL Lp.length cL] := by
    have h := Row.new (w.alloc (Obj.cells #[.slice aS S.length cS, .slice aL Lp.length cL] 52)) 50 [.slice aS S.length cS, .slice aL Lp.length cL] (by simp [maxLen])
    rw [show (w.alloc (Obj.cells #[.slice aS S.length cS, .slice aL Lp.length cL] 52)).heap.size = w.heap.size + 1 by simp] at h
    exact h
  have HCC := Lib.hid (concat_two ((w.alloc (Obj.cells #[.slice aS S.length cS, .slice aL Lp.length cL] 52)).alloc (Obj.cells #[.slice aS S.length cS, .slice aL Lp.length cL] 50)) (some ⟨w.heap.size + 1, 0, none⟩) aS aL 2 S.length cS Lp.length cL vs us hrow (hr1.ext hB) (hr2.ext hB) hE1.one hE2.one (by omega) (by omega))
  have HB := Lib.hid hB
  have H4 := Lib.hid h4
  have hp6 : ¬ (6 : Int) < (props : Int) := by omega
  have hp0 : ¬ (props : Int) < 0 := by omega
  have hs12 : ¬ (12 : Int) < (S.length : Int) := by omega
  have hl1 : ¬ (Lp.length : Int) < 1 := by omega
  have hl12 : ¬ (12 : Int) < (Lp.length : Int) := by omega
  clear hE1 hE2 hr1 hr2 hA hB hrow h4
  go_enter Tryz.func91, Tryz.ntmps91
  go_wp2_with fail
  refine HCC.out.mono ?_
  rintro e w1 ⟨ac, cc, rfl, hown, hE1⟩
  obtain ⟨_, _, e, hrow⟩ := hown.row
  simp only [Value.slice.injEq] at e
  obtain ⟨rfl, _, rfl⟩ := e
  have HR := Lib.hid hrow
  have HE1 := Lib.hid (HB.out.trans hE1)
  clear hown hrow hE1 HCC
  go_wp2_with fail
  go_loopg [36] (S.length + Lp.length) (fun m x wr => ∃ i : Nat, m + i = S.length + Lp.length ∧ x = .int .i64 (i : Int) ∧ wr = w1)
  case atStart => exact ⟨0, by omega, by go_num, rfl⟩
  case round =>
    obtain ⟨i, hmi, rfl, rfl⟩ := hrel
    have HMI := Lib.hid hmi
    by_cases hi : i < S.length + Lp.length
    · obtain ⟨b, off, _, k2, k3⟩ := HR.out.lie
      have hvl : (vs ++ us).length = (S ++ Lp).length := HX.out.1
      have hil : i < (vs ++ us).length := by rw [hvl, List.length_append]; exact hi
      have hil2 : i < (S ++ Lp).length := by rw [← hvl]; exact hil
      obtain rfl := k2 (by omega)
      have ck := k3 i _ (List.getElem?_eq_getElem hil)
      obtain ⟨a, c, e, -⟩ := HX.out.2 i _ _ (List.getElem?_eq_getElem hil) (List.getElem?_eq_getElem hil2)
      rw [e, H4.out _ (List.getElem_mem hil2)] at ck
      have hiI : (i : Int) < (S.length : Int) + (Lp.length : Int) := by omega
      have hi0 : (0 : Int) ≤ (i : Int) := by omega
      clear k2 k3 hvl hil hil2 e hmi
      go_wp2_with fail
      go_roundg (gk - 1)
      case measure => have := HMI.out; omega
      case rel => exact ⟨i + 1, by have := HMI.out; omega, by go_num, rfl⟩
    · have hiI : ¬ (i : Int) < (S.length : Int) + (Lp.length : Int) := by omega
      clear hmi
      go_wp2
      go_ret
      exact ⟨rfl, HE1.out⟩

end Go.Proofs.YtbmimdnpchldlaaGreatDoor

namespace Go.Proofs.YtbmimdnpchldlaaGreatDoor
open Go.RowKit

/-- Each value reads as its list. -/
def EachX {α : Type} (E : World → Value → List α → Prop) (w : World) (vs : List Value) (ll : List (List α)) : Prop :=
  vs.length = ll.length ∧ ∀ (i : Nat) (x : Value) (l : List α), vs[i]? = some x → ll[i]? = some l → E w x l
theorem EachX.snoc {α : Type} {E : World → Value → List α → Prop} {w : World} {vs : List Value} {ll : List (List α)} {v : Value} {l : List α} (h : EachX E w vs ll) (hv : E w v l) : EachX E w (vs ++ [v]) (ll ++ [l]) := by
  refine ⟨by simp [h.1], fun i y m hy hm => ?_⟩
  by_cases hi : i < vs.length
  · rw [List.getElem?_append_left hi] at hy
    rw [List.getElem?_append_left (by rw [← h.1]; exact hi)] at hm
    exact h.2 i y m hy hm
  · rw [List.getElem?_append_right (by omega)] at hy
    rw [List.getElem?_append_right (by rw [← h.1]; omega)] at hm
    have e : i - vs.length = 0 := by have := (List.getElem?_eq_some_iff.1 hy).1; simp at this; omega
    rw [e] at hy
    rw [← h.1, e] at hm
    simp at hy hm
    subst hy; subst hm; exact hv

/-- A list of lists while it grows. -/
structure GL {α : Type} (E : World → Value → List α → Prop) (T : TypeId) (W0 w : World) (B : Nat) (τ : Nat → Nat) (v : Value) (n : Nat) (vs : List Value) (ll : List (List α)) : Prop where
  ext : Ext W0 w
  own : OwnT τ 1 w B T 1 v n vs
  ent : Ent τ 2 w fun x => EachX E x vs ll
  lo : W0.heap.size ≤ B
  hi : B ≤ w.heap.size
  len : n = ll.length

theorem GL.start {α : Type} {E : World → Value → List α → Prop} {T : TypeId} {W0 w : World} {B : Nat} (hE : Ext W0 w) (h1 : W0.heap.size ≤ B) (h2 : B ≤ w.heap.size) : GL E T W0 w B (fun _ => 0) (.slice none 0 0) 0 [] [] :=
  ⟨hE, OwnT.nil _ _ _ _ _ _, fun x _ _ => ⟨rfl, fun i x l h => by simp at h⟩, h1, h2, rfl⟩

theorem GL.step {α : Type} {E : World → Value → List α → Prop} {T : TypeId} {W0 w w1 w3 : World} {B : Nat} {τ : Nat → Nat} {v v' : Value} {n : Nat} {vs : List Value} {ll : List (List α)} (h : GL E T W0 w B τ v n vs ll) (hE : Ext w w1) {l : List α} {x : Value} (hL : ∀ τ' : Nat → Nat, (∀ b, w.heap.size ≤ b → τ' b = 2) → Ent τ' 2 w1 fun y => E y x l) (o : Obj)
    (hown : w3.ownsRow B T 1 v' (n + 1) (vs ++ [x])) (hg : (w1.alloc o).grownBy w3 v.ownBlock) (hb : v'.ownBlock = v.ownBlock ∨ v'.ownBlock = some (w1.heap.size + 1)) :
    ∃ τ', GL E T W0 w3 B τ' v' (n + 1) (vs ++ [x]) (ll ++ [l]) := by
  have hx := ext_al (Ext.refl w1) o
  have e1 : Ent (tagAt τ w.heap.size 2) 2 w1 fun y => EachX E y (vs ++ [x]) (ll ++ [l]) := Ent.both (Ent.ext (h.ent.tag fun b hb => tagAt_lt hb) hE) (hL _ fun b hb => tagAt_ge hb) fun y p q => p.snoc q
  have o1 : OwnT (tagAt τ w.heap.size 2) 1 (w1.alloc o) B T 1 v n vs := (h.own.keep 2).ext (hE.trans hx)
  have e2 := (e1.ext hx).app o1 hg (by omega)
  have o2 := o1.app hown (by rw [show (w1.alloc o).heap.size = w1.heap.size + 1 by simp]; exact hb)
  have e3 : Ext W0 w3 := Below.grown ((h.ext.trans hE).trans hx) hg ((h.ext.trans hE).trans hx).size fun b hb => by
    have := (h.own.own.lt b hb).1
    have := h.lo
    omega
  refine ⟨_, e3, o2, e2, h.lo, ?_, by simp [h.len]⟩
  have h1 := h.hi
  have h2 := hE.size
  have h3 := hg.size
  have h4 : (w1.alloc o).heap.size = w1.heap.size + 1 := by simp
  omega

/-- .. where nothing lies between the list's own call and the append. -/
theorem GL.done {α : Type} {E : World → Value → List α → Prop} {T : TypeId} {W0 w : World} {B : Nat} {τ : Nat → Nat} {v : Value} {n : Nat} {vs : List Value} {ll : List (List α)} (h : GL E T W0 w B τ v n vs ll) : ∃ vs, EachX E w vs ll ∧ Reads w 1 v ll.length vs :=
  ⟨vs, h.ent.now, by rw [← h.len]; exact h.own.own.reads⟩

theorem own_bools_ent {w : World} {k : Nat} {x : Value} {l : List Bool} (h : w.ownsRow k 4 1 x l.length (l.map .bool)) (τ' : Nat → Nat) (ht : ∀ b, k ≤ b → τ' b = 2) : Ent τ' 2 w fun y => Bools y x l :=
  (OwnT.ent ⟨h, fun b hb => ht b (h.lt b hb).1⟩).mono fun _ h => h.reads
theorem own_ints_ent {w : World} {k : Nat} {x : Value} {l : List Int} (h : w.ownsRow k 3 1 x l.length (l.map (.int .i64))) (τ' : Nat → Nat) (ht : ∀ b, k ≤ b → τ' b = 2) : Ent τ' 2 w fun y => Ints y x l :=
  (OwnT.ent ⟨h, fun b hb => ht b (h.lt b hb).1⟩).mono fun _ h => h.reads

end Go.Proofs.YtbmimdnpchldlaaGreatDoor

namespace Go.Proofs.YtbmimdnpchldlaaGreatDoor

/-- The letters of all states; a column of them. -/
def letA (m : Md) (P : List Tm) (N : Nat) : List (List Bool) := (List.range N).map fun c : Nat => letS P (valsL m.vars (c : Int))
def colL (ll : List (List Bool)) (n : Nat) (y : Bool) : List Bool := ll.map fun x => x.getD n false == y
theorem letA_len (m : Md) (P : List Tm) (N : Nat) : (letA m P N).length = N := by simp [letA]
theorem nextA_len (m : Md) (N : Nat) : (nextA m N).length = N := by simp [nextA]
theorem letA_at (m : Md) (P : List Tm) {N c : Nat} (h : c < N) : (letA m P N)[c]? = some (letS P (valsL m.vars (c : Int))) := by
  unfold letA; rw [List.getElem?_map, List.getElem?_range h]; rfl
theorem nextA_at (m : Md) {N c : Nat} (h : c < N) : (nextA m N)[c]? = some (nextL m (c : Int)) := by
  unfold nextA; rw [List.getElem?_map, List.getElem?_range h]; rfl
theorem letA_take (m : Md) (P : List Tm) {N c : Nat} (h : c < N) : (letA m P N).take (c + 1) = (letA m P N).take c ++ [letS P (valsL m.vars (c : Int))] := by
  have hl : c < (letA m P N).length := by rw [letA_len]; exact h
  rw [List.take_succ_eq_append_getElem hl]
  have := letA_at m P h
  rw [List.getElem?_eq_getElem hl] at this
  rw [Option.some.inj this]
theorem nextA_take (m : Md) {N c : Nat} (h : c < N) : (nextA m N).take (c + 1) = (nextA m N).take c ++ [nextL m (c : Int)] := by
  have hl : c < (nextA m N).length := by rw [nextA_len]; exact h
  rw [List.take_succ_eq_append_getElem hl]
  have := nextA_at m h
  rw [List.getElem?_eq_getElem hl] at this
  rw [Option.some.inj this]

section
variable {m : Md} {P : List Tm} {N : Nat} {l k : List Bool} {A B : Int → Prop}
theorem MarksS.at (h : MarksS N l A) {c : Int} (hc : InN N c) : ∃ b, l[c.toNat]? = some b ∧ (b = true ↔ A c) := by
  have h1 : c.toNat < N := by have := hc.1; have := hc.2; omega
  have h2 : c.toNat < l.length := by rw [h.1]; exact h1
  refine ⟨l[c.toNat], List.getElem?_eq_getElem h2, ?_⟩
  have h3 := h.2 c.toNat h1
  rw [List.getElem?_eq_getElem h2, Option.some.injEq, show ((c.toNat : Nat) : Int) = c by have := hc.1; omega] at h3
  exact h3
theorem col_marks (v : Int) : MarksS N (colL (letA m P N) v.toNat true) (pS m P v) := by
  refine ⟨by simp [colL, letA_len], fun c hc => ?_⟩
  unfold colL pS
  rw [List.getElem?_map, letA_at m P hc]
  simp
theorem col_not (v : Int) : MarksS N (colL (letA m P N) v.toNat false) (fun c => ¬ pS m P v c) := by
  refine ⟨by simp [colL, letA_len], fun c hc => ?_⟩
  unfold colL pS
  rw [List.getElem?_map, letA_at m P hc]
  simp
theorem MarksS.both (h : MarksS N l A) (g : MarksS N k B) : MarksS N (List.zipWith (fun a b => a && b) l k) (fun c => A c ∧ B c) := by
  refine ⟨by simp [h.1, g.1], fun c hc => ?_⟩
  have h1 := h.2 c hc
  have g1 := g.2 c hc
  have hl : c < l.length := by rw [h.1]; exact hc
  have gl : c < k.length := by rw [g.1]; exact hc
  rw [List.getElem?_eq_getElem hl, Option.some.injEq] at h1
  rw [List.getElem?_eq_getElem gl, Option.some.injEq] at g1
  rw [List.getElem?_zipWith, List.getElem?_eq_getElem hl, List.getElem?_eq_getElem gl]
  simp [h1, g1]
theorem MarksS.less (h : MarksS N l A) (g : MarksS N k B) : MarksS N (List.zipWith (fun a b => a && !b) l k) (fun c => A c ∧ ¬ B c) := by
  refine ⟨by simp [h.1, g.1], fun c hc => ?_⟩
  have h1 := h.2 c hc
  have g1 := g.2 c hc
  have hl : c < l.length := by rw [h.1]; exact hc
  have gl : c < k.length := by rw [g.1]; exact hc
  rw [List.getElem?_eq_getElem hl, Option.some.injEq] at h1
  rw [List.getElem?_eq_getElem gl, Option.some.injEq] at g1
  rw [List.getElem?_zipWith, List.getElem?_eq_getElem hl, List.getElem?_eq_getElem gl]
  simp [h1, ← g1]
theorem MarksS.all (N : Nat) : MarksS N (List.replicate N true) fun _ => True := ⟨by simp, fun c hc => by simp [hc]⟩
theorem MarksS.one {N : Nat} (c : Nat) (h : c < N) : MarksS N ((List.replicate N false).set c true) fun d => d = (c : Int) := by
  refine ⟨by simp, fun d hd => ?_⟩
  rw [List.getElem?_set]
  by_cases e : c = d
  · subst e; simp [h]
  · rw [if_neg e]
    simp [hd]
    omega

variable (hp : m.Pre) (hc : countL m.vars = (N : Int)) {b b2 : Bool}
include hp hc
theorem ever_b {v : Int} (hm : MarksS N l (StayS m fun c => ¬ pS m P v c)) (hb : l[m.first.toNat]? = some b) : holdsB m P (.n1 17 0 (.n0 13 v)) = !b := by
  obtain ⟨hN, hF⟩ := codes_in hp hc
  obtain ⟨b', e, h⟩ := hm.at hF
  rw [hb] at e
  obtain rfl := Option.some.inj e
  refine holdsB_eq ((ever_law hN hF v).trans ?_)
  rw [← h]
  cases b <;> simp
theorem again_b {v : Int} (hm : MarksS N l (LeadS m (fun _ => True) (StayS m fun c => ¬ pS m P v c))) (hb : l[m.first.toNat]? = some b) : holdsB m P (.n1 18 0 (.n1 17 0 (.n0 13 v))) = !b := by
  obtain ⟨hN, hF⟩ := codes_in hp hc
  obtain ⟨b', e, h⟩ := hm.at hF
  rw [hb] at e
  obtain rfl := Option.some.inj e
  refine holdsB_eq ((again_law hN hF (NextP.some m) v).trans ?_)
  rw [← h]
  cases b <;> simp
theorem release_b {u v : Int} (hm : MarksS N l (LeadS m (fun c => ¬ pS m P u c) fun c => ¬ pS m P v c)) (hb : l[m.first.toNat]? = some b) : holdsB m P (.n2 16 0 (.n0 13 u) (.n0 13 v)) = !b := by
  obtain ⟨hN, hF⟩ := codes_in hp hc
  obtain ⟨b', e, h⟩ := hm.at hF
  rw [hb] at e
  obtain rfl := Option.some.inj e
  refine holdsB_eq ((release_law hN hF (NextP.some m) u v).trans ?_)
  rw [← h]
  cases b <;> simp
theorem until_b {u v : Int} (hm : MarksS N l (LeadS m (fun c => ¬ pS m P v c ∧ pS m P u c) fun c => ¬ pS m P v c ∧ ¬ pS m P u c)) (hb : l[m.first.toNat]? = some b) (hm2 : MarksS N k (StayS m fun c => ¬ pS m P v c ∧ pS m P u c)) (hb2 : k[m.first.toNat]? = some b2) : holdsB m P (.n2 15 0 (.n0 13 u) (.n0 13 v)) = (!b && !b2) := by
  obtain ⟨hN, hF⟩ := codes_in hp hc
  obtain ⟨b', e, h⟩ := hm.at hF
  rw [hb] at e
  obtain rfl := Option.some.inj e
  obtain ⟨b', e, h2⟩ := hm2.at hF
  rw [hb2] at e
  obtain rfl := Option.some.inj e
  refine holdsB_eq ((until_law hN hF (NextP.some m) u v).trans ?_)
  rw [← h, ← h2]
  cases b <;> cases b2 <;> simp
theorem settles_b {v : Int} (hm : MarksS N l (LeadS m (fun _ => True) fun c => ¬ pS m P v c ∧ ∃ d, NextP m c d ∧ LeadS m (fun _ => True) (fun e => e = c) d)) (hb : l[m.first.toNat]? = some b) : holdsB m P (.n1 17 0 (.n1 18 0 (.n0 13 v))) = !b := by
  obtain ⟨hN, hF⟩ := codes_in hp hc
  obtain ⟨b', e, h⟩ := hm.at hF
  rw [hb] at e
  obtain rfl := Option.some.inj e
  refine holdsB_eq ((settles_law hN hF (NextP.some m) v).trans ?_)
  rw [← h]
  cases b <;> simp
end

end Go.Proofs.YtbmimdnpchldlaaGreatDoor

namespace Go.Proofs.YtbmimdnpchldlaaGreatDoor
open Go.RowKit

/-- Lists of lists, place by place. -/
theorem lx_cells {α : Type} {E : World → Value → List α → Prop} {w : World} {v : Value} {ll : List (List α)} (h : ∃ vs, EachX E w vs ll ∧ Reads w 1 v ll.length vs) : ∃ a c, v = .slice a ll.length c ∧ ll.length ≤ c ∧ c ≤ maxLen ∧ ∃ b off, (0 < ll.length → a = some ⟨b, off, none⟩) ∧ ∀ (i : Nat) (hi : i < ll.length), ∃ u, w.cell? ⟨b, off + i, none⟩ = some u ∧ E w u ll[i] := by
  obtain ⟨vs, he, a, c, rfl, hr⟩ := h
  obtain ⟨b, off, _, h2, h3⟩ := hr.lie
  refine ⟨a, c, rfl, hr.le, hr.max, b, off, fun hl => h2 (by rw [he.1]; exact hl), fun i hi => ?_⟩
  have hi' : i < vs.length := by rw [he.1]; exact hi
  exact ⟨vs[i], h3 i vs[i] (by simp), he.2 i vs[i] ll[i] (by simp) (by simp)⟩
theorem lx_ext {α : Type} {E : World → Value → List α → Prop} (hE : ∀ {w w' : World} {v : Value} {l : List α}, E w v l → Ext w w' → E w' v l) {w w' : World} {v : Value} {n : Nat} {ll : List (List α)} (h : ∃ vs, EachX E w vs ll ∧ Reads w 1 v n vs) (hx : Ext w w') : ∃ vs, EachX E w' vs ll ∧ Reads w' 1 v n vs := by
  obtain ⟨vs, h1, h2⟩ := h
  exact ⟨vs, ⟨h1.1, fun i x l a b => hE (h1.2 i x l a b) hx⟩, h2.ext hx⟩
theorem ints_ext' {w w' : World} {v : Value} {l : List Int} (h : Ints w v l) (hx : Ext w w') : Ints w' v l := h.ext hx
/-- A row of truths, place by place. -/
theorem bools_at {w : World} {v : Value} {l : List Bool} (h : Bools w v l) : ∃ a c, v = .slice a l.length c ∧ l.length ≤ c ∧ c ≤ maxLen ∧ ∃ b off, (0 < l.length → a = some ⟨b, off, none⟩) ∧ ∀ (i : Nat) (x : Bool), l[i]? = some x → w.cell? ⟨b, off + i, none⟩ = some (.bool x) := by
  obtain ⟨a, c, rfl, hr⟩ := h
  obtain ⟨b, off, _, h2, h3⟩ := hr.lie
  exact ⟨a, c, rfl, hr.le, hr.max, b, off, fun hl => h2 (by simpa using hl), fun i x hi => h3 i _ (by rw [List.getElem?_map, hi]; rfl)⟩
theorem ints_of {w : World} {v : Value} {l : List Int} (h : Ints w v l) : ∃ a c, v = .slice a l.length c ∧ l.length ≤ c ∧ c ≤ maxLen ∧ ∃ b off, (0 < l.length → a = some ⟨b, off, none⟩) ∧ ∀ (i : Nat) (x : Int), l[i]? = some x → w.cell? ⟨b, off + i, none⟩ = some (.int .i64 x) := by
  obtain ⟨a, c, rfl, hr⟩ := h
  obtain ⟨b, off, _, h2, h3⟩ := hr.lie
  exact ⟨a, c, rfl, hr.le, hr.max, b, off, fun hl => h2 (by simpa using hl), fun i x hi => h3 i _ (by rw [List.getElem?_map, hi]; rfl)⟩
theorem colL_take (ll : List (List Bool)) (n : Nat) (y : Bool) {i : Nat} (hi : i < ll.length) : (colL (ll.take (i + 1)) n y) = colL (ll.take i) n y ++ [ll[i].getD n false == y] := by
  unfold colL
  rw [List.take_succ_eq_append_getElem hi, List.map_append]
  rfl
theorem row_boolG (w : World) (t : TypeId) (x : Bool) (k : Nat) (hk : k = w.heap.size) : Row (w.alloc (.cells #[.bool x] t)) 1 (some ⟨k, 0, none⟩) 1 1 [.bool x] := by subst hk; exact Row.one w t _

set_option maxRecDepth 100000 in
set_option maxHeartbeats 8000000 in
theorem column_any (lv : Value) (ll : List (List Bool)) (n : Nat) (y : Bool) (w : World) (hl : ∃ vs, EachX Bools w vs ll ∧ Reads w 1 lv ll.length vs) (h3 : ∀ l ∈ ll, l.length = 3) (hn : n < 3) (h16 : ll.length ≤ 1000) :
    Calls Tryz.prog 30 #[lv, .int .i64 (n : Int), .bool y] w fun e w' => ∃ v, e = .returned v ∧ w'.ownsRow w.heap.size 4 1 v ll.length ((colL ll n y).map .bool) ∧ Ext w w' := by
  obtain ⟨a, c, rfl, hc1, hc2, b, off, hb1, hb2⟩ := lx_cells hl
  have HB1 := Lib.hid hb1
  have HB2 := Lib.hid hb2
  have HL3 := Lib.hid h3
  clear hl hb1 hb2 h3
  unfold maxLen at hc2
  go_enter Tryz.func30, Tryz.ntmps30
  go_wp2_with fail
  go_loopg [8, 7] ll.length (fun g x z wr => ∃ (i : Nat) (a7 : Option Addr) (c7 : Nat), g + i = ll.length ∧ x = .int .i64 (i : Int) ∧ z = .slice a7 i c7 ∧ Ext w wr ∧ wr.ownsRow w.heap.size 4 1 (.slice a7 i c7) i ((colL (ll.take i) n y).map .bool))
  case atStart => exact ⟨0, none, 0, by omega, by go_num, rfl, Ext.refl _, World.ownsRow_nil _ _ _ _⟩
  case round =>
    obtain ⟨i, a7, c7, hgi, rfl, rfl, hE, hO⟩ := hrel
    have HGI := Lib.hid hgi
    have HE := Lib.hid hE
    have HO := Lib.hid hO
    clear hgi hE hO
    by_cases hi : i < ll.length
    · obtain rfl := HB1.out (by omega)
      obtain ⟨u, hu, hbu⟩ := HB2.out i hi
      obtain ⟨au, cu, rfl, hu1, hu2, bu, ou, hu3, hu4⟩ := bools_at hbu
      have hl3 := HL3.out ll[i] (by simp)
      obtain rfl := hu3 (by omega)
      have ci := cell_later HE.out hu
      have hxn : ll[i][n]? = some (ll[i].getD n false) := by rw [List.getD, List.getElem?_eq_getElem (by omega)]; rfl
      have cn := cell_later HE.out (hu4 n _ hxn)
      have HCT := Lib.hid (colL_take ll n y hi)
      rw [hl3] at ci hu1
      generalize ll[i].getD n false = bx at *
      have hiI : (i : Int) < (ll.length : Int) := by omega
      have hi0 : (0 : Int) ≤ (i : Int) := by omega
      have hnI : (n : Int) < 3 := by omega
      have hn0 : (0 : Int) ≤ (n : Int) := by omega
      have hoR := fun (o : Obj) => own_ext HO.out (ext_al (Ext.refl wr) o)
      have HOR := Lib.hid hoR
      unfold maxLen at hu2
      clear hu hbu hu4 hxn hl3 hoR
      go_wp2_with (at_builtin; go_must (refine wpl_append rfl rfl Tryz.slBoolsG w.heap.size rfl (HOR.out _) rfl (row_boolG _ _ _ _ (by simp)) (by simp [Value.oneCell']) (by unfold maxLen; omega) (by omega) (by have := HE.out.size; simp; omega) ?_))
      intro v8 w8 hown8 hg8 hb8 _
      obtain ⟨a8, c8, rfl, _⟩ := hown8.row
      have HO8 := Lib.hid (show w8.ownsRow w.heap.size 4 1 (.slice a8 (i + 1) c8) (i + 1) ((colL (ll.take (i + 1)) n y).map .bool) from by rw [HCT.out, List.map_append]; exact hown8)
      have HE8 := Lib.hid (Below.grown (ext_al HE.out _) hg8 (ext_al HE.out _).size (fun b hb => (HO.out.lt b hb).1))
      clear hown8 hg8 hb8 ci cn
      go_wp2_with fail
      go_roundg (gk - 1)
      case measure => have := HGI.out; omega
      case rel => exact ⟨i + 1, a8, c8, by have := HGI.out; omega, by go_num, rfl, HE8.out, HO8.out⟩
    · obtain rfl : i = ll.length := by have := HGI.out; omega
      have hiI : ¬ (ll.length : Int) < (ll.length : Int) := by omega
      rw [List.take_length] at HO
      go_wp2
      go_ret
      exact ⟨_, rfl, HO.out, HE.out⟩

end Go.Proofs.YtbmimdnpchldlaaGreatDoor

namespace Go.Proofs.YtbmimdnpchldlaaGreatDoor
open Go.RowKit

/-- A row of truths that the call has made. -/
def SetR (w : World) (n : Nat) (Q : List Bool → Prop) (e : Ending) (w' : World) : Prop :=
  ∃ (v : Value) (inn : List Bool), e = .returned v ∧ w'.ownsRow w.heap.size 4 1 v n (inn.map .bool) ∧ inn.length = n ∧ Q inn ∧ Ext w w'

theorem set_bools (l : List Bool) (i : Nat) (x : Bool) : (l.map Value.bool).set i (.bool x) = (l.set i x).map Value.bool := by rw [List.map_set]
theorem edge_get {next : List (List Int)} {c e : Nat} : Edge next c e ↔ ∃ l, next[c]? = some l ∧ (e : Int) ∈ l := Iff.rfl

set_option maxRecDepth 100000 in
set_option maxHeartbeats 16000000 in
theorem grows_any (nv av : Value) (next : List (List Int)) (al : List Bool) (w : World) (hN : ∃ vs, EachX Ints w vs next ∧ Reads w 1 nv next.length vs) (hA : Bools w av al) (hl : next.length = al.length) (h0 : 0 < al.length) (h16 : al.length ≤ 1000) (hin : ∀ l ∈ next, ∀ k ∈ l, 0 ≤ k ∧ k < (al.length : Int)) (hln : ∀ l ∈ next, l.length ≤ 1000) :
    Calls Tryz.prog 29 #[nv, av] w (SetR w al.length fun inn => ∀ c : Nat, inn[c]? = some true ↔ StayI next al c) := by
  obtain ⟨an, cn, rfl, hn1, hn2, bn, on, hn3, hn4⟩ := lx_cells hN
  obtain ⟨aa, ca, rfl, ha1, ha2, _, _, _, _⟩ := bools_at hA
  obtain ⟨_, _, e, hrA⟩ := hA
  simp only [Value.slice.injEq] at e
  obtain ⟨rfl, -, rfl⟩ := e
  obtain rfl := hn3 (by omega)
  have HA := Lib.hid hrA
  have HN4 := Lib.hid hn4
  have HIN := Lib.hid hin
  have HLN := Lib.hid hln
  obtain ⟨N, hNl⟩ : ∃ N, al.length = N := ⟨_, rfl⟩
  have HNL := Lib.hid hNl
  have HNX := Lib.hid (hl.trans hNl)
  rw [hNl] at h0 h16 HIN HA hl
  rw [hl] at hn1 ⊢
  rw [hNl]
  have hcnt : al.count true < N + 1 := by have := List.count_le_length (a := true) (l := al); omega
  clear hrA hN hn3 hn4 hin hln hNl hl
  unfold maxLen at hn2 ha2
  go_enter Tryz.func29, Tryz.ntmps29
  go_wp2_with (at_builtin; go_must (refine wpl_append rfl rfl Tryz.slBoolsG w.heap.size rfl (World.ownsRow_nil _ _ _ _) rfl HA.out (by intro u hu; obtain ⟨x, _, rfl⟩ := List.mem_map.1 hu; rfl) (by unfold maxLen; omega) (by omega) (Nat.le_refl _) ?_))
  intro v1 w1 hown1 hg1 hb1 _
  try simp only [Nat.zero_add, List.nil_append] at hown1
  have hE1 : Ext w w1 := Below.grown (Ext.refl w) hg1 (Nat.le_refl _) (by simp [Value.ownBlock])
  obtain ⟨H, cp, rfl⟩ := own_shape hown1 h0
  have HO1 := Lib.hid hown1
  have HE1 := Lib.hid hE1
  have hHw := (hown1.lt H rfl).1
  have hcp : N ≤ cp := by obtain ⟨_, _, e, h⟩ := hown1.row; simp only [Value.slice.injEq] at e; obtain ⟨-, -, rfl⟩ := e; exact h.le
  have hcm : cp ≤ 9223372036854775807 := by obtain ⟨_, _, e, h⟩ := hown1.row; simp only [Value.slice.injEq] at e; obtain ⟨-, -, rfl⟩ := e; have := h.max; unfold maxLen at this; omega
  clear hown1 hg1 hb1 hE1 HA
  go_wp2_with fail
  go_loopg [6] (N + 1) (fun g x wr => ∃ (again : Bool) (inn : List Bool), x = .bool again ∧ GInv next al inn ∧ Ext w wr ∧ wr.ownsRow w.heap.size 4 1 (.slice (some ⟨H, 0, none⟩) N cp) N (inn.map .bool) ∧
    (again = true → inn.count true < g) ∧ (again = false → ∀ c : Nat, inn[c]? = some true → ∃ e, Edge next c e ∧ inn[e]? = some true))
  case atStart => exact ⟨true, al, rfl, GInv.start next al, HE1.out, HO1.out, fun _ => hcnt, (fun h => by cases h)⟩
  case round =>
    obtain ⟨again, inn, rfl, hI, hE, hO, hA1, hA2⟩ := hrel
    have HI := Lib.hid hI
    have HE := Lib.hid hE
    have HO := Lib.hid hO
    have HA1 := Lib.hid hA1
    have HA2 := Lib.hid hA2
    clear hI hE hO hA1 hA2 HO1 HE1 hcnt
    cases again
    · go_wp2
      go_ret
      exact ⟨_, inn, rfl, HO.out, by rw [HI.out.len]; exact HNL.out, HI.out.done (HA2.out (by simp)), HE.out⟩
    · have HCT := Lib.hid (HA1.out (by simp))
      obtain ⟨wo, rfl⟩ : ∃ x : World, x = wr := ⟨_, rfl⟩
      obtain ⟨gm, hgm⟩ : ∃ x : Nat, x = gk := ⟨_, rfl⟩
      have HGM := Lib.hid hgm
      clear hgm HA1 HA2
      go_wp2_with fail
      go_loopg [7, 6] N (fun g x z wr => ∃ (c : Nat) (again : Bool) (inn' : List Bool), g + c = N ∧ x = .int .i64 (c : Int) ∧ z = .bool again ∧ GInv next al inn' ∧ Ext w wr ∧ wr.ownsRow w.heap.size 4 1 (.slice (some ⟨H, 0, none⟩) N cp) N (inn'.map .bool) ∧
        (again = true → inn'.count true < inn.count true) ∧ (again = false → inn' = inn ∧ ∀ d : Nat, d < c → inn[d]? = some true → ∃ e, Edge next d e ∧ inn[e]? = some true))
      case atStart => exact ⟨0, false, inn, by omega, by go_num, rfl, HI.out, HE.out, HO.out, (fun h => by cases h), fun _ => ⟨rfl, fun d hd => by omega⟩⟩
      case round =>
        obtain ⟨c, again, inn', hgc, rfl, rfl, hI2, hE2, hO2, hB1, hB2⟩ := hrel
        have HGC := Lib.hid hgc
        have HI2 := Lib.hid hI2
        have HE2 := Lib.hid hE2
        have HO2 := Lib.hid hO2
        have HB1 := Lib.hid hB1
        have HB2 := Lib.hid hB2
        have hil : inn'.length = N := by rw [hI2.len]; exact HNL.out
        have HIL := Lib.hid hil
        clear hgc hI2 hE2 hO2 hB1 hB2
        by_cases hc : c < N
        · have hc1 : c < inn'.length := by omega
          have cc := own_cellAt HO2.out (i := c) (by rw [List.length_map]; exact hc1)
          rw [List.getElem_map] at cc
          have hget : inn'[c]? = some inn'[c] := List.getElem?_eq_getElem hc1
          obtain ⟨bc, hbc⟩ : ∃ b, inn'[c] = b := ⟨_, rfl⟩
          rw [hbc] at cc hget
          have HGET := Lib.hid hget
          have hcI : (c : Int) < (N : Int) := by omega
          have hc0 : (0 : Int) ≤ (c : Int) := by omega
          clear hget hbc hc1 hil
          cases bc
          · go_wp2_with fail
            go_roundg (gk - 1)
            case measure => have := HGC.out; omega
            case rel => exact ⟨c + 1, again, inn', by have := HGC.out; omega, by go_num, rfl, HI2.out, HE2.out, HO2.out, HB1.out, fun h => ⟨(HB2.out h).1, fun d hd hdt => by
              by_cases e : d = c
              · subst e
                have h1 := HGET.out
                rw [(HB2.out h).1, hdt] at h1
                cases h1
              · exact (HB2.out h).2 d (by omega) hdt⟩⟩
          · obtain ⟨u, hu, hiu⟩ := HN4.out c (by have := HNX.out; omega)
            have hlm : next[c]'(by have := HNX.out; omega) ∈ next := by simp
            have hkin := HIN.out _ hlm
            have hk1000 := HLN.out _ hlm
            have hgl : next[c]? = some (next[c]'(by have := HNX.out; omega)) := List.getElem?_eq_getElem _
            generalize next[c]'(by have := HNX.out; omega) = l at *
            obtain ⟨au, cu, rfl, hu1, hu2, bu, ou, hu3, hu4⟩ := ints_of hiu
            have HU3 := Lib.hid hu3
            have HU4 := Lib.hid hu4
            have HKI := Lib.hid hkin
            have HGL := Lib.hid hgl
            have ci := cell_later HE2.out hu
            have HCI := Lib.hid ci
            obtain ⟨n, hn⟩ : ∃ x, l.length = x := ⟨_, rfl⟩
            have HLL := Lib.hid hn
            rw [hn] at ci hu1 HCI hk1000
            unfold maxLen at hu2
            obtain ⟨w2, rfl⟩ : ∃ x : World, x = wr := ⟨_, rfl⟩
            obtain ⟨gc, hgc⟩ : ∃ x : Nat, x = gk := ⟨_, rfl⟩
            have HGK := Lib.hid hgc
            clear hu hiu hu3 hu4 hkin hgl hn hgc ci hlm
            go_wp2_with fail
            go_loopg [9, 8] n (fun g x z wr => ∃ (k : Nat) (some' : Bool), g + k = n ∧ x = .int .i64 (k : Int) ∧ z = .bool some' ∧ Ext w2 wr ∧ wr.ownsRow w.heap.size 4 1 (.slice (some ⟨H, 0, none⟩) N cp) N (inn'.map .bool) ∧
              (some' = true ↔ ∃ (j e : Nat), j < k ∧ l[j]? = some (e : Int) ∧ inn'[e]? = some true))
            case atStart => exact ⟨0, false, by omega, by go_num, rfl, Ext.refl _, HO2.out, ⟨(fun h => by cases h), fun ⟨j, _, hj, _⟩ => by omega⟩⟩
            case round =>
              obtain ⟨k, some', hgk, rfl, rfl, hE3, hO3, hS⟩ := hrel
              have HGK2 := Lib.hid hgk
              have HE3 := Lib.hid hE3
              have HO3 := Lib.hid hO3
              have HS := Lib.hid hS
              have ci := cell_later hE3 HCI.out
              clear hgk hE3 hO3 hS
              by_cases hk : k < n
              · have hkl : k < l.length := by have := HLL.out; omega
                have hgl : l[k]? = some l[k] := List.getElem?_eq_getElem hkl
                obtain ⟨hk1, hk2⟩ := HKI.out l[k] (by simp)
                generalize l[k] = x at *
                obtain ⟨e, rfl⟩ : ∃ e : Nat, x = (e : Int) := ⟨x.toNat, by omega⟩
                obtain rfl := HU3.out (by have := HLL.out; omega)
                have ck := cell_later (HE2.out.trans HE3.out) (HU4.out k _ hgl)
                have he1 : e < inn'.length := by have := HIL.out; omega
                have ce := own_cellAt HO3.out (i := e) (by rw [List.length_map]; exact he1)
                rw [List.getElem_map] at ce
                have hget : inn'[e]? = some inn'[e] := List.getElem?_eq_getElem he1
                generalize inn'[e] = be at *
                have HSE := Lib.hid (show (some' || be) = true ↔ ∃ (j e : Nat), j < k + 1 ∧ l[j]? = some (e : Int) ∧ inn'[e]? = some true from by
                  rw [Bool.or_eq_true, HS.out]
                  constructor
                  · rintro (⟨j, q, h1, h2, h3⟩ | h)
                    · exact ⟨j, q, by omega, h2, h3⟩
                    · subst h; exact ⟨k, e, by omega, hgl, hget⟩
                  · rintro ⟨j, q, h1, h2, h3⟩
                    by_cases ej : j = k
                    · subst ej
                      rw [hgl] at h2
                      have : q = e := by have := Option.some.inj h2; omega
                      subst this
                      rw [hget] at h3
                      exact .inr (Option.some.inj h3)
                    · exact .inl ⟨j, q, by omega, h2, h3⟩)
                have hkI : (k : Int) < (n : Int) := by omega
                have hk0 : (0 : Int) ≤ (k : Int) := by omega
                clear hgl hget he1
                cases some'
                all_goals
                  go_wp2_with fail
                  go_roundg (gk - 1)
                  case measure => have := HGK2.out; omega
                  case rel => exact ⟨k + 1, _, by have := HGK2.out; omega, by go_num, rfl, HE3.out, HO3.out, HSE.out⟩
              · obtain rfl : k = n := by have := HGK2.out; omega
                have hkI : ¬ (k : Int) < (k : Int) := by omega
                have fc := own_freeAt HO3.out c
                have cc2 := own_cellAt HO3.out (i := c) (by rw [List.length_map]; have := HIL.out; omega)
                have HSA := Lib.hid (own_setAt HO3.out (i := c) (.bool false))
                have HEX := Lib.hid (HE2.out.trans HE3.out)
                cases some'
                · have HDR := Lib.hid (HI2.out.drop (c := c) fun e he hie => by
                    obtain ⟨l', h1, h2⟩ := he
                    rw [HGL.out] at h1
                    obtain rfl := Option.some.inj h1
                    obtain ⟨j, hj, e2⟩ := List.mem_iff_getElem.1 h2
                    have := HS.out.2 ⟨j, e, by have := HLL.out; omega, by rw [List.getElem?_eq_getElem hj, e2], hie⟩
                    cases this)
                  have HCD := Lib.hid (count_drop inn' c HGET.out)
                  go_wp2_with fail
                  go_roundg (gc - 1)
                  case measure => have := HGC.out; have := HGK.out; omega
                  case rel => exact ⟨c + 1, true, inn'.set c false, by have := HGC.out; have := HGK.out; omega, by go_num, rfl, HDR.out, ext_st HEX.out (p := ⟨H, c, none⟩) hHw _, by rw [← set_bools]; exact HSA.out, fun _ => by
                    have h1 := HCD.out
                    cases again
                    · have := (HB2.out rfl).1; subst this; omega
                    · have := HB1.out rfl; omega, (fun h => by cases h)⟩
                · have HSO := Lib.hid (HS.out.1 rfl)
                  clear HSA fc cc2
                  go_wp2_with fail
                  go_roundg (gc - 1)
                  case measure => have := HGC.out; have := HGK.out; omega
                  case rel => exact ⟨c + 1, again, inn', by have := HGC.out; have := HGK.out; omega, by go_num, rfl, HI2.out, HEX.out, HO3.out, HB1.out, fun h => ⟨(HB2.out h).1, fun d hd hdt => by
                    by_cases e : d = c
                    · subst e
                      obtain ⟨j, q, h1, h2, h3⟩ := HSO.out
                      exact ⟨q, ⟨l, HGL.out, List.mem_of_getElem? h2⟩, by rw [← (HB2.out h).1]; exact h3⟩
                    · exact (HB2.out h).2 d (by omega) hdt⟩⟩
        · obtain rfl : c = N := by have := HGC.out; omega
          have hcI : ¬ (c : Int) < (c : Int) := by omega
          go_wp2_with fail
          go_roundg (gm - 1)
          case measure => have := HGM.out; have := HCT.out; omega
          case rel => exact ⟨again, inn', rfl, HI2.out, HE2.out, HO2.out, fun h => by have := HB1.out h; have := HGM.out; have := HCT.out; omega, fun h => by
            obtain ⟨rfl, h2⟩ := HB2.out h
            exact fun d hd => h2 d (by have h3 := (List.getElem?_eq_some_iff.1 hd).1; have := HIL.out; omega) hd⟩

end Go.Proofs.YtbmimdnpchldlaaGreatDoor

namespace Go.Proofs.YtbmimdnpchldlaaGreatDoor
open Go.RowKit

theorem count_up : ∀ (l : List Bool) (c : Nat), l[c]? = some false → (l.set c true).count false + 1 = l.count false
  | b :: l, 0, h => by simp at h; subst h; simp
  | b :: l, c + 1, h => by
    have := count_up l c (by simpa using h)
    simp only [List.set_cons_succ, List.count_cons]
    omega

set_option maxRecDepth 100000 in
set_option maxHeartbeats 16000000 in
theorem leadsTo_any (nv av wv : Value) (next : List (List Int)) (al wa : List Bool) (w : World) (hN : ∃ vs, EachX Ints w vs next ∧ Reads w 1 nv next.length vs) (hA : Bools w av al) (hW : Bools w wv wa) (hl : next.length = wa.length) (hla : al.length = wa.length) (h0 : 0 < wa.length) (h16 : wa.length ≤ 1000) (hin : ∀ l ∈ next, ∀ k ∈ l, 0 ≤ k ∧ k < (wa.length : Int)) (hln : ∀ l ∈ next, l.length ≤ 1000) :
    Calls Tryz.prog 32 #[nv, av, wv] w (SetR w wa.length fun inn => ∀ c : Nat, inn[c]? = some true ↔ LeadI next al wa c) := by
  obtain ⟨an, cn, rfl, hn1, hn2, bn, on, hn3, hn4⟩ := lx_cells hN
  obtain ⟨aa, ca, rfl, ha1, ha2, ba, oa, ha3, ha4⟩ := bools_at hA
  obtain ⟨aw, cw, rfl, hw1, hw2, _, _, _, _⟩ := bools_at hW
  obtain ⟨_, _, e, hrA⟩ := hW
  simp only [Value.slice.injEq] at e
  obtain ⟨rfl, -, rfl⟩ := e
  obtain rfl := hn3 (by omega)
  obtain rfl := ha3 (by omega)
  have HA := Lib.hid hrA
  have HN4 := Lib.hid hn4
  have HA4 := Lib.hid ha4
  have HIN := Lib.hid hin
  have HLN := Lib.hid hln
  obtain ⟨N, hNl⟩ : ∃ N, wa.length = N := ⟨_, rfl⟩
  have HNL := Lib.hid hNl
  have HNX := Lib.hid (hl.trans hNl)
  have HAL := Lib.hid (hla.trans hNl)
  rw [hNl] at h0 h16 HIN HA hl hla
  rw [hl] at hn1 ⊢
  rw [hla] at ha1 ⊢
  rw [hNl]
  have hcnt : wa.count false < N + 1 := by have := List.count_le_length (a := false) (l := wa); omega
  clear hrA hN hn3 hn4 ha3 ha4 hA hin hln hNl hl hla
  unfold maxLen at hn2 ha2 hw2
  go_enter Tryz.func32, Tryz.ntmps32
  go_wp2_with (at_builtin; go_must (refine wpl_append rfl rfl Tryz.slBoolsG w.heap.size rfl (World.ownsRow_nil _ _ _ _) rfl HA.out (by intro u hu; obtain ⟨x, _, rfl⟩ := List.mem_map.1 hu; rfl) (by unfold maxLen; omega) (by omega) (Nat.le_refl _) ?_))
  intro v1 w1 hown1 hg1 hb1 _
  try simp only [Nat.zero_add, List.nil_append] at hown1
  have hE1 : Ext w w1 := Below.grown (Ext.refl w) hg1 (Nat.le_refl _) (by simp [Value.ownBlock])
  obtain ⟨H, cp, rfl⟩ := own_shape hown1 h0
  have HO1 := Lib.hid hown1
  have HE1 := Lib.hid hE1
  have hHw := (hown1.lt H rfl).1
  have hcp : N ≤ cp := by obtain ⟨_, _, e, h⟩ := hown1.row; simp only [Value.slice.injEq] at e; obtain ⟨-, -, rfl⟩ := e; exact h.le
  have hcm : cp ≤ 9223372036854775807 := by obtain ⟨_, _, e, h⟩ := hown1.row; simp only [Value.slice.injEq] at e; obtain ⟨-, -, rfl⟩ := e; have := h.max; unfold maxLen at this; omega
  clear hown1 hg1 hb1 hE1 HA
  go_wp2_with fail
  go_loopg [8] (N + 1) (fun g x wr => ∃ (again : Bool) (inn : List Bool), x = .bool again ∧ LInv next al wa inn ∧ Ext w wr ∧ wr.ownsRow w.heap.size 4 1 (.slice (some ⟨H, 0, none⟩) N cp) N (inn.map .bool) ∧
    (again = true → inn.count false < g) ∧ (again = false → ∀ c : Nat, al[c]? = some true → ∀ e, Edge next c e → inn[e]? = some true → inn[c]? = some true))
  case atStart => exact ⟨true, wa, rfl, LInv.start next al wa, HE1.out, HO1.out, fun _ => hcnt, (fun h => by cases h)⟩
  case round =>
    obtain ⟨again, inn, rfl, hI, hE, hO, hA1, hA2⟩ := hrel
    have HI := Lib.hid hI
    have HE := Lib.hid hE
    have HO := Lib.hid hO
    have HA1 := Lib.hid hA1
    have HA2 := Lib.hid hA2
    clear hI hE hO hA1 hA2 HO1 HE1 hcnt
    cases again
    · go_wp2
      go_ret
      exact ⟨_, inn, rfl, HO.out, by rw [HI.out.len]; exact HNL.out, HI.out.done (HA2.out (by simp)), HE.out⟩
    · have HCT := Lib.hid (HA1.out (by simp))
      obtain ⟨wo, rfl⟩ : ∃ x : World, x = wr := ⟨_, rfl⟩
      obtain ⟨gm, hgm⟩ : ∃ x : Nat, x = gk := ⟨_, rfl⟩
      have HGM := Lib.hid hgm
      clear hgm HA1 HA2
      go_wp2_with fail
      go_loopg [9, 8] N (fun g x z wr => ∃ (c : Nat) (again : Bool) (inn' : List Bool), g + c = N ∧ x = .int .i64 (c : Int) ∧ z = .bool again ∧ LInv next al wa inn' ∧ Ext w wr ∧ wr.ownsRow w.heap.size 4 1 (.slice (some ⟨H, 0, none⟩) N cp) N (inn'.map .bool) ∧
        (again = true → inn'.count false < inn.count false) ∧ (again = false → inn' = inn ∧ ∀ d : Nat, d < c → al[d]? = some true → ∀ e, Edge next d e → inn[e]? = some true → inn[d]? = some true))
      case atStart => exact ⟨0, false, inn, by omega, by go_num, rfl, HI.out, HE.out, HO.out, (fun h => by cases h), fun _ => ⟨rfl, fun d hd => by omega⟩⟩
      case round =>
        obtain ⟨c, again, inn', hgc, rfl, rfl, hI2, hE2, hO2, hB1, hB2⟩ := hrel
        have HGC := Lib.hid hgc
        have HI2 := Lib.hid hI2
        have HE2 := Lib.hid hE2
        have HO2 := Lib.hid hO2
        have HB1 := Lib.hid hB1
        have HB2 := Lib.hid hB2
        have hil : inn'.length = N := by rw [hI2.len]; exact HNL.out
        have HIL := Lib.hid hil
        clear hgc hI2 hE2 hO2 hB1 hB2
        by_cases hc : c < N
        · have hc1 : c < inn'.length := by omega
          have cc := own_cellAt HO2.out (i := c) (by rw [List.length_map]; exact hc1)
          rw [List.getElem_map] at cc
          have hget : inn'[c]? = some inn'[c] := List.getElem?_eq_getElem hc1
          obtain ⟨bc, hbc⟩ : ∃ b, inn'[c] = b := ⟨_, rfl⟩
          rw [hbc] at cc hget
          have HGET := Lib.hid hget
          have hca : c < al.length := by have := HAL.out; omega
          have hgal : al[c]? = some al[c] := List.getElem?_eq_getElem hca
          generalize al[c] = bal at *
          have ca2 := cell_later HE2.out (HA4.out c _ hgal)
          have HGAL := Lib.hid hgal
          have hcI : (c : Int) < (N : Int) := by omega
          have hc0 : (0 : Int) ≤ (c : Int) := by omega
          clear hget hbc hc1 hil hgal hca
          cases bc
          · cases bal
            · go_wp2_with fail
              go_roundg (gk - 1)
              case measure => have := HGC.out; omega
              case rel => exact ⟨c + 1, again, inn', by have := HGC.out; omega, by go_num, rfl, HI2.out, HE2.out, HO2.out, HB1.out, fun h => ⟨(HB2.out h).1, fun d hd hda => by
                by_cases e : d = c
                · subst e
                  have h1 := HGAL.out
                  rw [hda] at h1
                  cases h1
                · exact (HB2.out h).2 d (by omega) hda⟩⟩
            · obtain ⟨u, hu, hiu⟩ := HN4.out c (by have := HNX.out; omega)
              have hlm : next[c]'(by have := HNX.out; omega) ∈ next := by simp
              have hkin := HIN.out _ hlm
              have hk1000 := HLN.out _ hlm
              have hgl : next[c]? = some (next[c]'(by have := HNX.out; omega)) := List.getElem?_eq_getElem _
              generalize next[c]'(by have := HNX.out; omega) = l at *
              obtain ⟨au, cu, rfl, hu1, hu2, bu, ou, hu3, hu4⟩ := ints_of hiu
              have HU3 := Lib.hid hu3
              have HU4 := Lib.hid hu4
              have HKI := Lib.hid hkin
              have HGL := Lib.hid hgl
              have HCI := Lib.hid hu
              obtain ⟨n, hn⟩ : ∃ x, l.length = x := ⟨_, rfl⟩
              have HLL := Lib.hid hn
              rw [hn] at hu1 HCI hk1000
              unfold maxLen at hu2
              obtain ⟨w2, rfl⟩ : ∃ x : World, x = wr := ⟨_, rfl⟩
              obtain ⟨gc, hgc⟩ : ∃ x : Nat, x = gk := ⟨_, rfl⟩
              have HGK := Lib.hid hgc
              clear hu hiu hu3 hu4 hkin hgl hn hgc hlm
              go_wp2_with fail
              go_loopg [10, 8] n (fun g x z wr => ∃ (k : Nat) (ag3 : Bool) (inn3 : List Bool), g + k = n ∧ x = .int .i64 (k : Int) ∧ z = .bool ag3 ∧ Ext w wr ∧ wr.ownsRow w.heap.size 4 1 (.slice (some ⟨H, 0, none⟩) N cp) N (inn3.map .bool) ∧
                ((ag3 = again ∧ inn3 = inn' ∧ ∀ (j e : Nat), j < k → l[j]? = some (e : Int) → inn'[e]? ≠ some true) ∨ (ag3 = true ∧ inn3 = inn'.set c true ∧ LInv next al wa (inn'.set c true))))
              case atStart => exact ⟨0, again, inn', by omega, by go_num, rfl, HE2.out, HO2.out, .inl ⟨rfl, rfl, fun j e hj => by omega⟩⟩
              case round =>
                obtain ⟨k, ag3, inn3, hgk, rfl, rfl, hE3, hO3, hS⟩ := hrel
                have HGK2 := Lib.hid hgk
                have HE3 := Lib.hid hE3
                have HO3 := Lib.hid hO3
                have HS := Lib.hid hS
                have h3l : inn3.length = N := by
                  rcases hS with ⟨_, rfl, _⟩ | ⟨_, rfl, _⟩
                  · exact HIL.out
                  · rw [List.length_set]; exact HIL.out
                have H3L := Lib.hid h3l
                have ci := cell_later hE3 HCI.out
                clear hgk hE3 hO3 hS h3l
                by_cases hk : k < n
                · have hkl : k < l.length := by have := HLL.out; omega
                  have hgl : l[k]? = some l[k] := List.getElem?_eq_getElem hkl
                  obtain ⟨hk1, hk2⟩ := HKI.out l[k] (by simp)
                  generalize l[k] = x at *
                  obtain ⟨e, rfl⟩ : ∃ e : Nat, x = (e : Int) := ⟨x.toNat, by omega⟩
                  obtain rfl := HU3.out (by have := HLL.out; omega)
                  have ck := cell_later HE3.out (HU4.out k _ hgl)
                  have he1 : e < inn3.length := by have := H3L.out; omega
                  have ce := own_cellAt HO3.out (i := e) (by rw [List.length_map]; exact he1)
                  rw [List.getElem_map] at ce
                  have hget : inn3[e]? = some inn3[e] := List.getElem?_eq_getElem he1
                  generalize inn3[e] = be at *
                  have fc := own_freeAt HO3.out c
                  have cc2 := own_cellAt HO3.out (i := c) (by rw [List.length_map]; have := H3L.out; omega)
                  have HSA := Lib.hid (own_setAt HO3.out (i := c) (.bool true))
                  have HGE := Lib.hid hget
                  have HGLK := Lib.hid hgl
                  have hkI : (k : Int) < (n : Int) := by omega
                  have hk0 : (0 : Int) ≤ (k : Int) := by omega
                  clear hgl hget he1
                  cases be
                  · clear fc cc2 HSA
                    go_wp2_with fail
                    go_roundg (gk - 1)
                    case measure => have := HGK2.out; omega
                    case rel => exact ⟨k + 1, ag3, inn3, by have := HGK2.out; omega, by go_num, rfl, HE3.out, HO3.out, by
                      rcases HS.out with ⟨rfl, rfl, h⟩ | h
                      · refine .inl ⟨rfl, rfl, fun j q hj hq => ?_⟩
                        by_cases ej : j = k
                        · subst ej
                          have h2 := HGLK.out
                          rw [hq] at h2
                          have : q = e := by have := Option.some.inj h2; omega
                          subst this
                          rw [HGE.out]
                          simp
                        · exact h j q (by omega) hq
                      · exact .inr h⟩
                  · go_wp2_with fail
                    go_roundg (gk - 1)
                    case measure => have := HGK2.out; omega
                    case rel => exact ⟨k + 1, true, inn3.set c true, by have := HGK2.out; omega, by go_num, rfl, ext_st HE3.out (p := ⟨H, c, none⟩) hHw _, by rw [← set_bools]; exact HSA.out, by
                      rcases HS.out with ⟨rfl, rfl, h⟩ | ⟨_, rfl, h⟩
                      · exact .inr ⟨rfl, rfl, HI2.out.add HGAL.out ⟨l, HGL.out, List.mem_of_getElem? HGLK.out⟩ HGE.out⟩
                      · exact .inr ⟨rfl, by rw [List.set_set], h⟩⟩
                · obtain rfl : k = n := by have := HGK2.out; omega
                  have hkI : ¬ (k : Int) < (k : Int) := by omega
                  have HCU := Lib.hid (count_up inn' c HGET.out)
                  go_wp2_with fail
                  go_roundg (gc - 1)
                  case measure => have := HGC.out; have := HGK.out; omega
                  case rel => exact ⟨c + 1, ag3, inn3, by have := HGC.out; have := HGK.out; omega, by go_num, rfl, by
                      rcases HS.out with ⟨_, rfl, _⟩ | ⟨_, rfl, h⟩
                      · exact HI2.out
                      · exact h, HE3.out, HO3.out, by
                      rcases HS.out with ⟨rfl, rfl, _⟩ | ⟨_, rfl, _⟩
                      · exact HB1.out
                      · intro _
                        have h1 := HCU.out
                        cases again
                        · have := (HB2.out rfl).1; subst this; omega
                        · have := HB1.out rfl; omega, by
                      rcases HS.out with ⟨rfl, rfl, h⟩ | ⟨rfl, _, _⟩
                      · intro ha
                        refine ⟨(HB2.out ha).1, fun d hd hda q hq hiq => ?_⟩
                        by_cases e2 : d = c
                        · subst e2
                          obtain ⟨l', h1, h2⟩ := hq
                          rw [HGL.out] at h1
                          obtain rfl := Option.some.inj h1
                          obtain ⟨j, hj, e3⟩ := List.mem_iff_getElem.1 h2
                          have h4 := (HB2.out ha).1
                          subst h4
                          exact absurd hiq (h j q (by have := HLL.out; omega) (by rw [List.getElem?_eq_getElem hj, e3]))
                        · exact (HB2.out ha).2 d (by omega) hda q hq hiq
                      · intro h; cases h⟩
          · go_wp2_with fail
            go_roundg (gk - 1)
            case measure => have := HGC.out; omega
            case rel => exact ⟨c + 1, again, inn', by have := HGC.out; omega, by go_num, rfl, HI2.out, HE2.out, HO2.out, HB1.out, fun h => ⟨(HB2.out h).1, fun d hd hda e he hie => by
              by_cases e2 : d = c
              · subst e2
                have h1 := HGET.out
                rw [(HB2.out h).1] at h1
                exact h1
              · exact (HB2.out h).2 d (by omega) hda e he hie⟩⟩
        · obtain rfl : c = N := by have := HGC.out; omega
          have hcI : ¬ (c : Int) < (c : Int) := by omega
          go_wp2_with fail
          go_roundg (gm - 1)
          case measure => have := HGM.out; have := HCT.out; omega
          case rel => exact ⟨again, inn', rfl, HI2.out, HE2.out, HO2.out, fun h => by have := HB1.out h; have := HGM.out; have := HCT.out; omega, fun h => by
            obtain ⟨rfl, h2⟩ := HB2.out h
            exact fun d hda => h2 d (by have h3 := (List.getElem?_eq_some_iff.1 hda).1; have := HAL.out; omega) hda⟩

end Go.Proofs.YtbmimdnpchldlaaGreatDoor

namespace Go.Proofs.YtbmimdnpchldlaaGreatDoor
open Go.RowKit

def fillT (n i : Nat) : List Bool := List.replicate i true ++ List.replicate (n - i) false
theorem fillT_zero (n : Nat) : fillT n 0 = List.replicate n false := by simp [fillT]
theorem fillT_all (n : Nat) : fillT n n = List.replicate n true := by simp [fillT]
theorem fillT_len {n i : Nat} (h : i ≤ n) : (fillT n i).length = n := by unfold fillT; simp; omega
theorem fillT_step {n i : Nat} (h : i < n) : (fillT n i).set i true = fillT n (i + 1) := by
  unfold fillT
  apply List.ext_getElem?
  intro j
  rw [List.getElem?_set]
  simp only [List.length_append, List.length_replicate, List.getElem?_append, List.getElem?_replicate]
  by_cases e : i = j
  · subst e
    simp
    omega
  · rw [if_neg e]
    repeat' split
    all_goals first | rfl | (exfalso; omega)

set_option maxRecDepth 100000 in
set_option maxHeartbeats 8000000 in
theorem all_any (n : Nat) (w : World) (h0 : 0 < n) (h1 : n ≤ 1000) :
    Calls Tryz.prog 33 #[.int .i64 (n : Int)] w fun e w' => ∃ v, e = .returned v ∧ w'.ownsRow w.heap.size 4 1 v n ((List.replicate n true).map .bool) ∧ Ext w w' := by
  go_enter Tryz.func33, Tryz.ntmps33
  go_wp2_with (at_make; go_must (refine wpList_make_full _ rfl _ _ 53 rfl w.heap.size 4 (Tryz.slBoolsS.inf.choose) (.bool false) 1 Tryz.underlying53 Tryz.slBoolsS.inf.choose_spec.1 Tryz.slBoolsS.inf.choose_spec.2.1 Tryz.slBoolsS.inf.choose_spec.2.2.1 .i64 .i64 n n n rfl rfl rfl rfl (by rw [Tryz.slBoolsS.inf.choose_spec.2.2.2]; omega) (by unfold maxLen; omega) (Nat.le_refl _) ?_))
  intro w4 hown4 hg4
  rw [made_false, ← fillT_zero] at hown4
  have HO4 := Lib.hid hown4
  have HX4 := Lib.hid ((Ext.refl w).grown hg4 (Nat.le_refl _) (by simp))
  obtain ⟨D, hD⟩ : ∃ D, w.heap.size = D := ⟨_, rfl⟩
  have HD := Lib.hid hD
  rw [hD] at HO4 ⊢
  clear hown4 hg4 hD
  go_wp2_with fail
  go_loopg [4] n (fun g x wr => ∃ i : Nat, g + i = n ∧ x = .int .i64 (i : Int) ∧ Ext w wr ∧ wr.ownsRow D 4 1 (.slice (some ⟨D, 0, none⟩) n n) n ((fillT n i).map .bool))
  case atStart => exact ⟨0, by omega, by go_num, HX4.out, HO4.out⟩
  case round =>
    obtain ⟨i, hgi, rfl, hE, hO⟩ := hrel
    have HGI := Lib.hid hgi
    have HE := Lib.hid hE
    have HO := Lib.hid hO
    clear hgi hE hO HX4 HO4
    by_cases hi : i < n
    · have fc := own_freeAt HO.out i
      have cc := own_cellAt HO.out (i := i) (by rw [List.length_map, fillT_len (by omega)]; exact hi)
      have HSA := Lib.hid (own_setAt HO.out (i := i) (.bool true))
      have HFS := Lib.hid (fillT_step hi)
      have hiI : (i : Int) < (n : Int) := by omega
      have hi0 : (0 : Int) ≤ (i : Int) := by omega
      go_wp2_with fail
      go_roundg (gk - 1)
      case measure => have := HGI.out; omega
      case rel => exact ⟨i + 1, by have := HGI.out; omega, by go_num, ext_st HE.out (p := ⟨D, i, none⟩) (by show w.heap.size ≤ D; rw [HD.out]; exact Nat.le_refl _) _, by rw [← HFS.out, ← set_bools]; exact HSA.out⟩
    · obtain rfl : i = n := by have := HGI.out; omega
      have hiI : ¬ (i : Int) < (i : Int) := by omega
      go_wp2
      go_ret
      exact ⟨_, rfl, by have h := HO.out; rw [fillT_all] at h; rw [HD.out]; simpa using h, HE.out⟩

end Go.Proofs.YtbmimdnpchldlaaGreatDoor

namespace Go.Proofs.YtbmimdnpchldlaaGreatDoor
open Go.RowKit

set_option maxRecDepth 100000 in
set_option maxHeartbeats 8000000 in
theorem nexts_any (vv rv : Value) (m : Md) (w : World) (h : IsMd w vv rv m) (ht : Tab w) (hp : m.Ok) (h0 : 0 < m.vars.length) (N : Nat) (hN : countL m.vars = (N : Int)) (h1 : 1 ≤ N) (h16 : N ≤ 1000) :
    Calls Tryz.prog 56 #[.agg #[vv, rv]] w fun e w' => ∃ v, e = .returned (.tuple #[v, .bool true]) ∧ (∃ vs, EachX Ints w' vs (nextA m N) ∧ Reads w' 1 v N vs) ∧ Ext w w' := by
  have HCO := Lib.hid fun wx (hx : Ext w wx) => count_any vv rv m wx (h.ext hx) (ht.ext hx) hp
  have HNX := Lib.hid fun (c : Nat) wx (hx : Ext w wx) (hc : c < N) => nextE_any vv rv m (c : Int) wx (h.ext hx) (ht.ext hx) hp h0 (by omega) (by omega)
  have HNL := Lib.hid fun (c : Nat) => nextL_len m (c : Int)
  have HR12 := Lib.hid hp.twelve
  obtain ⟨av, cv, rfl⟩ := EachL.val h.vars
  obtain ⟨ar, cr, rfl⟩ := EachL.val h.rules
  have HN := Lib.hid hN
  generalize m.vars.length = nv at *
  generalize m.rules.length = nr at *
  have hx := ext_al (Ext.refl w) (Obj.cells #[.slice av nv cv, .slice ar nr cr] 31)
  have HB := Lib.hid (blk_new w (Obj.cells #[.slice av nv cv, .slice ar nr cr] 31))
  have HX := Lib.hid hx
  have d0 := blk_cell HB.out (i := 0) rfl
  have d1 := blk_cell HB.out (i := 1) rfl
  clear h ht hp h0 hN hx
  go_enter Tryz.func56, Tryz.ntmps56
  go_wp2_with fail
  generalize w.alloc (Obj.cells #[.slice av nv cv, .slice ar nr cr] 31) = W0 at *
  refine (HCO.out _ HX.out).mono ?_
  rintro e w1 ⟨rfl, hE1⟩
  rw [HN.out]
  have HE1 := Lib.hid (HX.out.trans hE1)
  have HB1 := Lib.hid (blk_ext HB.out hE1)
  clear hE1 d0 d1
  go_wp2_with fail
  go_loopg [7, 6] N (fun g x y wr => ∃ (c : Nat) (τ : Nat → Nat) (a : Option Addr) (cp : Nat) (vs : List Value), g + c = N ∧ x = .int .i64 (c : Int) ∧ y = .slice a c cp ∧ GL Ints 27 w1 wr w1.heap.size τ (.slice a c cp) c vs ((nextA m N).take c))
  case atStart => exact ⟨0, _, none, 0, [], by omega, by go_num, rfl, GL.start (Ext.refl _) (Nat.le_refl _) (Nat.le_refl _)⟩
  case round =>
    obtain ⟨c, τ, a, cp, vs, hgc, rfl, rfl, hG⟩ := hrel
    have HG := Lib.hid hG
    have HGC := Lib.hid hgc
    have hb := blk_ext HB1.out hG.ext
    have d0 := blk_cell hb (i := 0) rfl
    have d1 := blk_cell hb (i := 1) rfl
    clear hG hgc hb
    by_cases hc : c < N
    · have hcI : (c : Int) < (N : Int) := by omega
      go_wp2_with fail
      refine (HNX.out c _ (HE1.out.trans HG.out.ext) hc).mono ?_
      rintro e w5 ⟨v5, rfl, ho5, hE5⟩
      obtain ⟨a8, c8, rfl, _⟩ := id ho5.row
      have hn1 := (HNL.out c).1
      have hn0 : ((((nextL m (c : Int)).length : Nat) : Int) == 0) = false := by rw [beq_eq_false_iff_ne]; omega
      have HE8 := Lib.hid hE5
      obtain ⟨nn, hnn⟩ : ∃ x, (nextL m (c : Int)).length = x := ⟨_, rfl⟩
      have HO8 := Lib.hid (show w5.ownsRow wr.heap.size 3 1 (.slice a8 nn c8) (nextL m (c : Int)).length ((nextL m (c : Int)).map (.int .i64)) from by rw [← hnn]; exact ho5)
      rw [hnn] at hn0 hn1 ⊢
      have HNN := Lib.hid hnn
      have hoR := own_ext (own_ext HG.out.own.own hE5) (ext_al (Ext.refl w5) (Obj.cells #[.slice a8 nn c8] 27))
      have hsz : w1.heap.size ≤ w5.heap.size + 1 := by have := HG.out.hi; have := hE5.size; omega
      clear ho5 hE5 d0 d1 hnn
      go_wp2_with (at_builtin; go_must (refine wpl_append rfl rfl Tryz.slLists w1.heap.size rfl hoR rfl (Row.oneAt' _ _ _ _ (by simp)) (by simp [Value.oneCell']) (by unfold maxLen; omega) (by omega) (by simpa using hsz) ?_))
      intro v3 w3 hown3 hg3 hb3 _
      obtain ⟨a3, c3, rfl, _⟩ := hown3.row
      obtain ⟨τ', hM'⟩ := HG.out.step (l := nextL m (c : Int)) HE8.out (own_ints_ent (k := wr.heap.size) HO8.out) _ hown3 hg3 (by simpa using hb3)
      rw [← nextA_take m hc] at hM'
      have HM' := Lib.hid hM'
      clear hown3 hg3 hb3 hM' hoR
      go_wp2_with fail
      go_roundg (gk - 1)
      case measure => have := HGC.out; omega
      case rel => exact ⟨c + 1, τ', a3, c3, _, by have := HGC.out; omega, by go_num, rfl, HM'.out⟩
    · obtain rfl : c = N := by have := HGC.out; omega
      have hcI : ¬ (c : Int) < (c : Int) := by omega
      have h1I : (0 : Int) < (c : Int) := by omega
      have h1N : 0 < c := by omega
      have hD := Lib.hid HG.out.done
      have HEF := Lib.hid (HE1.out.trans HG.out.ext)
      have HTK := Lib.hid (show (nextA m c).take c = (nextA m c) from List.take_of_length_le (by rw [nextA_len]; omega))
      rw [HTK.out, nextA_len] at hD
      clear d0 d1
      go_wp2
      go_ret2
      exact ⟨_, rfl, hD.out, HEF.out⟩

set_option maxRecDepth 100000 in
set_option maxHeartbeats 8000000 in
theorem letters_any (vv rv : Value) (m : Md) (w : World) (h : IsMd w vv rv m) (ht : Tab w) (hp : m.Ok) (_ : 0 < m.vars.length) (N : Nat) (hN : countL m.vars = (N : Int)) (h1 : 1 ≤ N) (h16 : N ≤ 1000) (hk : PropsOk m.vars.length propT) :
    Calls Tryz.prog 55 #[.agg #[vv, rv]] w fun e w' => ∃ v, e = .returned (.tuple #[v, .bool true]) ∧ (∃ vs, EachX Bools w' vs (letA m propT N) ∧ Reads w' 1 v N vs) ∧ Ext w w' := by
  have HCO := Lib.hid fun wx (hx : Ext w wx) => count_any vv rv m wx (h.ext hx) (ht.ext hx) hp
  have HNX := Lib.hid fun (c : Nat) wx (qv : Value) (hx : Ext w wx) (hq : IsTms wx qv propT) (hc : c < N) => sletter_any vv rv qv m propT (c : Int) wx (h.ext hx) (ht.ext hx) hp hq hk (by omega) (by omega)
  obtain ⟨av, cv, rfl⟩ := EachL.val h.vars
  obtain ⟨ar, cr, rfl⟩ := EachL.val h.rules
  have HN := Lib.hid hN
  generalize m.vars.length = nv at *
  generalize m.rules.length = nr at *
  have hx := ext_al (Ext.refl w) (Obj.cells #[.slice av nv cv, .slice ar nr cr] 31)
  have HB := Lib.hid (blk_new w (Obj.cells #[.slice av nv cv, .slice ar nr cr] 31))
  have HX := Lib.hid hx
  have d0 := blk_cell HB.out (i := 0) rfl
  have d1 := blk_cell HB.out (i := 1) rfl
  clear h ht hp hN hx hk
  go_enter Tryz.func55, Tryz.ntmps55
  go_wp2_with fail
  generalize w.alloc (Obj.cells #[.slice av nv cv, .slice ar nr cr] 31) = W0 at *
  refine (HCO.out _ HX.out).mono ?_
  rintro e w1 ⟨rfl, hE1⟩
  rw [HN.out]
  have HE1 := Lib.hid (HX.out.trans hE1)
  have HB1 := Lib.hid (blk_ext HB.out hE1)
  clear hE1 d0 d1
  go_wp2_with fail
  go_loopg [7, 6] N (fun g x y wr => ∃ (c : Nat) (τ : Nat → Nat) (a : Option Addr) (cp : Nat) (vs : List Value), g + c = N ∧ x = .int .i64 (c : Int) ∧ y = .slice a c cp ∧ GL Bools 53 w1 wr w1.heap.size τ (.slice a c cp) c vs ((letA m propT N).take c))
  case atStart => exact ⟨0, _, none, 0, [], by omega, by go_num, rfl, GL.start (Ext.refl _) (Nat.le_refl _) (Nat.le_refl _)⟩
  case round =>
    obtain ⟨c, τ, a, cp, vs, hgc, rfl, rfl, hG⟩ := hrel
    have HG := Lib.hid hG
    have HGC := Lib.hid hgc
    have hb := blk_ext HB1.out hG.ext
    have d0 := blk_cell hb (i := 0) rfl
    have d1 := blk_cell hb (i := 1) rfl
    clear hG hgc hb
    by_cases hc : c < N
    · have hcI : (c : Int) < (N : Int) := by omega
      go_upto_region 6 with fail
      go_cut [8, 9] (fun s8 s9 wx => s9 = .int .i64 0 ∧ (∃ a8 c8, s8 = .slice a8 3 c8) ∧ wx.ownsRow wr.heap.size 4 1 s8 3 ((letS propT (valsL m.vars (c : Int))).map .bool) ∧ Ext wr wx)
      case first =>
        go_region_law (first
          | (go_simp
             go_at_call 94
             refine (kprops2_any _).mono ?_
             rintro e w5 ⟨qv, rfl, hQ5, hE5⟩
             have HQ5 := Lib.hid hQ5
             have HE5 := Lib.hid (show Ext wr w5 from Ext.trans (Below.drew (Ext.refl _)) hE5)
             clear hQ5 hE5
             have hb5 := blk_ext HB1.out (HG.out.ext.trans HE5.out)
             have d05 := blk_cell hb5 (i := 0) rfl
             have d15 := blk_cell hb5 (i := 1) rfl
             clear hb5)
          | (go_simp
             go_at_call 23
             refine (HNX.out c _ _ (HE1.out.trans (HG.out.ext.trans HE5.out)) HQ5.out hc).mono ?_
             rintro e w6 ⟨v6, rfl, ho6, hE6⟩
             have HO6 := Lib.hid (own_down ho6 HE5.out.size)
             have HE6 := Lib.hid (HE5.out.trans hE6)
             obtain ⟨a6, c6, rfl, _⟩ := ho6.row
             clear ho6 hE6))
        all_goals
          go_wp2_with fail
          go_meet
          exact ⟨rfl, ⟨_, _, rfl⟩, HO6.out, HE6.out⟩
      case rest =>
      obtain ⟨rfl, ⟨a8, c8, rfl⟩, ho8, hE8⟩ := hcut
      have HO8 := Lib.hid ho8
      have HE8 := Lib.hid hE8
      have hoR := own_ext (own_ext HG.out.own.own hE8) (ext_al (Ext.refl wc) (Obj.cells #[.slice a8 3 c8] 53))
      have hsz : w1.heap.size ≤ wc.heap.size + 1 := by have := HG.out.hi; have := hE8.size; omega
      clear ho8 hE8 d0 d1
      go_wp2_with (at_builtin; go_must (refine wpl_append rfl rfl Tryz.slBoolss w1.heap.size rfl hoR rfl (Row.oneAt' _ _ _ _ (by simp)) (by simp [Value.oneCell']) (by unfold maxLen; omega) (by omega) (by simpa using hsz) ?_))
      intro v3 w3 hown3 hg3 hb3 _
      obtain ⟨a3, c3, rfl, _⟩ := hown3.row
      obtain ⟨τ', hM'⟩ := HG.out.step (l := letS propT (valsL m.vars (c : Int))) HE8.out (own_bools_ent (k := wr.heap.size) (by rw [letS_len]; exact HO8.out)) _ hown3 hg3 (by simpa using hb3)
      rw [← letA_take m propT hc] at hM'
      have HM' := Lib.hid hM'
      clear hown3 hg3 hb3 hM' hoR
      go_wp2_with fail
      go_roundg (gk - 1)
      case measure => have := HGC.out; omega
      case rel => exact ⟨c + 1, τ', a3, c3, _, by have := HGC.out; omega, by go_num, rfl, HM'.out⟩
    · obtain rfl : c = N := by have := HGC.out; omega
      have hcI : ¬ (c : Int) < (c : Int) := by omega
      have h1I : (0 : Int) < (c : Int) := by omega
      have h1N : 0 < c := by omega
      have hD := Lib.hid HG.out.done
      have HEF := Lib.hid (HE1.out.trans HG.out.ext)
      have HTK := Lib.hid (show (letA m propT c).take c = (letA m propT c) from List.take_of_length_le (by rw [letA_len]; omega))
      rw [HTK.out, letA_len] at hD
      clear d0 d1
      go_wp2
      go_ret2
      exact ⟨_, rfl, hD.out, HEF.out⟩

end Go.Proofs.YtbmimdnpchldlaaGreatDoor

namespace Go.Proofs.YtbmimdnpchldlaaGreatDoor
open Go.RowKit

set_option maxRecDepth 100000 in
set_option maxHeartbeats 8000000 in
theorem world_any (pv : Value) (d : Dn) (w : World) (ht : Tab w) (hpl : IsPlans w pv d.rules) (hd : DnI d) (N : Nat) (hN : countL d.md.vars = (N : Int)) :
    Calls Tryz.prog 25 #[.agg (dnc d pv)] w fun e w' => ∃ v u, e = .returned (.tuple #[v, u, .int .i64 d.md.first, .bool true]) ∧ (∃ vs, EachX Bools w' vs (letA d.md propT N) ∧ Reads w' 1 v N vs) ∧ (∃ vs, EachX Ints w' vs (nextA d.md N) ∧ Reads w' 1 u N vs) ∧ Ext w w' := by
  have hn1 := d.drawn.n1
  have hn16 := d.drawn.n16
  have hN1 : 1 ≤ N := by omega
  have hN16 : N ≤ 1000 := by omega
  have HMO := Lib.hid fun wx (hx : Ext w wx) => model_any pv d wx (hpl.ext hx) hd
  have hok := d.drawn.ok
  have hv0 : 0 < d.md.vars.length := by rw [d.drawn.two]; omega
  have hpk : PropsOk d.md.vars.length propT := by rw [d.drawn.two]; exact propT_ok
  have HLE := Lib.hid fun vv rv wx (hx : Ext w wx) (hM : IsMd wx vv rv d.md) => letters_any vv rv d.md wx hM (ht.ext hx) hok hv0 N hN hN1 hN16 hpk
  have HNE := Lib.hid fun vv rv wx (hx : Ext w wx) (hM : IsMd wx vv rv d.md) => nexts_any vv rv d.md wx hM (ht.ext hx) hok hv0 N hN hN1 hN16
  have HFI := Lib.hid fun vv rv wx (hx : Ext w wx) (hM : IsMd wx vv rv d.md) => first_any vv rv d.md wx hM (ht.ext hx) hok
  have hf := first_bd hok.toPre
  rw [hN] at hf
  obtain ⟨hf1, hf2⟩ := hf
  have hx0 := ext_al (Ext.refl w) (Obj.cells (dnc d pv) 25)
  have hb0 := blk_new w (Obj.cells (dnc d pv) 25)
  have HX0 := Lib.hid hx0
  simp only [dnc] at HMO HX0 hb0 ⊢
  have e0 := blk_cell hb0 (i := 0) rfl
  have e1 := blk_cell hb0 (i := 1) rfl
  have e2 := blk_cell hb0 (i := 2) rfl
  have e3 := blk_cell hb0 (i := 3) rfl
  have e4 := blk_cell hb0 (i := 4) rfl
  have e5 := blk_cell hb0 (i := 5) rfl
  have e6 := blk_cell hb0 (i := 6) rfl
  obtain ⟨fi, hfi⟩ : ∃ x, d.md.first = x := ⟨_, rfl⟩
  rw [hfi] at HFI hf1 hf2 ⊢
  generalize d.md = m at *
  clear ht hpl hd hx0 hb0 hok hv0 hpk hN hfi hn1 hn16
  go_enter Tryz.func25, Tryz.ntmps25
  go_wp2_with fail
  refine (HMO.out _ HX0.out).mono ?_
  rintro e w1 ⟨vv, rv, rfl, hM, hE1⟩
  obtain ⟨av, cv, rfl⟩ := EachL.val hM.vars
  obtain ⟨ar, cr, rfl⟩ := EachL.val hM.rules
  have HM := Lib.hid hM
  generalize m.vars.length = nv at *
  generalize m.rules.length = nr at *
  have hx1 := ext_al (Ext.refl w1) (Obj.cells #[.slice av nv cv, .slice ar nr cr] 31)
  have HB1 := Lib.hid (blk_new w1 (Obj.cells #[.slice av nv cv, .slice ar nr cr] 31))
  have HX1 := Lib.hid hx1
  have HE1 := Lib.hid (HX0.out.trans (hE1.trans hx1))
  have m0 := blk_cell HB1.out (i := 0) rfl
  have m1 := blk_cell HB1.out (i := 1) rfl
  clear hM hE1 hx1 e0 e1 e2 e3 e4 e5 e6 HMO
  go_wp2_with fail
  generalize w1.alloc (Obj.cells #[.slice av nv cv, .slice ar nr cr] 31) = W1 at *
  refine (HLE.out _ _ _ HE1.out (HM.out.ext HX1.out)).mono ?_
  rintro e w2 ⟨lv, rfl, hL, hE2⟩
  obtain ⟨_, _, al, cl, rfl, _⟩ := id hL
  have HL := Lib.hid hL
  have HE2 := Lib.hid hE2
  have m0 := blk_cell (blk_ext HB1.out hE2) (i := 0) rfl
  have m1 := blk_cell (blk_ext HB1.out hE2) (i := 1) rfl
  clear hL hE2
  go_wp2_with fail
  refine (HNE.out _ _ _ (HE1.out.trans HE2.out) (HM.out.ext (HX1.out.trans HE2.out))).mono ?_
  rintro e w3 ⟨uv, rfl, hU, hE3⟩
  obtain ⟨_, _, au, cu, rfl, _⟩ := id hU
  have HU := Lib.hid hU
  have HE3 := Lib.hid hE3
  have HE23 := Lib.hid (HE2.out.trans hE3)
  have m0 := blk_cell (blk_ext HB1.out HE23.out) (i := 0) rfl
  have m1 := blk_cell (blk_ext HB1.out HE23.out) (i := 1) rfl
  clear hU hE3
  go_wp2_with fail
  refine (HFI.out _ _ _ (HE1.out.trans HE23.out) (HM.out.ext (HX1.out.trans HE23.out))).mono ?_
  rintro e w4 ⟨rfl, hE4⟩
  have HFL := Lib.hid (lx_ext (E := Bools) (fun h hx => bools_ext h hx) HL.out (HE3.out.trans hE4))
  have HFU := Lib.hid (lx_ext (E := Ints) (fun h hx => h.ext hx) HU.out hE4)
  have HEF := Lib.hid (HE1.out.trans (HE23.out.trans hE4))
  clear hE4 m0 m1
  go_wp2
  refine bodyPost_ret (v := .tuple #[.slice al N cl, .slice au N cu, .int .i64 fi, .bool true]) (by simp [results, Tryz.results25, go_sem]) rfl ⟨_, _, rfl, HFL.out, HFU.out, HEF.out⟩

end Go.Proofs.YtbmimdnpchldlaaGreatDoor

namespace Go.Proofs.YtbmimdnpchldlaaGreatDoor
open Go.RowKit

theorem letA_three {m : Md} {N : Nat} {l : List Bool} (h : l ∈ letA m propT N) : l.length = 3 := by
  unfold letA at h
  obtain ⟨c, _, rfl⟩ := List.mem_map.1 h
  rw [letS_len]; rfl
theorem nextA_in {m : Md} {N : Nat} (hN : ∀ c d, InN N c → NextP m c d → InN N d) : ∀ l ∈ nextA m N, ∀ k ∈ l, 0 ≤ k ∧ k < (N : Int) := by
  intro l hl k hk
  unfold nextA at hl
  obtain ⟨c, hc, rfl⟩ := List.mem_map.1 hl
  exact hN (c : Int) k ⟨by omega, by have := List.mem_range.1 hc; omega⟩ (((nextL_ok m (c : Int)).mem k).1 hk)
theorem nextA_lens {m : Md} (N : Nat) (h : m.rules.length ≤ 12) : ∀ l ∈ nextA m N, l.length ≤ 1000 := by
  intro l hl
  unfold nextA at hl
  obtain ⟨c, _, rfl⟩ := List.mem_map.1 hl
  have := (nextL_len m (c : Int)).2
  omega
theorem fm_prop {q : Nat} (h : q < 3) : Fm (.n0 13 (q : Int)) 1 0 := ⟨⟨by omega, by omega, by decide⟩, fun o ho => by
  simp only [Tm.flat, List.mem_singleton] at ho
  subst ho
  exact ⟨by simp, by simp, fun _ => ⟨by simp, by simp; omega⟩, fun h => by simp at h⟩, Nat.le_refl _, by simp [Tm.flat, cntA, aheadB]⟩
theorem bool_at {w : World} {a : Option Addr} {n c : Nat} {l : List Bool} {i : Nat} {x : Bool} (h : Reads w 1 (.slice a n c) n (l.map .bool)) (hx : l[i]? = some x) : ∃ b o, a = some ⟨b, o, none⟩ ∧ w.cell? ⟨b, o + i, none⟩ = some (.bool x) := by
  obtain ⟨a', c', e, hr⟩ := h
  simp only [Value.slice.injEq, true_and] at e
  obtain ⟨rfl, rfl⟩ := e
  obtain ⟨b, off, _, h2, h3⟩ := hr.lie
  have hl := (List.getElem?_eq_some_iff.1 hx).1
  exact ⟨b, off, h2 (by rw [List.length_map]; omega), h3 i _ (by rw [List.getElem?_map, hx]; rfl)⟩

set_option maxHeartbeats 4000000 in
theorem prop_any (n : Int) (w : World) (h1 : -9223372036854775808 ≤ n) (h2 : n ≤ 9223372036854775807) :
    Calls Tryz.prog 28 #[.int .i64 n] w fun e w' => ∃ v, e = .returned v ∧ IsT w' v (.n0 13 (pk n 3)) ∧ Ext w w' := by
  have HK := Lib.hid (kpicked_any n 3 w h1 h2 (by omega) (by omega))
  obtain ⟨q, hq⟩ : ∃ q, pk n 3 = q := ⟨_, rfl⟩
  rw [hq] at HK ⊢
  clear h1 h2 hq
  go_enter Tryz.func28, Tryz.ntmps28
  go_wp2_with fail
  refine HK.out.mono ?_
  rintro e w' ⟨rfl, rfl⟩
  have HT := Lib.hid (isT_lit w 75 13 q _ rfl)
  have HE := Lib.hid (ext_al (Ext.refl w) (Obj.cells #[.int .i64 13, .int .i64 q] 75))
  go_wp2
  go_ret
  exact ⟨.slice (some ⟨w.heap.size, 0, none⟩) 1 1, rfl, HT.out, HE.out⟩
theorem prop_d (n : Int) (w : World) (h1 : -9223372036854775808 ≤ n) (h2 : n ≤ 9223372036854775807) :
    Calls Tryz.prog 28 #[.int .i64 n] w.drew fun e w' => ∃ v, e = .returned v ∧ IsT w' v (.n0 13 (pk n 3)) ∧ Ext w w' :=
  (prop_any n w.drew h1 h2).mono fun _ _ ⟨v, h1, h2, h3⟩ => ⟨v, h1, h2, Ext.trans (Below.drew (Ext.refl w)) h3⟩

end Go.Proofs.YtbmimdnpchldlaaGreatDoor
