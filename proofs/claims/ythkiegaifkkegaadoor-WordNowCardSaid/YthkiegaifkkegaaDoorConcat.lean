/- Concat: what is needed of it. No condition. -/
import Derived.Test.YthkiegaifkkegaaDoorLogA
import Derived.Lib.AppendZeros
namespace Go.Proofs.YthkiegaifkkegaaDoor
open Go.RowKit
theorem Tryd.slBoolss : SlTy Tryd.prog 26 32 (.slice none 0 0) 1 24 := SlTy.mk' Tryd.underlying26 (by kernel_rfl) (by rfl) (by omega)
set_option maxRecDepth 100000 in
set_option maxHeartbeats 2000000 in
theorem grow_any (n : Nat) (w : World) (h0 : 0 < n) (hn : n ≤ 1000) :
    Calls Tryd.prog 27 #[.slice none 0 0, .int .i64 (n : Int)] w fun e w' => ∃ c, e = .returned (.slice (some ⟨w.heap.size, 0, none⟩) 0 c) ∧ n ≤ c ∧ w'.ownsRow w.heap.size 32 1 (.slice (some ⟨w.heap.size, 0, none⟩) 0 c) 0 [] ∧ Ext w w' := by
  obtain ⟨i, hi, hz, hs, hby⟩ := Tryd.slBoolss.inf
  have hr := Lib.run_append_nil_zeros (P := Tryd.prog) w 26 3 26 32 i (.slice none 0 0) .i64 .i64 Tryd.slBoolss.und Tryd.underlying3 hi hz n h0 (by omega) (by omega) (by rw [hby]; omega)
  have hge := grownCap_ge w n 0 32
  have hle := grownCap_le_maxLen w n 0 32 (by unfold maxLen; omega)
  generalize grownCap w n 0 32 = cap at *
  have hcs : (Builtin.zeroCells (Value.cells (.slice none 0 0)) n ++ Builtin.zeroCells (Value.cells (.slice none 0 0)) (cap - n)).size = cap * 1 := by
    simp [Builtin.zeroCells, Value.cells]
    omega
  have hown := World.ownsRow_made (base := w.heap.size) (e := 32) (size := 1) w.drew (Builtin.zeroCells (Value.cells (.slice none 0 0)) n ++ Builtin.zeroCells (Value.cells (.slice none 0 0)) (cap - n)) cap (Nat.le_refl _) hle hcs
  have hE : Ext w (w.drew.alloc (.cells (Builtin.zeroCells (Value.cells (.slice none 0 0)) n ++ Builtin.zeroCells (Value.cells (.slice none 0 0)) (cap - n)) 32)) := ext_al (Below.drew (Ext.refl w)) _
  generalize Builtin.zeroCells (Value.cells (.slice none 0 0)) n ++ Builtin.zeroCells (Value.cells (.slice none 0 0)) (cap - n) = cur at *
  have HO := Lib.hid hown
  have HE := Lib.hid hE
  have hnI : (0 : Int) < (n : Int) := by omega
  have hnI2 : ¬ (n : Int) < 0 := by omega
  unfold maxLen at hle
  clear hown hE hcs hi hz hs hby
  go_enter Tryd.func27, Tryd.ntmps27
  go_wp2_with (at_builtin; go_must (refine Lib.wpList_append_run w rfl _ _ 26 3 rfl _ _ rfl rfl _ _ hr ?_))
  go_wp2
  go_ret
  exact ⟨cap, rfl, hge, HO.out, HE.out⟩
set_option maxRecDepth 100000 in
set_option maxHeartbeats 2000000 in
theorem concat_two (w : World) (p aA aB : Option Addr) (c nA cA nB cB : Nat) (xA xB : List Value) (h : Row w 1 p 2 c [.slice aA nA cA, .slice aB nB cB]) (hA : Row w 1 aA nA cA xA) (hB : Row w 1 aB nB cB xB)
    (oA : ∀ u ∈ xA, u.oneCell' = true) (oB : ∀ u ∈ xB, u.oneCell' = true) (h0 : 0 < nA + nB) (hn : nA + nB ≤ 1000) :
    Calls Tryd.prog 21 #[.slice p 2 c] w fun e w' => ∃ a c, e = .returned (.slice a (nA + nB) c) ∧ w'.ownsRow w.heap.size 32 1 (.slice a (nA + nB) c) (nA + nB) (xA ++ xB) ∧ Ext w w' := by
  obtain ⟨b, off, _, h2, h3⟩ := h.lie
  obtain rfl := h2 (by simp)
  have c0 : w.cell? ⟨b, off, none⟩ = some (.slice aA nA cA) := by simpa using h3 0 _ rfl
  have c1 := h3 1 _ rfl
  have C0 := Lib.hid c0
  have C1 := Lib.hid c1
  have HA := Lib.hid hA
  have HB := Lib.hid hB
  obtain ⟨N, hN⟩ : ∃ N, nA + nB = N := ⟨_, rfl⟩
  rw [hN] at h0 hn
  have HGR := Lib.hid (grow_any N w h0 hn)
  have hsI : (nA : Int) + (nB : Int) = (N : Int) := by omega
  have hwI : IntKind.i64.wrap ((nA : Int) + (nB : Int)) = (N : Int) := by rw [hsI]; exact IntWalk.i64_in _ (by omega)
  have hA0 : ¬ (nA : Int) < 0 := by omega
  have hS0 : ¬ (N : Int) < 0 := by omega
  have hnA : nA ≤ 1000 := by omega
  have HN := Lib.hid hN
  clear hN
  clear h h2 h3 hA hB c0 c1
  go_enter Tryd.func21, Tryd.ntmps21
  go_wp2_with fail
  go_loopg [3, 11] 2 (fun m y x wr => ((m = 2 ∧ x = .int .i64 0 ∧ y = .int .i64 0) ∨ (m = 1 ∧ x = .int .i64 1 ∧ y = .int .i64 (nA : Int)) ∨ (m = 0 ∧ x = .int .i64 2 ∧ y = .int .i64 (N : Int))) ∧ wr = w)
  case atStart => exact ⟨.inl ⟨rfl, rfl, rfl⟩, rfl⟩
  case round =>
    obtain ⟨hc, rfl⟩ := hrel
    rcases hc with ⟨hm, rfl, rfl⟩ | ⟨hm, rfl, rfl⟩ | ⟨hm, rfl, rfl⟩
    · have HM := Lib.hid hm
      have c0 := C0.out
      clear hm
      go_wp2_with fail
      go_roundg 1
      case measure => have := HM.out; omega
      case rel => exact ⟨.inr (.inl ⟨rfl, rfl, by go_num⟩), rfl⟩
    · have HM := Lib.hid hm
      have c1 := C1.out
      clear hm
      go_wp2_with fail
      go_roundg 0
      case measure => have := HM.out; omega
      case rel => exact ⟨.inr (.inr ⟨rfl, rfl, by go_num⟩), rfl⟩
    · clear hm
      obtain ⟨wr0, rfl⟩ : ∃ wr0 : World, wr0 = wr := ⟨_, rfl⟩
      go_wp2_with fail
      refine HGR.out.mono ?_
      rintro e w1 ⟨cg, rfl, hcg, hown, hE1⟩
      have HO := Lib.hid hown
      have HE1 := Lib.hid hE1
      clear hown hE1 HGR hcg
      go_wp2_with fail
      go_loopg [6, 27] 2 (fun m y x wr => ∃ (a : Option Addr) (n cc : Nat) (xs : List Value), y = .slice a n cc ∧ wr.ownsRow wr0.heap.size 32 1 (.slice a n cc) n xs ∧ Ext wr0 wr ∧
        ((m = 2 ∧ x = .int .i64 0 ∧ n = 0 ∧ xs = []) ∨ (m = 1 ∧ x = .int .i64 1 ∧ n = nA ∧ xs = xA) ∨ (m = 0 ∧ x = .int .i64 2 ∧ n = nA + nB ∧ xs = xA ++ xB)))
      case atStart => exact ⟨_, _, _, _, rfl, HO.out, HE1.out, .inl ⟨rfl, rfl, rfl, rfl⟩⟩
      case round =>
        obtain ⟨a, n, cc, xs, rfl, ho, hE, hc⟩ := hrel
        have HE := Lib.hid hE
        have HOX := Lib.hid ho
        rcases hc with ⟨hm, rfl, rfl, rfl⟩ | ⟨hm, rfl, rfl, rfl⟩ | ⟨hm, rfl, rfl, rfl⟩
        · have HM := Lib.hid hm
          have c0 := cell_later hE C0.out
          clear hm hE
          go_wp2_with (at_builtin; go_must (refine wpl_append rfl rfl Tryd.slBoolss wr0.heap.size rfl ho rfl (HA.out.ext HE.out) oA (by unfold maxLen; omega) (by omega) HE.out.size ?_))
          intro v3 w3 hown3 hg3 hb3 _
          have HE3 := Lib.hid (Below.grown HE.out hg3 HE.out.size (fun b hb => (HOX.out.lt b hb).1))
          obtain ⟨a3, c3, rfl, _⟩ := hown3.row
          have HO3 := Lib.hid hown3
          clear hown3 hg3 hb3 ho
          go_wp2_with fail
          go_roundg 1
          case measure => have := HM.out; omega
          case rel => exact ⟨a3, _, c3, _, rfl, HO3.out, HE3.out, .inr (.inl ⟨rfl, rfl, by omega, by simp⟩)⟩
        · have HM := Lib.hid hm
          have c1 := cell_later hE C1.out
          clear hm hE
          go_wp2_with (at_builtin; go_must (refine wpl_append rfl rfl Tryd.slBoolss wr0.heap.size rfl ho rfl (HB.out.ext HE.out) oB (by have := HN.out; unfold maxLen; omega) (by have := HN.out; omega) HE.out.size ?_))
          intro v3 w3 hown3 hg3 hb3 _
          have HE3 := Lib.hid (Below.grown HE.out hg3 HE.out.size (fun b hb => (HOX.out.lt b hb).1))
          obtain ⟨a3, c3, rfl, _⟩ := hown3.row
          have HO3 := Lib.hid hown3
          clear hown3 hg3 hb3 ho
          go_wp2_with fail
          go_roundg 0
          case measure => have := HM.out; omega
          case rel => exact ⟨a3, _, c3, _, rfl, HO3.out, HE3.out, .inr (.inr ⟨rfl, rfl, rfl, rfl⟩)⟩
        · clear hm hE ho
          go_wp2
          go_ret
          exact ⟨_, _, rfl, HOX.out, HE.out⟩
end Go.Proofs.YthkiegaifkkegaaDoor
