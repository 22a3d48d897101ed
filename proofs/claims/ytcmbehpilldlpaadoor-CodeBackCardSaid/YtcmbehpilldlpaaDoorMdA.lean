/- The contracts of model.name, model.kind. -/
import Derived.Test.YtcmbehpilldlpaaDoorMdM
import Derived.Test.YtcmbehpilldlpaaDoorTag
import Derived.Laws.IdiomStrings
import Derived.Outline
import Derived.Deep.LoopGhost
namespace Go.Proofs.YtcmbehpilldlpaaDoor
open Go.RowKit

set_option maxRecDepth 100000 in
set_option maxHeartbeats 2000000 in
theorem name_any (s : ByteArray) (w : World) (h : NameOk s) :
    Calls Tryd.prog 40 #[.string s] w fun e w' => e = .returned (.bool true) ∧ Ext w w' := by
  have h1 := h.pos
  have h2 := h.le
  have h3 : s.toList ≠ [] := by
    intro e
    have : s.toList.length = 0 := by rw [e]; rfl
    rw [ByteArray.toList_eq, Array.length_toList] at this
    have e2 : s.size = s.data.size := rfl
    omega
  have hconv := run_bytes_of_string (P := Tryd.prog) w 9 100 5 s Tryd.underlying9 Tryd.underlying100 Tryd.underlying5
  have hcell : ∀ i (hi : i < s.size), (w.drew.alloc (.cells (bytesRow s (grownCap w s.size 0 5)) 5 ((bytesRow s (grownCap w s.size 0 5)).size, (bytesRow s (grownCap w s.size 0 5)).size + 1))).cell? ⟨w.heap.size, i, none⟩ = some (.int .u8 (s[i].toNat : Int)) := by
    intro i hi
    have := bytesRow_at s (grownCap w s.size 0 5) i hi
    have hb := heap_alloc_new w.drew (Obj.cells (bytesRow s (grownCap w s.size 0 5)) 5 ((bytesRow s (grownCap w s.size 0 5)).size, (bytesRow s (grownCap w s.size 0 5)).size + 1))
    rw [show w.drew.heap.size = w.heap.size from rfl] at hb
    simp only [World.cell?, hb]
    exact this
  generalize bytesRow s (grownCap w s.size 0 5) = C at *
  generalize grownCap w s.size 0 5 = cap at *
  have HC := Lib.hid hcell
  have HE := Lib.hid (show Ext w (w.drew.alloc (.cells C 5 (C.size, C.size + 1))) from ext_al (Below.drew (Ext.refl w)) _)
  have HK := Lib.hid h.ch
  have e1 : s.toList.isEmpty = false := by simpa using h3
  have e2 : (s.toList == [121, 101, 115]) = false := by rw [beq_eq_false_iff_ne]; exact h.yes
  have e3 : (s.toList == [110, 111]) = false := by rw [beq_eq_false_iff_ne]; exact h.no
  clear h h3 hcell
  go_enter Tryd.func40, Tryd.ntmps40
  go_wp2_with fail
  go_loopg [23] s.size (fun m x wr => ∃ i : Nat, m + i = s.size ∧ x = .int .i64 (i : Int) ∧ Ext w wr ∧ ∀ j (h : j < s.size), wr.cell? ⟨w.heap.size, j, none⟩ = some (.int .u8 (s[j].toNat : Int)))
  case atStart => exact ⟨0, by omega, by go_num, HE.out, HC.out⟩
  case round =>
    obtain ⟨i, hm, rfl, hE, hc⟩ := hrel
    have HM := Lib.hid hm
    have HX := Lib.hid hE
    have HY := Lib.hid hc
    clear hm hE
    by_cases hi : i < s.size
    · have ci := hc i hi
      have hk := HK.out i hi
      have hb := s[i].toNat_lt
      clear hc
      generalize s[i].toNat = c at *
      have hiI : (i : Int) < (s.size : Int) := by omega
      have hi0 : (0 : Int) ≤ (i : Int) := by omega
      rcases hk with ⟨k1, k2⟩ | ⟨k1, k2, k3⟩
      · have q1 : ¬ (c : Int) < 97 := by omega
        have q2 : ¬ (122 : Int) < (c : Int) := by omega
        go_wp2_with fail
        go_roundg (gk - 1)
        case measure => have := HM.out; omega
        case rel => exact ⟨i + 1, by have := HM.out; omega, by go_num, HX.out, HY.out⟩
      · have q1 : (c : Int) < 97 := by omega
        have q2 : ¬ (c : Int) < 48 := by omega
        have q3 : ¬ (57 : Int) < (c : Int) := by omega
        have q4 : ((i : Int) == 0) = false := by rw [beq_eq_false_iff_ne]; omega
        go_wp2_with fail
        go_roundg (gk - 1)
        case measure => have := HM.out; omega
        case rel => exact ⟨i + 1, by have := HM.out; omega, by go_num, HX.out, HY.out⟩
    · have hiI : ¬ (i : Int) < (s.size : Int) := by omega
      clear hc
      go_wp2
      go_ret
      exact ⟨rfl, HX.out⟩

/-- What kind answers of a term that is typed. -/
def kindE (t : Tm) (truth : Bool) : Int := if mkK t.kind = truth then 0 else 5

set_option maxRecDepth 100000 in
set_option maxHeartbeats 2000000 in
theorem kind_any (v : Value) (t : Tm) (n : Int) (b : Bool) (w : World) (h : IsT w v t) (ht : Tab w) (h1 : 0 ≤ n) (h2 : n ≤ 6) (hs : Sub t n) (hz : t.size ≤ 60) :
    Calls Tryd.prog 41 #[v, .int .i64 n, .bool b] w fun e w' => e = .returned (.int .i64 (kindE t b)) ∧ Ext w w' := by
  have hc := check_t v t n w h ht h1 h2 hs.ok hz hs.good
  rw [hs.typed] at hc
  simp only [Bool.true_and, if_true] at hc
  have HC := Lib.hid hc
  have HK := Lib.hid (show kindE t b = if mkK t.kind = b then 0 else 5 from rfl)
  clear hc hs h ht
  generalize kindE t b = r at *
  generalize mkK t.kind = k at *
  go_enter Tryd.func41, Tryd.ntmps41
  go_wp2_with fail
  refine HC.out.mono ?_
  rintro e w1 ⟨rfl, hE⟩
  have HE := Lib.hid hE
  clear hE HC
  cases k <;> cases b
  all_goals
    go_wp2
    go_ret
    exact ⟨by rw [HK.out]; rfl, HE.out⟩

end Go.Proofs.YtcmbehpilldlpaaDoor
