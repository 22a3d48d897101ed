/- Several texts in one: MdB; ShN; MdD. No condition. -/
import Derived.Test.YtfcaomejbcjfgaaGreatDoorKx14
import Derived.Test.YtfcaomejbcjfgaaGreatDoorKx1
import Derived.Laws.IdiomStrings
import Derived.Outline
import Derived.Deep.LoopGhost
import Derived.Test.YtfcaomejbcjfgaaGreatDoorKx4
import Derived.IntWalk
namespace Go.Proofs.YtfcaomejbcjfgaaGreatDoor
open Go.RowKit
end Go.Proofs.YtfcaomejbcjfgaaGreatDoor
namespace Go.Proofs.YtfcaomejbcjfgaaGreatDoor
open Go.RowKit
abbrev encS (s : ByteArray) : Value := .string s
abbrev encI (n : Int) : Value := .int .i64 n
theorem Tryz.keyS : KeyLaw Tryz.prog 9 encS := KeyLaw.string Tryz.underlying9
theorem Tryz.keyI : KeyLaw Tryz.prog 3 encI := KeyLaw.int Tryz.underlying3
theorem Tryz.zeroU (w : World) : (zeroValue 143).run Tryz.prog w = .ok (.agg #[]) w := by kernel_rfl
def seenL {κ : Type} (l : List κ) : List (κ × Value) := l.map fun k => (k, .agg #[])
theorem seen_none {κ : Type} [DecidableEq κ] {k : κ} {l : List κ} (h : k ∉ l) : lkp k (seenL l) = none := by
  rw [lkp_none]
  intro p hp e
  obtain ⟨x, hx, rfl⟩ := List.mem_map.1 hp
  exact h (e ▸ hx)
theorem seen_some {κ : Type} [DecidableEq κ] {k : κ} : ∀ {l : List κ}, k ∈ l → lkp k (seenL l) = some (.agg #[])
  | [], h => by simp at h
  | x :: l, h => by
    show (if k = x then some (.agg #[]) else lkp k (seenL l)) = _
    by_cases e : k = x
    · rw [if_pos e]
    · rw [if_neg e]
      exact seen_some (by simpa [e] using h)
theorem seen_snoc {κ : Type} (l : List κ) (k : κ) : seenL l ++ [(k, .agg #[])] = seenL (l ++ [k]) := by simp [seenL]
theorem nodup_take {κ : Type} {l : List κ} {i : Nat} (h : i < l.length) (hn : (l.take i).Nodup) (hm : l[i] ∉ l.take i) : (l.take (i + 1)).Nodup := by
  rw [List.take_succ_eq_append_getElem h, List.nodup_append]
  exact ⟨hn, by simp, by intro a ha b hb e; simp at hb; subst hb; subst e; exact hm ha⟩
theorem nodup_not {κ : Type} {l : List κ} {i : Nat} (h : i < l.length) (hm : l[i] ∈ l.take i) : ¬ l.Nodup := by
  intro hn
  obtain ⟨j, hj, e⟩ := List.mem_take_iff_getElem.1 hm
  exact (List.pairwise_iff_getElem.1 hn) j i (by omega) h (by omega) e
end Go.Proofs.YtfcaomejbcjfgaaGreatDoor

namespace Go.Proofs.YtfcaomejbcjfgaaGreatDoor
open Go Go.RowKit
open Classical in
noncomputable def nameB (s : ByteArray) : Bool := decide (NameOk s)
set_option maxRecDepth 100000 in
set_option maxHeartbeats 2000000 in
theorem name_yes (s : ByteArray) (w : World) (h : NameOk s) :
    Calls Tryz.prog 77 #[.string s] w fun e w' => e = .returned (.bool true) ∧ Ext w w' := by
  have h1 := h.pos
  have h2 := h.le
  have h3 : s.toList ≠ [] := by
    intro e
    have : s.toList.length = 0 := by rw [e]; rfl
    rw [ByteArray.toList_eq, Array.length_toList] at this
    have e2 : s.size = s.data.size := rfl
    omega
  have hconv := run_bytes_of_string (P := Tryz.prog) w 9 56 5 s Tryz.underlying9 Tryz.underlying56 Tryz.underlying5
  have hcell : ∀ i (hi : i < s.size), (w.drew.alloc (.cells (bytesRow s (grownCap w s.size 0 5)) 5 ((bytesRow s (grownCap w s.size 0 5)).size, (bytesRow s (grownCap w s.size 0 5)).size + 1))).cell? ⟨w.heap.size, i, none⟩ = some (.int .u8 (s[i].toNat : Int)) := by
    intro i hi
    have := bytesRow_at s (grownCap w s.size 0 5) i hi
    have hb := heap_alloc_new w.drew (Obj.cells (bytesRow s (grownCap w s.size 0 5)) 5 ((bytesRow s (grownCap w s.size 0 5)).size, (bytesRow s (grownCap w s.size 0 5)).size + 1))
    rw [show w.drew.heap.size = w.heap.size from rfl] at hb
    simp only [World.cell?, hb]
    exact this
  generalize bytesRow s (grownCap w s.size 0 5) = C at *
  generalize grownCap w s.size 0 5 = cap at *
  have HC := Lib.hid hcell
  have HE := Lib.hid (show Ext w (w.drew.alloc (.cells C 5 (C.size, C.size + 1))) from ext_al (Below.drew (Ext.refl w)) _)
  have HK := Lib.hid h.ch
  have e1 : s.toList.isEmpty = false := by simpa using h3
  have e2 : (s.toList == [121, 101, 115]) = false := by rw [beq_eq_false_iff_ne]; exact h.yes
  have e3 : (s.toList == [110, 111]) = false := by rw [beq_eq_false_iff_ne]; exact h.no
  clear h h3 hcell
  go_enter Tryz.func77, Tryz.ntmps77
  go_wp2_with fail
  go_loopg [23] s.size (fun m x wr => ∃ i : Nat, m + i = s.size ∧ x = .int .i64 (i : Int) ∧ Ext w wr ∧ ∀ j (h : j < s.size), wr.cell? ⟨w.heap.size, j, none⟩ = some (.int .u8 (s[j].toNat : Int)))
  case atStart => exact ⟨0, by omega, by go_num, HE.out, HC.out⟩
  case round =>
    obtain ⟨i, hm, rfl, hE, hc⟩ := hrel
    have HM := Lib.hid hm
    have HX := Lib.hid hE
    have HY := Lib.hid hc
    clear hm hE
    by_cases hi : i < s.size
    · have ci := hc i hi
      have hk := HK.out i hi
      have hb := s[i].toNat_lt
      clear hc
      generalize s[i].toNat = c at *
      have hiI : (i : Int) < (s.size : Int) := by omega
      have hi0 : (0 : Int) ≤ (i : Int) := by omega
      rcases hk with ⟨k1, k2⟩ | ⟨k1, k2, k3⟩
      · have q1 : ¬ (c : Int) < 97 := by omega
        have q2 : ¬ (122 : Int) < (c : Int) := by omega
        go_wp2_with fail
        go_roundg (gk - 1)
        case measure => have := HM.out; omega
        case rel => exact ⟨i + 1, by have := HM.out; omega, by go_num, HX.out, HY.out⟩
      · have q1 : (c : Int) < 97 := by omega
        have q2 : ¬ (c : Int) < 48 := by omega
        have q3 : ¬ (57 : Int) < (c : Int) := by omega
        have q4 : ((i : Int) == 0) = false := by rw [beq_eq_false_iff_ne]; omega
        go_wp2_with fail
        go_roundg (gk - 1)
        case measure => have := HM.out; omega
        case rel => exact ⟨i + 1, by have := HM.out; omega, by go_num, HX.out, HY.out⟩
    · have hiI : ¬ (i : Int) < (s.size : Int) := by omega
      clear hc
      go_wp2
      go_ret
      exact ⟨rfl, HX.out⟩
theorem least {p : Nat → Prop} (h : ∃ i, p i) : ∃ i, p i ∧ ∀ j, j < i → ¬ p j := by
  obtain ⟨i, hi⟩ := h
  induction i using Nat.strongRecOn with
  | _ i ih =>
    by_cases h : ∃ j, j < i ∧ p j
    · obtain ⟨j, hj, hp⟩ := h
      exact ih j hj hp
    · exact ⟨i, hi, fun j hj hp => h ⟨j, hj, hp⟩⟩
set_option maxRecDepth 100000 in
set_option maxHeartbeats 4000000 in
theorem name_no (s : ByteArray) (w : World) (h : ¬ NameOk s) :
    Calls Tryz.prog 77 #[.string s] w fun e w' => e = .returned (.bool false) ∧ Ext w w' := by
  by_cases h0 : s.size = 0
  · have h3 : s.toList = [] := by
      have h4 : s.toList.length = 0 := by rw [ByteArray.toList_eq, Array.length_toList]; exact h0
      exact List.eq_nil_of_length_eq_zero h4
    have e1 : s.toList.isEmpty = true := by simp [h3]
    clear h h0
    go_enter Tryz.func77, Tryz.ntmps77
    go_wp2
    go_ret
    exact ⟨rfl, Ext.refl _⟩
  · have h3 : s.toList ≠ [] := by
      intro e
      have h4 : s.toList.length = 0 := by rw [e]; rfl
      rw [ByteArray.toList_eq, Array.length_toList] at h4
      exact h0 h4
    have e1 : s.toList.isEmpty = false := by simpa using h3
    by_cases h8 : 8 < s.size
    · have h8I : (8 : Int) < (s.size : Int) := by omega
      clear h h0
      go_enter Tryz.func77, Tryz.ntmps77
      go_wp2
      go_ret
      exact ⟨rfl, Ext.refl _⟩
    · by_cases hy : s.toList = [121, 101, 115]
      · have e2 : (s.toList == [121, 101, 115]) = true := by rw [beq_iff_eq]; exact hy
        clear h h0 hy h3
        go_enter Tryz.func77, Tryz.ntmps77
        go_wp2
        go_ret
        exact ⟨rfl, Ext.refl _⟩
      · have e2 : (s.toList == [121, 101, 115]) = false := by rw [beq_eq_false_iff_ne]; exact hy
        by_cases hn : s.toList = [110, 111]
        · have e3 : (s.toList == [110, 111]) = true := by rw [beq_iff_eq]; exact hn
          clear h h0 hy h3 hn
          go_enter Tryz.func77, Tryz.ntmps77
          go_wp2
          go_ret
          exact ⟨rfl, Ext.refl _⟩
        · have e3 : (s.toList == [110, 111]) = false := by rw [beq_eq_false_iff_ne]; exact hn
          obtain ⟨q, ⟨hq, hbad⟩, hleast⟩ := least (p := fun i => ∃ h : i < s.size, ¬ ((97 ≤ s[i].toNat ∧ s[i].toNat ≤ 122) ∨ (48 ≤ s[i].toNat ∧ s[i].toNat ≤ 57 ∧ i ≠ 0))) (by
            refine Classical.byContradiction fun hx => h ⟨by omega, by omega, hy, hn, fun i hi => ?_⟩
            exact Classical.byContradiction fun hb => hx ⟨i, hi, hb⟩)
          have hgood : ∀ i (hi : i < s.size), i < q → (97 ≤ s[i].toNat ∧ s[i].toNat ≤ 122) ∨ (48 ≤ s[i].toNat ∧ s[i].toNat ≤ 57 ∧ i ≠ 0) := fun i hi hlt =>
            Classical.byContradiction fun hb => hleast i hlt ⟨hi, hb⟩
          have hconv := run_bytes_of_string (P := Tryz.prog) w 9 56 5 s Tryz.underlying9 Tryz.underlying56 Tryz.underlying5
          have hcell : ∀ i (hi : i < s.size), (w.drew.alloc (.cells (bytesRow s (grownCap w s.size 0 5)) 5 ((bytesRow s (grownCap w s.size 0 5)).size, (bytesRow s (grownCap w s.size 0 5)).size + 1))).cell? ⟨w.heap.size, i, none⟩ = some (.int .u8 (s[i].toNat : Int)) := by
            intro i hi
            have := bytesRow_at s (grownCap w s.size 0 5) i hi
            have hb := heap_alloc_new w.drew (Obj.cells (bytesRow s (grownCap w s.size 0 5)) 5 ((bytesRow s (grownCap w s.size 0 5)).size, (bytesRow s (grownCap w s.size 0 5)).size + 1))
            rw [show w.drew.heap.size = w.heap.size from rfl] at hb
            simp only [World.cell?, hb]
            exact this
          generalize bytesRow s (grownCap w s.size 0 5) = C at *
          generalize grownCap w s.size 0 5 = cap at *
          have HC := Lib.hid hcell
          have HE := Lib.hid (show Ext w (w.drew.alloc (.cells C 5 (C.size, C.size + 1))) from ext_al (Below.drew (Ext.refl w)) _)
          have HGD := Lib.hid hgood
          have HBD := Lib.hid hbad
          have h2 : s.size ≤ 8 := by omega
          have h1 : 0 < s.size := by omega
          clear h h0 h3 hy hn hcell hgood hbad hleast h8
          go_enter Tryz.func77, Tryz.ntmps77
          go_wp2_with fail
          go_loopg [23] s.size (fun m x wr => ∃ i : Nat, m + i = s.size ∧ i ≤ q ∧ x = .int .i64 (i : Int) ∧ Ext w wr ∧ ∀ j (h : j < s.size), wr.cell? ⟨w.heap.size, j, none⟩ = some (.int .u8 (s[j].toNat : Int)))
          case atStart => exact ⟨0, by omega, by omega, by go_num, HE.out, HC.out⟩
          case round =>
            obtain ⟨i, hm, hiq, rfl, hE, hc⟩ := hrel
            have HM := Lib.hid hm
            have HX := Lib.hid hE
            have HY := Lib.hid hc
            clear hm hE
            have hi : i < s.size := by omega
            have ci := hc i hi
            have hk := HGD.out i hi
            have hbd := HBD.out
            have hb := s[i].toNat_lt
            clear hc
            have hiI : (i : Int) < (s.size : Int) := by omega
            have hi0 : (0 : Int) ≤ (i : Int) := by omega
            by_cases hlt : i < q
            · have hk := hk hlt
              clear hbd
              generalize s[i].toNat = c at *
              rcases hk with ⟨k1, k2⟩ | ⟨k1, k2, k3⟩
              · have q1 : ¬ (c : Int) < 97 := by omega
                have q2 : ¬ (122 : Int) < (c : Int) := by omega
                go_wp2_with fail
                go_roundg (gk - 1)
                case measure => have := HM.out; omega
                case rel => exact ⟨i + 1, by have := HM.out; omega, by omega, by go_num, HX.out, HY.out⟩
              · have q1 : (c : Int) < 97 := by omega
                have q2 : ¬ (c : Int) < 48 := by omega
                have q3 : ¬ (57 : Int) < (c : Int) := by omega
                have q4 : ((i : Int) == 0) = false := by rw [beq_eq_false_iff_ne]; omega
                go_wp2_with fail
                go_roundg (gk - 1)
                case measure => have := HM.out; omega
                case rel => exact ⟨i + 1, by have := HM.out; omega, by omega, by go_num, HX.out, HY.out⟩
            · obtain rfl : i = q := by omega
              clear hk
              generalize s[i].toNat = c at *
              have hcase : ((c : Int) < 97 ∨ (¬ (c : Int) < 97 ∧ (122 : Int) < (c : Int))) ∧ ((c : Int) < 48 ∨ (¬ (c : Int) < 48 ∧ (57 : Int) < (c : Int)) ∨ (¬ (c : Int) < 48 ∧ ¬ (57 : Int) < (c : Int) ∧ i = 0)) := by omega
              clear hbd
              obtain ⟨ha, hb2⟩ := hcase
              rcases ha with a1 | ⟨a1, a2⟩
              · rcases hb2 with b1 | ⟨b1, b2⟩ | ⟨b1, b2, b3⟩
                · go_wp2
                  go_ret
                  exact ⟨rfl, HX.out⟩
                · go_wp2
                  go_ret
                  exact ⟨rfl, HX.out⟩
                · have q4 : ((i : Int) == 0) = true := by rw [beq_iff_eq]; omega
                  clear b3
                  go_wp2
                  go_ret
                  exact ⟨rfl, HX.out⟩
              · have b1 : ¬ (c : Int) < 48 := by omega
                have b2 : (57 : Int) < (c : Int) := by omega
                clear hb2
                go_wp2
                go_ret
                exact ⟨rfl, HX.out⟩
theorem name_all (s : ByteArray) (w : World) :
    Calls Tryz.prog 77 #[.string s] w fun e w' => e = .returned (.bool (nameB s)) ∧ Ext w w' := by
  by_cases h : NameOk s
  · have e : nameB s = true := by unfold nameB; simp [h]
    rw [e]; exact name_yes s w h
  · have e : nameB s = false := by unfold nameB; simp [h]
    rw [e]; exact name_no s w h
end Go.Proofs.YtfcaomejbcjfgaaGreatDoor

namespace Go.Proofs.YtfcaomejbcjfgaaGreatDoor
open Go.RowKit
end Go.Proofs.YtfcaomejbcjfgaaGreatDoor
namespace Go.Proofs.YtfcaomejbcjfgaaGreatDoor
open Go.RowKit
end Go.Proofs.YtfcaomejbcjfgaaGreatDoor
