/- MdB: what is needed of it. No condition. -/
import Derived.Test.YtopkbjfjncpjdaaDoorMdM
import Derived.Test.YtopkbjfjncpjdaaDoorTag
import Derived.Laws.IdiomStrings
import Derived.Outline
import Derived.Deep.LoopGhost
import Derived.Test.YtopkbjfjncpjdaaDoorMapG
import Derived.IntWalk
namespace Go.Proofs.YtopkbjfjncpjdaaDoor
open Go.RowKit
set_option maxRecDepth 100000 in
set_option maxHeartbeats 2000000 in
theorem name_any (s : ByteArray) (w : World) (h : NameOk s) :
    Calls Tryd.prog 28 #[.string s] w fun e w' => e = .returned (.bool true) ∧ Ext w w' := by
  have h1 := h.pos
  have h2 := h.le
  have h3 : s.toList ≠ [] := by
    intro e
    have : s.toList.length = 0 := by rw [e]; rfl
    rw [ByteArray.toList_eq, Array.length_toList] at this
    have e2 : s.size = s.data.size := rfl
    omega
  have hconv := run_bytes_of_string (P := Tryd.prog) w 9 90 5 s Tryd.underlying9 Tryd.underlying90 Tryd.underlying5
  have hcell : ∀ i (hi : i < s.size), (w.drew.alloc (.cells (bytesRow s (grownCap w s.size 0 5)) 5 ((bytesRow s (grownCap w s.size 0 5)).size, (bytesRow s (grownCap w s.size 0 5)).size + 1))).cell? ⟨w.heap.size, i, none⟩ = some (.int .u8 (s[i].toNat : Int)) := by
    intro i hi
    have := bytesRow_at s (grownCap w s.size 0 5) i hi
    have hb := heap_alloc_new w.drew (Obj.cells (bytesRow s (grownCap w s.size 0 5)) 5 ((bytesRow s (grownCap w s.size 0 5)).size, (bytesRow s (grownCap w s.size 0 5)).size + 1))
    rw [show w.drew.heap.size = w.heap.size from rfl] at hb
    simp only [World.cell?, hb]
    exact this
  generalize bytesRow s (grownCap w s.size 0 5) = C at *
  generalize grownCap w s.size 0 5 = cap at *
  have HC := Lib.hid hcell
  have HE := Lib.hid (show Ext w (w.drew.alloc (.cells C 5 (C.size, C.size + 1))) from ext_al (Below.drew (Ext.refl w)) _)
  have HK := Lib.hid h.ch
  have e1 : s.toList.isEmpty = false := by simpa using h3
  have e2 : (s.toList == [121, 101, 115]) = false := by rw [beq_eq_false_iff_ne]; exact h.yes
  have e3 : (s.toList == [110, 111]) = false := by rw [beq_eq_false_iff_ne]; exact h.no
  clear h h3 hcell
  go_enter Tryd.func28, Tryd.ntmps28
  go_wp2_with fail
  go_loopg [23] s.size (fun m x wr => ∃ i : Nat, m + i = s.size ∧ x = .int .i64 (i : Int) ∧ Ext w wr ∧ ∀ j (h : j < s.size), wr.cell? ⟨w.heap.size, j, none⟩ = some (.int .u8 (s[j].toNat : Int)))
  case atStart => exact ⟨0, by omega, by go_num, HE.out, HC.out⟩
  case round =>
    obtain ⟨i, hm, rfl, hE, hc⟩ := hrel
    have HM := Lib.hid hm
    have HX := Lib.hid hE
    have HY := Lib.hid hc
    clear hm hE
    by_cases hi : i < s.size
    · have ci := hc i hi
      have hk := HK.out i hi
      have hb := s[i].toNat_lt
      clear hc
      generalize s[i].toNat = c at *
      have hiI : (i : Int) < (s.size : Int) := by omega
      have hi0 : (0 : Int) ≤ (i : Int) := by omega
      rcases hk with ⟨k1, k2⟩ | ⟨k1, k2, k3⟩
      · have q1 : ¬ (c : Int) < 97 := by omega
        have q2 : ¬ (122 : Int) < (c : Int) := by omega
        go_wp2_with fail
        go_roundg (gk - 1)
        case measure => have := HM.out; omega
        case rel => exact ⟨i + 1, by have := HM.out; omega, by go_num, HX.out, HY.out⟩
      · have q1 : (c : Int) < 97 := by omega
        have q2 : ¬ (c : Int) < 48 := by omega
        have q3 : ¬ (57 : Int) < (c : Int) := by omega
        have q4 : ((i : Int) == 0) = false := by rw [beq_eq_false_iff_ne]; omega
        go_wp2_with fail
        go_roundg (gk - 1)
        case measure => have := HM.out; omega
        case rel => exact ⟨i + 1, by have := HM.out; omega, by go_num, HX.out, HY.out⟩
    · have hiI : ¬ (i : Int) < (s.size : Int) := by omega
      clear hc
      go_wp2
      go_ret
      exact ⟨rfl, HX.out⟩
def kindE (t : Tm) (truth : Bool) : Int := if mkK t.kind = truth then 0 else 5
set_option maxRecDepth 100000 in
set_option maxHeartbeats 2000000 in
theorem kind_any (v : Value) (t : Tm) (n : Int) (b : Bool) (w : World) (h : IsT w v t) (ht : Tab w) (h1 : 0 ≤ n) (h2 : n ≤ 6) (hs : Sub t n) (hz : t.size ≤ 60) :
    Calls Tryd.prog 29 #[v, .int .i64 n, .bool b] w fun e w' => e = .returned (.int .i64 (kindE t b)) ∧ Ext w w' := by
  have hc := check_t v t n w h ht h1 h2 hs.ok hz hs.good
  rw [hs.typed] at hc
  simp only [Bool.true_and, if_true] at hc
  have HC := Lib.hid hc
  have HK := Lib.hid (show kindE t b = if mkK t.kind = b then 0 else 5 from rfl)
  clear hc hs h ht
  generalize kindE t b = r at *
  generalize mkK t.kind = k at *
  go_enter Tryd.func29, Tryd.ntmps29
  go_wp2_with fail
  refine HC.out.mono ?_
  rintro e w1 ⟨rfl, hE⟩
  have HE := Lib.hid hE
  clear hE HC
  cases k <;> cases b
  all_goals
    go_wp2
    go_ret
    exact ⟨by rw [HK.out]; rfl, HE.out⟩
end Go.Proofs.YtopkbjfjncpjdaaDoor
namespace Go.Proofs.YtopkbjfjncpjdaaDoor
open Go.RowKit
abbrev encS (s : ByteArray) : Value := .string s
abbrev encI (n : Int) : Value := .int .i64 n
theorem Tryd.keyS : KeyLaw Tryd.prog 9 encS := KeyLaw.string Tryd.underlying9
theorem Tryd.keyI : KeyLaw Tryd.prog 3 encI := KeyLaw.int Tryd.underlying3
theorem Tryd.zeroU (w : World) : (zeroValue 76).run Tryd.prog w = .ok (.agg #[]) w := by kernel_rfl
def seenL {κ : Type} (l : List κ) : List (κ × Value) := l.map fun k => (k, .agg #[])
theorem seen_none {κ : Type} [DecidableEq κ] {k : κ} {l : List κ} (h : k ∉ l) : lkp k (seenL l) = none := by
  rw [lkp_none]
  intro p hp e
  obtain ⟨x, hx, rfl⟩ := List.mem_map.1 hp
  exact h (e ▸ hx)
theorem seen_some {κ : Type} [DecidableEq κ] {k : κ} : ∀ {l : List κ}, k ∈ l → lkp k (seenL l) = some (.agg #[])
  | [], h => by simp at h
  | x :: l, h => by
    show (if k = x then some (.agg #[]) else lkp k (seenL l)) = _
    by_cases e : k = x
    · rw [if_pos e]
    · rw [if_neg e]
      exact seen_some (by simpa [e] using h)
theorem seen_snoc {κ : Type} (l : List κ) (k : κ) : seenL l ++ [(k, .agg #[])] = seenL (l ++ [k]) := by simp [seenL]
theorem nodup_take {κ : Type} {l : List κ} {i : Nat} (h : i < l.length) (hn : (l.take i).Nodup) (hm : l[i] ∉ l.take i) : (l.take (i + 1)).Nodup := by
  rw [List.take_succ_eq_append_getElem h, List.nodup_append]
  exact ⟨hn, by simp, by intro a ha b hb e; simp at hb; subst hb; subst e; exact hm ha⟩
theorem nodup_not {κ : Type} {l : List κ} {i : Nat} (h : i < l.length) (hm : l[i] ∈ l.take i) : ¬ l.Nodup := by
  intro hn
  obtain ⟨j, hj, e⟩ := List.mem_take_iff_getElem.1 hm
  exact (List.pairwise_iff_getElem.1 hn) j i (by omega) h (by omega) e
set_option maxRecDepth 100000 in
set_option maxHeartbeats 4000000 in
theorem vars_any (v : Value) (l : List Vr) (w : World) (h : IsVars w v l) (h6 : l.length ≤ 6) (hv : ∀ x ∈ l, x.Ok) (hc : countL l ≤ 4096) :
    Calls Tryd.prog 20 #[v] w fun e w' => e = .returned (.int .i64 (if (l.map (·.name)).Nodup then 0 else 7)) ∧ Ext w w' := by
  obtain ⟨a, c, rfl, _, b, off, ha, hcells⟩ := h.at
  have HA := Lib.hid ha
  have HC := Lib.hid hcells
  have HV := Lib.hid hv
  have HN := Lib.hid hc
  have hmm := @run_makeMap Tryd.prog
  obtain ⟨r, hr⟩ : ∃ r : Int, (if (l.map (·.name)).Nodup then 0 else 7) = r := ⟨_, rfl⟩
  rw [hr]
  have HR := Lib.hid hr
  clear h ha hcells hv hc hr
  go_enter Tryd.func20, Tryd.ntmps20
  go_wp2_with fail
  have hm0 := MapG.new encS w
  have HM0 := Lib.hid hm0
  have HE0 := Lib.hid (ext_al (Ext.refl w) (Obj.map #[] 0))
  clear hm0 hmm
  go_loopg [4, 15] l.length (fun m x y wr => ∃ i : Nat, m + i = l.length ∧ y = .int .i64 (i : Int) ∧ x = .int .i64 (countL (l.take i)) ∧ Ext w wr ∧ MapG encS wr w.heap.size (seenL ((l.take i).map (·.name))) ∧ ((l.map (·.name)).take i).Nodup)
  case atStart => exact ⟨0, by omega, by go_num, rfl, HE0.out, HM0.out, by simp⟩
  case round =>
    obtain ⟨i, hm, rfl, rfl, hE, hM, hnd⟩ := hrel
    have HM := Lib.hid hm
    have HND := Lib.hid hnd
    clear hnd hm HM0 HE0
    by_cases hi : i < l.length
    · obtain rfl := HA.out (by omega)
      obtain ⟨c0, c1, c2, c3⟩ := HC.out i hi
      have c0 := cell_later hE c0
      have c1 := cell_later hE c1
      have c2 := cell_later hE c2
      have c3 := cell_later hE c3
      have hok := HV.out l[i] (by simp)
      have hsp := hok.span
      have hct := countL_take (l := l) HV.out i
      have hct2 := countL_take (l := l) HV.out (i + 1)
      have hcs := countL_snoc hi
      have hn4 := HN.out
      have o1 := hok.low
      have o2 := hok.high
      have o3 := hok.i0
      have o4 := hok.i1
      have o5 := hok.sp
      unfold Vr.span at hsp hcs
      have HCS := Lib.hid hcs
      have HTI := Lib.hid (show ((l.take (i + 1)).map (·.name)) = (l.take i).map (·.name) ++ [l[i].name] by rw [List.take_succ_eq_append_getElem hi, List.map_append, List.map_cons, List.map_nil])
      have HTM := Lib.hid (show (l.map (·.name)).take i = (l.take i).map (·.name) by rw [List.map_take])
      have HLI := Lib.hid (show ∀ (h : i < (l.map (·.name)).length), (l.map (·.name))[i] = l[i].name from fun h => by simp)
      have HNM := Lib.hid (name_any l[i].name (wr.alloc (Obj.cells (vrc l[i]).toArray 43)) hok.name)
      have hiI : (i : Int) < (l.length : Int) := by omega
      have hi0 : (0 : Int) ≤ (i : Int) := by omega
      have hx := ext_al (Ext.refl wr) (Obj.cells (vrc l[i]).toArray 43)
      have hbk := blk_new wr (Obj.cells (vrc l[i]).toArray 43)
      simp only [vrc] at HNM hx hbk
      have HBK := Lib.hid hbk
      have HMX := Lib.hid (hM.ext hx)
      have HEX := Lib.hid (hE.trans hx)
      have HWR := Lib.hid hM.lt
      clear hM hE hx hbk hcs hok
      go_wp2_with fail
      refine HNM.out.mono ?_
      rintro e w2 ⟨rfl, hE2⟩
      have hbk := blk_ext HBK.out hE2
      have d0 := blk_cell hbk (i := 0) rfl
      have d1 := blk_cell hbk (i := 1) rfl
      have d2 := blk_cell hbk (i := 2) rfl
      have d3 := blk_cell hbk (i := 3) rfl
      have HM2 := Lib.hid (HMX.out.ext hE2)
      have HE2 := Lib.hid (HEX.out.trans hE2)
      have HBK2 := Lib.hid hbk
      clear hE2 hbk c0 c1 c2 c3 HMX HEX HBK HNM
      by_cases hin : l[i].name ∈ (l.take i).map (·.name)
      · have hno : ¬ (l.map (·.name)).Nodup := nodup_not (i := i) (by simpa using hi) (by rw [HLI.out, HTM.out]; exact hin)
        have HNO := Lib.hid hno
        have HIN := Lib.hid (seen_some hin)
        clear hin hno
        go_wp2_with (refine wpl_lookup_g Tryd.keyS Tryd.underlying74 rfl rfl HM2.out rfl rfl HIN.out ?_)
        clear d0 d1 d2 d3
        obtain rfl : r = 7 := by rw [← HR.out, if_neg HNO.out]
        go_wp2
        go_ret
        exact ⟨rfl, ext_al HE2.out _⟩
      · have HIN := Lib.hid (seen_none hin)
        have hnd2 := nodup_take (i := i) (l := l.map (·.name)) (by simpa using hi) HND.out (by rw [HLI.out, HTM.out]; exact hin)
        have HND2 := Lib.hid hnd2
        have hx3 := ext_al (Ext.refl w2) (Obj.cells #[] 76)
        have e0 := cell_later hx3 d0
        have HX3 := Lib.hid hx3
        have hlt := blk_lt HBK2.out
        have hwl := HM2.out.lt
        have hmw : ¬ wr.heap.size = w.heap.size := by have := HWR.out; omega
        clear hin hnd2 hx3 d1 d2 d3
        go_wp2_with (first
          | (refine wpl_lookup_gn Tryd.keyS Tryd.underlying74 rfl rfl HM2.out rfl rfl (Tryd.zeroU _) HIN.out ?_)
          | (at_mapUpdate; go_must (refine wpl_update_g Tryd.keyS Tryd.underlying74 rfl rfl (HM2.out.ext HX3.out) rfl rfl HIN.out ?_)))
        intro w3 hm3 hg3 hs3
        have hbk := blk_grown (blk_ext HBK2.out HX3.out) hg3 (by intro e; injection e with e; exact hmw e)
        have hE3 : Ext w w3 := Below.grown (HE2.out.trans HX3.out) hg3 (HE2.out.trans HX3.out).size (fun b hb => by injection hb with hb; omega)
        have d1 := blk_cell hbk (i := 1) rfl
        have d2 := blk_cell hbk (i := 2) rfl
        have d3 := blk_cell hbk (i := 3) rfl
        rw [seen_snoc] at hm3
        have HM3 := Lib.hid hm3
        have HE3 := Lib.hid hE3
        have p1 : ¬ l[i].low < -1000 := by omega
        have p2 : ¬ (1000 : Int) < l[i].high := by omega
        have p3 : ¬ l[i].high < l[i].low := by omega
        have p4 : ¬ l[i].init < l[i].low := by omega
        have p5 : ¬ l[i].high < l[i].init := by omega
        have p6 : ¬ (64 : Int) ≤ l[i].high - l[i].low := by omega
        have p7 := HCS.out
        have p8 : ¬ (4096 : Int) < countL (l.take (i + 1)) := by omega
        have p9 : IntKind.i64.wrap (countL (l.take i) * (l[i].high - l[i].low + 1)) = countL (l.take (i + 1)) := by rw [← p7]; exact IntWalk.i64_in _ (by omega)
        clear hm3 hE3 hg3 hs3 hbk e0 d0 p7
        go_wp2_with fail
        go_roundg (gk - 1)
        case measure => have := HM.out; omega
        case rel => exact ⟨i + 1, by have := HM.out; omega, by go_num, rfl, HE3.out, by rw [HTI.out, ← HTM.out]; exact HM3.out, HND2.out⟩
    · have hil : i = l.length := by have := HM.out; omega
      have hnd : (l.map (·.name)).Nodup := by
        have := HND.out
        rw [hil, List.take_of_length_le (by simp)] at this
        exact this
      have HNO := Lib.hid hnd
      have HEX := Lib.hid hE
      have hiI : ¬ (i : Int) < (l.length : Int) := by omega
      obtain rfl : r = 0 := by rw [← HR.out, if_pos HNO.out]
      clear hM hE hnd hil
      go_wp2
      go_ret
      exact ⟨rfl, HEX.out⟩
end Go.Proofs.YtopkbjfjncpjdaaDoor
