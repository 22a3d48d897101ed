/- Several texts in one: MdB; MdD; Shut; MdF; SortP; SrtI; Srt. No condition. -/
import Derived.Test.YtkkbefhnklpfaaaDoorKp6
import Derived.Test.YtkkbefhnklpfaaaDoorKp1
import Derived.Laws.IdiomStrings
import Derived.Outline
import Derived.Deep.LoopGhost
import Derived.IntWalk
import Derived.Deep.QuietTactic
import Derived.BigQuiet
import Derived.Deep.Cut
import Derived.Test.YtkkbefhnklpfaaaDoorRows
import Derived.Test.YtkkbefhnklpfaaaDoorShelf
import Derived.Sort.OwnSortedInts
import Derived.Lib.SlicesCompact
namespace Go.Proofs.YtkkbefhnklpfaaaDoor
open Go.RowKit

set_option maxRecDepth 100000 in
set_option maxHeartbeats 2000000 in
theorem name_any (s : ByteArray) (w : World) (h : NameOk s) :
    Calls Tryd.prog 49 #[.string s] w fun e w' => e = .returned (.bool true) ∧ Ext w w' := by
  have h1 := h.pos
  have h2 := h.le
  have h3 : s.toList ≠ [] := by
    intro e
    have : s.toList.length = 0 := by rw [e]; rfl
    rw [ByteArray.toList_eq, Array.length_toList] at this
    have e2 : s.size = s.data.size := rfl
    omega
  have hconv := run_bytes_of_string (P := Tryd.prog) w 9 132 5 s Tryd.underlying9 Tryd.underlying132 Tryd.underlying5
  have hcell : ∀ i (hi : i < s.size), (w.drew.alloc (.cells (bytesRow s (grownCap w s.size 0 5)) 5 ((bytesRow s (grownCap w s.size 0 5)).size, (bytesRow s (grownCap w s.size 0 5)).size + 1))).cell? ⟨w.heap.size, i, none⟩ = some (.int .u8 (s[i].toNat : Int)) := by
    intro i hi
    have := bytesRow_at s (grownCap w s.size 0 5) i hi
    have hb := heap_alloc_new w.drew (Obj.cells (bytesRow s (grownCap w s.size 0 5)) 5 ((bytesRow s (grownCap w s.size 0 5)).size, (bytesRow s (grownCap w s.size 0 5)).size + 1))
    rw [show w.drew.heap.size = w.heap.size from rfl] at hb
    simp only [World.cell?, hb]
    exact this
  generalize bytesRow s (grownCap w s.size 0 5) = C at *
  generalize grownCap w s.size 0 5 = cap at *
  have HC := Lib.hid hcell
  have HE := Lib.hid (show Ext w (w.drew.alloc (.cells C 5 (C.size, C.size + 1))) from ext_al (Below.drew (Ext.refl w)) _)
  have HK := Lib.hid h.ch
  have e1 : s.toList.isEmpty = false := by simpa using h3
  have e2 : (s.toList == [121, 101, 115]) = false := by rw [beq_eq_false_iff_ne]; exact h.yes
  have e3 : (s.toList == [110, 111]) = false := by rw [beq_eq_false_iff_ne]; exact h.no
  clear h h3 hcell
  go_enter Tryd.func49, Tryd.ntmps49
  go_wp2_with fail
  go_loopg [23] s.size (fun m x wr => ∃ i : Nat, m + i = s.size ∧ x = .int .i64 (i : Int) ∧ Ext w wr ∧ ∀ j (h : j < s.size), wr.cell? ⟨w.heap.size, j, none⟩ = some (.int .u8 (s[j].toNat : Int)))
  case atStart => exact ⟨0, by omega, by go_num, HE.out, HC.out⟩
  case round =>
    obtain ⟨i, hm, rfl, hE, hc⟩ := hrel
    have HM := Lib.hid hm
    have HX := Lib.hid hE
    have HY := Lib.hid hc
    clear hm hE
    by_cases hi : i < s.size
    · have ci := hc i hi
      have hk := HK.out i hi
      have hb := s[i].toNat_lt
      clear hc
      generalize s[i].toNat = c at *
      have hiI : (i : Int) < (s.size : Int) := by omega
      have hi0 : (0 : Int) ≤ (i : Int) := by omega
      rcases hk with ⟨k1, k2⟩ | ⟨k1, k2, k3⟩
      · have q1 : ¬ (c : Int) < 97 := by omega
        have q2 : ¬ (122 : Int) < (c : Int) := by omega
        go_wp2_with fail
        go_roundg (gk - 1)
        case measure => have := HM.out; omega
        case rel => exact ⟨i + 1, by have := HM.out; omega, by go_num, HX.out, HY.out⟩
      · have q1 : (c : Int) < 97 := by omega
        have q2 : ¬ (c : Int) < 48 := by omega
        have q3 : ¬ (57 : Int) < (c : Int) := by omega
        have q4 : ((i : Int) == 0) = false := by rw [beq_eq_false_iff_ne]; omega
        go_wp2_with fail
        go_roundg (gk - 1)
        case measure => have := HM.out; omega
        case rel => exact ⟨i + 1, by have := HM.out; omega, by go_num, HX.out, HY.out⟩
    · have hiI : ¬ (i : Int) < (s.size : Int) := by omega
      clear hc
      go_wp2
      go_ret
      exact ⟨rfl, HX.out⟩

/-- What kind answers of a term that is typed. -/
def kindE (t : Tm) (truth : Bool) : Int := if mkK t.kind = truth then 0 else 5

set_option maxRecDepth 100000 in
set_option maxHeartbeats 2000000 in
theorem kind_any (v : Value) (t : Tm) (n : Int) (b : Bool) (w : World) (h : IsT w v t) (ht : Tab w) (h1 : 0 ≤ n) (h2 : n ≤ 6) (hs : Sub t n) (hz : t.size ≤ 60) :
    Calls Tryd.prog 50 #[v, .int .i64 n, .bool b] w fun e w' => e = .returned (.int .i64 (kindE t b)) ∧ Ext w w' := by
  have hc := check_t v t n w h ht h1 h2 hs.ok hz hs.good
  rw [hs.typed] at hc
  simp only [Bool.true_and, if_true] at hc
  have HC := Lib.hid hc
  have HK := Lib.hid (show kindE t b = if mkK t.kind = b then 0 else 5 from rfl)
  clear hc hs h ht
  generalize kindE t b = r at *
  generalize mkK t.kind = k at *
  go_enter Tryd.func50, Tryd.ntmps50
  go_wp2_with fail
  refine HC.out.mono ?_
  rintro e w1 ⟨rfl, hE⟩
  have HE := Lib.hid hE
  clear hE HC
  cases k <;> cases b
  all_goals
    go_wp2
    go_ret
    exact ⟨by rw [HK.out]; rfl, HE.out⟩

end Go.Proofs.YtkkbefhnklpfaaaDoor

namespace Go.Proofs.YtkkbefhnklpfaaaDoor
open Go.RowKit

abbrev encS (s : ByteArray) : Value := .string s
abbrev encI (n : Int) : Value := .int .i64 n
theorem Tryd.keyS : KeyLaw Tryd.prog 9 encS := KeyLaw.string Tryd.underlying9
theorem Tryd.keyI : KeyLaw Tryd.prog 3 encI := KeyLaw.int Tryd.underlying3
theorem Tryd.zeroU (w : World) : (zeroValue 90).run Tryd.prog w = .ok (.agg #[]) w := by kernel_rfl

/-- What was seen of a list. -/
def seenL {κ : Type} (l : List κ) : List (κ × Value) := l.map fun k => (k, .agg #[])
theorem seen_none {κ : Type} [DecidableEq κ] {k : κ} {l : List κ} (h : k ∉ l) : lkp k (seenL l) = none := by
  rw [lkp_none]
  intro p hp e
  obtain ⟨x, hx, rfl⟩ := List.mem_map.1 hp
  exact h (e ▸ hx)
theorem seen_some {κ : Type} [DecidableEq κ] {k : κ} : ∀ {l : List κ}, k ∈ l → lkp k (seenL l) = some (.agg #[])
  | [], h => by simp at h
  | x :: l, h => by
    show (if k = x then some (.agg #[]) else lkp k (seenL l)) = _
    by_cases e : k = x
    · rw [if_pos e]
    · rw [if_neg e]
      exact seen_some (by simpa [e] using h)
theorem seen_snoc {κ : Type} (l : List κ) (k : κ) : seenL l ++ [(k, .agg #[])] = seenL (l ++ [k]) := by simp [seenL]

theorem nodup_take {κ : Type} {l : List κ} {i : Nat} (h : i < l.length) (hn : (l.take i).Nodup) (hm : l[i] ∉ l.take i) : (l.take (i + 1)).Nodup := by
  rw [List.take_succ_eq_append_getElem h, List.nodup_append]
  exact ⟨hn, by simp, by intro a ha b hb e; simp at hb; subst hb; subst e; exact hm ha⟩
theorem nodup_not {κ : Type} {l : List κ} {i : Nat} (h : i < l.length) (hm : l[i] ∈ l.take i) : ¬ l.Nodup := by
  intro hn
  obtain ⟨j, hj, e⟩ := List.mem_take_iff_getElem.1 hm
  exact (List.pairwise_iff_getElem.1 hn) j i (by omega) h (by omega) e

set_option maxRecDepth 100000 in
set_option maxHeartbeats 4000000 in
theorem vars_any (v : Value) (l : List Vr) (w : World) (h : IsVars w v l) (h6 : l.length ≤ 6) (hv : ∀ x ∈ l, x.Ok) (hc : countL l ≤ 4096) :
    Calls Tryd.prog 28 #[v] w fun e w' => e = .returned (.int .i64 (if (l.map (·.name)).Nodup then 0 else 7)) ∧ Ext w w' := by
  obtain ⟨a, c, rfl, _, b, off, ha, hcells⟩ := h.at
  have HA := Lib.hid ha
  have HC := Lib.hid hcells
  have HV := Lib.hid hv
  have HN := Lib.hid hc
  have hmm := @run_makeMap Tryd.prog
  obtain ⟨r, hr⟩ : ∃ r : Int, (if (l.map (·.name)).Nodup then 0 else 7) = r := ⟨_, rfl⟩
  rw [hr]
  have HR := Lib.hid hr
  clear h ha hcells hv hc hr
  go_enter Tryd.func28, Tryd.ntmps28
  go_wp2_with fail
  have hm0 := MapG.new encS w
  have HM0 := Lib.hid hm0
  have HE0 := Lib.hid (ext_al (Ext.refl w) (Obj.map #[] 0))
  clear hm0 hmm
  go_loopg [4, 15] l.length (fun m x y wr => ∃ i : Nat, m + i = l.length ∧ y = .int .i64 (i : Int) ∧ x = .int .i64 (countL (l.take i)) ∧ Ext w wr ∧ MapG encS wr w.heap.size (seenL ((l.take i).map (·.name))) ∧ ((l.map (·.name)).take i).Nodup)
  case atStart => exact ⟨0, by omega, by go_num, rfl, HE0.out, HM0.out, by simp⟩
  case round =>
    obtain ⟨i, hm, rfl, rfl, hE, hM, hnd⟩ := hrel
    have HM := Lib.hid hm
    have HND := Lib.hid hnd
    clear hnd hm HM0 HE0
    by_cases hi : i < l.length
    · obtain rfl := HA.out (by omega)
      obtain ⟨c0, c1, c2, c3⟩ := HC.out i hi
      have c0 := cell_later hE c0
      have c1 := cell_later hE c1
      have c2 := cell_later hE c2
      have c3 := cell_later hE c3
      have hok := HV.out l[i] (by simp)
      have hsp := hok.span
      have hct := countL_take (l := l) HV.out i
      have hct2 := countL_take (l := l) HV.out (i + 1)
      have hcs := countL_snoc hi
      have hn4 := HN.out
      have o1 := hok.low
      have o2 := hok.high
      have o3 := hok.i0
      have o4 := hok.i1
      have o5 := hok.sp
      unfold Vr.span at hsp hcs
      have HCS := Lib.hid hcs
      have HTI := Lib.hid (show ((l.take (i + 1)).map (·.name)) = (l.take i).map (·.name) ++ [l[i].name] by rw [List.take_succ_eq_append_getElem hi, List.map_append, List.map_cons, List.map_nil])
      have HTM := Lib.hid (show (l.map (·.name)).take i = (l.take i).map (·.name) by rw [List.map_take])
      have HLI := Lib.hid (show ∀ (h : i < (l.map (·.name)).length), (l.map (·.name))[i] = l[i].name from fun h => by simp)
      have HNM := Lib.hid (name_any l[i].name (wr.alloc (Obj.cells (vrc l[i]).toArray 32)) hok.name)
      have hiI : (i : Int) < (l.length : Int) := by omega
      have hi0 : (0 : Int) ≤ (i : Int) := by omega
      have hx := ext_al (Ext.refl wr) (Obj.cells (vrc l[i]).toArray 32)
      have hbk := blk_new wr (Obj.cells (vrc l[i]).toArray 32)
      simp only [vrc] at HNM hx hbk
      have HBK := Lib.hid hbk
      have HMX := Lib.hid (hM.ext hx)
      have HEX := Lib.hid (hE.trans hx)
      have HWR := Lib.hid hM.lt
      clear hM hE hx hbk hcs hok
      go_wp2_with fail
      refine HNM.out.mono ?_
      rintro e w2 ⟨rfl, hE2⟩
      have hbk := blk_ext HBK.out hE2
      have d0 := blk_cell hbk (i := 0) rfl
      have d1 := blk_cell hbk (i := 1) rfl
      have d2 := blk_cell hbk (i := 2) rfl
      have d3 := blk_cell hbk (i := 3) rfl
      have HM2 := Lib.hid (HMX.out.ext hE2)
      have HE2 := Lib.hid (HEX.out.trans hE2)
      have HBK2 := Lib.hid hbk
      clear hE2 hbk c0 c1 c2 c3 HMX HEX HBK HNM
      by_cases hin : l[i].name ∈ (l.take i).map (·.name)
      · have hno : ¬ (l.map (·.name)).Nodup := nodup_not (i := i) (by simpa using hi) (by rw [HLI.out, HTM.out]; exact hin)
        have HNO := Lib.hid hno
        have HIN := Lib.hid (seen_some hin)
        clear hin hno
        go_wp2_with (refine wpl_lookup_g Tryd.keyS Tryd.underlying112 rfl rfl HM2.out rfl rfl HIN.out ?_)
        clear d0 d1 d2 d3
        obtain rfl : r = 7 := by rw [← HR.out, if_neg HNO.out]
        go_wp2
        go_ret
        exact ⟨rfl, ext_al HE2.out _⟩
      · have HIN := Lib.hid (seen_none hin)
        have hnd2 := nodup_take (i := i) (l := l.map (·.name)) (by simpa using hi) HND.out (by rw [HLI.out, HTM.out]; exact hin)
        have HND2 := Lib.hid hnd2
        have hx3 := ext_al (Ext.refl w2) (Obj.cells #[] 90)
        have e0 := cell_later hx3 d0
        have HX3 := Lib.hid hx3
        have hlt := blk_lt HBK2.out
        have hwl := HM2.out.lt
        have hmw : ¬ wr.heap.size = w.heap.size := by have := HWR.out; omega
        clear hin hnd2 hx3 d1 d2 d3
        go_wp2_with (first
          | (refine wpl_lookup_gn Tryd.keyS Tryd.underlying112 rfl rfl HM2.out rfl rfl (Tryd.zeroU _) HIN.out ?_)
          | (at_mapUpdate; go_must (refine wpl_update_g Tryd.keyS Tryd.underlying112 rfl rfl (HM2.out.ext HX3.out) rfl rfl HIN.out ?_)))
        intro w3 hm3 hg3 hs3
        have hbk := blk_grown (blk_ext HBK2.out HX3.out) hg3 (by intro e; injection e with e; exact hmw e)
        have hE3 : Ext w w3 := Below.grown (HE2.out.trans HX3.out) hg3 (HE2.out.trans HX3.out).size (fun b hb => by injection hb with hb; omega)
        have d1 := blk_cell hbk (i := 1) rfl
        have d2 := blk_cell hbk (i := 2) rfl
        have d3 := blk_cell hbk (i := 3) rfl
        rw [seen_snoc] at hm3
        have HM3 := Lib.hid hm3
        have HE3 := Lib.hid hE3
        have p1 : ¬ l[i].low < -1000 := by omega
        have p2 : ¬ (1000 : Int) < l[i].high := by omega
        have p3 : ¬ l[i].high < l[i].low := by omega
        have p4 : ¬ l[i].init < l[i].low := by omega
        have p5 : ¬ l[i].high < l[i].init := by omega
        have p6 : ¬ (64 : Int) ≤ l[i].high - l[i].low := by omega
        have p7 := HCS.out
        have p8 : ¬ (4096 : Int) < countL (l.take (i + 1)) := by omega
        have p9 : IntKind.i64.wrap (countL (l.take i) * (l[i].high - l[i].low + 1)) = countL (l.take (i + 1)) := by rw [← p7]; exact IntWalk.i64_in _ (by omega)
        clear hm3 hE3 hg3 hs3 hbk e0 d0 p7
        go_wp2_with fail
        go_roundg (gk - 1)
        case measure => have := HM.out; omega
        case rel => exact ⟨i + 1, by have := HM.out; omega, by go_num, rfl, HE3.out, by rw [HTI.out, ← HTM.out]; exact HM3.out, HND2.out⟩
    · have hil : i = l.length := by have := HM.out; omega
      have hnd : (l.map (·.name)).Nodup := by
        have := HND.out
        rw [hil, List.take_of_length_le (by simp)] at this
        exact this
      have HNO := Lib.hid hnd
      have HEX := Lib.hid hE
      have hiI : ¬ (i : Int) < (l.length : Int) := by omega
      obtain rfl : r = 0 := by rw [← HR.out, if_pos HNO.out]
      clear hM hE hnd hil
      go_wp2
      go_ret
      exact ⟨rfl, HEX.out⟩

end Go.Proofs.YtkkbefhnklpfaaaDoor

namespace Go.Proofs.YtkkbefhnklpfaaaDoor
open Go.RowKit

set_option maxRecDepth 100000 in
set_option maxHeartbeats 4000000 in
theorem rule_any (g sv : Value) (r : Rl) (n : Int) (w : World) (hg : IsT w g r.guard) (hs : IsSets w sv r.sets) (ht : Tab w) (h0 : 0 ≤ n) (h6 : n ≤ 6) (hr : RlPre n r) :
    Calls Tryd.prog 29 #[.agg #[g, sv], .int .i64 n] w fun e w' => e = .returned (.int .i64 (ruleE r)) ∧ Ext w w' := by
  obtain ⟨a, c, rfl, _, b, off, ha, hcells⟩ := hs.at
  have hm6 := hr.many
  have HKG := Lib.hid fun wx (hx : Ext w wx) => kind_any g r.guard n true wx (hg.ext hx) (ht.ext hx) h0 h6 hr.guard hr.gsize
  have HA := Lib.hid ha
  have HC := Lib.hid hcells
  have HS := Lib.hid hr.sets
  have HT := Lib.hid ht
  have HKE := Lib.hid (show kindE r.guard true = if mkK r.guard.kind = true then 0 else 5 from rfl)
  have HR := Lib.hid (show ruleE r = if mkK r.guard.kind = true then (if (r.sets.map (·.1)).Nodup then 0 else 7) else 5 from rfl)
  obtain ⟨ag, ng, cg, rfl⟩ := hg.val
  have hmm := @run_makeMap Tryd.prog
  generalize ruleE r = res at *
  generalize kindE r.guard true = kr at *
  generalize mkK r.guard.kind = bk at *
  generalize r.sets = l at *
  clear hs ha hcells hr ht hg
  go_enter Tryd.func29, Tryd.ntmps29
  have hbk := blk_new w (Obj.cells #[.slice ag ng cg, .slice a l.length c] 42)
  have HE := Lib.hid (ext_al (Ext.refl w) (Obj.cells #[.slice ag ng cg, .slice a l.length c] 42))
  have HB := Lib.hid hbk
  clear hbk
  go_wp2_with fail
  generalize w.alloc (Obj.cells #[.slice ag ng cg, .slice a l.length c] 42) = W1 at *
  refine (HKG.out _ HE.out).mono ?_
  rintro e w2 ⟨rfl, hE2⟩
  have hbk := blk_ext HB.out hE2
  have d1 := blk_cell hbk (i := 1) (v := .slice a l.length c) rfl
  have HE2 := Lib.hid (HE.out.trans hE2)
  clear hbk hE2 HKG HB HE
  cases bk
  · obtain rfl : kr = 5 := HKE.out
    obtain rfl : res = 5 := HR.out
    clear d1
    go_wp2
    go_ret
    exact ⟨rfl, HE2.out⟩
  · obtain rfl : kr = 0 := HKE.out
    have HR2 := Lib.hid (show res = if (l.map (·.1)).Nodup then 0 else 7 from HR.out)
    have d2 := cell_later (ext_al (Ext.refl w2) (Obj.map #[] 0)) d1
    clear HR
    go_wp2_with fail
    clear d1 d2 hmm
    have HM0 := Lib.hid (MapG.new encI w2)
    have HE0 := Lib.hid (HE2.out.trans (ext_al (Ext.refl w2) (Obj.map #[] 0)))
    go_loopg [27] l.length (fun m y wr => ∃ i : Nat, m + i = l.length ∧ y = .int .i64 (i : Int) ∧ Ext w wr ∧ MapG encI wr w2.heap.size (seenL ((l.map (·.1)).take i)) ∧ ((l.map (·.1)).take i).Nodup)
    case atStart => exact ⟨0, by omega, by go_num, HE0.out, HM0.out, by simp⟩
    case round =>
      obtain ⟨i, hm, rfl, hE, hM, hnd⟩ := hrel
      have HM := Lib.hid hm
      have HND := Lib.hid hnd
      clear hnd hm HM0 HE0
      by_cases hi : i < l.length
      · obtain rfl := HA.out (by omega)
        obtain ⟨u, c0, c1, hu⟩ := HC.out i hi
        obtain ⟨s1, s2, s3, s4, s5⟩ := HS.out l[i] (by simp)
        have c0 := cell_later hE c0
        have c1 := cell_later hE c1
        have HKV := Lib.hid fun wx (hx : Ext w wx) => kind_any u l[i].2 n false wx (hu.ext hx) (HT.out.ext hx) h0 h6 s3 s4
        have HK0 := Lib.hid (show kindE l[i].2 false = 0 by unfold kindE; rw [s5]; rfl)
        obtain ⟨au, nu, cu, rfl⟩ := hu.val
        have HLI := Lib.hid (show (l.map (·.1))[i]? = some l[i].1 by rw [List.getElem?_map, List.getElem?_eq_getElem hi]; rfl)
        have hil : i < (l.map (·.1)).length := by simpa using hi
        have HLE := Lib.hid (show (l.map (·.1))[i] = l[i].1 by simp)
        have hiI : (i : Int) < (l.length : Int) := by omega
        have hi0 : (0 : Int) ≤ (i : Int) := by omega
        have q1 : ¬ l[i].1 < 0 := by omega
        have q2 : ¬ n ≤ l[i].1 := by omega
        have hx := ext_al (Ext.refl wr) (Obj.cells #[.int .i64 l[i].1, .slice au nu cu] 39)
        have hbk := blk_new wr (Obj.cells #[.int .i64 l[i].1, .slice au nu cu] 39)
        have e0 := blk_cell hbk (i := 0) (v := .int .i64 l[i].1) rfl
        have hwM := hM.lt
        have HMX := Lib.hid (hM.ext hx)
        have HEX := Lib.hid (hE.trans hx)
        have HBK := Lib.hid hbk
        have hx3 := ext_al (Ext.refl (wr.alloc (Obj.cells #[.int .i64 l[i].1, .slice au nu cu] 39))) (Obj.cells #[] 90)
        have HX3 := Lib.hid hx3
        have e1 := cell_later hx3 e0
        have hmw : ¬ wr.heap.size = w2.heap.size := by omega
        have hw2 := HE2.out.size
        clear hM hE hx hbk hu s3 s4 s5 hx3
        by_cases hin : l[i].1 ∈ (l.map (·.1)).take i
        · have hno : ¬ (l.map (·.1)).Nodup := nodup_not hil (by rw [HLE.out]; exact hin)
          have HNO := Lib.hid hno
          have HIN := Lib.hid (seen_some hin)
          obtain rfl : res = 7 := by rw [HR2.out, if_neg HNO.out]
          clear hin hno
          go_wp2_with (refine wpl_lookup_g Tryd.keyI Tryd.underlying91 rfl rfl HMX.out rfl rfl HIN.out ?_)
          go_ret
          exact ⟨rfl, HEX.out.trans HX3.out⟩
        · have HIN := Lib.hid (seen_none hin)
          have HND2 := Lib.hid (nodup_take hil HND.out (by rw [HLE.out]; exact hin))
          clear hin
          go_wp2_with (first
            | (refine wpl_lookup_gn Tryd.keyI Tryd.underlying91 rfl rfl HMX.out rfl rfl (Tryd.zeroU _) HIN.out ?_)
            | (at_mapUpdate; go_must (refine wpl_update_g Tryd.keyI Tryd.underlying91 rfl rfl (HMX.out.ext HX3.out) rfl rfl HIN.out ?_)))
          intro w3 hm3 hg3 hs3
          have hbk := blk_grown (blk_ext HBK.out HX3.out) hg3 (by intro e; injection e with e; exact hmw e)
          have hE3 : Ext w w3 := Below.grown (HEX.out.trans HX3.out) hg3 (HEX.out.trans HX3.out).size (fun b hb => by injection hb with hb; omega)
          have d1 := blk_cell hbk (i := 1) (v := .slice au nu cu) rfl
          rw [seen_snoc] at hm3
          have HM3 := Lib.hid hm3
          have HKV2 := Lib.hid (HKV.out _ hE3)
          rw [HK0.out] at HKV2
          have HE3 := Lib.hid hE3
          have HTI := Lib.hid (show (l.map (·.1)).take (i + 1) = (l.map (·.1)).take i ++ [l[i].1] by rw [List.take_succ_eq_append_getElem hil, HLE.out])
          clear hm3 hE3 hg3 hs3 hbk e0 e1 c0 c1
          go_wp2_with fail
          refine HKV2.out.mono ?_
          rintro e w4 ⟨rfl, hE4⟩
          have HM4 := Lib.hid (HM3.out.ext hE4)
          have HE4 := Lib.hid (HE3.out.trans hE4)
          clear hE4 d1
          go_wp2_with fail
          go_roundg (gk - 1)
          case measure => have := HM.out; omega
          case rel => exact ⟨i + 1, by have := HM.out; omega, by go_num, HE4.out, by rw [HTI.out]; exact HM4.out, HND2.out⟩
      · have hnd : (l.map (·.1)).Nodup := by
          have := HND.out
          rw [List.take_of_length_le (by simp; omega)] at this
          exact this
        have HNO := Lib.hid hnd
        have HEX := Lib.hid hE
        have hiI : ¬ (i : Int) < (l.length : Int) := by omega
        obtain rfl : res = 0 := by rw [HR2.out, if_pos HNO.out]
        clear hM hE hnd
        go_wp2
        go_ret
        exact ⟨rfl, HEX.out⟩

end Go.Proofs.YtkkbefhnklpfaaaDoor

namespace Go.Proofs.YtkkbefhnklpfaaaDoor
open Go.RowKit

set_option maxRecDepth 100000 in
set_option maxHeartbeats 4000000 in
theorem mcheck_any (vv rv : Value) (m : Md) (w : World) (h : IsMd w vv rv m) (ht : Tab w) (hp : m.Pre) :
    Calls Tryd.prog 12 #[.agg #[vv, rv]] w fun e w' => e = .returned (.int .i64 (modelE m)) ∧ Ext w w' := by
  obtain ⟨av, cv, rfl⟩ := EachL.val h.vars
  obtain ⟨a, c, rfl, _, b, off, ha, hcells⟩ := h.rules.at
  have h6 := hp.six
  have h12 := hp.twelve
  have hE0 := ext_al (Ext.refl w) (Obj.cells #[.slice av m.vars.length cv, .slice a m.rules.length c] 29)
  have HVA := Lib.hid (vars_any _ m.vars _ (h.vars.ext hE0) hp.six hp.vars hp.count)
  have HA := Lib.hid ha
  have HC := Lib.hid hcells
  have HRP := Lib.hid hp.rules
  have HT := Lib.hid ht
  obtain ⟨res, hres⟩ : ∃ r, modelE m = r := ⟨_, rfl⟩
  rw [hres]
  have HR := Lib.hid (show (if (m.vars.map (·.name)).Nodup then rulesE m.rules else 7) = res from hres)
  have hbk := blk_new w (Obj.cells #[.slice av m.vars.length cv, .slice a m.rules.length c] 29)
  have HB := Lib.hid hbk
  have HE := Lib.hid hE0
  clear h ha hcells hp ht hres hbk hE0
  generalize (m.vars.map (·.name)) = names at *
  generalize m.vars.length = n at *
  generalize m.rules = l at *
  go_enter Tryd.func12, Tryd.ntmps12
  go_wp2_with fail
  generalize w.alloc (Obj.cells #[.slice av n cv, .slice a l.length c] 29) = W1 at *
  refine HVA.out.mono ?_
  rintro e w2 ⟨rfl, hE2⟩
  have hbk := blk_ext HB.out hE2
  have d0 := blk_cell hbk (i := 0) (v := .slice av n cv) rfl
  have d1 := blk_cell hbk (i := 1) (v := .slice a l.length c) rfl
  have HB2 := Lib.hid hbk
  have HE2 := Lib.hid (HE.out.trans hE2)
  clear hbk hE2 HVA HB HE
  by_cases hnd : names.Nodup
  case neg =>
    have HNO := Lib.hid hnd
    obtain rfl : res = 7 := by rw [← HR.out, if_neg HNO.out]
    rw [if_neg hnd]
    clear hnd d0 d1
    go_wp2
    go_ret
    exact ⟨rfl, HE2.out⟩
  case pos =>
    rw [if_pos hnd]
    have HR2 := Lib.hid (show rulesE l = res by rw [← HR.out, if_pos hnd])
    clear HR hnd
    go_wp2_with fail
    clear d0 d1
    go_loopg [20] l.length (fun m y wr => ∃ i : Nat, m + i = l.length ∧ y = .int .i64 (i : Int) ∧ Ext w2 wr ∧ ∀ j (h : j < l.length), j < i → ruleE l[j] = 0)
    case atStart => exact ⟨0, by omega, by go_num, Ext.refl _, fun j h hj => by omega⟩
    case round =>
      obtain ⟨i, hm, rfl, hE, hno⟩ := hrel
      have HM := Lib.hid hm
      have HNO := Lib.hid hno
      clear hno hm
      by_cases hi : i < l.length
      · obtain rfl := HA.out (by omega)
        obtain ⟨g, s, c0, c1, hg, hs⟩ := HC.out i hi
        have hEW := HE2.out.trans hE
        have c0 := cell_later hEW c0
        have c1 := cell_later hEW c1
        obtain ⟨ag, ng, cg, rfl⟩ := hg.val
        obtain ⟨sa, sc, rfl⟩ := EachL.val hs
        have hx := ext_al (Ext.refl wr) (Obj.cells #[.slice ag ng cg, .slice sa l[i].sets.length sc] 42)
        have hRU := rule_any _ _ l[i] (n : Int) _ (hg.ext (hEW.trans hx)) (hs.ext (hEW.trans hx)) (HT.out.ext (hEW.trans hx)) (by omega) (by omega) (HRP.out l[i] (by simp))
        have d0 := cell_later (hE.trans hx) (blk_cell HB2.out (i := 0) (v := .slice av n cv) rfl)
        have HRU := Lib.hid hRU
        have HX := Lib.hid (hE.trans hx)
        obtain ⟨re, hre⟩ : ∃ r, ruleE l[i] = r := ⟨_, rfl⟩
        rw [hre] at HRU
        have HRE := Lib.hid hre
        have hiI : (i : Int) < (l.length : Int) := by omega
        have hi0 : (0 : Int) ≤ (i : Int) := by omega
        clear hE hEW hg hs hx hRU hre
        go_wp2_with fail
        refine HRU.out.mono ?_
        rintro e w4 ⟨rfl, hE4⟩
        have HE4 := Lib.hid (HX.out.trans hE4)
        clear hE4 d0 c0 c1 HRU HX
        by_cases h0 : re = 0
        · subst h0
          go_wp2_with fail
          go_roundg (gk - 1)
          case measure => have := HM.out; omega
          case rel => exact ⟨i + 1, by have := HM.out; omega, by go_num, HE4.out, fun j h hj => by
            by_cases e : j = i
            · subst e; exact HRE.out
            · exact HNO.out j h (by omega)⟩
        · have h0I : (re == 0) = false := by rw [beq_eq_false_iff_ne]; exact h0
          have h0J : (re != 0) = true := by rw [bne_iff_ne]; exact h0
          obtain rfl : res = re := by rw [← HR2.out, rulesE_at hi HNO.out (by rw [HRE.out]; exact h0), HRE.out]
          have HEF := Lib.hid (HE2.out.trans HE4.out)
          clear h0
          go_wp2
          go_ret
          exact ⟨rfl, HEF.out⟩
      · obtain rfl : res = 0 := by rw [← HR2.out]; exact rulesE_all fun j h => HNO.out j h (by omega)
        have HEF := Lib.hid (HE2.out.trans hE)
        have hiI : ¬ (i : Int) < (l.length : Int) := by omega
        clear hE
        go_wp2
        go_ret
        exact ⟨rfl, HEF.out⟩

theorem mcheck_ok (vv rv : Value) (m : Md) (w : World) (h : IsMd w vv rv m) (ht : Tab w) (hp : m.Ok) :
    Calls Tryd.prog 12 #[.agg #[vv, rv]] w fun e w' => e = .returned (.int .i64 0) ∧ Ext w w' := by
  have := mcheck_any vv rv m w h ht hp.toPre
  rw [hp.e] at this
  exact this

set_option maxRecDepth 100000 in
set_option maxHeartbeats 4000000 in
theorem count_any (vv rv : Value) (m : Md) (w : World) (h : IsMd w vv rv m) (ht : Tab w) (hp : m.Ok) :
    Calls Tryd.prog 20 #[.agg #[vv, rv]] w fun e w' => e = .returned (.tuple #[.int .i64 (countL m.vars), .int .i64 0]) ∧ Ext w w' := by
  have hE0 := ext_al (Ext.refl w) (Obj.cells #[vv, rv] 29)
  have HCK := Lib.hid (mcheck_ok vv rv m _ (h.ext hE0) (ht.ext hE0) hp)
  obtain ⟨av, cv, rfl, _, b, off, ha, hcells⟩ := h.vars.at
  obtain ⟨a, c, rfl⟩ := EachL.val h.rules
  have h6 := hp.six
  have hbk := blk_new w (Obj.cells #[.slice av m.vars.length cv, .slice a m.rules.length c] 29)
  have HB := Lib.hid hbk
  have HE := Lib.hid hE0
  have HA := Lib.hid ha
  have HC := Lib.hid hcells
  have HV := Lib.hid hp.vars
  have HN := Lib.hid hp.count
  clear h ha hcells hp ht hbk hE0
  generalize m.rules.length = nr at *
  generalize m.vars = l at *
  go_enter Tryd.func20, Tryd.ntmps20
  have d0 := blk_cell HB.out (i := 0) (v := .slice av l.length cv) rfl
  have d1 := blk_cell HB.out (i := 1) (v := .slice a nr c) rfl
  go_wp2_with fail
  generalize w.alloc (Obj.cells #[.slice av l.length cv, .slice a nr c] 29) = W1 at *
  refine HCK.out.mono ?_
  rintro e w2 ⟨rfl, hE2⟩
  have d0 := cell_later hE2 d0
  have HE2 := Lib.hid (HE.out.trans hE2)
  clear hE2 HCK HB HE d1
  go_wp2_with fail
  clear d0
  go_loopg [5, 16] l.length (fun m x y wr => ∃ i : Nat, m + i = l.length ∧ y = .int .i64 (i : Int) ∧ x = .int .i64 (countL (l.take i)) ∧ Ext w wr)
  case atStart => exact ⟨0, by omega, by go_num, rfl, HE2.out⟩
  case round =>
    obtain ⟨i, hm, rfl, rfl, hE⟩ := hrel
    have HM := Lib.hid hm
    clear hm HE2
    by_cases hi : i < l.length
    · obtain rfl := HA.out (by omega)
      obtain ⟨c0, c1, c2, c3⟩ := HC.out i hi
      have c0 := cell_later hE c0
      have c1 := cell_later hE c1
      have c2 := cell_later hE c2
      have c3 := cell_later hE c3
      have hok := HV.out l[i] (by simp)
      have hsp := hok.span
      have hct := countL_take (l := l) HV.out i
      have hct2 := countL_take (l := l) HV.out (i + 1)
      have hcs := countL_snoc hi
      have hn4 := HN.out
      have o1 := hok.low
      have o2 := hok.high
      have o3 := hok.i0
      have o4 := hok.i1
      unfold Vr.span at hsp hcs
      have HCS := Lib.hid hcs
      have p9 : IntKind.i64.wrap (countL (l.take i) * (l[i].high - l[i].low + 1)) = countL (l.take (i + 1)) := by rw [← HCS.out]; exact IntWalk.i64_in _ (by omega)
      have hiI : (i : Int) < (l.length : Int) := by omega
      have hi0 : (0 : Int) ≤ (i : Int) := by omega
      have HX := Lib.hid (hE.trans (ext_al (Ext.refl wr) (Obj.cells (vrc l[i]).toArray 32)))
      simp only [vrc] at HX
      clear hE hcs hok
      go_wp2_with fail
      go_roundg (gk - 1)
      case measure => have := HM.out; omega
      case rel => exact ⟨i + 1, by have := HM.out; omega, by go_num, rfl, HX.out⟩
    · have hil : i = l.length := by have := HM.out; omega
      have HEX := Lib.hid hE
      have HTL := Lib.hid (show countL (l.take i) = countL l by rw [List.take_of_length_le (by omega)])
      have hiI : ¬ (i : Int) < (l.length : Int) := by omega
      rw [HTL.out]
      clear hE hil
      go_wp2
      go_ret2
      exact ⟨rfl, HEX.out⟩

end Go.Proofs.YtkkbefhnklpfaaaDoor

namespace Go.Proofs.YtkkbefhnklpfaaaDoor
open Go.RowKit

structure Shut (p : Prop) : Prop where
  out : p

theorem hq_step {P : Program} {ops : Array Oper} {C : World → Prop} {Q : Act → Prop} {a : Act} {o : Oper} {rest : List Oper}
    (h : ∀ K : Act → Prop, (∀ a, Shut (wpQuiet P ops C Q rest a) → K a) → if Region.wanted o (yielded ops a.tmps) then o.quiet P a C K else K (a.put o.dst undef)) : Shut (wpQuiet P ops C Q (o :: rest) a) :=
  ⟨wpQuiet_step fun K hK => h K fun a ha => hK a ha.out⟩

theorem hq_nil {P : Program} {ops : Array Oper} {C : World → Prop} {Q : Act → Prop} {a : Act} (h : Q a) : Shut (wpQuiet P ops C Q [] a) := ⟨wpQuiet_nil h⟩


end Go.Proofs.YtkkbefhnklpfaaaDoor

namespace Go.Proofs.YtkkbefhnklpfaaaDoor
open Go.RowKit

theorem codeL_snoc : ∀ {l : List Vr} {xs : List Int} {i : Nat} (h : i < l.length) (h2 : i < xs.length) (n : Int), codeL (l.take (i + 1)) (xs.take (i + 1)) n = codeL (l.take i) (xs.take i) n * l[i].span + xs[i] - l[i].low
  | v :: l, x :: xs, 0, _, _, n => by simp [codeL]
  | v :: l, x :: xs, i + 1, h, h2, n => by
    have := codeL_snoc (l := l) (xs := xs) (i := i) (by simpa using h) (by simpa using h2) (n * v.span + x - v.low)
    simpa [codeL] using this

theorem InV.take : ∀ {l : List Vr} {xs : List Int} (i : Nat), InV l xs → InV (l.take i) (xs.take i)
  | [], [], _, _ => by simp [InV]
  | v :: l, x :: xs, 0, _ => by simp [InV]
  | v :: l, x :: xs, i + 1, h => ⟨h.1, h.2.1, InV.take (l := l) (xs := xs) i h.2.2⟩
  | [], _ :: _, _, h => h.elim
  | _ :: _, [], _, h => h.elim

theorem InV.snoc {l : List Vr} {xs : List Int} {i : Nat} (h : i < l.length) (h2 : i < xs.length) (hI : InV (l.take i) (xs.take i)) (hb : l[i].low ≤ xs[i] ∧ xs[i] ≤ l[i].high) : InV (l.take (i + 1)) (xs.take (i + 1)) := by
  refine InV.of (by simp; omega) fun j hj hj2 => ?_
  simp only [List.length_take] at hj hj2
  rw [List.getElem_take, List.getElem_take]
  by_cases e : j = i
  · subst e; exact hb
  · have := hI.get j (by simp; omega) (by simp; omega)
    rwa [List.getElem_take, List.getElem_take] at this

/-- What Code answers. -/
def CodeE (l : List Vr) (xs : List Int) (n e : Int) : Prop := (InV l xs ∧ n = codeL l xs 0 ∧ e = 0) ∨ (¬ InV l xs ∧ n = 0 ∧ e = 9)
def CodeR (l : List Vr) (xs : List Int) (w : World) (e : Ending) (w' : World) : Prop := ∃ n c : Int, e = .returned (.tuple #[.int .i64 n, .int .i64 c]) ∧ CodeE l xs n c ∧ Ext w w'

theorem ints_at' {w : World} {a : Option Addr} {n c : Nat} {l : List Int} (h : Row w 1 a n c (l.map (.int .i64))) : ∃ b off, (0 < l.length → a = some ⟨b, off, none⟩) ∧ ∀ (i : Nat) (hi : i < l.length), w.cell? ⟨b, off + i, none⟩ = some (.int .i64 l[i]) := by
  obtain ⟨b, off, _, h2, h3⟩ := h.lie
  exact ⟨b, off, fun hl => h2 (by simpa using hl), fun i hi => h3 i _ (by rw [List.getElem?_map, List.getElem?_eq_getElem hi]; rfl)⟩

set_option maxRecDepth 100000 in
set_option maxHeartbeats 8000000 in
theorem code_any (vv rv xv : Value) (m : Md) (xs : List Int) (w : World) (h : IsMd w vv rv m) (ht : Tab w) (hp : m.Ok) (hx : Ints w xv xs) (hi64 : ∀ x ∈ xs, I64 x) :
    Calls Tryd.prog 35 #[.agg #[vv, rv], xv] w (CodeR m.vars xs w) := by
  have hE0 := ext_al (Ext.refl w) (Obj.cells #[vv, rv] 29)
  have HCK := Lib.hid (mcheck_ok vv rv m _ (h.ext hE0) (ht.ext hE0) hp)
  obtain ⟨av, cv, rfl, _, b, off, ha, hcells⟩ := h.vars.at
  obtain ⟨a, c, rfl⟩ := EachL.val h.rules
  have h6 := hp.six
  have hbk := blk_new w (Obj.cells #[.slice av m.vars.length cv, .slice a m.rules.length c] 29)
  have HB := Lib.hid hbk
  have HE := Lib.hid hE0
  have HA := Lib.hid ha
  have HC := Lib.hid hcells
  have HV := Lib.hid hp.vars
  have HN := Lib.hid hp.count
  obtain ⟨ax, cx, rfl, hrx⟩ := hx
  obtain ⟨bx, ox, hx1, hx2⟩ := ints_at' hrx
  have hxl : xs.length ≤ maxLen := Nat.le_trans hrx.le hrx.max
  unfold maxLen at hxl
  have HX1 := Lib.hid hx1
  have HX2 := Lib.hid hx2
  have HI := Lib.hid hi64
  clear h ha hcells hp ht hbk hE0 hrx hx1 hx2 hi64
  generalize m.rules.length = nr at *
  generalize m.vars = l at *
  have HPOST := Lib.hid (show CodeR l xs w = CodeR l xs w from rfl)
  go_enter Tryd.func35, Tryd.ntmps35
  have d0 := blk_cell HB.out (i := 0) (v := .slice av l.length cv) rfl
  have d1 := blk_cell HB.out (i := 1) (v := .slice a nr c) rfl
  go_wp2_with fail
  generalize w.alloc (Obj.cells #[.slice av l.length cv, .slice a nr c] 29) = W1 at *
  refine HCK.out.mono ?_
  rintro e w2 ⟨rfl, hE2⟩
  have d0 := cell_later hE2 d0
  have HE2 := Lib.hid (HE.out.trans hE2)
  clear hE2 HCK HB HE d1
  by_cases hlen : xs.length = l.length
  case neg =>
    have hl1 : ((xs.length : Int) == (l.length : Int)) = false := by rw [beq_eq_false_iff_ne]; omega
    have hl2 : ((xs.length : Int) != (l.length : Int)) = true := by rw [bne_iff_ne]; omega
    have HNI := Lib.hid (show ¬ InV l xs from fun h => hlen h.len)
    clear hlen
    go_wp2
    go_ret2
    exact ⟨0, 9, rfl, .inr ⟨HNI.out, rfl, rfl⟩, HE2.out⟩
  case pos =>
    have hl1 : ((xs.length : Int) == (l.length : Int)) = true := by rw [beq_iff_eq]; omega
    have hl2 : ((xs.length : Int) != (l.length : Int)) = false := by rw [bne_eq_false_iff_eq]; omega
    have HLEN := Lib.hid hlen
    clear hlen
    go_wp2_with fail
    clear d0 hl1 hl2
    go_loopg [7, 24] l.length (fun m x y wr => ∃ i : Nat, m + i = l.length ∧ y = .int .i64 (i : Int) ∧ x = .int .i64 (codeL (l.take i) (xs.take i) 0) ∧ InV (l.take i) (xs.take i) ∧ Ext w wr)
    case atStart => exact ⟨0, by omega, by go_num, by simp [codeL], by simp [InV], HE2.out⟩
    case round =>
      obtain ⟨i, hm, rfl, rfl, hI, hE⟩ := hrel
      have HM := Lib.hid hm
      have HIN := Lib.hid hI
      clear hm HE2
      by_cases hi : i < l.length
      · obtain rfl := HA.out (by omega)
        have hix : i < xs.length := by have := HLEN.out; omega
        obtain rfl := HX1.out (by omega)
        obtain ⟨c0, c1, c2, c3⟩ := HC.out i hi
        have hbx := HI.out xs[i] (by simp)
        unfold I64 at hbx
        have hx0 := ext_al (Ext.refl wr) (Obj.cells (vrc l[i]).toArray 32)
        simp only [vrc] at hx0
        have e0 := cell_later hE c0
        have e1 := cell_later hE c1
        have e2 := cell_later hE c2
        have e3 := cell_later hE c3
        have ex := cell_later (hE.trans hx0) (HX2.out i hix)
        have hbk := blk_new wr (Obj.cells (vrc l[i]).toArray 32)
        simp only [vrc] at hbk
        have f1 := blk_cell hbk (i := 1) (v := .int .i64 l[i].low) rfl
        have f2 := blk_cell hbk (i := 2) (v := .int .i64 l[i].high) rfl
        have hok := HV.out l[i] (by simp)
        have hbd := codeL_bd (l := l.take i) (fun v hv => HV.out v (List.mem_of_mem_take hv)) hI
        have hct := countL_take (l := l) HV.out i
        have hn4 := HN.out
        have HSN := Lib.hid (codeL_snoc hi hix 0)
        have o1 := hok.low
        have o2 := hok.high
        have o3 := hok.i0
        have o4 := hok.i1
        have o5 := hok.sp
        have HX := Lib.hid (hE.trans hx0)
        have hiI : (i : Int) < (l.length : Int) := by omega
        have hiX : (i : Int) < (xs.length : Int) := by omega
        have hi0 : (0 : Int) ≤ (i : Int) := by omega
        have HIO := Lib.hid fun (h : ¬ (l[i].low ≤ xs[i] ∧ xs[i] ≤ l[i].high)) => (show ¬ InV l xs from fun hI => h (hI.get i hi hix))
        have HIS := Lib.hid fun (h : l[i].low ≤ xs[i] ∧ xs[i] ≤ l[i].high) => hI.snoc hi hix h
        unfold Vr.span at HSN
        clear hE hx0 hbk hok hI c0 c1 c2 c3
        obtain ⟨cN, hcN⟩ : ∃ c, codeL (l.take (i + 1)) (xs.take (i + 1)) 0 = c := ⟨_, rfl⟩
        rw [hcN] at HSN
        have HCN := Lib.hid hcN
        clear hcN
        generalize codeL (l.take i) (xs.take i) 0 = cO at *
        go_upto_region 10 with fail
        generalize wr.alloc (Obj.cells #[.string l[i].name, .int .i64 l[i].low, .int .i64 l[i].high, .int .i64 l[i].init] 32) = W3 at *
        clear e0 e1 e2 e3
        generalize l[i].low = lo at *
        generalize l[i].high = hi' at *
        generalize xs[i] = x at *
        by_cases hb : lo ≤ x ∧ x ≤ hi'
        · have r1 : decide (x < lo) = false := by rw [decide_eq_false_iff_not]; omega
          have r2 : decide (hi' < x) = false := by rw [decide_eq_false_iff_not]; omega
          have HB := Lib.hid hb
          refine wp_region_quiet_lit (by kernel_rfl) (by kernel_rfl) (Shut.out ?_)
          repeat (refine hq_step (fun K hK => ?_); go_simp; refine hK _ ?_; clear hK K)
          refine hq_nil ?_
          rintro _ ⟨nq, rfl⟩
          have hN0 : cN = cO * (hi' - lo + 1) + x - lo := HSN.out
          have hm1 : 0 ≤ cO * (hi' - lo + 1) := Int.mul_nonneg (by omega) (by omega)
          have hm2 : cO * (hi' - lo + 1) ≤ 4096 * 64 := by
            exact Int.mul_le_mul (show cO ≤ 4096 by omega) (show hi' - lo + 1 ≤ 64 by omega) (by omega) (by omega)
          have w1 : IntKind.i64.wrap (hi' - lo) = hi' - lo := IntWalk.i64_in _ (by omega)
          have w2 : IntKind.i64.wrap (hi' - lo + 1) = hi' - lo + 1 := IntWalk.i64_in _ (by omega)
          have w3 : IntKind.i64.wrap (cO * (hi' - lo + 1)) = cO * (hi' - lo + 1) := IntWalk.i64_in _ (by omega)
          have w4 : IntKind.i64.wrap (cO * (hi' - lo + 1) + x) = cO * (hi' - lo + 1) + x := IntWalk.i64_in _ (by omega)
          have w5 : IntKind.i64.wrap (cO * (hi' - lo + 1) + x - lo) = cN := by rw [hN0]; exact IntWalk.i64_in _ (by omega)
          clear r1 r2 hb hN0
          go_upto_region 12 with fail
          go_quiet (fail)
          clear w1 w2 w3 w4 w5 hm1 hm2 ex f1 f2
          go_wp2_with fail
          go_roundg (gk - 1)
          case measure => have := HM.out; omega
          case rel => exact ⟨i + 1, by have := HM.out; omega, by go_num, by rw [HCN.out], HIS.out HB.out, below_drewN HX.out _⟩
        · have r0 : x < lo ∨ (¬ x < lo ∧ hi' < x) := by omega
          have HB := Lib.hid (HIO.out hb)
          clear hb
          rcases r0 with r1 | ⟨r1, r2⟩
          · have r1 : decide (x < lo) = true := by rw [decide_eq_true_eq]; exact r1
            refine wp_region_quiet_lit (by kernel_rfl) (by kernel_rfl) (Shut.out ?_)
            repeat (refine hq_step (fun K hK => ?_); go_simp; refine hK _ ?_; clear hK K)
            refine hq_nil ?_
            rintro _ ⟨nq, rfl⟩
            clear r1
            go_wp2
            go_ret2
            exact ⟨0, 9, rfl, .inr ⟨HB.out, rfl, rfl⟩, below_drewN HX.out nq⟩
          · have r1 : decide (x < lo) = false := by rw [decide_eq_false_iff_not]; exact r1
            have r2 : decide (hi' < x) = true := by rw [decide_eq_true_eq]; exact r2
            refine wp_region_quiet_lit (by kernel_rfl) (by kernel_rfl) (Shut.out ?_)
            repeat (refine hq_step (fun K hK => ?_); go_simp; refine hK _ ?_; clear hK K)
            refine hq_nil ?_
            rintro _ ⟨nq, rfl⟩
            clear r1 r2
            go_wp2
            go_ret2
            exact ⟨0, 9, rfl, .inr ⟨HB.out, rfl, rfl⟩, below_drewN HX.out nq⟩
      · have hI2 : InV l xs := by
          have := HIN.out
          rw [List.take_of_length_le (by omega), List.take_of_length_le (by have := HLEN.out; omega)] at this
          exact this
        have HTL := Lib.hid (show codeL (l.take i) (xs.take i) 0 = codeL l xs 0 by rw [List.take_of_length_le (by omega), List.take_of_length_le (by have := HLEN.out; omega)])
        have HI2 := Lib.hid hI2
        have HX := Lib.hid hE
        have hiI : ¬ (i : Int) < (l.length : Int) := by omega
        clear hI hE hI2
        go_wp2
        go_ret2
        exact ⟨_, 0, rfl, .inl ⟨HI2.out, HTL.out, rfl⟩, HX.out⟩

end Go.Proofs.YtkkbefhnklpfaaaDoor

namespace Go.Proofs.YtkkbefhnklpfaaaDoor
open Go.RowKit

theorem digL_drop {l : List Vr} {i : Nat} (h : i < l.length) (c : Int) : digL (l.drop i) c = ((l[i].low + (digL (l.drop (i + 1)) c).2 % l[i].span) :: (digL (l.drop (i + 1)) c).1, (digL (l.drop (i + 1)) c).2 / l[i].span) := by
  rw [List.drop_eq_getElem_cons h]; rfl

/-- What stands in the row while it is filled from its end. -/
def fillV (l : List Vr) (c : Int) (k : Nat) : List Int := List.replicate k 0 ++ (digL (l.drop k) c).1
theorem set_rep (V : List Int) (x : Int) : ∀ j, (List.replicate (j + 1) (0 : Int) ++ V).set j x = List.replicate j 0 ++ x :: V
  | 0 => rfl
  | j + 1 => by
    have := set_rep V x j
    rw [List.replicate_succ, List.cons_append, List.set_cons_succ, this]
    rfl
theorem fillV_step {l : List Vr} {j : Nat} (h : j < l.length) (c : Int) : (fillV l c (j + 1)).set j (l[j].low + (digL (l.drop (j + 1)) c).2 % l[j].span) = fillV l c j := by
  unfold fillV
  rw [set_rep, digL_drop h]
theorem fillV_len {l : List Vr} {k : Nat} (h : k ≤ l.length) (c : Int) : (fillV l c k).length = l.length := by
  unfold fillV
  rw [List.length_append, digL_len, List.length_replicate, List.length_drop]; omega
theorem set_mapI (l : List Int) (i : Nat) (x : Int) : (l.map (Value.int .i64)).set i (.int .i64 x) = (l.set i x).map (Value.int .i64) := by rw [List.map_set]

theorem digL_q {l : List Vr} (h : ∀ v ∈ l, v.Ok) (k : Nat) (c : Int) (hc : 0 ≤ c) : 0 ≤ (digL (l.drop k) c).2 ∧ (digL (l.drop k) c).2 ≤ c := by
  have hv : ∀ v ∈ l.drop k, v.Ok := fun v hv => h v (List.mem_of_mem_drop hv)
  refine ⟨digL_rest_pos hv c hc, ?_⟩
  rw [digL_rest hv c hc]
  exact Int.ediv_le_self _ hc

set_option maxRecDepth 100000 in
set_option maxHeartbeats 8000000 in
theorem values_any (vv rv : Value) (m : Md) (c : Int) (w : World) (h : IsMd w vv rv m) (ht : Tab w) (hp : m.Ok) (hc0 : 0 ≤ c) (hc1 : c < countL m.vars) :
    Calls Tryd.prog 37 #[.agg #[vv, rv], .int .i64 c] w fun e w' => ∃ v, e = .returned (.tuple #[v, .int .i64 0]) ∧ w'.ownsRow w.heap.size 3 1 v m.vars.length ((valsL m.vars c).map (.int .i64)) ∧ Ext w w' := by
  have hE0 := ext_al (Ext.refl w) (Obj.cells #[vv, rv] 29)
  have HCK := Lib.hid (count_any vv rv m _ (h.ext hE0) (ht.ext hE0) hp)
  obtain ⟨av, cv, rfl, _, b, off, ha, hcells⟩ := h.vars.at
  obtain ⟨a, c', rfl⟩ := EachL.val h.rules
  have h6 := hp.six
  have hbk := blk_new w (Obj.cells #[.slice av m.vars.length cv, .slice a m.rules.length c'] 29)
  have HB := Lib.hid hbk
  have HE := Lib.hid hE0
  have HA := Lib.hid ha
  have HC := Lib.hid hcells
  have HV := Lib.hid hp.vars
  have hn4 := hp.count
  clear h ha hcells hp ht hbk hE0
  generalize m.rules.length = nr at *
  generalize m.vars = l at *
  generalize countL l = N at *
  go_enter Tryd.func37, Tryd.ntmps37
  have d0 := blk_cell HB.out (i := 0) (v := .slice av l.length cv) rfl
  have d1 := blk_cell HB.out (i := 1) (v := .slice a nr c') rfl
  go_wp2_with fail
  generalize w.alloc (Obj.cells #[.slice av l.length cv, .slice a nr c'] 29) = W1 at *
  refine HCK.out.mono ?_
  rintro e w2 ⟨rfl, hE2⟩
  have d0 := cell_later hE2 d0
  have HB2 := Lib.hid (blk_ext HB.out hE2)
  have HE2 := Lib.hid (HE.out.trans hE2)
  have hs2 := HE2.out.size
  clear hE2 HCK HB HE d1
  go_wp2_with (at_make; go_must (refine wpList_make_full _ rfl _ _ 57 rfl w2.heap.size 3 (Tryd.slInts.inf.choose) (.int .i64 0) 1 Tryd.underlying57 Tryd.slInts.inf.choose_spec.1 Tryd.slInts.inf.choose_spec.2.1 Tryd.slInts.inf.choose_spec.2.2.1 .i64 .i64 l.length l.length l.length rfl rfl rfl rfl (by rw [Tryd.slInts.inf.choose_spec.2.2.2]; omega) (by unfold maxLen; omega) (Nat.le_refl _) ?_))
  intro w3 hown3 hg3
  have hmx : (madeCells #[Value.int .i64 0] l.length).toList = (fillV l c l.length).map (.int .i64) := by
    rw [toList_madeCells_one, fillV, List.drop_length]
    simp [digL]
  rw [hmx] at hown3
  have HO3 := Lib.hid hown3
  have hx3 : Ext w2 w3 := (Ext.refl w2).grown hg3 (Nat.le_refl _) (by simp)
  have HB3 := Lib.hid (blk_ext HB2.out hx3)
  have d0 := cell_later hx3 d0
  have HE3 := Lib.hid (HE2.out.trans hx3)
  obtain ⟨D, hD⟩ : ∃ D, w2.heap.size = D := ⟨_, rfl⟩
  rw [hD] at HO3 hs2 ⊢
  have hs3 := blk_lt HB2.out
  rw [hD] at hs3
  have hl0 := digL_q HV.out l.length c hc0
  have HQ0 := Lib.hid (show (digL (l.drop l.length) c).2 = c by rw [List.drop_length]; rfl)
  clear hown3 hg3 hmx hx3 HB2 HE2 hD
  go_wp2_with fail
  clear d0
  go_loopg [1, 9] l.length (fun k x y wr => ∃ i : Int, i + 1 = (k : Int) ∧ k ≤ l.length ∧ y = .int .i64 i ∧ x = .int .i64 (digL (l.drop k) c).2 ∧ Ext w wr ∧ wr.heap[w.heap.size]? = some (.cells #[.slice av l.length cv, .slice a nr c'] 29 (0, 0)) ∧ wr.ownsRow D 3 1 (.slice (some ⟨D, 0, none⟩) l.length l.length) l.length ((fillV l c k).map (.int .i64)))
  case atStart => exact ⟨(l.length : Int) - 1, by omega, Nat.le_refl _, rfl, by rw [HQ0.out], HE3.out, HB3.out, HO3.out⟩
  case round =>
    obtain ⟨i, hik, hkl, rfl, rfl, hE, hB, hO⟩ := hrel
    clear HO3 HE3 HB3 HQ0
    have HIK := Lib.hid hik
    by_cases hi : 0 ≤ i
    · obtain ⟨j, rfl⟩ : ∃ j : Nat, i = (j : Int) := ⟨i.toNat, by omega⟩
      obtain rfl : gk = j + 1 := by omega
      have hjl : j < l.length := by omega
      obtain rfl := HA.out (by omega)
      obtain ⟨c0, c1, c2, c3⟩ := HC.out j hjl
      have d0 := blk_cell hB (i := 0) (v := .slice (some ⟨b, off, none⟩) l.length cv) rfl
      have c0 := cell_later hE c0
      have c1 := cell_later hE c1
      have c2 := cell_later hE c2
      have c3 := cell_later hE c3
      have hx0 := ext_al (Ext.refl wr) (Obj.cells (vrc l[j]).toArray 32)
      simp only [vrc] at hx0
      have hbk := blk_new wr (Obj.cells (vrc l[j]).toArray 32)
      simp only [vrc] at hbk
      have f1 := blk_cell hbk (i := 1) (v := .int .i64 l[j].low) rfl
      have f2 := blk_cell hbk (i := 2) (v := .int .i64 l[j].high) rfl
      have hq := digL_q HV.out (j + 1) c hc0
      have hok := HV.out l[j] (by simp)
      have o1 := hok.low
      have o2 := hok.high
      have o3 := hok.i0
      have o4 := hok.i1
      have o5 := hok.sp
      have HST := Lib.hid (fillV_step hjl c)
      have HDG := Lib.hid (show (digL (l.drop j) c).2 = (digL (l.drop (j + 1)) c).2 / l[j].span by rw [digL_drop hjl])
      have hO2 := own_ext hO hx0
      have hB2 := blk_ext hB hx0
      have HX := Lib.hid (hE.trans hx0)
      have HO2 := Lib.hid hO2
      have HB2 := Lib.hid hB2
      have fr := own_freeAt hO2 j
      have hDl := (hO2.lt D rfl)
      have hwl := blk_lt hB2
      have hfl := fillV_len (l := l) (k := j + 1) (by omega) c
      obtain ⟨ur, cr⟩ : ∃ u, (wr.alloc (Obj.cells #[.string l[j].name, .int .i64 l[j].low, .int .i64 l[j].high, .int .i64 l[j].init] 32)).cell? ⟨D, j, none⟩ = some u := ⟨_, own_cellAt hO2 (i := j) (by rw [List.length_map, hfl]; exact hjl)⟩
      have hiI : (j : Int) < (l.length : Int) := by omega
      have hj0 : (0 : Int) ≤ (j : Int) := by omega
      obtain ⟨q, hqe⟩ : ∃ q, (digL (l.drop (j + 1)) c).2 = q := ⟨_, rfl⟩
      obtain ⟨r, hre⟩ : ∃ r, (digL (l.drop j) c).2 = r := ⟨_, rfl⟩
      rw [hqe] at hq HST HDG
      rw [hre] at HDG
      rw [hqe]
      have HRE := Lib.hid hre
      unfold Vr.span at HST HDG
      clear hE hB hO hO2 hB2 hbk hok hik hx0 hfl hqe hre
      go_upto_region 11 with fail
      generalize wr.alloc (Obj.cells #[.string l[j].name, .int .i64 l[j].low, .int .i64 l[j].high, .int .i64 l[j].init] 32) = W3 at *
      clear c0 c1 c2 c3 d0
      generalize l[j].low = lo at *
      generalize l[j].high = hi' at *
      go_upto_region 12 with fail
      have hsp : 0 < hi' - lo + 1 := by omega
      have em0 := Int.emod_nonneg q (show hi' - lo + 1 ≠ 0 by omega)
      have em1 := Int.emod_lt_of_pos q hsp
      have t1 : q.tmod (hi' - lo + 1) = q % (hi' - lo + 1) := Int.tmod_eq_emod_of_nonneg hq.1
      have t2 : IntKind.i64.wrap (q % (hi' - lo + 1)) = q % (hi' - lo + 1) := IntWalk.i64_in _ (by omega)
      have t3 : IntKind.i64.wrap (lo + q % (hi' - lo + 1)) = lo + q % (hi' - lo + 1) := IntWalk.i64_in _ (by omega)
      have HT2 := Lib.hid t2
      go_region
      have hO5 := own_setAt HO2.out (i := j) (.int .i64 (lo + q % (hi' - lo + 1)))
      rw [set_mapI, HST.out] at hO5
      have hDw : D ≠ w.heap.size := by omega
      have hB5 := blk_far HB2.out (p := ⟨D, j, none⟩) hDw (.int .i64 (lo + q % (hi' - lo + 1)))
      have hE5 := ext_st HX.out (p := ⟨D, j, none⟩) (by show w.heap.size ≤ D; omega) (.int .i64 (lo + q % (hi' - lo + 1)))
      have hd : Ext (W3.setCell ⟨D, j, none⟩ (.int .i64 (lo + q % (hi' - lo + 1)))) (W3.setCell ⟨D, j, none⟩ (.int .i64 (lo + q % (hi' - lo + 1)))).drew := Below.drew (Ext.refl _)
      have HO5 := Lib.hid (own_ext hO5 hd)
      have HB5 := Lib.hid (blk_ext hB5 hd)
      have HE5 := Lib.hid (hE5.trans hd)
      clear hO5 hB5 hE5 hd t1 t2 t3 em0 em1 f1 f2 fr cr
      generalize (W3.setCell ⟨D, j, none⟩ (.int .i64 (lo + q % (hi' - lo + 1)))).drew = W5 at *
      go_wp2_with fail
      go_roundg j
      case measure => omega
      case rel => exact ⟨(j : Int) - 1, by omega, by omega, rfl, by rw [HRE.out, HDG.out], HE5.out, HB5.out, HO5.out⟩
    · have hik0 : gk = 0 := by omega
      subst hik0
      have HX := Lib.hid hE
      have HO := Lib.hid hO
      have HFV := Lib.hid (show fillV l c 0 = valsL l c by unfold fillV valsL; simp)
      have hneg : i < 0 := by omega
      rw [HFV.out] at HO
      clear hE hB hO hik
      go_wp2
      go_ret2
      exact ⟨_, rfl, own_down HO.out (by omega), HX.out⟩

end Go.Proofs.YtkkbefhnklpfaaaDoor

namespace Go.Proofs.YtkkbefhnklpfaaaDoor

def sortL (l : List Int) : List Int := l.mergeSort fun x y => decide (x ≤ y)
theorem sortL_len (l : List Int) : (sortL l).length = l.length := List.length_mergeSort l
theorem sortL_mem (l : List Int) (x : Int) : x ∈ sortL l ↔ x ∈ l := List.mem_mergeSort
theorem sortL_up (l : List Int) : (sortL l).Pairwise (· ≤ ·) := by
  have h := List.pairwise_mergeSort (le := fun x y : Int => decide (x ≤ y)) (fun a b c h1 h2 => by simp at *; omega) (fun a b => by simp; omega) l
  exact h.imp fun h => by simpa using h
theorem sortL_perm (l : List Int) : (sortL l).Perm l := List.mergeSort_perm l _

end Go.Proofs.YtkkbefhnklpfaaaDoor

namespace Go.Proofs.YtkkbefhnklpfaaaDoor
open Go.RowKit Go.Sort Go.Lib

theorem sortI_any (v : Value) (l : List Int) (base : Nat) (w : World) (h : w.ownsRow base 3 1 v l.length (l.map (.int .i64))) (hl : l.length ≤ 1048576) :
    Calls Tryd.prog 36 #[v] w fun e w' => e = .returned (.tuple #[]) ∧ w'.ownsRow base 3 1 v l.length ((sortL l).map (.int .i64)) ∧ w.grownBy w' v.ownBlock := by
  rcases h.2 with ⟨rfl, h0⟩ | ⟨g, cap, cur, rfl, hg, hc, hn, hcm, hcs, ht⟩
  · obtain rfl : l = [] := List.eq_nil_of_length_eq_zero h0
    refine (Tryd.slices_Sort_int_none none 0 w).mono ?_
    rintro e w' ⟨rfl, rfl⟩
    have e : sortL [] = [] := List.eq_nil_of_length_eq_zero (by rw [sortL_len]; rfl)
    rw [e]
    exact ⟨rfl, h, ⟨rfl, rfl, rfl, Nat.le_refl _, fun _ _ _ => rfl⟩⟩
  · refine (Tryd.slices_Sort_int g 0 cap l w (holds_of_blockI hc (by simpa using ht)) (Array.getElem?_eq_some_iff.1 hc).1 (by omega)).mono ?_
    rintro e w' ⟨rfl, n, os, rfl⟩
    exact ⟨rfl, ownsRow_sortedI (sortL_len l) hg hc hn hcm hcs, grownBy_sortedI _⟩

end Go.Proofs.YtkkbefhnklpfaaaDoor

namespace Go.Proofs.YtkkbefhnklpfaaaDoor
open Go.RowKit Go.Sort Go.Lib

theorem comp_law (d : Array Int) (hd : ∀ i j, i ≤ j → j < d.size → d[i]! ≤ d[j]!) : ∀ m, m ≤ d.size → (∀ x, x ∈ compactUpTo d m ↔ ∃ j, j < m ∧ d[j]! = x) ∧ (compactUpTo d m).Pairwise (· < ·)
  | 0, _ => by simp [compactUpTo]
  | m + 1, hm => by
    obtain ⟨h1, h2⟩ := comp_law d hd m (by omega)
    rw [compactUpTo_succ]
    cases hk : keeps d m
    · have hm0 : m ≠ 0 := by
        intro e
        subst e
        simp [keeps] at hk
      have he : d[m]! = d[m - 1]! := by
        simp only [keeps, decide_eq_false_iff_not, not_or, Decidable.not_not] at hk
        exact hk.2
      simp only [Bool.false_eq_true, if_false, List.append_nil]
      refine ⟨fun x => (h1 x).trans ⟨fun ⟨j, a, b⟩ => ⟨j, by omega, b⟩, fun ⟨j, a, b⟩ => ?_⟩, h2⟩
      by_cases e : j = m
      · subst e; exact ⟨j - 1, by omega, by rw [← he]; exact b⟩
      · exact ⟨j, by omega, b⟩
    · simp only [if_true]
      refine ⟨fun x => ?_, ?_⟩
      · rw [List.mem_append, h1]
        simp only [List.mem_singleton]
        constructor
        · rintro (⟨j, a, b⟩ | rfl)
          · exact ⟨j, by omega, b⟩
          · exact ⟨m, by omega, rfl⟩
        · rintro ⟨j, a, b⟩
          by_cases e : j = m
          · subst e; exact .inr b.symm
          · exact .inl ⟨j, by omega, b⟩
      · rw [List.pairwise_append]
        refine ⟨h2, by simp, ?_⟩
        intro x hx y hy
        simp only [List.mem_singleton] at hy
        subst hy
        obtain ⟨j, a, rfl⟩ := (h1 x).1 hx
        have h3 := hd j (m - 1) (by omega) (by omega)
        have h4 := hd (m - 1) m (by omega) (by omega)
        simp only [keeps, decide_eq_true_eq] at hk
        rcases hk with e | e
        · omega
        · omega

/-- What was sorted and cut. -/
def setL (l : List Int) : List Int := compact (sortL l)
theorem setL_up (l : List Int) : (setL l).Pairwise (· < ·) ∧ ∀ x, x ∈ setL l ↔ x ∈ l := by
  have hs := sortL_up l
  have hd : ∀ i j, i ≤ j → j < (sortL l).toArray.size → (sortL l).toArray[i]! ≤ (sortL l).toArray[j]! := by
    intro i j hij hj
    have hj' : j < (sortL l).length := by simpa using hj
    have hi' : i < (sortL l).length := by omega
    simp only [List.getElem!_toArray]
    rw [getElem!_pos _ i hi', getElem!_pos _ j hj']
    rcases Nat.lt_or_ge i j with h | h
    · exact List.pairwise_iff_getElem.1 hs i j hi' hj' h
    · have : i = j := by omega
      subst this; exact Int.le_refl _
  obtain ⟨h1, h2⟩ := comp_law (sortL l).toArray hd (sortL l).length (by simp)
  refine ⟨h2, fun x => ?_⟩
  show x ∈ compactUpTo (sortL l).toArray (sortL l).length ↔ _
  rw [h1, ← sortL_mem l x]
  constructor
  · rintro ⟨j, hj, rfl⟩
    simp only [List.getElem!_toArray]
    rw [getElem!_pos _ j hj]
    simp
  · intro hx
    obtain ⟨j, hj, e⟩ := List.mem_iff_getElem.1 hx
    refine ⟨j, hj, ?_⟩
    simp only [List.getElem!_toArray]
    rw [getElem!_pos _ j hj]; exact e
theorem setL_len (l : List Int) : (setL l).length ≤ l.length := by
  unfold setL compact compactUpTo
  rw [List.length_map]
  have := List.length_filter_le (keeps (sortL l).toArray) (List.range (sortL l).length)
  rw [List.length_range] at this
  exact Nat.le_trans this (Nat.le_of_eq (sortL_len l))

theorem compactI_any (v : Value) (l : List Int) (base : Nat) (w : World) (h : w.ownsRow base 3 1 v l.length (l.map (.int .i64))) (hl : l.length ≤ 1048576) :
    Calls Tryd.prog 59 #[v] w fun e w' => ∃ v', e = .returned v' ∧ w'.ownsRow base 3 1 v' (compact l).length ((compact l).map (.int .i64)) ∧ w.grownBy w' v.ownBlock ∧ v'.ownBlock = v.ownBlock := by
  rcases h.2 with ⟨rfl, h0⟩ | ⟨g, cap, cur, rfl, hg, hc, hn, hcm, hcs, ht⟩
  · obtain rfl : l = [] := List.eq_nil_of_length_eq_zero h0
    refine (Tryd.slices_Compact_int_empty none 0 w).mono ?_
    rintro e w' ⟨rfl, rfl⟩
    exact ⟨_, rfl, h, ⟨rfl, rfl, rfl, Nat.le_refl _, fun _ _ _ => rfl⟩, rfl⟩
  · refine (Tryd.slices_Compact_int g 0 cap l w (holds_of_blockI hc (by simpa using ht)) (by omega) hn).mono ?_
    rintro e w' ⟨rfl, q, rfl⟩
    have hle : (compact l).length ≤ l.length := by
      unfold compact compactUpTo
      rw [List.length_map]
      have := List.length_filter_le (keeps l.toArray) (List.range l.length)
      rwa [List.length_range] at this
    have e0 : putRow (Value.int .i64) (Sort.ahead w q) g 0 (compact l ++ List.replicate (l.length - (compact l).length) 0).toArray = grow (putRow (Value.int .i64) (Sort.ahead w q) g 0 (compact l ++ List.replicate (l.length - (compact l).length) 0).toArray) #[] := by simp
    rw [e0]
    have hL : (compact l ++ List.replicate (l.length - (compact l).length) 0).length = l.length := by simp; omega
    have ho := ownsRow_sortedI (w := w) (n := q) (os := #[]) (ss := l) hL hg hc hn hcm hcs
    refine ⟨_, rfl, ⟨by simp, .inr ⟨g, cap, _, rfl, hg, heap_sortedI _ hc, by omega, hcm, by simp [putCells, hcs], ?_⟩⟩, grownBy_sortedI _, rfl⟩
    have ht2 := take_putCellsI cur (compact l ++ List.replicate (l.length - (compact l).length) 0) (by rw [hL]; omega)
    rw [hL] at ht2
    have hk : ∀ X : List Value, X.take (compact l).length = (X.take l.length).take (compact l).length := fun X => by rw [List.take_take, Nat.min_eq_left hle]
    rw [Nat.mul_one, hk, ht2, List.map_append]
    exact List.take_left' (by simp)

end Go.Proofs.YtkkbefhnklpfaaaDoor
