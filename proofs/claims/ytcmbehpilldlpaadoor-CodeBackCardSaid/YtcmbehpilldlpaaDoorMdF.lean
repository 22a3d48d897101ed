/- The contract of model.Values. -/
import Derived.Test.YtcmbehpilldlpaaDoorMdE
namespace Go.Proofs.YtcmbehpilldlpaaDoor
open Go.RowKit

theorem digL_drop {l : List Vr} {i : Nat} (h : i < l.length) (c : Int) : digL (l.drop i) c = ((l[i].low + (digL (l.drop (i + 1)) c).2 % l[i].span) :: (digL (l.drop (i + 1)) c).1, (digL (l.drop (i + 1)) c).2 / l[i].span) := by
  rw [List.drop_eq_getElem_cons h]; rfl

/-- What stands in the row while it is filled from its end. -/
def fillV (l : List Vr) (c : Int) (k : Nat) : List Int := List.replicate k 0 ++ (digL (l.drop k) c).1
theorem set_rep (V : List Int) (x : Int) : ∀ j, (List.replicate (j + 1) (0 : Int) ++ V).set j x = List.replicate j 0 ++ x :: V
  | 0 => rfl
  | j + 1 => by
    have := set_rep V x j
    rw [List.replicate_succ, List.cons_append, List.set_cons_succ, this]
    rfl
theorem fillV_step {l : List Vr} {j : Nat} (h : j < l.length) (c : Int) : (fillV l c (j + 1)).set j (l[j].low + (digL (l.drop (j + 1)) c).2 % l[j].span) = fillV l c j := by
  unfold fillV
  rw [set_rep, digL_drop h]
theorem fillV_len {l : List Vr} {k : Nat} (h : k ≤ l.length) (c : Int) : (fillV l c k).length = l.length := by
  unfold fillV
  rw [List.length_append, digL_len, List.length_replicate, List.length_drop]; omega
theorem set_mapI (l : List Int) (i : Nat) (x : Int) : (l.map (Value.int .i64)).set i (.int .i64 x) = (l.set i x).map (Value.int .i64) := by rw [List.map_set]

theorem digL_q {l : List Vr} (h : ∀ v ∈ l, v.Ok) (k : Nat) (c : Int) (hc : 0 ≤ c) : 0 ≤ (digL (l.drop k) c).2 ∧ (digL (l.drop k) c).2 ≤ c := by
  have hv : ∀ v ∈ l.drop k, v.Ok := fun v hv => h v (List.mem_of_mem_drop hv)
  refine ⟨digL_rest_pos hv c hc, ?_⟩
  rw [digL_rest hv c hc]
  exact Int.ediv_le_self _ hc

set_option maxRecDepth 100000 in
set_option maxHeartbeats 8000000 in
theorem values_any (vv rv : Value) (m : Md) (c : Int) (w : World) (h : IsMd w vv rv m) (ht : Tab w) (hp : m.Ok) (hc0 : 0 ≤ c) (hc1 : c < countL m.vars) :
    Calls Tryd.prog 19 #[.agg #[vv, rv], .int .i64 c] w fun e w' => ∃ v, e = .returned (.tuple #[v, .int .i64 0]) ∧ w'.ownsRow w.heap.size 3 1 v m.vars.length ((valsL m.vars c).map (.int .i64)) ∧ Ext w w' := by
  have hE0 := ext_al (Ext.refl w) (Obj.cells #[vv, rv] 29)
  have HCK := Lib.hid (count_any vv rv m _ (h.ext hE0) (ht.ext hE0) hp)
  obtain ⟨av, cv, rfl, _, b, off, ha, hcells⟩ := h.vars.at
  obtain ⟨a, c', rfl⟩ := EachL.val h.rules
  have h6 := hp.six
  have hbk := blk_new w (Obj.cells #[.slice av m.vars.length cv, .slice a m.rules.length c'] 29)
  have HB := Lib.hid hbk
  have HE := Lib.hid hE0
  have HA := Lib.hid ha
  have HC := Lib.hid hcells
  have HV := Lib.hid hp.vars
  have hn4 := hp.count
  clear h ha hcells hp ht hbk hE0
  generalize m.rules.length = nr at *
  generalize m.vars = l at *
  generalize countL l = N at *
  go_enter Tryd.func19, Tryd.ntmps19
  have d0 := blk_cell HB.out (i := 0) (v := .slice av l.length cv) rfl
  have d1 := blk_cell HB.out (i := 1) (v := .slice a nr c') rfl
  go_wp2_with fail
  generalize w.alloc (Obj.cells #[.slice av l.length cv, .slice a nr c'] 29) = W1 at *
  refine HCK.out.mono ?_
  rintro e w2 ⟨rfl, hE2⟩
  have d0 := cell_later hE2 d0
  have HB2 := Lib.hid (blk_ext HB.out hE2)
  have HE2 := Lib.hid (HE.out.trans hE2)
  have hs2 := HE2.out.size
  clear hE2 HCK HB HE d1
  go_wp2_with (at_make; go_must (refine wpList_make_full _ rfl _ _ 48 rfl w2.heap.size 3 (Tryd.slInts.inf.choose) (.int .i64 0) 1 Tryd.underlying48 Tryd.slInts.inf.choose_spec.1 Tryd.slInts.inf.choose_spec.2.1 Tryd.slInts.inf.choose_spec.2.2.1 .i64 .i64 l.length l.length l.length rfl rfl rfl rfl (by rw [Tryd.slInts.inf.choose_spec.2.2.2]; omega) (by unfold maxLen; omega) (Nat.le_refl _) ?_))
  intro w3 hown3 hg3
  have hmx : (madeCells #[Value.int .i64 0] l.length).toList = (fillV l c l.length).map (.int .i64) := by
    rw [toList_madeCells_one, fillV, List.drop_length]
    simp [digL]
  rw [hmx] at hown3
  have HO3 := Lib.hid hown3
  have hx3 : Ext w2 w3 := (Ext.refl w2).grown hg3 (Nat.le_refl _) (by simp)
  have HB3 := Lib.hid (blk_ext HB2.out hx3)
  have d0 := cell_later hx3 d0
  have HE3 := Lib.hid (HE2.out.trans hx3)
  obtain ⟨D, hD⟩ : ∃ D, w2.heap.size = D := ⟨_, rfl⟩
  rw [hD] at HO3 hs2 ⊢
  have hs3 := blk_lt HB2.out
  rw [hD] at hs3
  have hl0 := digL_q HV.out l.length c hc0
  have HQ0 := Lib.hid (show (digL (l.drop l.length) c).2 = c by rw [List.drop_length]; rfl)
  clear hown3 hg3 hmx hx3 HB2 HE2 hD
  go_wp2_with fail
  clear d0
  go_loopg [1, 9] l.length (fun k x y wr => ∃ i : Int, i + 1 = (k : Int) ∧ k ≤ l.length ∧ y = .int .i64 i ∧ x = .int .i64 (digL (l.drop k) c).2 ∧ Ext w wr ∧ wr.heap[w.heap.size]? = some (.cells #[.slice av l.length cv, .slice a nr c'] 29 (0, 0)) ∧ wr.ownsRow D 3 1 (.slice (some ⟨D, 0, none⟩) l.length l.length) l.length ((fillV l c k).map (.int .i64)))
  case atStart => exact ⟨(l.length : Int) - 1, by omega, Nat.le_refl _, rfl, by rw [HQ0.out], HE3.out, HB3.out, HO3.out⟩
  case round =>
    obtain ⟨i, hik, hkl, rfl, rfl, hE, hB, hO⟩ := hrel
    clear HO3 HE3 HB3 HQ0
    have HIK := Lib.hid hik
    by_cases hi : 0 ≤ i
    · obtain ⟨j, rfl⟩ : ∃ j : Nat, i = (j : Int) := ⟨i.toNat, by omega⟩
      obtain rfl : gk = j + 1 := by omega
      have hjl : j < l.length := by omega
      obtain rfl := HA.out (by omega)
      obtain ⟨c0, c1, c2, c3⟩ := HC.out j hjl
      have d0 := blk_cell hB (i := 0) (v := .slice (some ⟨b, off, none⟩) l.length cv) rfl
      have c0 := cell_later hE c0
      have c1 := cell_later hE c1
      have c2 := cell_later hE c2
      have c3 := cell_later hE c3
      have hx0 := ext_al (Ext.refl wr) (Obj.cells (vrc l[j]).toArray 32)
      simp only [vrc] at hx0
      have hbk := blk_new wr (Obj.cells (vrc l[j]).toArray 32)
      simp only [vrc] at hbk
      have f1 := blk_cell hbk (i := 1) (v := .int .i64 l[j].low) rfl
      have f2 := blk_cell hbk (i := 2) (v := .int .i64 l[j].high) rfl
      have hq := digL_q HV.out (j + 1) c hc0
      have hok := HV.out l[j] (by simp)
      have o1 := hok.low
      have o2 := hok.high
      have o3 := hok.i0
      have o4 := hok.i1
      have o5 := hok.sp
      have HST := Lib.hid (fillV_step hjl c)
      have HDG := Lib.hid (show (digL (l.drop j) c).2 = (digL (l.drop (j + 1)) c).2 / l[j].span by rw [digL_drop hjl])
      have hO2 := own_ext hO hx0
      have hB2 := blk_ext hB hx0
      have HX := Lib.hid (hE.trans hx0)
      have HO2 := Lib.hid hO2
      have HB2 := Lib.hid hB2
      have fr := own_freeAt hO2 j
      have hDl := (hO2.lt D rfl)
      have hwl := blk_lt hB2
      have hfl := fillV_len (l := l) (k := j + 1) (by omega) c
      obtain ⟨ur, cr⟩ : ∃ u, (wr.alloc (Obj.cells #[.string l[j].name, .int .i64 l[j].low, .int .i64 l[j].high, .int .i64 l[j].init] 32)).cell? ⟨D, j, none⟩ = some u := ⟨_, own_cellAt hO2 (i := j) (by rw [List.length_map, hfl]; exact hjl)⟩
      have hiI : (j : Int) < (l.length : Int) := by omega
      have hj0 : (0 : Int) ≤ (j : Int) := by omega
      obtain ⟨q, hqe⟩ : ∃ q, (digL (l.drop (j + 1)) c).2 = q := ⟨_, rfl⟩
      obtain ⟨r, hre⟩ : ∃ r, (digL (l.drop j) c).2 = r := ⟨_, rfl⟩
      rw [hqe] at hq HST HDG
      rw [hre] at HDG
      rw [hqe]
      have HRE := Lib.hid hre
      unfold Vr.span at HST HDG
      clear hE hB hO hO2 hB2 hbk hok hik hx0 hfl hqe hre
      go_upto_region 11 with fail
      generalize wr.alloc (Obj.cells #[.string l[j].name, .int .i64 l[j].low, .int .i64 l[j].high, .int .i64 l[j].init] 32) = W3 at *
      clear c0 c1 c2 c3 d0
      generalize l[j].low = lo at *
      generalize l[j].high = hi' at *
      go_upto_region 12 with fail
      have hsp : 0 < hi' - lo + 1 := by omega
      have em0 := Int.emod_nonneg q (show hi' - lo + 1 ≠ 0 by omega)
      have em1 := Int.emod_lt_of_pos q hsp
      have t1 : q.tmod (hi' - lo + 1) = q % (hi' - lo + 1) := Int.tmod_eq_emod_of_nonneg hq.1
      have t2 : IntKind.i64.wrap (q % (hi' - lo + 1)) = q % (hi' - lo + 1) := IntWalk.i64_in _ (by omega)
      have t3 : IntKind.i64.wrap (lo + q % (hi' - lo + 1)) = lo + q % (hi' - lo + 1) := IntWalk.i64_in _ (by omega)
      have HT2 := Lib.hid t2
      go_region
      have hO5 := own_setAt HO2.out (i := j) (.int .i64 (lo + q % (hi' - lo + 1)))
      rw [set_mapI, HST.out] at hO5
      have hDw : D ≠ w.heap.size := by omega
      have hB5 := blk_far HB2.out (p := ⟨D, j, none⟩) hDw (.int .i64 (lo + q % (hi' - lo + 1)))
      have hE5 := ext_st HX.out (p := ⟨D, j, none⟩) (by show w.heap.size ≤ D; omega) (.int .i64 (lo + q % (hi' - lo + 1)))
      have hd : Ext (W3.setCell ⟨D, j, none⟩ (.int .i64 (lo + q % (hi' - lo + 1)))) (W3.setCell ⟨D, j, none⟩ (.int .i64 (lo + q % (hi' - lo + 1)))).drew := Below.drew (Ext.refl _)
      have HO5 := Lib.hid (own_ext hO5 hd)
      have HB5 := Lib.hid (blk_ext hB5 hd)
      have HE5 := Lib.hid (hE5.trans hd)
      clear hO5 hB5 hE5 hd t1 t2 t3 em0 em1 f1 f2 fr cr
      generalize (W3.setCell ⟨D, j, none⟩ (.int .i64 (lo + q % (hi' - lo + 1)))).drew = W5 at *
      go_wp2_with fail
      go_roundg j
      case measure => omega
      case rel => exact ⟨(j : Int) - 1, by omega, by omega, rfl, by rw [HRE.out, HDG.out], HE5.out, HB5.out, HO5.out⟩
    · have hik0 : gk = 0 := by omega
      subst hik0
      have HX := Lib.hid hE
      have HO := Lib.hid hO
      have HFV := Lib.hid (show fillV l c 0 = valsL l c by unfold fillV valsL; simp)
      have hneg : i < 0 := by omega
      rw [HFV.out] at HO
      clear hE hB hO hik
      go_wp2
      go_ret2
      exact ⟨_, rfl, own_down HO.out (by omega), HX.out⟩

end Go.Proofs.YtcmbehpilldlpaaDoor
