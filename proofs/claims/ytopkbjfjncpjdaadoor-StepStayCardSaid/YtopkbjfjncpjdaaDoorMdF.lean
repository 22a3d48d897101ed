/- MdF: what is needed of it. No condition. -/
import Derived.Test.YtopkbjfjncpjdaaDoorMdD
import Derived.Test.YtopkbjfjncpjdaaDoorShut
import Derived.Deep.QuietTactic
import Derived.BigQuiet
import Derived.Deep.Cut
namespace Go.Proofs.YtopkbjfjncpjdaaDoor
open Go.RowKit
theorem codeL_snoc : ∀ {l : List Vr} {xs : List Int} {i : Nat} (h : i < l.length) (h2 : i < xs.length) (n : Int), codeL (l.take (i + 1)) (xs.take (i + 1)) n = codeL (l.take i) (xs.take i) n * l[i].span + xs[i] - l[i].low
  | v :: l, x :: xs, 0, _, _, n => by simp [codeL]
  | v :: l, x :: xs, i + 1, h, h2, n => by
    have := codeL_snoc (l := l) (xs := xs) (i := i) (by simpa using h) (by simpa using h2) (n * v.span + x - v.low)
    simpa [codeL] using this
theorem InV.take : ∀ {l : List Vr} {xs : List Int} (i : Nat), InV l xs → InV (l.take i) (xs.take i)
  | [], [], _, _ => by simp [InV]
  | v :: l, x :: xs, 0, _ => by simp [InV]
  | v :: l, x :: xs, i + 1, h => ⟨h.1, h.2.1, InV.take (l := l) (xs := xs) i h.2.2⟩
  | [], _ :: _, _, h => h.elim
  | _ :: _, [], _, h => h.elim
theorem InV.snoc {l : List Vr} {xs : List Int} {i : Nat} (h : i < l.length) (h2 : i < xs.length) (hI : InV (l.take i) (xs.take i)) (hb : l[i].low ≤ xs[i] ∧ xs[i] ≤ l[i].high) : InV (l.take (i + 1)) (xs.take (i + 1)) := by
  refine InV.of (by simp; omega) fun j hj hj2 => ?_
  simp only [List.length_take] at hj hj2
  rw [List.getElem_take, List.getElem_take]
  by_cases e : j = i
  · subst e; exact hb
  · have := hI.get j (by simp; omega) (by simp; omega)
    rwa [List.getElem_take, List.getElem_take] at this
def CodeE (l : List Vr) (xs : List Int) (n e : Int) : Prop := (InV l xs ∧ n = codeL l xs 0 ∧ e = 0) ∨ (¬ InV l xs ∧ n = 0 ∧ e = 9)
def CodeR (l : List Vr) (xs : List Int) (w : World) (e : Ending) (w' : World) : Prop := ∃ n c : Int, e = .returned (.tuple #[.int .i64 n, .int .i64 c]) ∧ CodeE l xs n c ∧ Ext w w'
theorem ints_at' {w : World} {a : Option Addr} {n c : Nat} {l : List Int} (h : Row w 1 a n c (l.map (.int .i64))) : ∃ b off, (0 < l.length → a = some ⟨b, off, none⟩) ∧ ∀ (i : Nat) (hi : i < l.length), w.cell? ⟨b, off + i, none⟩ = some (.int .i64 l[i]) := by
  obtain ⟨b, off, _, h2, h3⟩ := h.lie
  exact ⟨b, off, fun hl => h2 (by simpa using hl), fun i hi => h3 i _ (by rw [List.getElem?_map, List.getElem?_eq_getElem hi]; rfl)⟩
set_option maxRecDepth 100000 in
set_option maxHeartbeats 8000000 in
theorem code_any (vv rv xv : Value) (m : Md) (xs : List Int) (w : World) (h : IsMd w vv rv m) (ht : Tab w) (hp : m.Ok) (hx : Ints w xv xs) (hi64 : ∀ x ∈ xs, I64 x) :
    Calls Tryd.prog 16 #[.agg #[vv, rv], xv] w (CodeR m.vars xs w) := by
  have hE0 := ext_al (Ext.refl w) (Obj.cells #[vv, rv] 29)
  have HCK := Lib.hid (mcheck_ok vv rv m _ (h.ext hE0) (ht.ext hE0) hp)
  obtain ⟨av, cv, rfl, _, b, off, ha, hcells⟩ := h.vars.at
  obtain ⟨a, c, rfl⟩ := EachL.val h.rules
  have h6 := hp.six
  have hbk := blk_new w (Obj.cells #[.slice av m.vars.length cv, .slice a m.rules.length c] 29)
  have HB := Lib.hid hbk
  have HE := Lib.hid hE0
  have HA := Lib.hid ha
  have HC := Lib.hid hcells
  have HV := Lib.hid hp.vars
  have HN := Lib.hid hp.count
  obtain ⟨ax, cx, rfl, hrx⟩ := hx
  obtain ⟨bx, ox, hx1, hx2⟩ := ints_at' hrx
  have hxl : xs.length ≤ maxLen := Nat.le_trans hrx.le hrx.max
  unfold maxLen at hxl
  have HX1 := Lib.hid hx1
  have HX2 := Lib.hid hx2
  have HI := Lib.hid hi64
  clear h ha hcells hp ht hbk hE0 hrx hx1 hx2 hi64
  generalize m.rules.length = nr at *
  generalize m.vars = l at *
  have HPOST := Lib.hid (show CodeR l xs w = CodeR l xs w from rfl)
  go_enter Tryd.func16, Tryd.ntmps16
  have d0 := blk_cell HB.out (i := 0) (v := .slice av l.length cv) rfl
  have d1 := blk_cell HB.out (i := 1) (v := .slice a nr c) rfl
  go_wp2_with fail
  generalize w.alloc (Obj.cells #[.slice av l.length cv, .slice a nr c] 29) = W1 at *
  refine HCK.out.mono ?_
  rintro e w2 ⟨rfl, hE2⟩
  have d0 := cell_later hE2 d0
  have HE2 := Lib.hid (HE.out.trans hE2)
  clear hE2 HCK HB HE d1
  by_cases hlen : xs.length = l.length
  case neg =>
    have hl1 : ((xs.length : Int) == (l.length : Int)) = false := by rw [beq_eq_false_iff_ne]; omega
    have hl2 : ((xs.length : Int) != (l.length : Int)) = true := by rw [bne_iff_ne]; omega
    have HNI := Lib.hid (show ¬ InV l xs from fun h => hlen h.len)
    clear hlen
    go_wp2
    go_ret2
    exact ⟨0, 9, rfl, .inr ⟨HNI.out, rfl, rfl⟩, HE2.out⟩
  case pos =>
    have hl1 : ((xs.length : Int) == (l.length : Int)) = true := by rw [beq_iff_eq]; omega
    have hl2 : ((xs.length : Int) != (l.length : Int)) = false := by rw [bne_eq_false_iff_eq]; omega
    have HLEN := Lib.hid hlen
    clear hlen
    go_wp2_with fail
    clear d0 hl1 hl2
    go_loopg [7, 24] l.length (fun m x y wr => ∃ i : Nat, m + i = l.length ∧ y = .int .i64 (i : Int) ∧ x = .int .i64 (codeL (l.take i) (xs.take i) 0) ∧ InV (l.take i) (xs.take i) ∧ Ext w wr)
    case atStart => exact ⟨0, by omega, by go_num, by simp [codeL], by simp [InV], HE2.out⟩
    case round =>
      obtain ⟨i, hm, rfl, rfl, hI, hE⟩ := hrel
      have HM := Lib.hid hm
      have HIN := Lib.hid hI
      clear hm HE2
      by_cases hi : i < l.length
      · obtain rfl := HA.out (by omega)
        have hix : i < xs.length := by have := HLEN.out; omega
        obtain rfl := HX1.out (by omega)
        obtain ⟨c0, c1, c2, c3⟩ := HC.out i hi
        have hbx := HI.out xs[i] (by simp)
        unfold I64 at hbx
        have hx0 := ext_al (Ext.refl wr) (Obj.cells (vrc l[i]).toArray 43)
        simp only [vrc] at hx0
        have e0 := cell_later hE c0
        have e1 := cell_later hE c1
        have e2 := cell_later hE c2
        have e3 := cell_later hE c3
        have ex := cell_later (hE.trans hx0) (HX2.out i hix)
        have hbk := blk_new wr (Obj.cells (vrc l[i]).toArray 43)
        simp only [vrc] at hbk
        have f1 := blk_cell hbk (i := 1) (v := .int .i64 l[i].low) rfl
        have f2 := blk_cell hbk (i := 2) (v := .int .i64 l[i].high) rfl
        have hok := HV.out l[i] (by simp)
        have hbd := codeL_bd (l := l.take i) (fun v hv => HV.out v (List.mem_of_mem_take hv)) hI
        have hct := countL_take (l := l) HV.out i
        have hn4 := HN.out
        have HSN := Lib.hid (codeL_snoc hi hix 0)
        have o1 := hok.low
        have o2 := hok.high
        have o3 := hok.i0
        have o4 := hok.i1
        have o5 := hok.sp
        have HX := Lib.hid (hE.trans hx0)
        have hiI : (i : Int) < (l.length : Int) := by omega
        have hiX : (i : Int) < (xs.length : Int) := by omega
        have hi0 : (0 : Int) ≤ (i : Int) := by omega
        have HIO := Lib.hid fun (h : ¬ (l[i].low ≤ xs[i] ∧ xs[i] ≤ l[i].high)) => (show ¬ InV l xs from fun hI => h (hI.get i hi hix))
        have HIS := Lib.hid fun (h : l[i].low ≤ xs[i] ∧ xs[i] ≤ l[i].high) => hI.snoc hi hix h
        unfold Vr.span at HSN
        clear hE hx0 hbk hok hI c0 c1 c2 c3
        obtain ⟨cN, hcN⟩ : ∃ c, codeL (l.take (i + 1)) (xs.take (i + 1)) 0 = c := ⟨_, rfl⟩
        rw [hcN] at HSN
        have HCN := Lib.hid hcN
        clear hcN
        generalize codeL (l.take i) (xs.take i) 0 = cO at *
        go_upto_region 10 with fail
        generalize wr.alloc (Obj.cells #[.string l[i].name, .int .i64 l[i].low, .int .i64 l[i].high, .int .i64 l[i].init] 43) = W3 at *
        clear e0 e1 e2 e3
        generalize l[i].low = lo at *
        generalize l[i].high = hi' at *
        generalize xs[i] = x at *
        by_cases hb : lo ≤ x ∧ x ≤ hi'
        · have r1 : decide (x < lo) = false := by rw [decide_eq_false_iff_not]; omega
          have r2 : decide (hi' < x) = false := by rw [decide_eq_false_iff_not]; omega
          have HB := Lib.hid hb
          refine wp_region_quiet_lit (by kernel_rfl) (by kernel_rfl) (Shut.out ?_)
          repeat (refine hq_step (fun K hK => ?_); go_simp; refine hK _ ?_; clear hK K)
          refine hq_nil ?_
          rintro _ ⟨nq, rfl⟩
          have hN0 : cN = cO * (hi' - lo + 1) + x - lo := HSN.out
          have hm1 : 0 ≤ cO * (hi' - lo + 1) := Int.mul_nonneg (by omega) (by omega)
          have hm2 : cO * (hi' - lo + 1) ≤ 4096 * 64 := by
            exact Int.mul_le_mul (show cO ≤ 4096 by omega) (show hi' - lo + 1 ≤ 64 by omega) (by omega) (by omega)
          have w1 : IntKind.i64.wrap (hi' - lo) = hi' - lo := IntWalk.i64_in _ (by omega)
          have w2 : IntKind.i64.wrap (hi' - lo + 1) = hi' - lo + 1 := IntWalk.i64_in _ (by omega)
          have w3 : IntKind.i64.wrap (cO * (hi' - lo + 1)) = cO * (hi' - lo + 1) := IntWalk.i64_in _ (by omega)
          have w4 : IntKind.i64.wrap (cO * (hi' - lo + 1) + x) = cO * (hi' - lo + 1) + x := IntWalk.i64_in _ (by omega)
          have w5 : IntKind.i64.wrap (cO * (hi' - lo + 1) + x - lo) = cN := by rw [hN0]; exact IntWalk.i64_in _ (by omega)
          clear r1 r2 hb hN0
          go_upto_region 12 with fail
          go_quiet (fail)
          clear w1 w2 w3 w4 w5 hm1 hm2 ex f1 f2
          go_wp2_with fail
          go_roundg (gk - 1)
          case measure => have := HM.out; omega
          case rel => exact ⟨i + 1, by have := HM.out; omega, by go_num, by rw [HCN.out], HIS.out HB.out, below_drewN HX.out _⟩
        · have r0 : x < lo ∨ (¬ x < lo ∧ hi' < x) := by omega
          have HB := Lib.hid (HIO.out hb)
          clear hb
          rcases r0 with r1 | ⟨r1, r2⟩
          · have r1 : decide (x < lo) = true := by rw [decide_eq_true_eq]; exact r1
            refine wp_region_quiet_lit (by kernel_rfl) (by kernel_rfl) (Shut.out ?_)
            repeat (refine hq_step (fun K hK => ?_); go_simp; refine hK _ ?_; clear hK K)
            refine hq_nil ?_
            rintro _ ⟨nq, rfl⟩
            clear r1
            go_wp2
            go_ret2
            exact ⟨0, 9, rfl, .inr ⟨HB.out, rfl, rfl⟩, below_drewN HX.out nq⟩
          · have r1 : decide (x < lo) = false := by rw [decide_eq_false_iff_not]; exact r1
            have r2 : decide (hi' < x) = true := by rw [decide_eq_true_eq]; exact r2
            refine wp_region_quiet_lit (by kernel_rfl) (by kernel_rfl) (Shut.out ?_)
            repeat (refine hq_step (fun K hK => ?_); go_simp; refine hK _ ?_; clear hK K)
            refine hq_nil ?_
            rintro _ ⟨nq, rfl⟩
            clear r1 r2
            go_wp2
            go_ret2
            exact ⟨0, 9, rfl, .inr ⟨HB.out, rfl, rfl⟩, below_drewN HX.out nq⟩
      · have hI2 : InV l xs := by
          have := HIN.out
          rw [List.take_of_length_le (by omega), List.take_of_length_le (by have := HLEN.out; omega)] at this
          exact this
        have HTL := Lib.hid (show codeL (l.take i) (xs.take i) 0 = codeL l xs 0 by rw [List.take_of_length_le (by omega), List.take_of_length_le (by have := HLEN.out; omega)])
        have HI2 := Lib.hid hI2
        have HX := Lib.hid hE
        have hiI : ¬ (i : Int) < (l.length : Int) := by omega
        clear hI hE hI2
        go_wp2
        go_ret2
        exact ⟨_, 0, rfl, .inl ⟨HI2.out, HTL.out, rfl⟩, HX.out⟩
end Go.Proofs.YtopkbjfjncpjdaaDoor
namespace Go.Proofs.YtopkbjfjncpjdaaDoor
open Go.RowKit
theorem digL_drop {l : List Vr} {i : Nat} (h : i < l.length) (c : Int) : digL (l.drop i) c = ((l[i].low + (digL (l.drop (i + 1)) c).2 % l[i].span) :: (digL (l.drop (i + 1)) c).1, (digL (l.drop (i + 1)) c).2 / l[i].span) := by
  rw [List.drop_eq_getElem_cons h]; rfl
def fillV (l : List Vr) (c : Int) (k : Nat) : List Int := List.replicate k 0 ++ (digL (l.drop k) c).1
theorem set_rep (V : List Int) (x : Int) : ∀ j, (List.replicate (j + 1) (0 : Int) ++ V).set j x = List.replicate j 0 ++ x :: V
  | 0 => rfl
  | j + 1 => by
    have := set_rep V x j
    rw [List.replicate_succ, List.cons_append, List.set_cons_succ, this]
    rfl
theorem fillV_step {l : List Vr} {j : Nat} (h : j < l.length) (c : Int) : (fillV l c (j + 1)).set j (l[j].low + (digL (l.drop (j + 1)) c).2 % l[j].span) = fillV l c j := by
  unfold fillV
  rw [set_rep, digL_drop h]
theorem fillV_len {l : List Vr} {k : Nat} (h : k ≤ l.length) (c : Int) : (fillV l c k).length = l.length := by
  unfold fillV
  rw [List.length_append, digL_len, List.length_replicate, List.length_drop]; omega
theorem set_mapI (l : List Int) (i : Nat) (x : Int) : (l.map (Value.int .i64)).set i (.int .i64 x) = (l.set i x).map (Value.int .i64) := by rw [List.map_set]
theorem digL_q {l : List Vr} (h : ∀ v ∈ l, v.Ok) (k : Nat) (c : Int) (hc : 0 ≤ c) : 0 ≤ (digL (l.drop k) c).2 ∧ (digL (l.drop k) c).2 ≤ c := by
  have hv : ∀ v ∈ l.drop k, v.Ok := fun v hv => h v (List.mem_of_mem_drop hv)
  refine ⟨digL_rest_pos hv c hc, ?_⟩
  rw [digL_rest hv c hc]
  exact Int.ediv_le_self _ hc
set_option maxRecDepth 100000 in
set_option maxHeartbeats 8000000 in
theorem values_any (vv rv : Value) (m : Md) (c : Int) (w : World) (h : IsMd w vv rv m) (ht : Tab w) (hp : m.Ok) (hc0 : 0 ≤ c) (hc1 : c < countL m.vars) :
    Calls Tryd.prog 14 #[.agg #[vv, rv], .int .i64 c] w fun e w' => ∃ v, e = .returned (.tuple #[v, .int .i64 0]) ∧ w'.ownsRow w.heap.size 3 1 v m.vars.length ((valsL m.vars c).map (.int .i64)) ∧ Ext w w' := by
  have hE0 := ext_al (Ext.refl w) (Obj.cells #[vv, rv] 29)
  have HCK := Lib.hid (count_any vv rv m _ (h.ext hE0) (ht.ext hE0) hp)
  obtain ⟨av, cv, rfl, _, b, off, ha, hcells⟩ := h.vars.at
  obtain ⟨a, c', rfl⟩ := EachL.val h.rules
  have h6 := hp.six
  have hbk := blk_new w (Obj.cells #[.slice av m.vars.length cv, .slice a m.rules.length c'] 29)
  have HB := Lib.hid hbk
  have HE := Lib.hid hE0
  have HA := Lib.hid ha
  have HC := Lib.hid hcells
  have HV := Lib.hid hp.vars
  have hn4 := hp.count
  clear h ha hcells hp ht hbk hE0
  generalize m.rules.length = nr at *
  generalize m.vars = l at *
  generalize countL l = N at *
  go_enter Tryd.func14, Tryd.ntmps14
  have d0 := blk_cell HB.out (i := 0) (v := .slice av l.length cv) rfl
  have d1 := blk_cell HB.out (i := 1) (v := .slice a nr c') rfl
  go_wp2_with fail
  generalize w.alloc (Obj.cells #[.slice av l.length cv, .slice a nr c'] 29) = W1 at *
  refine HCK.out.mono ?_
  rintro e w2 ⟨rfl, hE2⟩
  have d0 := cell_later hE2 d0
  have HB2 := Lib.hid (blk_ext HB.out hE2)
  have HE2 := Lib.hid (HE.out.trans hE2)
  have hs2 := HE2.out.size
  clear hE2 HCK HB HE d1
  go_wp2_with (at_make; go_must (refine wpList_make_full _ rfl _ _ 47 rfl w2.heap.size 3 (Tryd.slInts.inf.choose) (.int .i64 0) 1 Tryd.underlying47 Tryd.slInts.inf.choose_spec.1 Tryd.slInts.inf.choose_spec.2.1 Tryd.slInts.inf.choose_spec.2.2.1 .i64 .i64 l.length l.length l.length rfl rfl rfl rfl (by rw [Tryd.slInts.inf.choose_spec.2.2.2]; omega) (by unfold maxLen; omega) (Nat.le_refl _) ?_))
  intro w3 hown3 hg3
  have hmx : (madeCells #[Value.int .i64 0] l.length).toList = (fillV l c l.length).map (.int .i64) := by
    rw [toList_madeCells_one, fillV, List.drop_length]
    simp [digL]
  rw [hmx] at hown3
  have HO3 := Lib.hid hown3
  have hx3 : Ext w2 w3 := (Ext.refl w2).grown hg3 (Nat.le_refl _) (by simp)
  have HB3 := Lib.hid (blk_ext HB2.out hx3)
  have d0 := cell_later hx3 d0
  have HE3 := Lib.hid (HE2.out.trans hx3)
  obtain ⟨D, hD⟩ : ∃ D, w2.heap.size = D := ⟨_, rfl⟩
  rw [hD] at HO3 hs2 ⊢
  have hs3 := blk_lt HB2.out
  rw [hD] at hs3
  have hl0 := digL_q HV.out l.length c hc0
  have HQ0 := Lib.hid (show (digL (l.drop l.length) c).2 = c by rw [List.drop_length]; rfl)
  clear hown3 hg3 hmx hx3 HB2 HE2 hD
  go_wp2_with fail
  clear d0
  go_loopg [1, 9] l.length (fun k x y wr => ∃ i : Int, i + 1 = (k : Int) ∧ k ≤ l.length ∧ y = .int .i64 i ∧ x = .int .i64 (digL (l.drop k) c).2 ∧ Ext w wr ∧ wr.heap[w.heap.size]? = some (.cells #[.slice av l.length cv, .slice a nr c'] 29 (0, 0)) ∧ wr.ownsRow D 3 1 (.slice (some ⟨D, 0, none⟩) l.length l.length) l.length ((fillV l c k).map (.int .i64)))
  case atStart => exact ⟨(l.length : Int) - 1, by omega, Nat.le_refl _, rfl, by rw [HQ0.out], HE3.out, HB3.out, HO3.out⟩
  case round =>
    obtain ⟨i, hik, hkl, rfl, rfl, hE, hB, hO⟩ := hrel
    clear HO3 HE3 HB3 HQ0
    have HIK := Lib.hid hik
    by_cases hi : 0 ≤ i
    · obtain ⟨j, rfl⟩ : ∃ j : Nat, i = (j : Int) := ⟨i.toNat, by omega⟩
      obtain rfl : gk = j + 1 := by omega
      have hjl : j < l.length := by omega
      obtain rfl := HA.out (by omega)
      obtain ⟨c0, c1, c2, c3⟩ := HC.out j hjl
      have d0 := blk_cell hB (i := 0) (v := .slice (some ⟨b, off, none⟩) l.length cv) rfl
      have c0 := cell_later hE c0
      have c1 := cell_later hE c1
      have c2 := cell_later hE c2
      have c3 := cell_later hE c3
      have hx0 := ext_al (Ext.refl wr) (Obj.cells (vrc l[j]).toArray 43)
      simp only [vrc] at hx0
      have hbk := blk_new wr (Obj.cells (vrc l[j]).toArray 43)
      simp only [vrc] at hbk
      have f1 := blk_cell hbk (i := 1) (v := .int .i64 l[j].low) rfl
      have f2 := blk_cell hbk (i := 2) (v := .int .i64 l[j].high) rfl
      have hq := digL_q HV.out (j + 1) c hc0
      have hok := HV.out l[j] (by simp)
      have o1 := hok.low
      have o2 := hok.high
      have o3 := hok.i0
      have o4 := hok.i1
      have o5 := hok.sp
      have HST := Lib.hid (fillV_step hjl c)
      have HDG := Lib.hid (show (digL (l.drop j) c).2 = (digL (l.drop (j + 1)) c).2 / l[j].span by rw [digL_drop hjl])
      have hO2 := own_ext hO hx0
      have hB2 := blk_ext hB hx0
      have HX := Lib.hid (hE.trans hx0)
      have HO2 := Lib.hid hO2
      have HB2 := Lib.hid hB2
      have fr := own_freeAt hO2 j
      have hDl := (hO2.lt D rfl)
      have hwl := blk_lt hB2
      have hfl := fillV_len (l := l) (k := j + 1) (by omega) c
      obtain ⟨ur, cr⟩ : ∃ u, (wr.alloc (Obj.cells #[.string l[j].name, .int .i64 l[j].low, .int .i64 l[j].high, .int .i64 l[j].init] 43)).cell? ⟨D, j, none⟩ = some u := ⟨_, own_cellAt hO2 (i := j) (by rw [List.length_map, hfl]; exact hjl)⟩
      have hiI : (j : Int) < (l.length : Int) := by omega
      have hj0 : (0 : Int) ≤ (j : Int) := by omega
      obtain ⟨q, hqe⟩ : ∃ q, (digL (l.drop (j + 1)) c).2 = q := ⟨_, rfl⟩
      obtain ⟨r, hre⟩ : ∃ r, (digL (l.drop j) c).2 = r := ⟨_, rfl⟩
      rw [hqe] at hq HST HDG
      rw [hre] at HDG
      rw [hqe]
      have HRE := Lib.hid hre
      unfold Vr.span at HST HDG
      clear hE hB hO hO2 hB2 hbk hok hik hx0 hfl hqe hre
      go_upto_region 11 with fail
      generalize wr.alloc (Obj.cells #[.string l[j].name, .int .i64 l[j].low, .int .i64 l[j].high, .int .i64 l[j].init] 43) = W3 at *
      clear c0 c1 c2 c3 d0
      generalize l[j].low = lo at *
      generalize l[j].high = hi' at *
      go_upto_region 12 with fail
      have hsp : 0 < hi' - lo + 1 := by omega
      have em0 := Int.emod_nonneg q (show hi' - lo + 1 ≠ 0 by omega)
      have em1 := Int.emod_lt_of_pos q hsp
      have t1 : q.tmod (hi' - lo + 1) = q % (hi' - lo + 1) := Int.tmod_eq_emod_of_nonneg hq.1
      have t2 : IntKind.i64.wrap (q % (hi' - lo + 1)) = q % (hi' - lo + 1) := IntWalk.i64_in _ (by omega)
      have t3 : IntKind.i64.wrap (lo + q % (hi' - lo + 1)) = lo + q % (hi' - lo + 1) := IntWalk.i64_in _ (by omega)
      have HT2 := Lib.hid t2
      go_region
      have hO5 := own_setAt HO2.out (i := j) (.int .i64 (lo + q % (hi' - lo + 1)))
      rw [set_mapI, HST.out] at hO5
      have hDw : D ≠ w.heap.size := by omega
      have hB5 := blk_far HB2.out (p := ⟨D, j, none⟩) hDw (.int .i64 (lo + q % (hi' - lo + 1)))
      have hE5 := ext_st HX.out (p := ⟨D, j, none⟩) (by show w.heap.size ≤ D; omega) (.int .i64 (lo + q % (hi' - lo + 1)))
      have hd : Ext (W3.setCell ⟨D, j, none⟩ (.int .i64 (lo + q % (hi' - lo + 1)))) (W3.setCell ⟨D, j, none⟩ (.int .i64 (lo + q % (hi' - lo + 1)))).drew := Below.drew (Ext.refl _)
      have HO5 := Lib.hid (own_ext hO5 hd)
      have HB5 := Lib.hid (blk_ext hB5 hd)
      have HE5 := Lib.hid (hE5.trans hd)
      clear hO5 hB5 hE5 hd t1 t2 t3 em0 em1 f1 f2 fr cr
      generalize (W3.setCell ⟨D, j, none⟩ (.int .i64 (lo + q % (hi' - lo + 1)))).drew = W5 at *
      go_wp2_with fail
      go_roundg j
      case measure => omega
      case rel => exact ⟨(j : Int) - 1, by omega, by omega, rfl, by rw [HRE.out, HDG.out], HE5.out, HB5.out, HO5.out⟩
    · have hik0 : gk = 0 := by omega
      subst hik0
      have HX := Lib.hid hE
      have HO := Lib.hid hO
      have HFV := Lib.hid (show fillV l c 0 = valsL l c by unfold fillV valsL; simp)
      have hneg : i < 0 := by omega
      rw [HFV.out] at HO
      clear hE hB hO hik
      go_wp2
      go_ret2
      exact ⟨_, rfl, own_down HO.out (by omega), HX.out⟩
end Go.Proofs.YtopkbjfjncpjdaaDoor
