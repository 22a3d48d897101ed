/- The contract of model.Code. -/
import Derived.Test.YtcmbehpilldlpaaDoorMdD
import Derived.Test.YtcmbehpilldlpaaDoorShut
import Derived.Deep.QuietTactic
import Derived.BigQuiet
import Derived.Deep.Cut
namespace Go.Proofs.YtcmbehpilldlpaaDoor
open Go.RowKit

theorem codeL_snoc : ∀ {l : List Vr} {xs : List Int} {i : Nat} (h : i < l.length) (h2 : i < xs.length) (n : Int), codeL (l.take (i + 1)) (xs.take (i + 1)) n = codeL (l.take i) (xs.take i) n * l[i].span + xs[i] - l[i].low
  | v :: l, x :: xs, 0, _, _, n => by simp [codeL]
  | v :: l, x :: xs, i + 1, h, h2, n => by
    have := codeL_snoc (l := l) (xs := xs) (i := i) (by simpa using h) (by simpa using h2) (n * v.span + x - v.low)
    simpa [codeL] using this

theorem InV.take : ∀ {l : List Vr} {xs : List Int} (i : Nat), InV l xs → InV (l.take i) (xs.take i)
  | [], [], _, _ => by simp [InV]
  | v :: l, x :: xs, 0, _ => by simp [InV]
  | v :: l, x :: xs, i + 1, h => ⟨h.1, h.2.1, InV.take (l := l) (xs := xs) i h.2.2⟩
  | [], _ :: _, _, h => h.elim
  | _ :: _, [], _, h => h.elim

theorem InV.snoc {l : List Vr} {xs : List Int} {i : Nat} (h : i < l.length) (h2 : i < xs.length) (hI : InV (l.take i) (xs.take i)) (hb : l[i].low ≤ xs[i] ∧ xs[i] ≤ l[i].high) : InV (l.take (i + 1)) (xs.take (i + 1)) := by
  refine InV.of (by simp; omega) fun j hj hj2 => ?_
  simp only [List.length_take] at hj hj2
  rw [List.getElem_take, List.getElem_take]
  by_cases e : j = i
  · subst e; exact hb
  · have := hI.get j (by simp; omega) (by simp; omega)
    rwa [List.getElem_take, List.getElem_take] at this

/-- What Code answers. -/
def CodeE (l : List Vr) (xs : List Int) (n e : Int) : Prop := (InV l xs ∧ n = codeL l xs 0 ∧ e = 0) ∨ (¬ InV l xs ∧ n = 0 ∧ e = 9)
def CodeR (l : List Vr) (xs : List Int) (w : World) (e : Ending) (w' : World) : Prop := ∃ n c : Int, e = .returned (.tuple #[.int .i64 n, .int .i64 c]) ∧ CodeE l xs n c ∧ Ext w w'

theorem ints_at' {w : World} {a : Option Addr} {n c : Nat} {l : List Int} (h : Row w 1 a n c (l.map (.int .i64))) : ∃ b off, (0 < l.length → a = some ⟨b, off, none⟩) ∧ ∀ (i : Nat) (hi : i < l.length), w.cell? ⟨b, off + i, none⟩ = some (.int .i64 l[i]) := by
  obtain ⟨b, off, _, h2, h3⟩ := h.lie
  exact ⟨b, off, fun hl => h2 (by simpa using hl), fun i hi => h3 i _ (by rw [List.getElem?_map, List.getElem?_eq_getElem hi]; rfl)⟩

set_option maxRecDepth 100000 in
set_option maxHeartbeats 8000000 in
theorem code_any (vv rv xv : Value) (m : Md) (xs : List Int) (w : World) (h : IsMd w vv rv m) (ht : Tab w) (hp : m.Ok) (hx : Ints w xv xs) (hi64 : ∀ x ∈ xs, I64 x) :
    Calls Tryd.prog 20 #[.agg #[vv, rv], xv] w (CodeR m.vars xs w) := by
  have hE0 := ext_al (Ext.refl w) (Obj.cells #[vv, rv] 29)
  have HCK := Lib.hid (mcheck_ok vv rv m _ (h.ext hE0) (ht.ext hE0) hp)
  obtain ⟨av, cv, rfl, _, b, off, ha, hcells⟩ := h.vars.at
  obtain ⟨a, c, rfl⟩ := EachL.val h.rules
  have h6 := hp.six
  have hbk := blk_new w (Obj.cells #[.slice av m.vars.length cv, .slice a m.rules.length c] 29)
  have HB := Lib.hid hbk
  have HE := Lib.hid hE0
  have HA := Lib.hid ha
  have HC := Lib.hid hcells
  have HV := Lib.hid hp.vars
  have HN := Lib.hid hp.count
  obtain ⟨ax, cx, rfl, hrx⟩ := hx
  obtain ⟨bx, ox, hx1, hx2⟩ := ints_at' hrx
  have hxl : xs.length ≤ maxLen := Nat.le_trans hrx.le hrx.max
  unfold maxLen at hxl
  have HX1 := Lib.hid hx1
  have HX2 := Lib.hid hx2
  have HI := Lib.hid hi64
  clear h ha hcells hp ht hbk hE0 hrx hx1 hx2 hi64
  generalize m.rules.length = nr at *
  generalize m.vars = l at *
  have HPOST := Lib.hid (show CodeR l xs w = CodeR l xs w from rfl)
  go_enter Tryd.func20, Tryd.ntmps20
  have d0 := blk_cell HB.out (i := 0) (v := .slice av l.length cv) rfl
  have d1 := blk_cell HB.out (i := 1) (v := .slice a nr c) rfl
  go_wp2_with fail
  generalize w.alloc (Obj.cells #[.slice av l.length cv, .slice a nr c] 29) = W1 at *
  refine HCK.out.mono ?_
  rintro e w2 ⟨rfl, hE2⟩
  have d0 := cell_later hE2 d0
  have HE2 := Lib.hid (HE.out.trans hE2)
  clear hE2 HCK HB HE d1
  by_cases hlen : xs.length = l.length
  case neg =>
    have hl1 : ((xs.length : Int) == (l.length : Int)) = false := by rw [beq_eq_false_iff_ne]; omega
    have hl2 : ((xs.length : Int) != (l.length : Int)) = true := by rw [bne_iff_ne]; omega
    have HNI := Lib.hid (show ¬ InV l xs from fun h => hlen h.len)
    clear hlen
    go_wp2
    go_ret2
    exact ⟨0, 9, rfl, .inr ⟨HNI.out, rfl, rfl⟩, HE2.out⟩
  case pos =>
    have hl1 : ((xs.length : Int) == (l.length : Int)) = true := by rw [beq_iff_eq]; omega
    have hl2 : ((xs.length : Int) != (l.length : Int)) = false := by rw [bne_eq_false_iff_eq]; omega
    have HLEN := Lib.hid hlen
    clear hlen
    go_wp2_with fail
    clear d0 hl1 hl2
    go_loopg [7, 24] l.length (fun m x y wr => ∃ i : Nat, m + i = l.length ∧ y = .int .i64 (i : Int) ∧ x = .int .i64 (codeL (l.take i) (xs.take i) 0) ∧ InV (l.take i) (xs.take i) ∧ Ext w wr)
    case atStart => exact ⟨0, by omega, by go_num, by simp [codeL], by simp [InV], HE2.out⟩
    case round =>
      obtain ⟨i, hm, rfl, rfl, hI, hE⟩ := hrel
      have HM := Lib.hid hm
      have HIN := Lib.hid hI
      clear hm HE2
      by_cases hi : i < l.length
      · obtain rfl := HA.out (by omega)
        have hix : i < xs.length := by have := HLEN.out; omega
        obtain rfl := HX1.out (by omega)
        obtain ⟨c0, c1, c2, c3⟩ := HC.out i hi
        have hbx := HI.out xs[i] (by simp)
        unfold I64 at hbx
        have hx0 := ext_al (Ext.refl wr) (Obj.cells (vrc l[i]).toArray 32)
        simp only [vrc] at hx0
        have e0 := cell_later hE c0
        have e1 := cell_later hE c1
        have e2 := cell_later hE c2
        have e3 := cell_later hE c3
        have ex := cell_later (hE.trans hx0) (HX2.out i hix)
        have hbk := blk_new wr (Obj.cells (vrc l[i]).toArray 32)
        simp only [vrc] at hbk
        have f1 := blk_cell hbk (i := 1) (v := .int .i64 l[i].low) rfl
        have f2 := blk_cell hbk (i := 2) (v := .int .i64 l[i].high) rfl
        have hok := HV.out l[i] (by simp)
        have hbd := codeL_bd (l := l.take i) (fun v hv => HV.out v (List.mem_of_mem_take hv)) hI
        have hct := countL_take (l := l) HV.out i
        have hn4 := HN.out
        have HSN := Lib.hid (codeL_snoc hi hix 0)
        have o1 := hok.low
        have o2 := hok.high
        have o3 := hok.i0
        have o4 := hok.i1
        have o5 := hok.sp
        have HX := Lib.hid (hE.trans hx0)
        have hiI : (i : Int) < (l.length : Int) := by omega
        have hiX : (i : Int) < (xs.length : Int) := by omega
        have hi0 : (0 : Int) ≤ (i : Int) := by omega
        have HIO := Lib.hid fun (h : ¬ (l[i].low ≤ xs[i] ∧ xs[i] ≤ l[i].high)) => (show ¬ InV l xs from fun hI => h (hI.get i hi hix))
        have HIS := Lib.hid fun (h : l[i].low ≤ xs[i] ∧ xs[i] ≤ l[i].high) => hI.snoc hi hix h
        unfold Vr.span at HSN
        clear hE hx0 hbk hok hI c0 c1 c2 c3
        obtain ⟨cN, hcN⟩ : ∃ c, codeL (l.take (i + 1)) (xs.take (i + 1)) 0 = c := ⟨_, rfl⟩
        rw [hcN] at HSN
        have HCN := Lib.hid hcN
        clear hcN
        generalize codeL (l.take i) (xs.take i) 0 = cO at *
        go_upto_region 10 with fail
        generalize wr.alloc (Obj.cells #[.string l[i].name, .int .i64 l[i].low, .int .i64 l[i].high, .int .i64 l[i].init] 32) = W3 at *
        clear e0 e1 e2 e3
        generalize l[i].low = lo at *
        generalize l[i].high = hi' at *
        generalize xs[i] = x at *
        by_cases hb : lo ≤ x ∧ x ≤ hi'
        · have r1 : decide (x < lo) = false := by rw [decide_eq_false_iff_not]; omega
          have r2 : decide (hi' < x) = false := by rw [decide_eq_false_iff_not]; omega
          have HB := Lib.hid hb
          refine wp_region_quiet_lit (by kernel_rfl) (by kernel_rfl) (Shut.out ?_)
          repeat (refine hq_step (fun K hK => ?_); go_simp; refine hK _ ?_; clear hK K)
          refine hq_nil ?_
          rintro _ ⟨nq, rfl⟩
          have hN0 : cN = cO * (hi' - lo + 1) + x - lo := HSN.out
          have hm1 : 0 ≤ cO * (hi' - lo + 1) := Int.mul_nonneg (by omega) (by omega)
          have hm2 : cO * (hi' - lo + 1) ≤ 4096 * 64 := by
            exact Int.mul_le_mul (show cO ≤ 4096 by omega) (show hi' - lo + 1 ≤ 64 by omega) (by omega) (by omega)
          have w1 : IntKind.i64.wrap (hi' - lo) = hi' - lo := IntWalk.i64_in _ (by omega)
          have w2 : IntKind.i64.wrap (hi' - lo + 1) = hi' - lo + 1 := IntWalk.i64_in _ (by omega)
          have w3 : IntKind.i64.wrap (cO * (hi' - lo + 1)) = cO * (hi' - lo + 1) := IntWalk.i64_in _ (by omega)
          have w4 : IntKind.i64.wrap (cO * (hi' - lo + 1) + x) = cO * (hi' - lo + 1) + x := IntWalk.i64_in _ (by omega)
          have w5 : IntKind.i64.wrap (cO * (hi' - lo + 1) + x - lo) = cN := by rw [hN0]; exact IntWalk.i64_in _ (by omega)
          clear r1 r2 hb hN0
          go_upto_region 12 with fail
          go_quiet (fail)
          clear w1 w2 w3 w4 w5 hm1 hm2 ex f1 f2
          go_wp2_with fail
          go_roundg (gk - 1)
          case measure => have := HM.out; omega
          case rel => exact ⟨i + 1, by have := HM.out; omega, by go_num, by rw [HCN.out], HIS.out HB.out, below_drewN HX.out _⟩
        · have r0 : x < lo ∨ (¬ x < lo ∧ hi' < x) := by omega
          have HB := Lib.hid (HIO.out hb)
          clear hb
          rcases r0 with r1 | ⟨r1, r2⟩
          · have r1 : decide (x < lo) = true := by rw [decide_eq_true_eq]; exact r1
            refine wp_region_quiet_lit (by kernel_rfl) (by kernel_rfl) (Shut.out ?_)
            repeat (refine hq_step (fun K hK => ?_); go_simp; refine hK _ ?_; clear hK K)
            refine hq_nil ?_
            rintro _ ⟨nq, rfl⟩
            clear r1
            go_wp2
            go_ret2
            exact ⟨0, 9, rfl, .inr ⟨HB.out, rfl, rfl⟩, below_drewN HX.out nq⟩
          · have r1 : decide (x < lo) = false := by rw [decide_eq_false_iff_not]; exact r1
            have r2 : decide (hi' < x) = true := by rw [decide_eq_true_eq]; exact r2
            refine wp_region_quiet_lit (by kernel_rfl) (by kernel_rfl) (Shut.out ?_)
            repeat (refine hq_step (fun K hK => ?_); go_simp; refine hK _ ?_; clear hK K)
            refine hq_nil ?_
            rintro _ ⟨nq, rfl⟩
            clear r1 r2
            go_wp2
            go_ret2
            exact ⟨0, 9, rfl, .inr ⟨HB.out, rfl, rfl⟩, below_drewN HX.out nq⟩
      · have hI2 : InV l xs := by
          have := HIN.out
          rw [List.take_of_length_le (by omega), List.take_of_length_le (by have := HLEN.out; omega)] at this
          exact this
        have HTL := Lib.hid (show codeL (l.take i) (xs.take i) 0 = codeL l xs 0 by rw [List.take_of_length_le (by omega), List.take_of_length_le (by have := HLEN.out; omega)])
        have HI2 := Lib.hid hI2
        have HX := Lib.hid hE
        have hiI : ¬ (i : Int) < (l.length : Int) := by omega
        clear hI hE hI2
        go_wp2
        go_ret2
        exact ⟨_, 0, rfl, .inl ⟨HI2.out, HTL.out, rfl⟩, HX.out⟩

end Go.Proofs.YtcmbehpilldlpaaDoor
