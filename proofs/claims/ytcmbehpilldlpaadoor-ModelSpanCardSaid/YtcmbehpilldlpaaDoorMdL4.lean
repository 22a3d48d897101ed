/- The law ModelSpan. -/
import Derived.Test.YtcmbehpilldlpaaDoorMdV
import Derived.Deep.DeepCutAuto
import Derived.Deep.RegionLaw
namespace Go.Proofs.YtcmbehpilldlpaaDoor
open Go.RowKit

theorem opE_mono {o : Op2} {v v' : Int} (h : opE o v = 0) (hv : v ≤ v') : opE o v' = 0 := by
  unfold opE at h ⊢
  by_cases h1 : okK o.1 = false
  · rw [if_pos h1] at h; omega
  · rw [if_neg h1] at h ⊢
    by_cases e1 : o.1 = 1
    · simpa [e1] using h
    · by_cases e2 : o.1 = 2
      · simp only [e2, if_true] at h ⊢
        split at h
        · omega
        · rw [if_neg (by omega)]
      · simpa [e1, e2] using h
theorem Sub.mono {t : Tm} {v v' : Int} (h : Sub t v) (hv : v ≤ v') : Sub t v' := ⟨h.ok, fun o ho => opE_mono (h.good o ho) hv, h.typed⟩
theorem RlPre.mono {n n' : Int} {r : Rl} (h : RlPre n r) (hn : n ≤ n') : RlPre n' r :=
  ⟨h.many, h.guard.mono hn, h.gsize, fun s hs => by
    obtain ⟨a, b, c, d, e⟩ := h.sets s hs
    exact ⟨a, by omega, c.mono hn, d, e⟩⟩
theorem Md.Pre.more {m : Md} (h : m.Pre) {z : Vr} (hz : z.Ok) (h5 : m.vars.length + 1 ≤ 6) (hc : countL m.vars * z.span ≤ 4096) : (⟨m.vars ++ [z], m.rules⟩ : Md).Pre where
  six := by simpa using h5
  vars := fun v hv => by
    rcases List.mem_append.1 hv with hv | hv
    · exact h.vars v hv
    · simp at hv; subst hv; exact hz
  count := by
    show countL (m.vars ++ [z]) ≤ 4096
    rw [countL_app]
    simpa [countL] using hc
  twelve := h.twelve
  rules := fun r hr => by
    have h1 := (h.rules r hr).mono (n' := ((m.vars ++ [z]).length : Int)) (by simp; omega)
    exact h1
theorem Md.Ok.more {m : Md} (h : m.Ok) {z : Vr} (hz : z.Ok) (h5 : m.vars.length + 1 ≤ 6) (hc : countL m.vars * z.span ≤ 4096) (hn : z.name ∉ m.vars.map (·.name)) : (⟨m.vars ++ [z], m.rules⟩ : Md).Ok where
  toPre := h.toPre.more hz h5 hc
  names := by
    show ((m.vars ++ [z]).map (·.name)).Nodup
    rw [List.map_append, List.nodup_append]
    refine ⟨h.names, by simp, ?_⟩
    intro a ha b hb
    simp at hb
    subst hb
    intro e
    subst e
    exact hn ha
  kinds := h.kinds

abbrev nmZ : ByteArray := ⟨#[122]⟩
theorem nmZ_list : nmZ.toList = [122] := by rw [ByteArray.toList_eq]
theorem nmZ_ok : NameOk nmZ := by
  refine ⟨by decide, by decide, by rw [nmZ_list]; decide, by rw [nmZ_list]; decide, ?_⟩
  intro i h
  have : i = 0 := by have : nmZ.size = 1 := rfl; omega
  subst this
  exact .inl (show 97 ≤ (122 : UInt8).toNat ∧ (122 : UInt8).toNat ≤ 122 by decide)
theorem nmZ_new : nmZ ∉ [nmX, nmY] := by
  intro h
  simp only [List.mem_cons, List.not_mem_nil, or_false] at h
  rcases h with e | e
  · exact absurd (congrArg (fun s => s.toList) e) (by rw [nmZ_list, nmX_list]; decide)
  · exact absurd (congrArg ByteArray.size e) (by decide)
theorem zvar_ok (p : Int) (h0 : 0 ≤ p) (h1 : p < 8) : (⟨nmZ, 0, p, 0⟩ : Vr).Ok := ⟨nmZ_ok, by show (-1000 : Int) ≤ 0; omega, by show p ≤ 1000; omega, Int.le_refl _, h0, by show p - 0 < 64; omega⟩

theorem reads_of_isVars {w : World} {v : Value} {l : List Vr} (h : IsVars w v l) : Reads w 4 v l.length (l.flatMap vrc) := by
  obtain ⟨css, h1, h2, h3, h4⟩ := h
  have e : css = l.map vrc := by
    apply List.ext_getElem?
    intro i
    by_cases hi : i < l.length
    · have a := List.getElem?_eq_getElem (show i < css.length by omega)
      have b := List.getElem?_eq_getElem hi
      rw [a, List.getElem?_map, b]
      have := h4 i _ _ a b
      show some css[i] = some (vrc l[i])
      rw [show css[i] = vrc l[i] from this]
    · rw [List.getElem?_eq_none (by omega), List.getElem?_eq_none (by simp; omega)]
  rw [e, ← List.flatMap_def] at h3
  exact h3
theorem vrcs_one (l : List Vr) : ∀ u ∈ l.flatMap vrc, u.oneCell' = true := by
  intro u hu
  obtain ⟨v, _, h⟩ := List.mem_flatMap.1 hu
  exact vrc_one v u h
theorem own_at {w : World} {base : Nat} {e : TypeId} {size n : Nat} {v : Value} {xs : List Value} (h : w.ownsRow base e size v n xs) (hn : 0 < n) : ∃ g cap, v = .slice (some ⟨g, 0, none⟩) n cap ∧ base ≤ g ∧ ∀ j u, xs[j]? = some u → w.cell? ⟨g, j, none⟩ = some u := by
  obtain ⟨a, cap, e0, hr⟩ := h.row
  rcases h.2 with ⟨h1, h2⟩ | ⟨g, cap', cur, h1, hg, _⟩
  · omega
  · subst h1
    simp only [Value.slice.injEq] at e0
    obtain ⟨rfl, _, rfl⟩ := e0
    exact ⟨g, _, rfl, hg, fun j u hu => by have := hr.cells j u hu; simpa using this⟩

set_option maxRecDepth 100000 in
set_option maxHeartbeats 16000000 in
theorem modelSpan_walk (pv : Value) (d : Dn) (s : Int) (W : World) (ht : Tab W) (hpl : IsPlans W pv d.rules) (hd : DnI d) (hs : I64 s) :
    Calls Tryd.prog 4 #[.agg (dnc d pv), .int .i64 s] W fun e w' => e = .returned (.bool true) ∧ Ext W w' := by
  have EE := ext_al (Ext.refl W) (Obj.cells (dnc d pv) 25)
  have HMO := Lib.hid (model_any pv d _ (hpl.ext EE) hd)
  have D := d.drawn
  have HEE := Lib.hid EE
  have HTB := Lib.hid (ht.ext EE)
  obtain ⟨s1, s2⟩ := hs
  have HNM := Lib.hid (show d.md.vars.map (·.name) = [nmX, nmY] from rfl)
  generalize d.md = m at *
  simp only [dnc] at HMO HEE HTB ⊢
  clear ht hpl hd EE
  go_enter Tryd.func4, Tryd.ntmps4
  go_wp2_with fail
  generalize W.alloc (Obj.cells #[.int .i64 d.s0, .int .i64 d.s1, .int .i64 d.l0, .int .i64 d.l1, .int .i64 d.i0, .int .i64 d.i1, pv] 25) = W0 at *
  refine HMO.out.mono ?_
  rintro e w1 ⟨vv, rv, rfl, hM, hE1⟩
  obtain ⟨av, cv, ar, cr, rfl, rfl⟩ := hM.shape D.two
  have hx := ext_al (Ext.refl w1) (Obj.cells #[.slice av 2 cv, .slice ar m.rules.length cr] 29)
  have hb := blk_new w1 (Obj.cells #[.slice av 2 cv, .slice ar m.rules.length cr] 29)
  have HM := Lib.hid (hM.ext hx)
  have HM0 := Lib.hid hM
  have HT0 := Lib.hid (HTB.out.ext hE1)
  have HX00 := Lib.hid (HEE.out.trans hE1)
  have HW12 := Lib.hid hx
  have HX := Lib.hid (HEE.out.trans (hE1.trans hx))
  have HT := Lib.hid (HTB.out.ext (hE1.trans hx))
  have HB := Lib.hid hb
  have m0 := blk_cell hb (i := 0) rfl
  have m1 := blk_cell hb (i := 1) rfl
  clear hM hE1 hx hb HMO HEE HTB
  have hn1 := D.n1
  have hn16 := D.n16
  have h5 := D.five
  have HD := Lib.hid D
  clear D
  go_wp2_with fail
  generalize w1.alloc (Obj.cells #[.slice av 2 cv, .slice ar m.rules.length cr] 29) = W2 at *
  refine (count_any _ _ m W2 HM.out HT.out HD.out.ok).mono ?_
  rintro e w3 ⟨rfl, hE3⟩
  have HE3 := Lib.hid hE3
  have m0 := cell_later hE3 m0
  have m1 := cell_later hE3 m1
  clear hE3
  obtain ⟨N, hN⟩ : ∃ N, countL m.vars = N := ⟨_, rfl⟩
  rw [hN] at hn1 hn16 ⊢
  have HN := Lib.hid hN
  clear hN
  go_wp2_with fail
  refine (picked_any s 8 _ s1 s2 (by omega) (by omega)).mono ?_
  rintro e w' ⟨rfl, rfl⟩
  have hbp := pk_bd s 8 (by omega)
  generalize pk s 8 = p at *
  have HRD := Lib.hid (reads_of_isVars (HM0.out.vars.ext (HW12.out.trans HE3.out)))
  rw [HD.out.two] at HRD
  have hrow : Row w3 4 av 2 cv (m.vars.flatMap vrc) := by
    obtain ⟨a0, c0, e0, hr⟩ := HRD.out
    simp only [Value.slice.injEq] at e0
    obtain ⟨rfl, _, rfl⟩ := e0
    exact hr
  have HROW := Lib.hid hrow
  have hs3 := HE3.out.size
  have hs12 := HW12.out.size
  have hbk2 := blk_lt HB.out
  clear hrow
  go_wp2_with (at_builtin; go_must (refine wpl_append rfl rfl Tryd.slVars w3.heap.size rfl (World.ownsRow_nil _ _ _ _) rfl HROW.out (vrcs_one _) (by unfold maxLen; omega) (by omega) (Nat.le_refl _) ?_))
  intro v4 w4 hown4 hg4 hb4 _
  have hx4 : Ext w3 w4 := (Ext.refl w3).grown hg4 (Nat.le_refl _) (by simp [Value.ownBlock])
  have HX4 := Lib.hid hx4
  have HO4 := Lib.hid hown4
  obtain ⟨a4, c4, rfl, _⟩ := hown4.row
  have m0 := cell_later hx4 m0
  have m1 := cell_later hx4 m1
  have hm4 := HX4.out.size
  clear hown4 hg4 hb4 hx4
  have t0 : IntKind.i64.wrap (1 + p - 1) = p := (IntWalk.i64_in _ (by omega)).trans (by omega)
  have tp : 1 + p - 1 = p := by omega
  have HO5 := Lib.hid fun (o : Obj) => own_ext HO4.out (ext_al (Ext.refl w4) o)
  go_wp2_with (at_builtin; go_must (refine wpl_append rfl rfl Tryd.slVars w3.heap.size rfl (HO5.out _) rfl (Row.newK _ _ 4 _ _ rfl rfl) (by intro u hu; simp only [List.mem_cons, List.not_mem_nil, or_false] at hu; rcases hu with rfl | rfl | rfl | rfl <;> rfl) (by unfold maxLen; omega) (by omega) (by simp; omega) ?_))
  intro v6 w6 hown6 hg6 hb6 _
  have hx6 : Ext w3 w6 := Below.grown (HX4.out.trans (ext_al (Ext.refl w4) _)) hg6 (by simp; omega) (fun b hb => ((HO5.out (Obj.cells #[] 0)).lt b hb).1)
  obtain ⟨a6, c6, rfl, _⟩ := hown6.row
  have hb6' := blk_ext HB.out (HE3.out.trans hx6)
  have m0 := blk_cell hb6' (i := 0) rfl
  have m1 := blk_cell hb6' (i := 1) rfl
  have fm0 := blk_free hb6' 0
  have hb7 := blk_set hb6' (i := 0) (.slice a6 3 c6)
  have ho7 := own_setCell hown6 (p := ⟨w1.heap.size, 0, none⟩) (.slice a6 3 c6) (fun e => by have := (hown6.lt _ e).1; simp at this; omega)
  have hx7 := ext_st (HW12.out.trans (HE3.out.trans hx6)) (p := ⟨w1.heap.size, 0, none⟩) (Nat.le_refl _) (.slice a6 3 c6)
  have HB7 := Lib.hid hb7
  have hzo := zvar_ok p hbp.1 hbp.2
  have HZO := Lib.hid hzo
  have hlen3 : (m.vars ++ [(⟨nmZ, 0, p, 0⟩ : Vr)]).length = 3 := by rw [List.length_append, HD.out.two]; rfl
  have HO7 := Lib.hid (show (w6.setCell ⟨w1.heap.size, 0, none⟩ (.slice a6 3 c6)).ownsRow w3.heap.size 32 4 (.slice a6 3 c6) (m.vars ++ [(⟨nmZ, 0, p, 0⟩ : Vr)]).length ((m.vars ++ [(⟨nmZ, 0, p, 0⟩ : Vr)]).flatMap vrc) from by
    rw [hlen3, List.flatMap_append]
    exact ho7)
  have HM7 := Lib.hid (show IsMd (w6.setCell ⟨w1.heap.size, 0, none⟩ (.slice a6 3 c6)) (.slice a6 3 c6) (.slice ar m.rules.length cr) ⟨m.vars ++ [⟨nmZ, 0, p, 0⟩], m.rules⟩ from
    ⟨isVars_of HO7.out.reads, HM0.out.rules.ext hx7⟩)
  have HT7 := Lib.hid (HT0.out.ext hx7)
  have HX7 := Lib.hid (HX00.out.trans hx7)
  have hsp : (⟨nmZ, 0, p, 0⟩ : Vr).span = p + 1 := by show p - 0 + 1 = p + 1; omega
  have HOK7 := Lib.hid (HD.out.ok.more hzo (by rw [HD.out.two]; omega) (by
    rw [HN.out, hsp]
    have := Int.mul_le_mul hn16 (show p + 1 ≤ 8 by omega) (by omega) (by omega)
    omega) (by rw [HNM.out]; exact nmZ_new))
  have HCN := Lib.hid (show countL (m.vars ++ [(⟨nmZ, 0, p, 0⟩ : Vr)]) = N * (1 + p) from by
    rw [countL_app, HN.out]
    simp only [countL, hsp]
    rw [Int.mul_one, Int.add_comm p 1])
  clear hown6 hg6 hb6 hx6 hb6' hb7 ho7 hx7 hzo hlen3 hsp tp HM HT HX
  go_upto_region 5 with fail
  generalize w6.setCell ⟨w1.heap.size, 0, none⟩ (.slice a6 3 c6) = W7 at *
  clear m0 m1 fm0 t0
  have m0 := blk_cell HB7.out (i := 0) (v := .slice a6 3 c6) rfl
  have m1 := blk_cell HB7.out (i := 1) (v := .slice ar m.rules.length cr) rfl
  go_wp2_with fail
  refine (count_any _ _ _ W7 HM7.out HT7.out HOK7.out).mono ?_
  rintro e w8 ⟨rfl, hE8⟩
  have m0 := cell_later hE8 m0
  have HX8 := Lib.hid (HX7.out.trans hE8)
  have ho8 := own_ext HO7.out hE8
  have hv2 := HD.out.two
  obtain ⟨A, B, hAB⟩ : ∃ A B, m.vars = [A, B] := by
    match hm : m.vars, hv2 with
    | [A, B], _ => exact ⟨A, B, rfl⟩
  obtain ⟨g, cg, e0, _, hcell⟩ := own_at ho8 (by simp)
  simp only [Value.slice.injEq] at e0
  obtain ⟨rfl, e00, rfl⟩ := e0
  clear e00
  rw [hAB] at hcell
  have k1 := hcell 1 (.int .i64 A.low) rfl
  have k2 := hcell 2 (.int .i64 A.high) rfl
  have k5 := hcell 5 (.int .i64 B.low) rfl
  have k6 := hcell 6 (.int .i64 B.high) rfl
  have hNN := HN.out
  rw [hAB] at hNN
  simp only [countL, Int.mul_one, Vr.span] at hNN
  have hA := HD.out.ok.vars A (by rw [hAB]; simp)
  have hB := HD.out.ok.vars B (by rw [hAB]; simp)
  have u1 := hA.low; have u2 := hA.high; have u3 := hA.sp
  have u4 := hB.low; have u5 := hB.high; have u6 := hB.sp
  have u7 := hA.i0; have u8 := hA.i1; have u9 := hB.i0; have u10 := hB.i1
  rw [HCN.out]
  have HNP := Lib.hid (show 0 ≤ N * (1 + p) ∧ N * (1 + p) ≤ 128 from by
    refine ⟨Int.mul_nonneg (by omega) (by omega), ?_⟩
    have := Int.mul_le_mul hn16 (show 1 + p ≤ 8 by omega) (by omega) (by omega)
    omega)
  clear ho8 hcell hE8 hA hB hv2
  have t1 : IntKind.i64.wrap (A.high - A.low) = A.high - A.low := IntWalk.i64_in _ (by omega)
  have t2 : IntKind.i64.wrap (A.high - A.low + 1) = A.high - A.low + 1 := IntWalk.i64_in _ (by omega)
  have t3 : IntKind.i64.wrap (B.high - B.low) = B.high - B.low := IntWalk.i64_in _ (by omega)
  have t4 : IntKind.i64.wrap (B.high - B.low + 1) = B.high - B.low + 1 := IntWalk.i64_in _ (by omega)
  have t5 : IntKind.i64.wrap ((A.high - A.low + 1) * (B.high - B.low + 1)) = N := by rw [hNN]; exact IntWalk.i64_in _ (by omega)
  have t6 : IntKind.i64.wrap (N * (1 + p)) = N * (1 + p) := IntWalk.i64_in _ (by have := HNP.out; omega)
  clear hNN hAB
  go_upto_region 6 with fail
  refine wp_region_quiet_lit (by kernel_rfl) (by kernel_rfl) (Shut.out ?_)
  repeat (refine hq_step (fun K hK => ?_); go_simp; refine hK _ ?_; clear hK K)
  refine hq_nil ?_
  rintro _ ⟨nq, rfl⟩
  go_wp2
  go_ret
  exact ⟨rfl, below_drewN HX8.out _⟩

theorem modelSpan_law (cs : Array Value) (v1 : Value) (W : World) (ht : Tab W) (h0 : Cells Tryd.prog W 25 cs.toList) (h1 : Cells Tryd.prog W 3 [v1]) :
    Calls Tryd.prog 4 #[.agg cs, v1] W fun e w' => e = .returned (.bool true) ∧ Ext W w' := by
  obtain ⟨d, pv, rfl, hpl, hd⟩ := design_of h0
  obtain ⟨n1, e1, i1⟩ := h1.i64 Tryd.underlying3
  cases e1
  exact modelSpan_walk pv d n1 W ht hpl hd i1

end Go.Proofs.YtcmbehpilldlpaaDoor
