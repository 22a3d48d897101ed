/- The contract of step.after. -/
import Derived.Test.YtcmbehpilldlpaaDoorMdF
namespace Go.Proofs.YtcmbehpilldlpaaDoor
open Go.RowKit

theorem own_shape {w : World} {base : Nat} {e : TypeId} {v : Value} {n : Nat} {xs : List Value} (h : w.ownsRow base e 1 v n xs) (hn : 0 < n) : ∃ H cap, v = .slice (some ⟨H, 0, none⟩) n cap := by
  rcases h.2 with ⟨h1, h2, _⟩ | ⟨g, cap, cur, h1, _⟩
  · subst h1
    have := h.row
    obtain ⟨a, c, e1, hr⟩ := this
    simp only [Value.slice.injEq] at e1
    omega
  · exact ⟨g, cap, h1⟩

set_option maxHeartbeats 1000000 in
theorem cloneI_any (v : Value) (l : List Int) (w : World) (h : Ints w v l) (hl : l.length ≤ 1048576) :
    Calls Tryd.prog 47 #[v] w fun e w' => ∃ v', e = .returned v' ∧ w'.ownsRow w.heap.size 3 1 v' l.length (l.map (.int .i64)) ∧ Ext w w' := by
  obtain ⟨a, cap, rfl, hr⟩ := h
  cases a with
  | none =>
    obtain ⟨h1, h2, h3⟩ := hr.none0
    obtain rfl : l = [] := List.eq_nil_of_length_eq_zero h1
    have he := fun (wx : World) (ax : Option Addr) (nx cx : Nat) => Lib.run_eql_slice_nil (P := Tryd.prog) wx 48 3 ax nx cx 0 0 Tryd.underlying48
    go_enter Tryd.func47, Tryd.ntmps47
    go_wp2
    go_ret
    exact ⟨_, rfl, World.ownsRow_nil _ _ _ _, Ext.refl _⟩
  | some p =>
    have he := fun (wx : World) (ax : Option Addr) (nx cx : Nat) => Lib.run_eql_slice_nil (P := Tryd.prog) wx 48 3 ax nx cx 0 0 Tryd.underlying48
    go_enter Tryd.func47, Tryd.ntmps47
    go_wp2_with (at_builtin; refine wpl_append rfl rfl Tryd.slInts w.heap.size rfl (World.ownsRow_lit w #[] 0 (Nat.le_refl _) (Nat.zero_le _) rfl) rfl (hr.ext ((Ext.refl w).alloc (Nat.le_refl _) _)) (by intro u hu; obtain ⟨x, _, rfl⟩ := List.mem_map.1 hu; rfl) (by unfold maxLen; omega) (by omega) (by simp) ?_)
    intro v' w1 hown1 hg1 _ _
    go_wp2
    go_ret
    exact ⟨_, rfl, by simpa using hown1, ((Ext.refl w).alloc (Nat.le_refl _) _).grown hg1 (by simp) (fun k hk => by cases hk; exact Nat.le_refl _)⟩

/-- What after answers. -/
def AfterR (r : Option (List Int)) (w : World) (e : Ending) (w' : World) : Prop :=
  Ext w w' ∧ ((r = none ∧ e = .returned (.tuple #[.slice none 0 0, .bool false])) ∨ ∃ (ys : List Int) (v : Value), r = some ys ∧ e = .returned (.tuple #[v, .bool true]) ∧ w'.ownsRow w.heap.size 3 1 v ys.length (ys.map (.int .i64)))

theorem small_of {l : List Vr} {xs : List Int} (h : ∀ v ∈ l, v.Ok) (hI : InV l xs) : ∀ x ∈ xs, Small x := by
  intro x hx
  have := inV_small h hI x hx
  unfold Small; omega

theorem setsV_cons (l : List Vr) (old : List Int) (s : Int × Tm) (ss : List (Int × Tm)) (out : List Int) (j : Nat) (hj : s.1 = (j : Int)) (hl : j < l.length) : setsV l old (s :: ss) out = match evalT old s.2 with
    | none => none
    | some n => if l[j].low ≤ n ∧ n ≤ l[j].high then setsV l old ss (out.set j n) else none := by
  have e : l.getD s.1.toNat ⟨ByteArray.empty, 0, 0, 0⟩ = l[j] := by
    rw [hj]; simp [hl]
  have e2 : s.1.toNat = j := by omega
  rw [setsV, e, e2]
  rfl

set_option maxRecDepth 100000 in
set_option maxHeartbeats 16000000 in
theorem after_any (vv rv g sv xv : Value) (m : Md) (r : Rl) (xs : List Int) (w : World) (h : IsVars w vv m.vars) (hrv : ∃ a n c, rv = .slice a n c) (hg : IsT w g r.guard) (hs : IsSets w sv r.sets) (ht : Tab w) (hv : ∀ v ∈ m.vars, v.Ok) (h6 : m.vars.length ≤ 6) (h0 : 0 < m.vars.length)
    (hr : RlPre m.vars.length r) (hx : Ints w xv xs) (hI : InV m.vars xs) :
    Calls Tryd.prog 36 #[.agg #[vv, rv], .agg #[g, sv], xv] w (AfterR (afterV m r xs) w) := by
  have hxl : xs.length = m.vars.length := hI.len
  have hsm := small_of hv hI
  have HGE := Lib.hid fun wx (hx' : Ext w wx) => eval_t g xv r.guard xs wx (hg.ext hx') (hx.ext hx') (ht.ext hx') (by rw [hxl]; exact hr.guard) hr.gsize (by omega) hsm
  have HCL := Lib.hid fun wx (hx' : Ext w wx) => cloneI_any xv xs wx (hx.ext hx') (by omega)
  obtain ⟨av, cv, rfl, _, b, off, ha, hcells⟩ := h.at
  obtain ⟨ar, nr, cr, rfl⟩ := hrv
  obtain ⟨asl, csl, rfl, _, bs, os, has, hsc⟩ := hs.at
  obtain ⟨ag, ng, cg, rfl⟩ := hg.val
  have hm6 := hr.many
  have HSE := Lib.hid fun (u : Value) (t : Tm) wx (hu : IsT w u t) (hx' : Ext w wx) (hsb : Sub t m.vars.length) (hz : t.size ≤ 60) => eval_t u xv t xs wx (hu.ext hx') (hx.ext hx') (ht.ext hx') (by rw [hxl]; exact hsb) hz (by omega) hsm
  obtain ⟨ax, cx, rfl, _⟩ := hx
  have HA := Lib.hid ha
  have HC := Lib.hid hcells
  have HAS := Lib.hid has
  have HSC := Lib.hid hsc
  have HV := Lib.hid hv
  have HRS := Lib.hid hr.sets
  have HXL := Lib.hid hxl
  obtain ⟨rg, hrg⟩ : ∃ x, evalT xs r.guard = x := ⟨_, rfl⟩
  have HAF := Lib.hid (show afterV m r xs = rg.elim none fun n => if n = 0 then none else setsV m.vars xs r.sets xs from by
    unfold afterV
    rw [hrg]
    cases rg <;> rfl)
  rw [hrg] at HGE
  obtain ⟨R, hR⟩ : ∃ R, afterV m r xs = R := ⟨_, rfl⟩
  rw [hR] at HAF ⊢
  clear h ha hcells hs has hsc hv hr hI hsm hg ht hrg hR
  have hxn : 0 < xs.length := by omega
  clear hxl
  generalize r.sets = ss at *
  generalize m.vars = l at *
  go_enter Tryd.func36, Tryd.ntmps36
  have bA := blk_new w (Obj.cells #[.slice av l.length cv, .slice ar nr cr] 29)
  have eA := ext_al (Ext.refl w) (Obj.cells #[.slice av l.length cv, .slice ar nr cr] 29)
  have bB := blk_new (w.alloc (Obj.cells #[.slice av l.length cv, .slice ar nr cr] 29)) (Obj.cells #[.slice ag ng cg, .slice asl ss.length csl] 42)
  have eB := ext_al (Ext.refl (w.alloc (Obj.cells #[.slice av l.length cv, .slice ar nr cr] 29))) (Obj.cells #[.slice ag ng cg, .slice asl ss.length csl] 42)
  have bA2 := blk_ext bA eB
  have HE := Lib.hid (eA.trans eB)
  have hws : (w.alloc (Obj.cells #[.slice av l.length cv, .slice ar nr cr] 29)).heap.size = w.heap.size + 1 := by simp
  rw [hws] at bB
  have hwm := HE.out.size
  clear bA eA eB hws
  have d0 := blk_cell bB (i := 0) rfl
  go_wp2_with fail
  generalize (w.alloc (Obj.cells #[.slice av l.length cv, .slice ar nr cr] 29)).alloc (Obj.cells #[.slice ag ng cg, .slice asl ss.length csl] 42) = W1 at *
  refine (HGE.out _ HE.out).mono ?_
  rintro e w2 ⟨hE2, rfl⟩
  have BA := Lib.hid (blk_ext bA2 hE2)
  have BB := Lib.hid (blk_ext bB hE2)
  have HE2 := Lib.hid (HE.out.trans hE2)
  clear hE2 HGE HE bA2 bB d0
  cases rg with
  | none =>
    obtain rfl : R = none := HAF.out
    clear HAF
    go_wp2
    go_ret2
    exact ⟨HE2.out, .inl ⟨rfl, rfl⟩⟩
  | some n =>
    by_cases hn : n = 0
    · obtain rfl : R = none := by rw [HAF.out]; simp [hn]
      subst hn
      clear HAF
      go_wp2
      go_ret2
      exact ⟨HE2.out, .inl ⟨rfl, rfl⟩⟩
    · have HSV := Lib.hid (show R = setsV l xs ss xs by rw [HAF.out]; simp [hn])
      have hn2 : (n == 0) = false := by rw [beq_eq_false_iff_ne]; exact hn
      clear HAF
      go_wp2_with fail
      refine (HCL.out _ HE2.out).mono ?_
      rintro e w3 ⟨v3, rfl, hown, hE3⟩
      obtain ⟨H, ch, rfl⟩ := own_shape hown hxn
      have d1 := blk_cell (blk_ext BB.out hE3) (i := 1) rfl
      have BA3 := Lib.hid (blk_ext BA.out hE3)
      have HO3 := Lib.hid hown
      have HE3 := Lib.hid (HE2.out.trans hE3)
      have hs2 := HE2.out.size
      have hs2b := blk_lt BA.out
      clear hown hE3 HCL BB BA hn hn2
      go_wp2_with fail
      clear d1
      obtain ⟨n0, hn0⟩ : ∃ n0, xs.length = n0 := ⟨_, rfl⟩
      rw [hn0] at HO3 hxn HSE ⊢
      have HN0 := Lib.hid hn0
      clear hn0
      go_loopg [34] ss.length (fun k x wr => ∃ (i : Nat) (O : List Int), k + i = ss.length ∧ x = .int .i64 (i : Int) ∧ R = setsV l xs (ss.drop i) O ∧ O.length = n0 ∧ Ext w wr ∧ wr.heap[w.heap.size]? = some (.cells #[.slice av l.length cv, .slice ar nr cr] 29 (0, 0)) ∧ wr.ownsRow w2.heap.size 3 1 (.slice (some ⟨H, 0, none⟩) n0 ch) n0 (O.map (.int .i64)))
      case atStart => exact ⟨0, xs, by omega, by go_num, by simpa using HSV.out, HN0.out, HE3.out, BA3.out, HO3.out⟩
      case round =>
        obtain ⟨i, O, hki, rfl, hRO, hOl, hE, hB, hO⟩ := hrel
        clear HO3 BA3 HE3 HSV
        have HKI := Lib.hid hki
        have HOL := Lib.hid hOl
        have hOl2 : 0 < O.length := by omega
        have HO := Lib.hid hO
        have HE := Lib.hid hE
        by_cases hi : i < ss.length
        · obtain rfl := HAS.out (by omega)
          obtain ⟨u, c0, c1, hu⟩ := HSC.out i hi
          obtain ⟨s1, s2, s3, s4, s5⟩ := HRS.out ss[i] (by simp)
          obtain ⟨j, hj⟩ : ∃ j : Nat, ss[i].1 = (j : Int) := ⟨ss[i].1.toNat, by omega⟩
          have hjl : j < l.length := by omega
          obtain rfl := HA.out (by omega)
          obtain ⟨v0, v1, v2, v3⟩ := HC.out j hjl
          have c0 := cell_later hE c0
          have c1 := cell_later hE c1
          rw [hj] at c0
          have HEV := Lib.hid fun wx (hx' : Ext w wx) => HSE.out u ss[i].2 wx hu hx' s3 s4
          obtain ⟨au, nu, cu, rfl⟩ := hu.val
          have HRO := Lib.hid (show R = match evalT xs ss[i].2 with
            | none => none
            | some n => if l[j].low ≤ n ∧ n ≤ l[j].high then setsV l xs (ss.drop (i + 1)) (O.set j n) else none by
              rw [hRO, List.drop_eq_getElem_cons hi, setsV_cons l xs ss[i] _ O j hj hjl])
          have hiI : (i : Int) < (ss.length : Int) := by omega
          have hi0 : (0 : Int) ≤ (i : Int) := by omega
          have hx0 := ext_al (Ext.refl wr) (Obj.cells #[.int .i64 (j : Int), .slice au nu cu] 39)
          have hbS := blk_new wr (Obj.cells #[.int .i64 (j : Int), .slice au nu cu] 39)
          have g0 := blk_cell hbS (i := 0) (v := .int .i64 (j : Int)) rfl
          have g1 := blk_cell hbS (i := 1) (v := .slice au nu cu) rfl
          have HBS := Lib.hid hbS
          have HX0 := Lib.hid (hE.trans hx0)
          have HB0 := Lib.hid (blk_ext hB hx0)
          have HO0 := Lib.hid (own_ext hO hx0)
          generalize hev : evalT xs ss[i].2 = rs at *
          have HV3 := Lib.hid v3
          have HV1 := Lib.hid v1
          have HV2 := Lib.hid v2
          have HV0 := Lib.hid v0
          have HJ := Lib.hid hj
          clear hE hB hO hRO hOl hki hu s3 s4 s5 hx0 hbS v0 v1 v2 v3 hev hj
          go_wp2_with fail
          generalize wr.alloc (Obj.cells #[.int .i64 (j : Int), .slice au nu cu] 39) = W3 at *
          refine (HEV.out _ HX0.out).mono ?_
          rintro e w4 ⟨hE4, rfl⟩
          have d0 := blk_cell (blk_ext HB0.out hE4) (i := 0) rfl
          have HX4 := Lib.hid (HX0.out.trans hE4)
          have v0 := cell_later HX4.out HV0.out
          have v1 := cell_later HX4.out HV1.out
          have v2 := cell_later HX4.out HV2.out
          have v3 := cell_later HX4.out HV3.out
          have hx5 := ext_al (Ext.refl w4) (Obj.cells (vrc l[j]).toArray 32)
          have hb5 := blk_new w4 (Obj.cells (vrc l[j]).toArray 32)
          simp only [vrc] at hx5 hb5
          have f1 := blk_cell hb5 (i := 1) (v := .int .i64 l[j].low) rfl
          have f2 := blk_cell hb5 (i := 2) (v := .int .i64 l[j].high) rfl
          have g00 := cell_later hE4 g0
          have g0 := blk_cell (blk_ext (blk_ext HBS.out hE4) hx5) (i := 0) (v := .int .i64 (j : Int)) rfl
          have HX5 := Lib.hid (HX4.out.trans hx5)
          have HB5 := Lib.hid (blk_ext (blk_ext HB0.out hE4) hx5)
          have hO5 := own_ext (own_ext HO0.out hE4) hx5
          have HO5 := Lib.hid hO5
          have fr := own_freeAt hO5 j
          have hjn : j < O.length := by have := HOL.out; have := HXL.out; have := HN0.out; omega
          obtain ⟨ur, cr'⟩ : ∃ u, (w4.alloc (Obj.cells #[.string l[j].name, .int .i64 l[j].low, .int .i64 l[j].high, .int .i64 l[j].init] 32)).cell? ⟨H, j, none⟩ = some u := ⟨_, own_cellAt hO5 (i := j) (by rw [List.length_map]; exact hjn)⟩
          have hHl := hO5.lt H rfl
          have hwl := blk_lt HB5.out
          have hjl2 : (j : Int) < (l.length : Int) := by omega
          have hjn2 : (j : Int) < (n0 : Int) := by have := HOL.out; omega
          have hj0 : (0 : Int) ≤ (j : Int) := by omega
          clear hE4 hx5 hb5 hO5 HX0 HB0 HO0 HBS HV0 HV1 HV2 HV3 c0 c1 HEV
          cases rs with
          | none =>
            obtain rfl : R = none := HRO.out
            go_wp2
            go_ret2
            exact ⟨HX5.out, .inl ⟨rfl, rfl⟩⟩
          | some n =>
            go_upto_region 10 with fail
            generalize w4.alloc (Obj.cells #[.string l[j].name, .int .i64 l[j].low, .int .i64 l[j].high, .int .i64 l[j].init] 32) = W5 at *
            clear v0 v1 v2 v3 d0 g1 g00
            have HLO := Lib.hid (show R = if l[j].low ≤ n ∧ n ≤ l[j].high then setsV l xs (ss.drop (i + 1)) (O.set j n) else none from HRO.out)
            generalize l[j].low = lo at *
            generalize l[j].high = hi' at *
            clear HRO
            by_cases hb : lo ≤ n ∧ n ≤ hi'
            · have q1 : ¬ n < lo := by omega
              have q2 : ¬ hi' < n := by omega
              have HR2 := Lib.hid (show R = setsV l xs (ss.drop (i + 1)) (O.set j n) by rw [HLO.out, if_pos hb])
              have hO6 := own_setAt HO5.out (i := j) (.int .i64 n)
              rw [set_mapI] at hO6
              have HO6 := Lib.hid hO6
              have HB6 := Lib.hid (blk_far HB5.out (p := ⟨H, j, none⟩) (by show H ≠ w.heap.size; omega) (.int .i64 n))
              have HE6 := Lib.hid (ext_st HX5.out (p := ⟨H, j, none⟩) (by show w.heap.size ≤ H; omega) (.int .i64 n))
              clear hO6 HLO hb
              go_wp2_with fail
              go_roundg (gk - 1)
              case measure => have := HKI.out; omega
              case rel => exact ⟨i + 1, O.set j n, by have := HKI.out; omega, by go_num, HR2.out, by rw [List.length_set]; exact HOL.out, HE6.out, HB6.out, HO6.out⟩
            · have HR2 := Lib.hid (show R = none by rw [HLO.out, if_neg hb])
              have hbb : n < lo ∨ (¬ n < lo ∧ hi' < n) := by omega
              obtain rfl : R = none := HR2.out
              clear HLO hb
              rcases hbb with q1 | ⟨q1, q2⟩
              · go_wp2
                go_ret2
                exact ⟨HX5.out, .inl ⟨rfl, rfl⟩⟩
              · go_wp2
                go_ret2
                exact ⟨HX5.out, .inl ⟨rfl, rfl⟩⟩
        · have HRO := Lib.hid (show R = some O by
            rw [hRO, List.drop_of_length_le (by omega)]; rfl)
          have hiI : ¬ (i : Int) < (ss.length : Int) := by omega
          clear hE hB hO hRO hki
          go_wp2
          go_ret2
          exact ⟨HE.out, .inr ⟨O, _, HRO.out, rfl, by rw [HOL.out]; exact own_down HO.out hs2⟩⟩

end Go.Proofs.YtcmbehpilldlpaaDoor
