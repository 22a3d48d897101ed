/- MdN: what is needed of it. No condition. -/
import Derived.Test.YtopkbjfjncpjdaaDoorMdF
import Derived.Test.YtopkbjfjncpjdaaDoorSrt
namespace Go.Proofs.YtopkbjfjncpjdaaDoor
open Go.RowKit
theorem own_shape {w : World} {base : Nat} {e : TypeId} {v : Value} {n : Nat} {xs : List Value} (h : w.ownsRow base e 1 v n xs) (hn : 0 < n) : ∃ H cap, v = .slice (some ⟨H, 0, none⟩) n cap := by
  rcases h.2 with ⟨h1, h2, _⟩ | ⟨g, cap, cur, h1, _⟩
  · subst h1
    have := h.row
    obtain ⟨a, c, e1, hr⟩ := this
    simp only [Value.slice.injEq] at e1
    omega
  · exact ⟨g, cap, h1⟩
set_option maxHeartbeats 1000000 in
theorem cloneI_any (v : Value) (l : List Int) (w : World) (h : Ints w v l) (hl : l.length ≤ 1048576) :
    Calls Tryd.prog 23 #[v] w fun e w' => ∃ v', e = .returned v' ∧ w'.ownsRow w.heap.size 3 1 v' l.length (l.map (.int .i64)) ∧ Ext w w' := by
  obtain ⟨a, cap, rfl, hr⟩ := h
  cases a with
  | none =>
    obtain ⟨h1, h2, h3⟩ := hr.none0
    obtain rfl : l = [] := List.eq_nil_of_length_eq_zero h1
    have he := fun (wx : World) (ax : Option Addr) (nx cx : Nat) => Lib.run_eql_slice_nil (P := Tryd.prog) wx 47 3 ax nx cx 0 0 Tryd.underlying47
    go_enter Tryd.func23, Tryd.ntmps23
    go_wp2
    go_ret
    exact ⟨_, rfl, World.ownsRow_nil _ _ _ _, Ext.refl _⟩
  | some p =>
    have he := fun (wx : World) (ax : Option Addr) (nx cx : Nat) => Lib.run_eql_slice_nil (P := Tryd.prog) wx 47 3 ax nx cx 0 0 Tryd.underlying47
    go_enter Tryd.func23, Tryd.ntmps23
    go_wp2_with (at_builtin; refine wpl_append rfl rfl Tryd.slInts w.heap.size rfl (World.ownsRow_lit w #[] 0 (Nat.le_refl _) (Nat.zero_le _) rfl) rfl (hr.ext ((Ext.refl w).alloc (Nat.le_refl _) _)) (by intro u hu; obtain ⟨x, _, rfl⟩ := List.mem_map.1 hu; rfl) (by unfold maxLen; omega) (by omega) (by simp) ?_)
    intro v' w1 hown1 hg1 _ _
    go_wp2
    go_ret
    exact ⟨_, rfl, by simpa using hown1, ((Ext.refl w).alloc (Nat.le_refl _) _).grown hg1 (by simp) (fun k hk => by cases hk; exact Nat.le_refl _)⟩
def AfterR (r : Option (List Int)) (w : World) (e : Ending) (w' : World) : Prop :=
  Ext w w' ∧ ((r = none ∧ e = .returned (.tuple #[.slice none 0 0, .bool false])) ∨ ∃ (ys : List Int) (v : Value), r = some ys ∧ e = .returned (.tuple #[v, .bool true]) ∧ w'.ownsRow w.heap.size 3 1 v ys.length (ys.map (.int .i64)))
theorem small_of {l : List Vr} {xs : List Int} (h : ∀ v ∈ l, v.Ok) (hI : InV l xs) : ∀ x ∈ xs, Small x := by
  intro x hx
  have := inV_small h hI x hx
  unfold Small; omega
theorem setsV_cons (l : List Vr) (old : List Int) (s : Int × Tm) (ss : List (Int × Tm)) (out : List Int) (j : Nat) (hj : s.1 = (j : Int)) (hl : j < l.length) : setsV l old (s :: ss) out = match evalT old s.2 with
    | none => none
    | some n => if l[j].low ≤ n ∧ n ≤ l[j].high then setsV l old ss (out.set j n) else none := by
  have e : l.getD s.1.toNat ⟨ByteArray.empty, 0, 0, 0⟩ = l[j] := by
    rw [hj]; simp [hl]
  have e2 : s.1.toNat = j := by omega
  rw [setsV, e, e2]
  rfl
set_option maxRecDepth 100000 in
set_option maxHeartbeats 16000000 in
theorem after_any (vv rv g sv xv : Value) (m : Md) (r : Rl) (xs : List Int) (w : World) (h : IsVars w vv m.vars) (hrv : ∃ a n c, rv = .slice a n c) (hg : IsT w g r.guard) (hs : IsSets w sv r.sets) (ht : Tab w) (hv : ∀ v ∈ m.vars, v.Ok) (h6 : m.vars.length ≤ 6) (h0 : 0 < m.vars.length)
    (hr : RlPre m.vars.length r) (hx : Ints w xv xs) (hI : InV m.vars xs) :
    Calls Tryd.prog 15 #[.agg #[vv, rv], .agg #[g, sv], xv] w (AfterR (afterV m r xs) w) := by
  have hxl : xs.length = m.vars.length := hI.len
  have hsm := small_of hv hI
  have HGE := Lib.hid fun wx (hx' : Ext w wx) => eval_t g xv r.guard xs wx (hg.ext hx') (hx.ext hx') (ht.ext hx') (by rw [hxl]; exact hr.guard) hr.gsize (by omega) hsm
  have HCL := Lib.hid fun wx (hx' : Ext w wx) => cloneI_any xv xs wx (hx.ext hx') (by omega)
  obtain ⟨av, cv, rfl, _, b, off, ha, hcells⟩ := h.at
  obtain ⟨ar, nr, cr, rfl⟩ := hrv
  obtain ⟨asl, csl, rfl, _, bs, os, has, hsc⟩ := hs.at
  obtain ⟨ag, ng, cg, rfl⟩ := hg.val
  have hm6 := hr.many
  have HSE := Lib.hid fun (u : Value) (t : Tm) wx (hu : IsT w u t) (hx' : Ext w wx) (hsb : Sub t m.vars.length) (hz : t.size ≤ 60) => eval_t u xv t xs wx (hu.ext hx') (hx.ext hx') (ht.ext hx') (by rw [hxl]; exact hsb) hz (by omega) hsm
  obtain ⟨ax, cx, rfl, _⟩ := hx
  have HA := Lib.hid ha
  have HC := Lib.hid hcells
  have HAS := Lib.hid has
  have HSC := Lib.hid hsc
  have HV := Lib.hid hv
  have HRS := Lib.hid hr.sets
  have HXL := Lib.hid hxl
  obtain ⟨rg, hrg⟩ : ∃ x, evalT xs r.guard = x := ⟨_, rfl⟩
  have HAF := Lib.hid (show afterV m r xs = rg.elim none fun n => if n = 0 then none else setsV m.vars xs r.sets xs from by
    unfold afterV
    rw [hrg]
    cases rg <;> rfl)
  rw [hrg] at HGE
  obtain ⟨R, hR⟩ : ∃ R, afterV m r xs = R := ⟨_, rfl⟩
  rw [hR] at HAF ⊢
  clear h ha hcells hs has hsc hv hr hI hsm hg ht hrg hR
  have hxn : 0 < xs.length := by omega
  clear hxl
  generalize r.sets = ss at *
  generalize m.vars = l at *
  go_enter Tryd.func15, Tryd.ntmps15
  have bA := blk_new w (Obj.cells #[.slice av l.length cv, .slice ar nr cr] 29)
  have eA := ext_al (Ext.refl w) (Obj.cells #[.slice av l.length cv, .slice ar nr cr] 29)
  have bB := blk_new (w.alloc (Obj.cells #[.slice av l.length cv, .slice ar nr cr] 29)) (Obj.cells #[.slice ag ng cg, .slice asl ss.length csl] 40)
  have eB := ext_al (Ext.refl (w.alloc (Obj.cells #[.slice av l.length cv, .slice ar nr cr] 29))) (Obj.cells #[.slice ag ng cg, .slice asl ss.length csl] 40)
  have bA2 := blk_ext bA eB
  have HE := Lib.hid (eA.trans eB)
  have hws : (w.alloc (Obj.cells #[.slice av l.length cv, .slice ar nr cr] 29)).heap.size = w.heap.size + 1 := by simp
  rw [hws] at bB
  have hwm := HE.out.size
  clear bA eA eB hws
  have d0 := blk_cell bB (i := 0) rfl
  go_wp2_with fail
  generalize (w.alloc (Obj.cells #[.slice av l.length cv, .slice ar nr cr] 29)).alloc (Obj.cells #[.slice ag ng cg, .slice asl ss.length csl] 40) = W1 at *
  refine (HGE.out _ HE.out).mono ?_
  rintro e w2 ⟨hE2, rfl⟩
  have BA := Lib.hid (blk_ext bA2 hE2)
  have BB := Lib.hid (blk_ext bB hE2)
  have HE2 := Lib.hid (HE.out.trans hE2)
  clear hE2 HGE HE bA2 bB d0
  cases rg with
  | none =>
    obtain rfl : R = none := HAF.out
    clear HAF
    go_wp2
    go_ret2
    exact ⟨HE2.out, .inl ⟨rfl, rfl⟩⟩
  | some n =>
    by_cases hn : n = 0
    · obtain rfl : R = none := by rw [HAF.out]; simp [hn]
      subst hn
      clear HAF
      go_wp2
      go_ret2
      exact ⟨HE2.out, .inl ⟨rfl, rfl⟩⟩
    · have HSV := Lib.hid (show R = setsV l xs ss xs by rw [HAF.out]; simp [hn])
      have hn2 : (n == 0) = false := by rw [beq_eq_false_iff_ne]; exact hn
      clear HAF
      go_wp2_with fail
      refine (HCL.out _ HE2.out).mono ?_
      rintro e w3 ⟨v3, rfl, hown, hE3⟩
      obtain ⟨H, ch, rfl⟩ := own_shape hown hxn
      have d1 := blk_cell (blk_ext BB.out hE3) (i := 1) rfl
      have BA3 := Lib.hid (blk_ext BA.out hE3)
      have HO3 := Lib.hid hown
      have HE3 := Lib.hid (HE2.out.trans hE3)
      have hs2 := HE2.out.size
      have hs2b := blk_lt BA.out
      clear hown hE3 HCL BB BA hn hn2
      go_wp2_with fail
      clear d1
      obtain ⟨n0, hn0⟩ : ∃ n0, xs.length = n0 := ⟨_, rfl⟩
      rw [hn0] at HO3 hxn HSE ⊢
      have HN0 := Lib.hid hn0
      clear hn0
      go_loopg [34] ss.length (fun k x wr => ∃ (i : Nat) (O : List Int), k + i = ss.length ∧ x = .int .i64 (i : Int) ∧ R = setsV l xs (ss.drop i) O ∧ O.length = n0 ∧ Ext w wr ∧ wr.heap[w.heap.size]? = some (.cells #[.slice av l.length cv, .slice ar nr cr] 29 (0, 0)) ∧ wr.ownsRow w2.heap.size 3 1 (.slice (some ⟨H, 0, none⟩) n0 ch) n0 (O.map (.int .i64)))
      case atStart => exact ⟨0, xs, by omega, by go_num, by simpa using HSV.out, HN0.out, HE3.out, BA3.out, HO3.out⟩
      case round =>
        obtain ⟨i, O, hki, rfl, hRO, hOl, hE, hB, hO⟩ := hrel
        clear HO3 BA3 HE3 HSV
        have HKI := Lib.hid hki
        have HOL := Lib.hid hOl
        have hOl2 : 0 < O.length := by omega
        have HO := Lib.hid hO
        have HE := Lib.hid hE
        by_cases hi : i < ss.length
        · obtain rfl := HAS.out (by omega)
          obtain ⟨u, c0, c1, hu⟩ := HSC.out i hi
          obtain ⟨s1, s2, s3, s4, s5⟩ := HRS.out ss[i] (by simp)
          obtain ⟨j, hj⟩ : ∃ j : Nat, ss[i].1 = (j : Int) := ⟨ss[i].1.toNat, by omega⟩
          have hjl : j < l.length := by omega
          obtain rfl := HA.out (by omega)
          obtain ⟨v0, v1, v2, v3⟩ := HC.out j hjl
          have c0 := cell_later hE c0
          have c1 := cell_later hE c1
          rw [hj] at c0
          have HEV := Lib.hid fun wx (hx' : Ext w wx) => HSE.out u ss[i].2 wx hu hx' s3 s4
          obtain ⟨au, nu, cu, rfl⟩ := hu.val
          have HRO := Lib.hid (show R = match evalT xs ss[i].2 with
            | none => none
            | some n => if l[j].low ≤ n ∧ n ≤ l[j].high then setsV l xs (ss.drop (i + 1)) (O.set j n) else none by
              rw [hRO, List.drop_eq_getElem_cons hi, setsV_cons l xs ss[i] _ O j hj hjl])
          have hiI : (i : Int) < (ss.length : Int) := by omega
          have hi0 : (0 : Int) ≤ (i : Int) := by omega
          have hx0 := ext_al (Ext.refl wr) (Obj.cells #[.int .i64 (j : Int), .slice au nu cu] 45)
          have hbS := blk_new wr (Obj.cells #[.int .i64 (j : Int), .slice au nu cu] 45)
          have g0 := blk_cell hbS (i := 0) (v := .int .i64 (j : Int)) rfl
          have g1 := blk_cell hbS (i := 1) (v := .slice au nu cu) rfl
          have HBS := Lib.hid hbS
          have HX0 := Lib.hid (hE.trans hx0)
          have HB0 := Lib.hid (blk_ext hB hx0)
          have HO0 := Lib.hid (own_ext hO hx0)
          generalize hev : evalT xs ss[i].2 = rs at *
          have HV3 := Lib.hid v3
          have HV1 := Lib.hid v1
          have HV2 := Lib.hid v2
          have HV0 := Lib.hid v0
          have HJ := Lib.hid hj
          clear hE hB hO hRO hOl hki hu s3 s4 s5 hx0 hbS v0 v1 v2 v3 hev hj
          go_wp2_with fail
          generalize wr.alloc (Obj.cells #[.int .i64 (j : Int), .slice au nu cu] 45) = W3 at *
          refine (HEV.out _ HX0.out).mono ?_
          rintro e w4 ⟨hE4, rfl⟩
          have d0 := blk_cell (blk_ext HB0.out hE4) (i := 0) rfl
          have HX4 := Lib.hid (HX0.out.trans hE4)
          have v0 := cell_later HX4.out HV0.out
          have v1 := cell_later HX4.out HV1.out
          have v2 := cell_later HX4.out HV2.out
          have v3 := cell_later HX4.out HV3.out
          have hx5 := ext_al (Ext.refl w4) (Obj.cells (vrc l[j]).toArray 43)
          have hb5 := blk_new w4 (Obj.cells (vrc l[j]).toArray 43)
          simp only [vrc] at hx5 hb5
          have f1 := blk_cell hb5 (i := 1) (v := .int .i64 l[j].low) rfl
          have f2 := blk_cell hb5 (i := 2) (v := .int .i64 l[j].high) rfl
          have g00 := cell_later hE4 g0
          have g0 := blk_cell (blk_ext (blk_ext HBS.out hE4) hx5) (i := 0) (v := .int .i64 (j : Int)) rfl
          have HX5 := Lib.hid (HX4.out.trans hx5)
          have HB5 := Lib.hid (blk_ext (blk_ext HB0.out hE4) hx5)
          have hO5 := own_ext (own_ext HO0.out hE4) hx5
          have HO5 := Lib.hid hO5
          have fr := own_freeAt hO5 j
          have hjn : j < O.length := by have := HOL.out; have := HXL.out; have := HN0.out; omega
          obtain ⟨ur, cr'⟩ : ∃ u, (w4.alloc (Obj.cells #[.string l[j].name, .int .i64 l[j].low, .int .i64 l[j].high, .int .i64 l[j].init] 43)).cell? ⟨H, j, none⟩ = some u := ⟨_, own_cellAt hO5 (i := j) (by rw [List.length_map]; exact hjn)⟩
          have hHl := hO5.lt H rfl
          have hwl := blk_lt HB5.out
          have hjl2 : (j : Int) < (l.length : Int) := by omega
          have hjn2 : (j : Int) < (n0 : Int) := by have := HOL.out; omega
          have hj0 : (0 : Int) ≤ (j : Int) := by omega
          clear hE4 hx5 hb5 hO5 HX0 HB0 HO0 HBS HV0 HV1 HV2 HV3 c0 c1 HEV
          cases rs with
          | none =>
            obtain rfl : R = none := HRO.out
            go_wp2
            go_ret2
            exact ⟨HX5.out, .inl ⟨rfl, rfl⟩⟩
          | some n =>
            go_upto_region 10 with fail
            generalize w4.alloc (Obj.cells #[.string l[j].name, .int .i64 l[j].low, .int .i64 l[j].high, .int .i64 l[j].init] 43) = W5 at *
            clear v0 v1 v2 v3 d0 g1 g00
            have HLO := Lib.hid (show R = if l[j].low ≤ n ∧ n ≤ l[j].high then setsV l xs (ss.drop (i + 1)) (O.set j n) else none from HRO.out)
            generalize l[j].low = lo at *
            generalize l[j].high = hi' at *
            clear HRO
            by_cases hb : lo ≤ n ∧ n ≤ hi'
            · have q1 : ¬ n < lo := by omega
              have q2 : ¬ hi' < n := by omega
              have HR2 := Lib.hid (show R = setsV l xs (ss.drop (i + 1)) (O.set j n) by rw [HLO.out, if_pos hb])
              have hO6 := own_setAt HO5.out (i := j) (.int .i64 n)
              rw [set_mapI] at hO6
              have HO6 := Lib.hid hO6
              have HB6 := Lib.hid (blk_far HB5.out (p := ⟨H, j, none⟩) (by show H ≠ w.heap.size; omega) (.int .i64 n))
              have HE6 := Lib.hid (ext_st HX5.out (p := ⟨H, j, none⟩) (by show w.heap.size ≤ H; omega) (.int .i64 n))
              clear hO6 HLO hb
              go_wp2_with fail
              go_roundg (gk - 1)
              case measure => have := HKI.out; omega
              case rel => exact ⟨i + 1, O.set j n, by have := HKI.out; omega, by go_num, HR2.out, by rw [List.length_set]; exact HOL.out, HE6.out, HB6.out, HO6.out⟩
            · have HR2 := Lib.hid (show R = none by rw [HLO.out, if_neg hb])
              have hbb : n < lo ∨ (¬ n < lo ∧ hi' < n) := by omega
              obtain rfl : R = none := HR2.out
              clear HLO hb
              rcases hbb with q1 | ⟨q1, q2⟩
              · go_wp2
                go_ret2
                exact ⟨HX5.out, .inl ⟨rfl, rfl⟩⟩
              · go_wp2
                go_ret2
                exact ⟨HX5.out, .inl ⟨rfl, rfl⟩⟩
        · have HRO := Lib.hid (show R = some O by
            rw [hRO, List.drop_of_length_le (by omega)]; rfl)
          have hiI : ¬ (i : Int) < (ss.length : Int) := by omega
          clear hE hB hO hRO hki
          go_wp2
          go_ret2
          exact ⟨HE.out, .inr ⟨O, _, HRO.out, rfl, by rw [HOL.out]; exact own_down HO.out hs2⟩⟩
end Go.Proofs.YtopkbjfjncpjdaaDoor
namespace Go.Proofs.YtopkbjfjncpjdaaDoor
open Go.RowKit
theorem Row.oneM (w : World) (t : TypeId) (x : Value) (k : Nat) (hk : k = w.heap.size) : Row (w.alloc (.cells #[x] t)) 1 (some ⟨k, 0, none⟩) 1 1 [x] := by subst hk; exact Row.one w t x
def Md.first (m : Md) : Int := codeL m.vars (m.vars.map (·.init)) 0
end Go.Proofs.YtopkbjfjncpjdaaDoor
namespace Go.Proofs.YtopkbjfjncpjdaaDoor
open Go.RowKit
theorem behindL_snoc (m : Md) (xs : List Int) {l : List Rl} {i : Nat} (hi : i < l.length) : behindL m xs (l.take (i + 1)) = behindL m xs (l.take i) ++ (match afterV m l[i] xs with
    | none => []
    | some ys => [codeL m.vars ys 0]) := by
  rw [List.take_succ_eq_append_getElem hi, behindL_app]
  congr 1
  cases h : afterV m l[i] xs <;> simp [behindL, h]
def behV (m : Md) (xs : List Int) (l : List Rl) (i : Nat) : List Value := (behindL m xs (l.take i)).map (.int .i64)
theorem behV_none {m : Md} {xs : List Int} {l : List Rl} {i : Nat} (hi : i < l.length) (h : afterV m l[i] xs = none) : behV m xs l (i + 1) = behV m xs l i ∧ (behindL m xs (l.take (i + 1))).length = (behindL m xs (l.take i)).length := by
  unfold behV
  rw [behindL_snoc m xs hi, h]
  simp
theorem behV_some {m : Md} {xs ys : List Int} {l : List Rl} {i : Nat} (hi : i < l.length) (h : afterV m l[i] xs = some ys) : behV m xs l (i + 1) = behV m xs l i ++ [.int .i64 (codeL m.vars ys 0)] ∧ (behindL m xs (l.take (i + 1))).length = (behindL m xs (l.take i)).length + 1 := by
  unfold behV
  rw [behindL_snoc m xs hi, h]
  simp
set_option maxRecDepth 100000 in
set_option maxHeartbeats 16000000 in
theorem next_any (vv rv xv : Value) (m : Md) (xs : List Int) (w : World) (h : IsMd w vv rv m) (ht : Tab w) (hp : m.Ok) (h0 : 0 < m.vars.length) (hx : Ints w xv xs) (hI : InV m.vars xs) :
    Calls Tryd.prog 17 #[.agg #[vv, rv], xv] w fun e w' => ∃ v, e = .returned v ∧ w'.ownsRow w.heap.size 3 1 v (setL (behindL m xs m.rules)).length ((setL (behindL m xs m.rules)).map (.int .i64)) ∧ Ext w w' := by
  obtain ⟨av, cv, rfl⟩ := EachL.val h.vars
  obtain ⟨a, c, rfl, _, b, off, ha, hcells⟩ := h.rules.at
  have h12 := hp.twelve
  have hbk := blk_new w (Obj.cells #[.slice av m.vars.length cv, .slice a m.rules.length c] 29)
  have hE0 := ext_al (Ext.refl w) (Obj.cells #[.slice av m.vars.length cv, .slice a m.rules.length c] 29)
  have HAF := Lib.hid fun (g s : Value) (r : Rl) wx (hr : r ∈ m.rules) (hg : IsT w g r.guard) (hs : IsSets w s r.sets) (hx' : Ext w wx) => after_any (.slice av m.vars.length cv) (.slice a m.rules.length c) g s xv m r xs wx (h.vars.ext hx') ⟨_, _, _, rfl⟩ (hg.ext hx') (hs.ext hx') (ht.ext hx') hp.vars hp.six h0 (hp.rules r hr) (hx.ext hx') hI
  have HCO := Lib.hid fun (v : Value) (ys : List Int) wx (hx' : Ext w wx) (hy : Ints wx v ys) (hb : InV m.vars ys) => code_any (.slice av m.vars.length cv) (.slice a m.rules.length c) v m ys wx (h.ext hx') (ht.ext hx') hp hy (fun x hxy => by
    have := inV_small hp.vars hb x hxy
    unfold I64; omega)
  have HIN := Lib.hid fun (r : Rl) (ys : List Int) (hr : r ∈ m.rules) (he : afterV m r xs = some ys) => afterV_in (hp.rules r hr) hI he
  have HA := Lib.hid ha
  have HC := Lib.hid hcells
  obtain ⟨ax, cx, rfl, _⟩ := hx
  have HL5 := Lib.hid fun (i : Nat) => (show (behindL m xs (m.rules.take i)).length ≤ 12 from Nat.le_trans (behindL_len m xs _) (by rw [List.length_take]; omega))
  clear h ht hp hcells ha
  obtain ⟨l, hl⟩ : ∃ l, m.rules = l := ⟨_, rfl⟩
  rw [hl] at HAF HCO HIN HA HC HL5 h12 hbk hE0 ⊢
  clear hl
  generalize m.vars.length = nv at *
  generalize xs.length = nx at *
  go_enter Tryd.func17, Tryd.ntmps17
  have d1 := blk_cell hbk (i := 1) (v := .slice a l.length c) rfl
  have HB := Lib.hid hbk
  have HE := Lib.hid hE0
  clear hbk hE0
  go_wp2_with fail
  generalize w.alloc (Obj.cells #[.slice av nv cv, .slice a l.length c] 29) = W1 at *
  clear d1
  have HO0 := Lib.hid (show W1.ownsRow W1.heap.size 3 1 (.slice none 0 0) (behindL m xs (l.take 0)).length (behV m xs l 0) from World.ownsRow_nil _ _ _ _)
  go_loopg [15, 5] l.length (fun k x s wr => ∃ (i : Nat) (as' : Option Addr) (cs' : Nat), k + i = l.length ∧ x = .int .i64 (i : Int) ∧ s = .slice as' (behindL m xs (l.take i)).length cs' ∧ Ext W1 wr ∧ wr.ownsRow W1.heap.size 3 1 (.slice as' (behindL m xs (l.take i)).length cs') (behindL m xs (l.take i)).length (behV m xs l i))
  case atStart => exact ⟨0, none, 0, by omega, by go_num, rfl, Ext.refl _, HO0.out⟩
  case round =>
    obtain ⟨i, as', cs', hki, rfl, rfl, hE, hO⟩ := hrel
    clear HO0
    have HKI := Lib.hid hki
    have HX := Lib.hid hE
    have HXW := Lib.hid (HE.out.trans hE)
    by_cases hi : i < l.length
    · obtain rfl := HA.out (by omega)
      obtain ⟨g, s, c0, c1, hg, hs⟩ := HC.out i hi
      have c0 := cell_later HXW.out c0
      have c1 := cell_later HXW.out c1
      have hiI : (i : Int) < (l.length : Int) := by omega
      have hi0 : (0 : Int) ≤ (i : Int) := by omega
      have hx3 := ext_al (Ext.refl wr) (Obj.cells #[g, s] 40)
      have hb3 := blk_new wr (Obj.cells #[g, s] 40)
      have HAR := Lib.hid (HAF.out g s l[i] _ (by simp) hg hs (HXW.out.trans hx3))
      have HX3 := Lib.hid (HX.out.trans hx3)
      have d0 := blk_cell (blk_ext HB.out HX3.out) (i := 0) (v := .slice av nv cv) rfl
      have d1 := blk_cell (blk_ext HB.out HX3.out) (i := 1) (v := .slice (some ⟨b, off, none⟩) l.length c) rfl
      have e1 := blk_cell (blk_ext HB.out HX.out) (i := 1) (v := .slice (some ⟨b, off, none⟩) l.length c) rfl
      have r0 := blk_cell hb3 (i := 0) (v := g) rfl
      have r1 := blk_cell hb3 (i := 1) (v := s) rfl
      have HO3 := Lib.hid (own_ext hO hx3)
      obtain ⟨ag, ng, cg, rfl⟩ := hg.val
      obtain ⟨asl, csl, rfl⟩ := EachL.val hs
      obtain ⟨nss, hnss⟩ : ∃ n, l[i].sets.length = n := ⟨_, rfl⟩
      rw [hnss] at HAR hx3 hb3 HX3 d0 d1 r0 r1 HO3 c1
      have HIN2 := Lib.hid fun (ys : List Int) (he : afterV m l[i] xs = some ys) => HIN.out l[i] ys (by simp) he
      have HBN := Lib.hid fun (he : afterV m l[i] xs = none) => behV_none hi he
      have HBS := Lib.hid fun (ys : List Int) (he : afterV m l[i] xs = some ys) => behV_some hi he
      have h5 := HL5.out i
      generalize afterV m l[i] xs = ra at *
      clear hE hO hki hg hs hb3 hx3 hnss
      go_wp2_with fail
      generalize wr.alloc (Obj.cells #[.slice ag ng cg, .slice asl nss csl] 40) = W3 at *
      refine HAR.out.mono ?_
      rintro e w4 ⟨hE4, ⟨rfl, rfl⟩ | ⟨ys, v4, rfl, rfl, hown4⟩⟩
      · have HO4 := Lib.hid (own_ext HO3.out hE4)
        have HX4 := Lib.hid (HX3.out.trans hE4)
        obtain ⟨hn1, hn2⟩ := HBN.out rfl
        have HN1 := Lib.hid hn1
        have HN2 := Lib.hid hn2
        clear hE4 hn1 hn2 HAR HBN HBS HIN2 d0 d1 e1 r0 r1 c0 c1 HO3 HX3
        go_wp2_with fail
        go_roundg (gk - 1)
        case measure => have := HKI.out; omega
        case rel => exact ⟨i + 1, as', cs', by have := HKI.out; omega, by go_num, by rw [HN2.out], HX4.out, by rw [HN1.out, HN2.out]; exact HO4.out⟩
      · have hO4 := own_ext HO3.out hE4
        have HX4 := Lib.hid (HX3.out.trans hE4)
        have HYI := Lib.hid (HIN2.out ys rfl)
        obtain ⟨hn1, hn2⟩ := HBS.out ys rfl
        have HCC := Lib.hid (HCO.out v4 ys w4 (HE.out.trans HX4.out) (show Ints w4 v4 ys from hown4.reads) HYI.out)
        have d0 := cell_later hE4 d0
        have d1 := cell_later hE4 d1
        have HO4 := Lib.hid hO4
        have HN1 := Lib.hid hn1
        have HN2 := Lib.hid hn2
        obtain ⟨a4, c4, rfl, _⟩ := hown4.row
        clear hE4 hn1 hn2 HAR HBN HBS HIN2 e1 r0 r1 c0 c1 HO3 HX3 hO4 hown4
        go_wp2_with fail
        refine HCC.out.mono ?_
        rintro e w5 ⟨n, k, rfl, hce, hE5⟩
        obtain ⟨hnn, rfl⟩ : n = codeL m.vars ys 0 ∧ k = 0 := by
          rcases hce with ⟨_, h1, h2⟩ | ⟨h1, _⟩
          · exact ⟨h1, h2⟩
          · exact absurd HYI.out h1
        have HNN := Lib.hid hnn
        have HX5 := Lib.hid (HX4.out.trans hE5)
        have HO5 := Lib.hid fun (o : Obj) => own_ext (own_ext HO4.out hE5) (ext_al (Ext.refl w5) o)
        have h15 := HX5.out.size
        clear hce hnn hE5 d0 d1 HO4 HX4 HCC
        go_wp2_with (at_builtin; go_must (refine wpl_append rfl rfl Tryd.slInts W1.heap.size rfl (HO5.out _) rfl (Row.oneM _ _ _ _ (by simp)) (one_int _) (by unfold maxLen; omega) (by omega) (by simp; omega) ?_))
        intro v6 w6 hown6 hg6 hb6 _
        obtain ⟨a6, c6, rfl, _⟩ := hown6.row
        have HE6 := Lib.hid (show Ext W1 w6 from Below.grown (HX5.out.trans (ext_al (Ext.refl w5) _)) hg6 (by simp; omega) (fun b hb => ((HO5.out (Obj.cells #[] 0)).lt b hb).1))
        rw [HNN.out, ← HN1.out, ← HN2.out] at hown6
        have HO6 := Lib.hid hown6
        clear hown6 hg6 hb6
        go_wp2_with fail
        go_roundg (gk - 1)
        case measure => have := HKI.out; omega
        case rel => exact ⟨i + 1, a6, c6, by have := HKI.out; omega, by go_num, by rw [HN2.out], HE6.out, HO6.out⟩
    · obtain rfl : i = l.length := by omega
      have hiI : ¬ (l.length : Int) < (l.length : Int) := by omega
      have h5 := HL5.out l.length
      have hO2 := hO
      unfold behV at hO2
      rw [List.take_length] at hO2 h5
      have HSO := Lib.hid (sortI_any _ _ W1.heap.size wr hO2 (by omega))
      obtain ⟨L, hL⟩ : ∃ L, behindL m xs l = L := ⟨_, rfl⟩
      rw [List.take_length, hL]
      rw [hL] at HSO h5
      have HSL := Lib.hid (show setL (behindL m xs l) = Lib.compact (sortL L) by rw [hL]; rfl)
      have hew := HE.out.size
      clear hE hO hki hO2 HAF HCO HIN
      go_wp2_with fail
      refine HSO.out.mono ?_
      rintro e w5 ⟨rfl, hown5, hg5⟩
      have hown5' : w5.ownsRow W1.heap.size 3 1 (.slice as' L.length cs') (sortL L).length ((sortL L).map (.int .i64)) := by rw [sortL_len]; exact hown5
      have HCC := Lib.hid (compactI_any _ (sortL L) W1.heap.size w5 hown5' (by rw [sortL_len]; omega))
      have HE5 := Lib.hid (show Ext W1 w5 from Below.grown HX.out hg5 HX.out.size (fun b hb => (hown5.lt b hb).1))
      have HB5 := Lib.hid fun b hb => (hown5.lt b hb).1
      clear hown5 hown5' hg5 HSO
      go_wp2_with fail
      refine HCC.out.mono ?_
      rintro e w6 ⟨v6, rfl, hown6, hg6, hb6⟩
      have HE6 := Lib.hid (show Ext W1 w6 from Below.grown HE5.out hg6 HE5.out.size HB5.out)
      have HO6 := Lib.hid hown6
      obtain ⟨a6, c6, rfl, _⟩ := hown6.row
      clear hown6 hg6 hb6
      go_wp2
      go_ret
      exact ⟨.slice a6 (Lib.compact (sortL L)).length c6, rfl, by rw [HSL.out]; exact own_down HO6.out hew, HE.out.trans HE6.out⟩
def nextL (m : Md) (c : Int) : List Int := if behindL m (valsL m.vars c) m.rules = [] then [c] else setL (behindL m (valsL m.vars c) m.rules)
theorem nextL_ok (m : Md) (c : Int) : NextL m c (nextL m c) := by
  obtain ⟨h1, h2⟩ := setL_up (behindL m (valsL m.vars c) m.rules)
  unfold nextL
  split
  · rename_i h
    exact ⟨by simp [Rises], fun d => by unfold NextP; rw [h]; simp⟩
  · rename_i h
    refine ⟨h1, fun d => ?_⟩
    rw [h2]
    unfold NextP
    constructor
    · exact .inl
    · rintro (h3 | ⟨h3, _⟩)
      · exact h3
      · exact absurd h3 h
set_option maxRecDepth 100000 in
set_option maxHeartbeats 8000000 in
theorem nextE_any (vv rv : Value) (m : Md) (c : Int) (w : World) (h : IsMd w vv rv m) (ht : Tab w) (hp : m.Ok) (h0 : 0 < m.vars.length) (hc0 : 0 ≤ c) (hc1 : c < countL m.vars) :
    Calls Tryd.prog 9 #[.agg #[vv, rv], .int .i64 c] w fun e w' => ∃ v, e = .returned (.tuple #[v, .int .i64 0]) ∧ w'.ownsRow w.heap.size 3 1 v (nextL m c).length ((nextL m c).map (.int .i64)) ∧ Ext w w' := by
  have hvi := digL_in hp.vars c
  have hvl := valsL_len m.vars c
  have HVA := Lib.hid fun wx (hx : Ext w wx) => values_any vv rv m c wx (h.ext hx) (ht.ext hx) hp hc0 hc1
  have HNX := Lib.hid fun wx (xv : Value) (hx : Ext w wx) (hi : Ints wx xv (valsL m.vars c)) => next_any vv rv xv m (valsL m.vars c) wx (h.ext hx) (ht.ext hx) hp h0 hi hvi
  have HNL := Lib.hid (show nextL m c = if behindL m (valsL m.vars c) m.rules = [] then [c] else setL (behindL m (valsL m.vars c) m.rules) from rfl)
  have hsl := setL_len (behindL m (valsL m.vars c) m.rules)
  have hbl := behindL_len m (valsL m.vars c) m.rules
  have h12 := hp.twelve
  have HNE := Lib.hid (show behindL m (valsL m.vars c) m.rules = [] ↔ (setL (behindL m (valsL m.vars c) m.rules)).length = 0 from by
    have hm := (setL_up (behindL m (valsL m.vars c) m.rules)).2
    constructor
    · intro e
      have e2 : (behindL m (valsL m.vars c) m.rules).length = 0 := by rw [e]; rfl
      omega
    · intro e
      have e2 := List.eq_nil_of_length_eq_zero e
      cases hb : behindL m (valsL m.vars c) m.rules with
      | nil => rfl
      | cons x r =>
        have := (hm x).2 (by rw [hb]; simp)
        rw [e2] at this
        simp at this)
  obtain ⟨av, cv, rfl⟩ := EachL.val h.vars
  obtain ⟨a, cr, rfl⟩ := EachL.val h.rules
  have hbk := blk_new w (Obj.cells #[.slice av m.vars.length cv, .slice a m.rules.length cr] 29)
  have HE := Lib.hid (ext_al (Ext.refl w) (Obj.cells #[.slice av m.vars.length cv, .slice a m.rules.length cr] 29))
  generalize nextL m c = L at *
  generalize valsL m.vars c = xs at *
  have hS : (setL (behindL m xs m.rules)).length ≤ 12 := by omega
  generalize setL (behindL m xs m.rules) = S at *
  clear h ht hp hvi hsl hbl
  generalize m.rules.length = nr at *
  generalize m.vars.length = nv at *
  go_enter Tryd.func9, Tryd.ntmps9
  have HB := Lib.hid hbk
  clear hbk
  go_wp2_with fail
  generalize w.alloc (Obj.cells #[.slice av nv cv, .slice a nr cr] 29) = W1 at *
  refine (HVA.out _ HE.out).mono ?_
  rintro e w2 ⟨xv, rfl, hox, hE2⟩
  have HE2 := Lib.hid (HE.out.trans hE2)
  have d0 := blk_cell (blk_ext HB.out hE2) (i := 0) rfl
  have d1 := blk_cell (blk_ext HB.out hE2) (i := 1) rfl
  have HNC := Lib.hid (HNX.out w2 xv HE2.out (by
    have h := hox.reads
    unfold Ints
    rw [hvl]
    exact h))
  obtain ⟨ax, cx, rfl, _⟩ := hox.row
  clear hox hE2 HNX HVA
  go_wp2_with fail
  refine HNC.out.mono ?_
  rintro e w3 ⟨v3, rfl, ho3, hE3⟩
  have HE3 := Lib.hid (HE2.out.trans hE3)
  have HO3 := Lib.hid ho3
  obtain ⟨a3, c3, rfl, _⟩ := ho3.row
  have h23 := HE2.out.size
  have h33 := hE3.size
  clear ho3 hE3 HNC d0 d1
  by_cases he : S.length = 0
  · have HL := Lib.hid (show L = [c] by rw [HNL.out, if_pos (HNE.out.2 he)])
    have hse : (S.length : Int) = 0 := by omega
    have HSN := Lib.hid (show S.map (Value.int .i64) = [] by rw [List.eq_nil_of_length_eq_zero he]; rfl)
    have HO4 := Lib.hid fun (o : Obj) => own_ext HO3.out (ext_al (Ext.refl w3) o)
    rw [HSN.out] at HO4
    generalize S.length = ns at *
    obtain rfl : ns = 0 := he
    clear hse HNE HO3 HNL
    go_wp2_with (at_builtin; go_must (refine wpl_append rfl rfl Tryd.slInts w2.heap.size rfl (HO4.out _) rfl (Row.oneM _ _ _ _ (by simp)) (one_int _) (by unfold maxLen; omega) (by omega) (by simp; omega) ?_))
    intro v6 w6 hown6 hg6 hb6 _
    obtain ⟨a6, c6, rfl, _⟩ := hown6.row
    have HE6 := Lib.hid (show Ext w w6 from Below.grown (HE3.out.trans (ext_al (Ext.refl w3) _)) hg6 (by simp; omega) (fun b hb => by have := ((HO4.out (Obj.cells #[] 0)).lt b hb).1; omega))
    have HO6 := Lib.hid hown6
    clear hown6 hg6 hb6
    go_wp2
    go_ret2
    exact ⟨_, rfl, by rw [HL.out]; exact own_down HO6.out h23, HE6.out⟩
  · have HL := Lib.hid (show L = S by rw [HNL.out, if_neg (fun h => he (HNE.out.1 h))])
    have hse : ((S.length : Int) == 0) = false := by rw [beq_eq_false_iff_ne]; omega
    have HSL := Lib.hid he
    clear HNE HNL he
    go_wp2
    go_ret2
    exact ⟨_, rfl, by rw [HL.out]; exact own_down HO3.out h23, HE3.out⟩
end Go.Proofs.YtopkbjfjncpjdaaDoor
