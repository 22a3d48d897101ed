/- Several texts in one: Srt; MdN; MdV; MdR; MdX; FormP; LogA. No condition. -/
import Derived.Test.YtbmimdnpchldlaaGreatDoorKt1
import Derived.Test.YtbmimdnpchldlaaGreatDoorKt10
import Derived.Test.YtbmimdnpchldlaaGreatDoorShelf
import Derived.Sort.OwnSortedInts
import Derived.Lib.SlicesCompact
import Derived.Deep.DeepCutAuto
import Derived.Deep.RegionLaw
import Derived.Test.YtbmimdnpchldlaaGreatDoorKt5
import Derived.Test.YtbmimdnpchldlaaGreatDoorKt6
import Derived.Test.YtbmimdnpchldlaaGreatDoorKt7
import Derived.Deep.LoopGhost
namespace Go.Proofs.YtbmimdnpchldlaaGreatDoor
open Go.RowKit Go.Sort Go.Lib

theorem comp_law (d : Array Int) (hd : ∀ i j, i ≤ j → j < d.size → d[i]! ≤ d[j]!) : ∀ m, m ≤ d.size → (∀ x, x ∈ compactUpTo d m ↔ ∃ j, j < m ∧ d[j]! = x) ∧ (compactUpTo d m).Pairwise (· < ·)
  | 0, _ => by simp [compactUpTo]
  | m + 1, hm => by
    obtain ⟨h1, h2⟩ := comp_law d hd m (by omega)
    rw [compactUpTo_succ]
    cases hk : keeps d m
    · have hm0 : m ≠ 0 := by
        intro e
        subst e
        simp [keeps] at hk
      have he : d[m]! = d[m - 1]! := by
        simp only [keeps, decide_eq_false_iff_not, not_or, Decidable.not_not] at hk
        exact hk.2
      simp only [Bool.false_eq_true, if_false, List.append_nil]
      refine ⟨fun x => (h1 x).trans ⟨fun ⟨j, a, b⟩ => ⟨j, by omega, b⟩, fun ⟨j, a, b⟩ => ?_⟩, h2⟩
      by_cases e : j = m
      · subst e; exact ⟨j - 1, by omega, by rw [← he]; exact b⟩
      · exact ⟨j, by omega, b⟩
    · simp only [if_true]
      refine ⟨fun x => ?_, ?_⟩
      · rw [List.mem_append, h1]
        simp only [List.mem_singleton]
        constructor
        · rintro (⟨j, a, b⟩ | rfl)
          · exact ⟨j, by omega, b⟩
          · exact ⟨m, by omega, rfl⟩
        · rintro ⟨j, a, b⟩
          by_cases e : j = m
          · subst e; exact .inr b.symm
          · exact .inl ⟨j, by omega, b⟩
      · rw [List.pairwise_append]
        refine ⟨h2, by simp, ?_⟩
        intro x hx y hy
        simp only [List.mem_singleton] at hy
        subst hy
        obtain ⟨j, a, rfl⟩ := (h1 x).1 hx
        have h3 := hd j (m - 1) (by omega) (by omega)
        have h4 := hd (m - 1) m (by omega) (by omega)
        simp only [keeps, decide_eq_true_eq] at hk
        rcases hk with e | e
        · omega
        · omega

/-- What was sorted and cut. -/
def setL (l : List Int) : List Int := compact (sortL l)
theorem setL_up (l : List Int) : (setL l).Pairwise (· < ·) ∧ ∀ x, x ∈ setL l ↔ x ∈ l := by
  have hs := sortL_up l
  have hd : ∀ i j, i ≤ j → j < (sortL l).toArray.size → (sortL l).toArray[i]! ≤ (sortL l).toArray[j]! := by
    intro i j hij hj
    have hj' : j < (sortL l).length := by simpa using hj
    have hi' : i < (sortL l).length := by omega
    simp only [List.getElem!_toArray]
    rw [getElem!_pos _ i hi', getElem!_pos _ j hj']
    rcases Nat.lt_or_ge i j with h | h
    · exact List.pairwise_iff_getElem.1 hs i j hi' hj' h
    · have : i = j := by omega
      subst this; exact Int.le_refl _
  obtain ⟨h1, h2⟩ := comp_law (sortL l).toArray hd (sortL l).length (by simp)
  refine ⟨h2, fun x => ?_⟩
  show x ∈ compactUpTo (sortL l).toArray (sortL l).length ↔ _
  rw [h1, ← sortL_mem l x]
  constructor
  · rintro ⟨j, hj, rfl⟩
    simp only [List.getElem!_toArray]
    rw [getElem!_pos _ j hj]
    simp
  · intro hx
    obtain ⟨j, hj, e⟩ := List.mem_iff_getElem.1 hx
    refine ⟨j, hj, ?_⟩
    simp only [List.getElem!_toArray]
    rw [getElem!_pos _ j hj]; exact e
theorem setL_len (l : List Int) : (setL l).length ≤ l.length := by
  unfold setL compact compactUpTo
  rw [List.length_map]
  have := List.length_filter_le (keeps (sortL l).toArray) (List.range (sortL l).length)
  rw [List.length_range] at this
  exact Nat.le_trans this (Nat.le_of_eq (sortL_len l))

theorem compactI_any (v : Value) (l : List Int) (base : Nat) (w : World) (h : w.ownsRow base 3 1 v l.length (l.map (.int .i64))) (hl : l.length ≤ 1048576) :
    Calls Tryz.prog 105 #[v] w fun e w' => ∃ v', e = .returned v' ∧ w'.ownsRow base 3 1 v' (compact l).length ((compact l).map (.int .i64)) ∧ w.grownBy w' v.ownBlock ∧ v'.ownBlock = v.ownBlock := by
  rcases h.2 with ⟨rfl, h0⟩ | ⟨g, cap, cur, rfl, hg, hc, hn, hcm, hcs, ht⟩
  · obtain rfl : l = [] := List.eq_nil_of_length_eq_zero h0
    refine (Tryz.slices_Compact_int_empty none 0 w).mono ?_
    rintro e w' ⟨rfl, rfl⟩
    exact ⟨_, rfl, h, ⟨rfl, rfl, rfl, Nat.le_refl _, fun _ _ _ => rfl⟩, rfl⟩
  · refine (Tryz.slices_Compact_int g 0 cap l w (holds_of_blockI hc (by simpa using ht)) (by omega) hn).mono ?_
    rintro e w' ⟨rfl, q, rfl⟩
    have hle : (compact l).length ≤ l.length := by
      unfold compact compactUpTo
      rw [List.length_map]
      have := List.length_filter_le (keeps l.toArray) (List.range l.length)
      rwa [List.length_range] at this
    have e0 : putRow (Value.int .i64) (Sort.ahead w q) g 0 (compact l ++ List.replicate (l.length - (compact l).length) 0).toArray = grow (putRow (Value.int .i64) (Sort.ahead w q) g 0 (compact l ++ List.replicate (l.length - (compact l).length) 0).toArray) #[] := by simp
    rw [e0]
    have hL : (compact l ++ List.replicate (l.length - (compact l).length) 0).length = l.length := by simp; omega
    have ho := ownsRow_sortedI (w := w) (n := q) (os := #[]) (ss := l) hL hg hc hn hcm hcs
    refine ⟨_, rfl, ⟨by simp, .inr ⟨g, cap, _, rfl, hg, heap_sortedI _ hc, by omega, hcm, by simp [putCells, hcs], ?_⟩⟩, grownBy_sortedI _, rfl⟩
    have ht2 := take_putCellsI cur (compact l ++ List.replicate (l.length - (compact l).length) 0) (by rw [hL]; omega)
    rw [hL] at ht2
    have hk : ∀ X : List Value, X.take (compact l).length = (X.take l.length).take (compact l).length := fun X => by rw [List.take_take, Nat.min_eq_left hle]
    rw [Nat.mul_one, hk, ht2, List.map_append]
    exact List.take_left' (by simp)

end Go.Proofs.YtbmimdnpchldlaaGreatDoor

namespace Go.Proofs.YtbmimdnpchldlaaGreatDoor
open Go.RowKit

theorem own_shape {w : World} {base : Nat} {e : TypeId} {v : Value} {n : Nat} {xs : List Value} (h : w.ownsRow base e 1 v n xs) (hn : 0 < n) : ∃ H cap, v = .slice (some ⟨H, 0, none⟩) n cap := by
  rcases h.2 with ⟨h1, h2, _⟩ | ⟨g, cap, cur, h1, _⟩
  · subst h1
    have := h.row
    obtain ⟨a, c, e1, hr⟩ := this
    simp only [Value.slice.injEq] at e1
    omega
  · exact ⟨g, cap, h1⟩

set_option maxHeartbeats 1000000 in
theorem cloneI_any (v : Value) (l : List Int) (w : World) (h : Ints w v l) (hl : l.length ≤ 1048576) :
    Calls Tryz.prog 135 #[v] w fun e w' => ∃ v', e = .returned v' ∧ w'.ownsRow w.heap.size 3 1 v' l.length (l.map (.int .i64)) ∧ Ext w w' := by
  obtain ⟨a, cap, rfl, hr⟩ := h
  cases a with
  | none =>
    obtain ⟨h1, h2, h3⟩ := hr.none0
    obtain rfl : l = [] := List.eq_nil_of_length_eq_zero h1
    have he := fun (wx : World) (ax : Option Addr) (nx cx : Nat) => Lib.run_eql_slice_nil (P := Tryz.prog) wx 27 3 ax nx cx 0 0 Tryz.underlying27
    go_enter Tryz.func135, Tryz.ntmps135
    go_wp2
    go_ret
    exact ⟨_, rfl, World.ownsRow_nil _ _ _ _, Ext.refl _⟩
  | some p =>
    have he := fun (wx : World) (ax : Option Addr) (nx cx : Nat) => Lib.run_eql_slice_nil (P := Tryz.prog) wx 27 3 ax nx cx 0 0 Tryz.underlying27
    go_enter Tryz.func135, Tryz.ntmps135
    go_wp2_with (at_builtin; refine wpl_append rfl rfl Tryz.slInts w.heap.size rfl (World.ownsRow_lit w #[] 0 (Nat.le_refl _) (Nat.zero_le _) rfl) rfl (hr.ext ((Ext.refl w).alloc (Nat.le_refl _) _)) (by intro u hu; obtain ⟨x, _, rfl⟩ := List.mem_map.1 hu; rfl) (by unfold maxLen; omega) (by omega) (by simp) ?_)
    intro v' w1 hown1 hg1 _ _
    go_wp2
    go_ret
    exact ⟨_, rfl, by simpa using hown1, ((Ext.refl w).alloc (Nat.le_refl _) _).grown hg1 (by simp) (fun k hk => by cases hk; exact Nat.le_refl _)⟩

/-- What after answers. -/
def AfterR (r : Option (List Int)) (w : World) (e : Ending) (w' : World) : Prop :=
  Ext w w' ∧ ((r = none ∧ e = .returned (.tuple #[.slice none 0 0, .bool false])) ∨ ∃ (ys : List Int) (v : Value), r = some ys ∧ e = .returned (.tuple #[v, .bool true]) ∧ w'.ownsRow w.heap.size 3 1 v ys.length (ys.map (.int .i64)))

theorem small_of {l : List Vr} {xs : List Int} (h : ∀ v ∈ l, v.Ok) (hI : InV l xs) : ∀ x ∈ xs, Small x := by
  intro x hx
  have := inV_small h hI x hx
  unfold Small; omega

theorem setsV_cons (l : List Vr) (old : List Int) (s : Int × Tm) (ss : List (Int × Tm)) (out : List Int) (j : Nat) (hj : s.1 = (j : Int)) (hl : j < l.length) : setsV l old (s :: ss) out = match evalT old s.2 with
    | none => none
    | some n => if l[j].low ≤ n ∧ n ≤ l[j].high then setsV l old ss (out.set j n) else none := by
  have e : l.getD s.1.toNat ⟨ByteArray.empty, 0, 0, 0⟩ = l[j] := by
    rw [hj]; simp [hl]
  have e2 : s.1.toNat = j := by omega
  rw [setsV, e, e2]
  rfl

set_option maxRecDepth 100000 in
set_option maxHeartbeats 16000000 in
theorem after_any (vv rv g sv xv : Value) (m : Md) (r : Rl) (xs : List Int) (w : World) (h : IsVars w vv m.vars) (hrv : ∃ a n c, rv = .slice a n c) (hg : IsT w g r.guard) (hs : IsSets w sv r.sets) (ht : Tab w) (hv : ∀ v ∈ m.vars, v.Ok) (h6 : m.vars.length ≤ 6) (h0 : 0 < m.vars.length)
    (hr : RlPre m.vars.length r) (hx : Ints w xv xs) (hI : InV m.vars xs) :
    Calls Tryz.prog 103 #[.agg #[vv, rv], .agg #[g, sv], xv] w (AfterR (afterV m r xs) w) := by
  have hxl : xs.length = m.vars.length := hI.len
  have hsm := small_of hv hI
  have HGE := Lib.hid fun wx (hx' : Ext w wx) => eval_t g xv r.guard xs wx (hg.ext hx') (hx.ext hx') (ht.ext hx') (by rw [hxl]; exact hr.guard) hr.gsize (by omega) hsm
  have HCL := Lib.hid fun wx (hx' : Ext w wx) => cloneI_any xv xs wx (hx.ext hx') (by omega)
  obtain ⟨av, cv, rfl, _, b, off, ha, hcells⟩ := h.at
  obtain ⟨ar, nr, cr, rfl⟩ := hrv
  obtain ⟨asl, csl, rfl, _, bs, os, has, hsc⟩ := hs.at
  obtain ⟨ag, ng, cg, rfl⟩ := hg.val
  have hm6 := hr.many
  have HSE := Lib.hid fun (u : Value) (t : Tm) wx (hu : IsT w u t) (hx' : Ext w wx) (hsb : Sub t m.vars.length) (hz : t.size ≤ 60) => eval_t u xv t xs wx (hu.ext hx') (hx.ext hx') (ht.ext hx') (by rw [hxl]; exact hsb) hz (by omega) hsm
  obtain ⟨ax, cx, rfl, _⟩ := hx
  have HA := Lib.hid ha
  have HC := Lib.hid hcells
  have HAS := Lib.hid has
  have HSC := Lib.hid hsc
  have HV := Lib.hid hv
  have HRS := Lib.hid hr.sets
  have HXL := Lib.hid hxl
  obtain ⟨rg, hrg⟩ : ∃ x, evalT xs r.guard = x := ⟨_, rfl⟩
  have HAF := Lib.hid (show afterV m r xs = rg.elim none fun n => if n = 0 then none else setsV m.vars xs r.sets xs from by
    unfold afterV
    rw [hrg]
    cases rg <;> rfl)
  rw [hrg] at HGE
  obtain ⟨R, hR⟩ : ∃ R, afterV m r xs = R := ⟨_, rfl⟩
  rw [hR] at HAF ⊢
  clear h ha hcells hs has hsc hv hr hI hsm hg ht hrg hR
  have hxn : 0 < xs.length := by omega
  clear hxl
  generalize r.sets = ss at *
  generalize m.vars = l at *
  go_enter Tryz.func103, Tryz.ntmps103
  have bA := blk_new w (Obj.cells #[.slice av l.length cv, .slice ar nr cr] 31)
  have eA := ext_al (Ext.refl w) (Obj.cells #[.slice av l.length cv, .slice ar nr cr] 31)
  have bB := blk_new (w.alloc (Obj.cells #[.slice av l.length cv, .slice ar nr cr] 31)) (Obj.cells #[.slice ag ng cg, .slice asl ss.length csl] 86)
  have eB := ext_al (Ext.refl (w.alloc (Obj.cells #[.slice av l.length cv, .slice ar nr cr] 31))) (Obj.cells #[.slice ag ng cg, .slice asl ss.length csl] 86)
  have bA2 := blk_ext bA eB
  have HE := Lib.hid (eA.trans eB)
  have hws : (w.alloc (Obj.cells #[.slice av l.length cv, .slice ar nr cr] 31)).heap.size = w.heap.size + 1 := by simp
  rw [hws] at bB
  have hwm := HE.out.size
  clear bA eA eB hws
  have d0 := blk_cell bB (i := 0) rfl
  go_wp2_with fail
  generalize (w.alloc (Obj.cells #[.slice av l.length cv, .slice ar nr cr] 31)).alloc (Obj.cells #[.slice ag ng cg, .slice asl ss.length csl] 86) = W1 at *
  refine (HGE.out _ HE.out).mono ?_
  rintro e w2 ⟨hE2, rfl⟩
  have BA := Lib.hid (blk_ext bA2 hE2)
  have BB := Lib.hid (blk_ext bB hE2)
  have HE2 := Lib.hid (HE.out.trans hE2)
  clear hE2 HGE HE bA2 bB d0
  cases rg with
  | none =>
    obtain rfl : R = none := HAF.out
    clear HAF
    go_wp2
    go_ret2
    exact ⟨HE2.out, .inl ⟨rfl, rfl⟩⟩
  | some n =>
    by_cases hn : n = 0
    · obtain rfl : R = none := by rw [HAF.out]; simp [hn]
      subst hn
      clear HAF
      go_wp2
      go_ret2
      exact ⟨HE2.out, .inl ⟨rfl, rfl⟩⟩
    · have HSV := Lib.hid (show R = setsV l xs ss xs by rw [HAF.out]; simp [hn])
      have hn2 : (n == 0) = false := by rw [beq_eq_false_iff_ne]; exact hn
      clear HAF
      go_wp2_with fail
      refine (HCL.out _ HE2.out).mono ?_
      rintro e w3 ⟨v3, rfl, hown, hE3⟩
      obtain ⟨H, ch, rfl⟩ := own_shape hown hxn
      have d1 := blk_cell (blk_ext BB.out hE3) (i := 1) rfl
      have BA3 := Lib.hid (blk_ext BA.out hE3)
      have HO3 := Lib.hid hown
      have HE3 := Lib.hid (HE2.out.trans hE3)
      have hs2 := HE2.out.size
      have hs2b := blk_lt BA.out
      clear hown hE3 HCL BB BA hn hn2
      go_wp2_with fail
      clear d1
      obtain ⟨n0, hn0⟩ : ∃ n0, xs.length = n0 := ⟨_, rfl⟩
      rw [hn0] at HO3 hxn HSE ⊢
      have HN0 := Lib.hid hn0
      clear hn0
      go_loopg [34] ss.length (fun k x wr => ∃ (i : Nat) (O : List Int), k + i = ss.length ∧ x = .int .i64 (i : Int) ∧ R = setsV l xs (ss.drop i) O ∧ O.length = n0 ∧ Ext w wr ∧ wr.heap[w.heap.size]? = some (.cells #[.slice av l.length cv, .slice ar nr cr] 31 (0, 0)) ∧ wr.ownsRow w2.heap.size 3 1 (.slice (some ⟨H, 0, none⟩) n0 ch) n0 (O.map (.int .i64)))
      case atStart => exact ⟨0, xs, by omega, by go_num, by simpa using HSV.out, HN0.out, HE3.out, BA3.out, HO3.out⟩
      case round =>
        obtain ⟨i, O, hki, rfl, hRO, hOl, hE, hB, hO⟩ := hrel
        clear HO3 BA3 HE3 HSV
        have HKI := Lib.hid hki
        have HOL := Lib.hid hOl
        have hOl2 : 0 < O.length := by omega
        have HO := Lib.hid hO
        have HE := Lib.hid hE
        by_cases hi : i < ss.length
        · obtain rfl := HAS.out (by omega)
          obtain ⟨u, c0, c1, hu⟩ := HSC.out i hi
          obtain ⟨s1, s2, s3, s4, s5⟩ := HRS.out ss[i] (by simp)
          obtain ⟨j, hj⟩ : ∃ j : Nat, ss[i].1 = (j : Int) := ⟨ss[i].1.toNat, by omega⟩
          have hjl : j < l.length := by omega
          obtain rfl := HA.out (by omega)
          obtain ⟨v0, v1, v2, v3⟩ := HC.out j hjl
          have c0 := cell_later hE c0
          have c1 := cell_later hE c1
          rw [hj] at c0
          have HEV := Lib.hid fun wx (hx' : Ext w wx) => HSE.out u ss[i].2 wx hu hx' s3 s4
          obtain ⟨au, nu, cu, rfl⟩ := hu.val
          have HRO := Lib.hid (show R = match evalT xs ss[i].2 with
            | none => none
            | some n => if l[j].low ≤ n ∧ n ≤ l[j].high then setsV l xs (ss.drop (i + 1)) (O.set j n) else none by
              rw [hRO, List.drop_eq_getElem_cons hi, setsV_cons l xs ss[i] _ O j hj hjl])
          have hiI : (i : Int) < (ss.length : Int) := by omega
          have hi0 : (0 : Int) ≤ (i : Int) := by omega
          have hx0 := ext_al (Ext.refl wr) (Obj.cells #[.int .i64 (j : Int), .slice au nu cu] 141)
          have hbS := blk_new wr (Obj.cells #[.int .i64 (j : Int), .slice au nu cu] 141)
          have g0 := blk_cell hbS (i := 0) (v := .int .i64 (j : Int)) rfl
          have g1 := blk_cell hbS (i := 1) (v := .slice au nu cu) rfl
          have HBS := Lib.hid hbS
          have HX0 := Lib.hid (hE.trans hx0)
          have HB0 := Lib.hid (blk_ext hB hx0)
          have HO0 := Lib.hid (own_ext hO hx0)
          generalize hev : evalT xs ss[i].2 = rs at *
          have HV3 := Lib.hid v3
          have HV1 := Lib.hid v1
          have HV2 := Lib.hid v2
          have HV0 := Lib.hid v0
          have HJ := Lib.hid hj
          clear hE hB hO hRO hOl hki hu s3 s4 s5 hx0 hbS v0 v1 v2 v3 hev hj
          go_wp2_with fail
          generalize wr.alloc (Obj.cells #[.int .i64 (j : Int), .slice au nu cu] 141) = W3 at *
          refine (HEV.out _ HX0.out).mono ?_
          rintro e w4 ⟨hE4, rfl⟩
          have d0 := blk_cell (blk_ext HB0.out hE4) (i := 0) rfl
          have HX4 := Lib.hid (HX0.out.trans hE4)
          have v0 := cell_later HX4.out HV0.out
          have v1 := cell_later HX4.out HV1.out
          have v2 := cell_later HX4.out HV2.out
          have v3 := cell_later HX4.out HV3.out
          have hx5 := ext_al (Ext.refl w4) (Obj.cells (vrc l[j]).toArray 89)
          have hb5 := blk_new w4 (Obj.cells (vrc l[j]).toArray 89)
          simp only [vrc] at hx5 hb5
          have f1 := blk_cell hb5 (i := 1) (v := .int .i64 l[j].low) rfl
          have f2 := blk_cell hb5 (i := 2) (v := .int .i64 l[j].high) rfl
          have g00 := cell_later hE4 g0
          have g0 := blk_cell (blk_ext (blk_ext HBS.out hE4) hx5) (i := 0) (v := .int .i64 (j : Int)) rfl
          have HX5 := Lib.hid (HX4.out.trans hx5)
          have HB5 := Lib.hid (blk_ext (blk_ext HB0.out hE4) hx5)
          have hO5 := own_ext (own_ext HO0.out hE4) hx5
          have HO5 := Lib.hid hO5
          have fr := own_freeAt hO5 j
          have hjn : j < O.length := by have := HOL.out; have := HXL.out; have := HN0.out; omega
          obtain ⟨ur, cr'⟩ : ∃ u, (w4.alloc (Obj.cells #[.string l[j].name, .int .i64 l[j].low, .int .i64 l[j].high, .int .i64 l[j].init] 89)).cell? ⟨H, j, none⟩ = some u := ⟨_, own_cellAt hO5 (i := j) (by rw [List.length_map]; exact hjn)⟩
          have hHl := hO5.lt H rfl
          have hwl := blk_lt HB5.out
          have hjl2 : (j : Int) < (l.length : Int) := by omega
          have hjn2 : (j : Int) < (n0 : Int) := by have := HOL.out; omega
          have hj0 : (0 : Int) ≤ (j : Int) := by omega
          clear hE4 hx5 hb5 hO5 HX0 HB0 HO0 HBS HV0 HV1 HV2 HV3 c0 c1 HEV
          cases rs with
          | none =>
            obtain rfl : R = none := HRO.out
            go_wp2
            go_ret2
            exact ⟨HX5.out, .inl ⟨rfl, rfl⟩⟩
          | some n =>
            go_upto_region 10 with fail
            generalize w4.alloc (Obj.cells #[.string l[j].name, .int .i64 l[j].low, .int .i64 l[j].high, .int .i64 l[j].init] 89) = W5 at *
            clear v0 v1 v2 v3 d0 g1 g00
            have HLO := Lib.hid (show R = if l[j].low ≤ n ∧ n ≤ l[j].high then setsV l xs (ss.drop (i + 1)) (O.set j n) else none from HRO.out)
            generalize l[j].low = lo at *
            generalize l[j].high = hi' at *
            clear HRO
            by_cases hb : lo ≤ n ∧ n ≤ hi'
            · have q1 : ¬ n < lo := by omega
              have q2 : ¬ hi' < n := by omega
              have HR2 := Lib.hid (show R = setsV l xs (ss.drop (i + 1)) (O.set j n) by rw [HLO.out, if_pos hb])
              have hO6 := own_setAt HO5.out (i := j) (.int .i64 n)
              rw [set_mapI] at hO6
              have HO6 := Lib.hid hO6
              have HB6 := Lib.hid (blk_far HB5.out (p := ⟨H, j, none⟩) (by show H ≠ w.heap.size; omega) (.int .i64 n))
              have HE6 := Lib.hid (ext_st HX5.out (p := ⟨H, j, none⟩) (by show w.heap.size ≤ H; omega) (.int .i64 n))
              clear hO6 HLO hb
              go_wp2_with fail
              go_roundg (gk - 1)
              case measure => have := HKI.out; omega
              case rel => exact ⟨i + 1, O.set j n, by have := HKI.out; omega, by go_num, HR2.out, by rw [List.length_set]; exact HOL.out, HE6.out, HB6.out, HO6.out⟩
            · have HR2 := Lib.hid (show R = none by rw [HLO.out, if_neg hb])
              have hbb : n < lo ∨ (¬ n < lo ∧ hi' < n) := by omega
              obtain rfl : R = none := HR2.out
              clear HLO hb
              rcases hbb with q1 | ⟨q1, q2⟩
              · go_wp2
                go_ret2
                exact ⟨HX5.out, .inl ⟨rfl, rfl⟩⟩
              · go_wp2
                go_ret2
                exact ⟨HX5.out, .inl ⟨rfl, rfl⟩⟩
        · have HRO := Lib.hid (show R = some O by
            rw [hRO, List.drop_of_length_le (by omega)]; rfl)
          have hiI : ¬ (i : Int) < (ss.length : Int) := by omega
          clear hE hB hO hRO hki
          go_wp2
          go_ret2
          exact ⟨HE.out, .inr ⟨O, _, HRO.out, rfl, by rw [HOL.out]; exact own_down HO.out hs2⟩⟩

end Go.Proofs.YtbmimdnpchldlaaGreatDoor

namespace Go.Proofs.YtbmimdnpchldlaaGreatDoor
open Go.RowKit

theorem Row.oneM (w : World) (t : TypeId) (x : Value) (k : Nat) (hk : k = w.heap.size) : Row (w.alloc (.cells #[x] t)) 1 (some ⟨k, 0, none⟩) 1 1 [x] := by subst hk; exact Row.one w t x

theorem inits_in {l : List Vr} (h : ∀ v ∈ l, v.Ok) : InV l (l.map (·.init)) := by
  refine InV.of (by simp) fun i hi h2 => ?_
  rw [List.getElem_map]
  have := h l[i] (by simp)
  exact ⟨this.i0, this.i1⟩
def initL (l : List Vr) (i : Nat) : List Value := ((l.take i).map (·.init)).map (.int .i64)
theorem initL_succ {l : List Vr} {i : Nat} (hi : i < l.length) : initL l (i + 1) = initL l i ++ [.int .i64 l[i].init] := by
  unfold initL
  rw [List.take_succ_eq_append_getElem hi, List.map_append, List.map_append]; rfl
theorem initL_all (l : List Vr) : initL l l.length = (l.map (·.init)).map (.int .i64) := by unfold initL; rw [List.take_length]
/-- The first state. -/
def Md.first (m : Md) : Int := codeL m.vars (m.vars.map (·.init)) 0

set_option maxRecDepth 100000 in
set_option maxHeartbeats 8000000 in
theorem first_any (vv rv : Value) (m : Md) (w : World) (h : IsMd w vv rv m) (ht : Tab w) (hp : m.Ok) :
    Calls Tryz.prog 40 #[.agg #[vv, rv]] w fun e w' => e = .returned (.tuple #[.int .i64 m.first, .int .i64 0]) ∧ Ext w w' := by
  have HCO := Lib.hid fun wx (xv : Value) (hx : Ext w wx) (hi : Ints wx xv (m.vars.map (·.init))) => code_any vv rv xv m (m.vars.map (·.init)) wx (h.ext hx) (ht.ext hx) hp hi (by
    intro x hx
    obtain ⟨v, hv, rfl⟩ := List.mem_map.1 hx
    have := hp.vars v hv
    have h1 := this.i0; have h2 := this.i1; have h3 := this.low; have h4 := this.high
    unfold I64; omega)
  have HIN := Lib.hid (inits_in hp.vars)
  have HF := Lib.hid (show m.first = codeL m.vars (m.vars.map (·.init)) 0 from rfl)
  obtain ⟨av, cv, rfl, _, b, off, ha, hcells⟩ := h.vars.at
  obtain ⟨a, c, rfl⟩ := EachL.val h.rules
  have h6 := hp.six
  have hbk := blk_new w (Obj.cells #[.slice av m.vars.length cv, .slice a m.rules.length c] 31)
  have hE0 := ext_al (Ext.refl w) (Obj.cells #[.slice av m.vars.length cv, .slice a m.rules.length c] 31)
  have HA := Lib.hid ha
  have HC := Lib.hid hcells
  have HV := Lib.hid hp.vars
  generalize m.first = fi at *
  clear h ha hcells hp ht
  generalize m.rules.length = nr at *
  generalize m.vars = l at *
  go_enter Tryz.func40, Tryz.ntmps40
  have d0 := blk_cell hbk (i := 0) (v := .slice av l.length cv) rfl
  have HB := Lib.hid hbk
  have HE := Lib.hid hE0
  clear hbk hE0
  go_wp2_with fail
  generalize w.alloc (Obj.cells #[.slice av l.length cv, .slice a nr c] 31) = W1 at *
  clear d0
  have HO0 := Lib.hid (show W1.ownsRow W1.heap.size 3 1 (.slice none 0 0) 0 [] from World.ownsRow_nil _ _ _ _)
  go_loopg [10, 4] l.length (fun k x s wr => ∃ (i : Nat) (as' : Option Addr) (cs' : Nat), k + i = l.length ∧ x = .int .i64 (i : Int) ∧ s = .slice as' i cs' ∧ Ext W1 wr ∧ wr.ownsRow W1.heap.size 3 1 (.slice as' i cs') i (initL l i))
  case atStart => exact ⟨0, none, 0, by omega, by go_num, rfl, Ext.refl _, HO0.out⟩
  case round =>
    obtain ⟨i, as', cs', hki, rfl, rfl, hE, hO⟩ := hrel
    clear HO0
    have HKI := Lib.hid hki
    have HX := Lib.hid hE
    by_cases hi : i < l.length
    · obtain rfl := HA.out (by omega)
      obtain ⟨v0, v1, v2, v3⟩ := HC.out i hi
      have v0 := cell_later (HE.out.trans hE) v0
      have v1 := cell_later (HE.out.trans hE) v1
      have v2 := cell_later (HE.out.trans hE) v2
      have v3 := cell_later (HE.out.trans hE) v3
      have hiI : (i : Int) < (l.length : Int) := by omega
      have hi0 : (0 : Int) ≤ (i : Int) := by omega
      have HO2 := Lib.hid fun (o1 o2 : Obj) => own_ext hO ((ext_al (Ext.refl wr) o1).trans (ext_al (Ext.refl (wr.alloc o1)) o2))
      have hws := hE.size
      have HTI := Lib.hid (initL_succ hi)
      clear hE hO hki
      go_wp2_with (at_builtin; go_must (refine wpl_append rfl rfl Tryz.slInts W1.heap.size rfl (HO2.out _ _) rfl (Row.oneM _ _ _ _ (by simp)) (one_int _) (by unfold maxLen; omega) (by omega) (by simp; omega) ?_))
      intro v6 w6 hown6 hg6 hb6 _
      obtain ⟨a6, c6, rfl, _⟩ := hown6.row
      have HO6 := Lib.hid hown6
      have HE6 := Lib.hid (show Ext W1 w6 from Below.grown (HX.out.trans ((ext_al (Ext.refl wr) _).trans (ext_al (Ext.refl (wr.alloc _)) _))) hg6 (by simp; omega) (fun b hb => (HO2.out (Obj.cells #[] 0) (Obj.cells #[] 0)).lt b hb |>.1))
      clear hown6 hg6 hb6
      go_wp2_with fail
      go_roundg (gk - 1)
      case measure => have := HKI.out; omega
      case rel => exact ⟨i + 1, a6, c6, by have := HKI.out; omega, by go_num, rfl, HE6.out, by rw [HTI.out]; exact HO6.out⟩
    · obtain rfl : i = l.length := by omega
      have hiI : ¬ (l.length : Int) < (l.length : Int) := by omega
      have hO2 := hO
      rw [initL_all] at hO2
      have hr := hO2.reads
      have hii : Ints wr (.slice as' l.length cs') (l.map (·.init)) := by
        unfold Ints
        rw [List.length_map]
        exact hr
      have HCC := Lib.hid (HCO.out wr _ (HE.out.trans hE) hii)
      have HWX := Lib.hid (HE.out.trans hE)
      have d0 := blk_cell (blk_ext HB.out hE) (i := 0) (v := .slice av l.length cv) rfl
      have d1 := blk_cell (blk_ext HB.out hE) (i := 1) (v := .slice a nr c) rfl
      clear hE hO hki hO2 hr hii HCO
      go_wp2_with fail
      refine HCC.out.mono ?_
      rintro e w5 ⟨n, k, rfl, hce, hE5⟩
      obtain ⟨rfl, rfl⟩ : n = fi ∧ k = 0 := by
        rcases hce with ⟨_, h1, h2⟩ | ⟨h1, _⟩
        · exact ⟨h1.trans HF.out.symm, h2⟩
        · exact absurd HIN.out h1
      have HE5 := Lib.hid (HWX.out.trans hE5)
      clear hce hE5
      go_wp2
      go_ret2
      exact ⟨rfl, HE5.out⟩

end Go.Proofs.YtbmimdnpchldlaaGreatDoor

namespace Go.Proofs.YtbmimdnpchldlaaGreatDoor
open Go.RowKit

theorem behindL_snoc (m : Md) (xs : List Int) {l : List Rl} {i : Nat} (hi : i < l.length) : behindL m xs (l.take (i + 1)) = behindL m xs (l.take i) ++ (match afterV m l[i] xs with
    | none => []
    | some ys => [codeL m.vars ys 0]) := by
  rw [List.take_succ_eq_append_getElem hi, behindL_app]
  congr 1
  cases h : afterV m l[i] xs <;> simp [behindL, h]

def behV (m : Md) (xs : List Int) (l : List Rl) (i : Nat) : List Value := (behindL m xs (l.take i)).map (.int .i64)
theorem behV_none {m : Md} {xs : List Int} {l : List Rl} {i : Nat} (hi : i < l.length) (h : afterV m l[i] xs = none) : behV m xs l (i + 1) = behV m xs l i ∧ (behindL m xs (l.take (i + 1))).length = (behindL m xs (l.take i)).length := by
  unfold behV
  rw [behindL_snoc m xs hi, h]
  simp
theorem behV_some {m : Md} {xs ys : List Int} {l : List Rl} {i : Nat} (hi : i < l.length) (h : afterV m l[i] xs = some ys) : behV m xs l (i + 1) = behV m xs l i ++ [.int .i64 (codeL m.vars ys 0)] ∧ (behindL m xs (l.take (i + 1))).length = (behindL m xs (l.take i)).length + 1 := by
  unfold behV
  rw [behindL_snoc m xs hi, h]
  simp

set_option maxRecDepth 100000 in
set_option maxHeartbeats 16000000 in
theorem next_any (vv rv xv : Value) (m : Md) (xs : List Int) (w : World) (h : IsMd w vv rv m) (ht : Tab w) (hp : m.Ok) (h0 : 0 < m.vars.length) (hx : Ints w xv xs) (hI : InV m.vars xs) :
    Calls Tryz.prog 73 #[.agg #[vv, rv], xv] w fun e w' => ∃ v, e = .returned v ∧ w'.ownsRow w.heap.size 3 1 v (setL (behindL m xs m.rules)).length ((setL (behindL m xs m.rules)).map (.int .i64)) ∧ Ext w w' := by
  obtain ⟨av, cv, rfl⟩ := EachL.val h.vars
  obtain ⟨a, c, rfl, _, b, off, ha, hcells⟩ := h.rules.at
  have h12 := hp.twelve
  have hbk := blk_new w (Obj.cells #[.slice av m.vars.length cv, .slice a m.rules.length c] 31)
  have hE0 := ext_al (Ext.refl w) (Obj.cells #[.slice av m.vars.length cv, .slice a m.rules.length c] 31)
  have HAF := Lib.hid fun (g s : Value) (r : Rl) wx (hr : r ∈ m.rules) (hg : IsT w g r.guard) (hs : IsSets w s r.sets) (hx' : Ext w wx) => after_any (.slice av m.vars.length cv) (.slice a m.rules.length c) g s xv m r xs wx (h.vars.ext hx') ⟨_, _, _, rfl⟩ (hg.ext hx') (hs.ext hx') (ht.ext hx') hp.vars hp.six h0 (hp.rules r hr) (hx.ext hx') hI
  have HCO := Lib.hid fun (v : Value) (ys : List Int) wx (hx' : Ext w wx) (hy : Ints wx v ys) (hb : InV m.vars ys) => code_any (.slice av m.vars.length cv) (.slice a m.rules.length c) v m ys wx (h.ext hx') (ht.ext hx') hp hy (fun x hxy => by
    have := inV_small hp.vars hb x hxy
    unfold I64; omega)
  have HIN := Lib.hid fun (r : Rl) (ys : List Int) (hr : r ∈ m.rules) (he : afterV m r xs = some ys) => afterV_in (hp.rules r hr) hI he
  have HA := Lib.hid ha
  have HC := Lib.hid hcells
  obtain ⟨ax, cx, rfl, _⟩ := hx
  have HL5 := Lib.hid fun (i : Nat) => (show (behindL m xs (m.rules.take i)).length ≤ 12 from Nat.le_trans (behindL_len m xs _) (by rw [List.length_take]; omega))
  clear h ht hp hcells ha
  obtain ⟨l, hl⟩ : ∃ l, m.rules = l := ⟨_, rfl⟩
  rw [hl] at HAF HCO HIN HA HC HL5 h12 hbk hE0 ⊢
  clear hl
  generalize m.vars.length = nv at *
  generalize xs.length = nx at *
  go_enter Tryz.func73, Tryz.ntmps73
  have d1 := blk_cell hbk (i := 1) (v := .slice a l.length c) rfl
  have HB := Lib.hid hbk
  have HE := Lib.hid hE0
  clear hbk hE0
  go_wp2_with fail
  generalize w.alloc (Obj.cells #[.slice av nv cv, .slice a l.length c] 31) = W1 at *
  clear d1
  have HO0 := Lib.hid (show W1.ownsRow W1.heap.size 3 1 (.slice none 0 0) (behindL m xs (l.take 0)).length (behV m xs l 0) from World.ownsRow_nil _ _ _ _)
  go_loopg [15, 5] l.length (fun k x s wr => ∃ (i : Nat) (as' : Option Addr) (cs' : Nat), k + i = l.length ∧ x = .int .i64 (i : Int) ∧ s = .slice as' (behindL m xs (l.take i)).length cs' ∧ Ext W1 wr ∧ wr.ownsRow W1.heap.size 3 1 (.slice as' (behindL m xs (l.take i)).length cs') (behindL m xs (l.take i)).length (behV m xs l i))
  case atStart => exact ⟨0, none, 0, by omega, by go_num, rfl, Ext.refl _, HO0.out⟩
  case round =>
    obtain ⟨i, as', cs', hki, rfl, rfl, hE, hO⟩ := hrel
    clear HO0
    have HKI := Lib.hid hki
    have HX := Lib.hid hE
    have HXW := Lib.hid (HE.out.trans hE)
    by_cases hi : i < l.length
    · obtain rfl := HA.out (by omega)
      obtain ⟨g, s, c0, c1, hg, hs⟩ := HC.out i hi
      have c0 := cell_later HXW.out c0
      have c1 := cell_later HXW.out c1
      have hiI : (i : Int) < (l.length : Int) := by omega
      have hi0 : (0 : Int) ≤ (i : Int) := by omega
      have hx3 := ext_al (Ext.refl wr) (Obj.cells #[g, s] 86)
      have hb3 := blk_new wr (Obj.cells #[g, s] 86)
      have HAR := Lib.hid (HAF.out g s l[i] _ (by simp) hg hs (HXW.out.trans hx3))
      have HX3 := Lib.hid (HX.out.trans hx3)
      have d0 := blk_cell (blk_ext HB.out HX3.out) (i := 0) (v := .slice av nv cv) rfl
      have d1 := blk_cell (blk_ext HB.out HX3.out) (i := 1) (v := .slice (some ⟨b, off, none⟩) l.length c) rfl
      have e1 := blk_cell (blk_ext HB.out HX.out) (i := 1) (v := .slice (some ⟨b, off, none⟩) l.length c) rfl
      have r0 := blk_cell hb3 (i := 0) (v := g) rfl
      have r1 := blk_cell hb3 (i := 1) (v := s) rfl
      have HO3 := Lib.hid (own_ext hO hx3)
      obtain ⟨ag, ng, cg, rfl⟩ := hg.val
      obtain ⟨asl, csl, rfl⟩ := EachL.val hs
      obtain ⟨nss, hnss⟩ : ∃ n, l[i].sets.length = n := ⟨_, rfl⟩
      rw [hnss] at HAR hx3 hb3 HX3 d0 d1 r0 r1 HO3 c1
      have HIN2 := Lib.hid fun (ys : List Int) (he : afterV m l[i] xs = some ys) => HIN.out l[i] ys (by simp) he
      have HBN := Lib.hid fun (he : afterV m l[i] xs = none) => behV_none hi he
      have HBS := Lib.hid fun (ys : List Int) (he : afterV m l[i] xs = some ys) => behV_some hi he
      have h5 := HL5.out i
      generalize afterV m l[i] xs = ra at *
      clear hE hO hki hg hs hb3 hx3 hnss
      go_wp2_with fail
      generalize wr.alloc (Obj.cells #[.slice ag ng cg, .slice asl nss csl] 86) = W3 at *
      refine HAR.out.mono ?_
      rintro e w4 ⟨hE4, ⟨rfl, rfl⟩ | ⟨ys, v4, rfl, rfl, hown4⟩⟩
      · have HO4 := Lib.hid (own_ext HO3.out hE4)
        have HX4 := Lib.hid (HX3.out.trans hE4)
        obtain ⟨hn1, hn2⟩ := HBN.out rfl
        have HN1 := Lib.hid hn1
        have HN2 := Lib.hid hn2
        clear hE4 hn1 hn2 HAR HBN HBS HIN2 d0 d1 e1 r0 r1 c0 c1 HO3 HX3
        go_wp2_with fail
        go_roundg (gk - 1)
        case measure => have := HKI.out; omega
        case rel => exact ⟨i + 1, as', cs', by have := HKI.out; omega, by go_num, by rw [HN2.out], HX4.out, by rw [HN1.out, HN2.out]; exact HO4.out⟩
      · have hO4 := own_ext HO3.out hE4
        have HX4 := Lib.hid (HX3.out.trans hE4)
        have HYI := Lib.hid (HIN2.out ys rfl)
        obtain ⟨hn1, hn2⟩ := HBS.out ys rfl
        have HCC := Lib.hid (HCO.out v4 ys w4 (HE.out.trans HX4.out) (show Ints w4 v4 ys from hown4.reads) HYI.out)
        have d0 := cell_later hE4 d0
        have d1 := cell_later hE4 d1
        have HO4 := Lib.hid hO4
        have HN1 := Lib.hid hn1
        have HN2 := Lib.hid hn2
        obtain ⟨a4, c4, rfl, _⟩ := hown4.row
        clear hE4 hn1 hn2 HAR HBN HBS HIN2 e1 r0 r1 c0 c1 HO3 HX3 hO4 hown4
        go_wp2_with fail
        refine HCC.out.mono ?_
        rintro e w5 ⟨n, k, rfl, hce, hE5⟩
        obtain ⟨hnn, rfl⟩ : n = codeL m.vars ys 0 ∧ k = 0 := by
          rcases hce with ⟨_, h1, h2⟩ | ⟨h1, _⟩
          · exact ⟨h1, h2⟩
          · exact absurd HYI.out h1
        have HNN := Lib.hid hnn
        have HX5 := Lib.hid (HX4.out.trans hE5)
        have HO5 := Lib.hid fun (o : Obj) => own_ext (own_ext HO4.out hE5) (ext_al (Ext.refl w5) o)
        have h15 := HX5.out.size
        clear hce hnn hE5 d0 d1 HO4 HX4 HCC
        go_wp2_with (at_builtin; go_must (refine wpl_append rfl rfl Tryz.slInts W1.heap.size rfl (HO5.out _) rfl (Row.oneM _ _ _ _ (by simp)) (one_int _) (by unfold maxLen; omega) (by omega) (by simp; omega) ?_))
        intro v6 w6 hown6 hg6 hb6 _
        obtain ⟨a6, c6, rfl, _⟩ := hown6.row
        have HE6 := Lib.hid (show Ext W1 w6 from Below.grown (HX5.out.trans (ext_al (Ext.refl w5) _)) hg6 (by simp; omega) (fun b hb => ((HO5.out (Obj.cells #[] 0)).lt b hb).1))
        rw [HNN.out, ← HN1.out, ← HN2.out] at hown6
        have HO6 := Lib.hid hown6
        clear hown6 hg6 hb6
        go_wp2_with fail
        go_roundg (gk - 1)
        case measure => have := HKI.out; omega
        case rel => exact ⟨i + 1, a6, c6, by have := HKI.out; omega, by go_num, by rw [HN2.out], HE6.out, HO6.out⟩
    · obtain rfl : i = l.length := by omega
      have hiI : ¬ (l.length : Int) < (l.length : Int) := by omega
      have h5 := HL5.out l.length
      have hO2 := hO
      unfold behV at hO2
      rw [List.take_length] at hO2 h5
      have HSO := Lib.hid (sortI_any _ _ W1.heap.size wr hO2 (by omega))
      obtain ⟨L, hL⟩ : ∃ L, behindL m xs l = L := ⟨_, rfl⟩
      rw [List.take_length, hL]
      rw [hL] at HSO h5
      have HSL := Lib.hid (show setL (behindL m xs l) = Lib.compact (sortL L) by rw [hL]; rfl)
      have hew := HE.out.size
      clear hE hO hki hO2 HAF HCO HIN
      go_wp2_with fail
      refine HSO.out.mono ?_
      rintro e w5 ⟨rfl, hown5, hg5⟩
      have hown5' : w5.ownsRow W1.heap.size 3 1 (.slice as' L.length cs') (sortL L).length ((sortL L).map (.int .i64)) := by rw [sortL_len]; exact hown5
      have HCC := Lib.hid (compactI_any _ (sortL L) W1.heap.size w5 hown5' (by rw [sortL_len]; omega))
      have HE5 := Lib.hid (show Ext W1 w5 from Below.grown HX.out hg5 HX.out.size (fun b hb => (hown5.lt b hb).1))
      have HB5 := Lib.hid fun b hb => (hown5.lt b hb).1
      clear hown5 hown5' hg5 HSO
      go_wp2_with fail
      refine HCC.out.mono ?_
      rintro e w6 ⟨v6, rfl, hown6, hg6, hb6⟩
      have HE6 := Lib.hid (show Ext W1 w6 from Below.grown HE5.out hg6 HE5.out.size HB5.out)
      have HO6 := Lib.hid hown6
      obtain ⟨a6, c6, rfl, _⟩ := hown6.row
      clear hown6 hg6 hb6
      go_wp2
      go_ret
      exact ⟨.slice a6 (Lib.compact (sortL L)).length c6, rfl, by rw [HSL.out]; exact own_down HO6.out hew, HE.out.trans HE6.out⟩

/-- What Next answers. -/
def nextL (m : Md) (c : Int) : List Int := if behindL m (valsL m.vars c) m.rules = [] then [c] else setL (behindL m (valsL m.vars c) m.rules)
theorem nextL_ok (m : Md) (c : Int) : NextL m c (nextL m c) := by
  obtain ⟨h1, h2⟩ := setL_up (behindL m (valsL m.vars c) m.rules)
  unfold nextL
  split
  · rename_i h
    exact ⟨by simp [Rises], fun d => by unfold NextP; rw [h]; simp⟩
  · rename_i h
    refine ⟨h1, fun d => ?_⟩
    rw [h2]
    unfold NextP
    constructor
    · exact .inl
    · rintro (h3 | ⟨h3, _⟩)
      · exact h3
      · exact absurd h3 h
theorem nextL_len (m : Md) (c : Int) : 0 < (nextL m c).length ∧ (nextL m c).length ≤ max m.rules.length 1 := by
  have h1 := setL_len (behindL m (valsL m.vars c) m.rules)
  have h2 := behindL_len m (valsL m.vars c) m.rules
  refine ⟨?_, ?_⟩
  · obtain ⟨d, hd⟩ := NextP.some m c
    have := ((nextL_ok m c).mem d).2 hd
    exact List.length_pos_of_mem this
  · unfold nextL
    split
    · simp; omega
    · omega

set_option maxRecDepth 100000 in
set_option maxHeartbeats 8000000 in
theorem nextE_any (vv rv : Value) (m : Md) (c : Int) (w : World) (h : IsMd w vv rv m) (ht : Tab w) (hp : m.Ok) (h0 : 0 < m.vars.length) (hc0 : 0 ≤ c) (hc1 : c < countL m.vars) :
    Calls Tryz.prog 41 #[.agg #[vv, rv], .int .i64 c] w fun e w' => ∃ v, e = .returned (.tuple #[v, .int .i64 0]) ∧ w'.ownsRow w.heap.size 3 1 v (nextL m c).length ((nextL m c).map (.int .i64)) ∧ Ext w w' := by
  have hvi := digL_in hp.vars c
  have hvl := valsL_len m.vars c
  have HVA := Lib.hid fun wx (hx : Ext w wx) => values_any vv rv m c wx (h.ext hx) (ht.ext hx) hp hc0 hc1
  have HNX := Lib.hid fun wx (xv : Value) (hx : Ext w wx) (hi : Ints wx xv (valsL m.vars c)) => next_any vv rv xv m (valsL m.vars c) wx (h.ext hx) (ht.ext hx) hp h0 hi hvi
  have HNL := Lib.hid (show nextL m c = if behindL m (valsL m.vars c) m.rules = [] then [c] else setL (behindL m (valsL m.vars c) m.rules) from rfl)
  have hsl := setL_len (behindL m (valsL m.vars c) m.rules)
  have hbl := behindL_len m (valsL m.vars c) m.rules
  have h12 := hp.twelve
  have HNE := Lib.hid (show behindL m (valsL m.vars c) m.rules = [] ↔ (setL (behindL m (valsL m.vars c) m.rules)).length = 0 from by
    have hm := (setL_up (behindL m (valsL m.vars c) m.rules)).2
    constructor
    · intro e
      have e2 : (behindL m (valsL m.vars c) m.rules).length = 0 := by rw [e]; rfl
      omega
    · intro e
      have e2 := List.eq_nil_of_length_eq_zero e
      cases hb : behindL m (valsL m.vars c) m.rules with
      | nil => rfl
      | cons x r =>
        have := (hm x).2 (by rw [hb]; simp)
        rw [e2] at this
        simp at this)
  obtain ⟨av, cv, rfl⟩ := EachL.val h.vars
  obtain ⟨a, cr, rfl⟩ := EachL.val h.rules
  have hbk := blk_new w (Obj.cells #[.slice av m.vars.length cv, .slice a m.rules.length cr] 31)
  have HE := Lib.hid (ext_al (Ext.refl w) (Obj.cells #[.slice av m.vars.length cv, .slice a m.rules.length cr] 31))
  generalize nextL m c = L at *
  generalize valsL m.vars c = xs at *
  have hS : (setL (behindL m xs m.rules)).length ≤ 12 := by omega
  generalize setL (behindL m xs m.rules) = S at *
  clear h ht hp hvi hsl hbl
  generalize m.rules.length = nr at *
  generalize m.vars.length = nv at *
  go_enter Tryz.func41, Tryz.ntmps41
  have HB := Lib.hid hbk
  clear hbk
  go_wp2_with fail
  generalize w.alloc (Obj.cells #[.slice av nv cv, .slice a nr cr] 31) = W1 at *
  refine (HVA.out _ HE.out).mono ?_
  rintro e w2 ⟨xv, rfl, hox, hE2⟩
  have HE2 := Lib.hid (HE.out.trans hE2)
  have d0 := blk_cell (blk_ext HB.out hE2) (i := 0) rfl
  have d1 := blk_cell (blk_ext HB.out hE2) (i := 1) rfl
  have HNC := Lib.hid (HNX.out w2 xv HE2.out (by
    have h := hox.reads
    unfold Ints
    rw [hvl]
    exact h))
  obtain ⟨ax, cx, rfl, _⟩ := hox.row
  clear hox hE2 HNX HVA
  go_wp2_with fail
  refine HNC.out.mono ?_
  rintro e w3 ⟨v3, rfl, ho3, hE3⟩
  have HE3 := Lib.hid (HE2.out.trans hE3)
  have HO3 := Lib.hid ho3
  obtain ⟨a3, c3, rfl, _⟩ := ho3.row
  have h23 := HE2.out.size
  have h33 := hE3.size
  clear ho3 hE3 HNC d0 d1
  by_cases he : S.length = 0
  · have HL := Lib.hid (show L = [c] by rw [HNL.out, if_pos (HNE.out.2 he)])
    have hse : (S.length : Int) = 0 := by omega
    have HSN := Lib.hid (show S.map (Value.int .i64) = [] by rw [List.eq_nil_of_length_eq_zero he]; rfl)
    have HO4 := Lib.hid fun (o : Obj) => own_ext HO3.out (ext_al (Ext.refl w3) o)
    rw [HSN.out] at HO4
    generalize S.length = ns at *
    obtain rfl : ns = 0 := he
    clear hse HNE HO3 HNL
    go_wp2_with (at_builtin; go_must (refine wpl_append rfl rfl Tryz.slInts w2.heap.size rfl (HO4.out _) rfl (Row.oneM _ _ _ _ (by simp)) (one_int _) (by unfold maxLen; omega) (by omega) (by simp; omega) ?_))
    intro v6 w6 hown6 hg6 hb6 _
    obtain ⟨a6, c6, rfl, _⟩ := hown6.row
    have HE6 := Lib.hid (show Ext w w6 from Below.grown (HE3.out.trans (ext_al (Ext.refl w3) _)) hg6 (by simp; omega) (fun b hb => by have := ((HO4.out (Obj.cells #[] 0)).lt b hb).1; omega))
    have HO6 := Lib.hid hown6
    clear hown6 hg6 hb6
    go_wp2
    go_ret2
    exact ⟨_, rfl, by rw [HL.out]; exact own_down HO6.out h23, HE6.out⟩
  · have HL := Lib.hid (show L = S by rw [HNL.out, if_neg (fun h => he (HNE.out.1 h))])
    have hse : ((S.length : Int) == 0) = false := by rw [beq_eq_false_iff_ne]; omega
    have HSL := Lib.hid he
    clear HNE HNL he
    go_wp2
    go_ret2
    exact ⟨_, rfl, by rw [HL.out]; exact own_down HO3.out h23, HE3.out⟩

end Go.Proofs.YtbmimdnpchldlaaGreatDoor

namespace Go.Proofs.YtbmimdnpchldlaaGreatDoor
open Go.RowKit

set_option maxRecDepth 100000 in
theorem two_of {W : World} {a b : Value} (h : Cells Tryz.prog W 22 [a, b]) : ∃ m n, a = .int .i64 m ∧ b = .int .i64 n ∧ I64 m ∧ I64 n := by
  have c1 : Tryz.prog.cellsOf 3 = 1 := by kernel_rfl
  obtain ⟨_, hc⟩ := h.array Tryz.underlying22
  have f0 : Cells Tryz.prog W 3 [a] := by have := hc 0 (by omega); simpa [c1] using this
  have f1 : Cells Tryz.prog W 3 [b] := by have := hc 1 (by omega); simpa [c1] using this
  obtain ⟨m, e0, i0⟩ := Cells.i64 Tryz.underlying3 f0
  obtain ⟨n, e1, i1⟩ := Cells.i64 Tryz.underlying3 f1
  simp at e0 e1
  exact ⟨m, n, e0, e1, i0, i1⟩

set_option maxRecDepth 100000 in
theorem plan_of {W : World} {cs : List Value} (hl : cs.length = 4) (h : Cells Tryz.prog W 138 cs) : ∃ p, PlanE W p cs ∧ PlI p := by
  obtain ⟨_, hf⟩ := h.field Tryz.underlying138
  have c1 : Tryz.prog.cellsOf 3 = 1 := by kernel_rfl
  have c2 : Tryz.prog.cellsOf 26 = 1 := by kernel_rfl
  have c3 : Tryz.prog.cellsOf 4 = 1 := by kernel_rfl
  match cs, hl with
  | [a, b, c, d], _ =>
    have f0 : Cells Tryz.prog W 26 [a] := by have := hf 0 _ rfl; simpa [c2] using this
    have f1 : Cells Tryz.prog W 3 [b] := by have := hf 1 _ rfl; simpa [c1] using this
    have f2 : Cells Tryz.prog W 26 [c] := by have := hf 2 _ rfl; simpa [c2] using this
    have f3 : Cells Tryz.prog W 4 [d] := by have := hf 3 _ rfl; simpa [c3] using this
    obtain ⟨r0, o0, i0⟩ := raw_of f0
    obtain ⟨n, e1, i1⟩ := Cells.i64 Tryz.underlying3 f1
    obtain ⟨r2, o2, i2⟩ := raw_of f2
    obtain ⟨x, e3⟩ := Cells.bool Tryz.underlying4 f3
    simp at e1 e3
    subst e1; subst e3
    exact ⟨⟨r0, n, r2, x⟩, ⟨a, c, rfl, o0, o2⟩, i0, i1, i2⟩

set_option maxRecDepth 100000 in
theorem design_of {W : World} {cs : Array Value} (h : Cells Tryz.prog W 25 cs.toList) : ∃ d pv, cs = dnc d pv ∧ IsPlans W pv d.rules ∧ DnI d := by
  obtain ⟨hl, hf⟩ := h.field Tryz.underlying25
  have hsz : Tryz.prog.cellsOf 25 = 7 := by kernel_rfl
  have c1 : Tryz.prog.cellsOf 22 = 2 := by kernel_rfl
  have c2 : Tryz.prog.cellsOf 23 = 1 := by kernel_rfl
  rw [hsz] at hl
  obtain ⟨l, rfl⟩ : ∃ l : List Value, cs = l.toArray := ⟨cs.toList, by simp⟩
  simp only at hl hf
  match l, hl with
  | [a0, a1, b0, b1, d0, d1, pv], _ =>
    have f0 : Cells Tryz.prog W 22 [a0, a1] := by have := hf 0 _ rfl; simpa [c1] using this
    have f1 : Cells Tryz.prog W 22 [b0, b1] := by have := hf 1 _ rfl; simpa [c1] using this
    have f2 : Cells Tryz.prog W 22 [d0, d1] := by have := hf 2 _ rfl; simpa [c1] using this
    have f3 : Cells Tryz.prog W 23 [pv] := by have := hf 3 _ rfl; simpa [c2] using this
    obtain ⟨s0, s1, rfl, rfl, i0, i1⟩ := two_of f0
    obtain ⟨l0, l1, rfl, rfl, i2, i3⟩ := two_of f1
    obtain ⟨n0, n1, rfl, rfl, i4, i5⟩ := two_of f2
    obtain ⟨a, cap, xss, hv, hr, hx⟩ := f3.slice (sz := 4) Tryz.underlying23 (by kernel_rfl)
    simp only [List.cons.injEq, and_true] at hv
    obtain ⟨rs, hrl, hrs⟩ := list_of (n := xss.length) (p := fun i (x : Pl) => ∀ xs, xss[i]? = some xs → PlanE W x xs ∧ PlI x) fun i hi => by
      obtain ⟨h4, hc⟩ := hx xss[i] (by simp)
      obtain ⟨p, h1, h2⟩ := plan_of h4 hc
      refine ⟨p, fun xs he => ?_⟩
      rw [List.getElem?_eq_getElem hi] at he
      obtain rfl := Option.some.inj he
      exact ⟨h1, h2⟩
    refine ⟨⟨s0, s1, l0, l1, n0, n1, rs⟩, pv, rfl, ⟨xss, hrl.symm, fun cs hc => (hx cs hc).1, ⟨a, cap, by rw [hv, hrl], by rw [hrl]; exact hr⟩, fun i cs x hc hx' => (hrs i x hx' cs hc).1⟩, ⟨i0, i1, i2, i3, i4, i5, fun p hp => ?_⟩⟩
    obtain ⟨i, hi, e⟩ := List.mem_iff_getElem.1 hp
    have h2 : rs[i]? = some p := by rw [← e]; exact List.getElem?_eq_getElem hi
    exact (hrs i p h2 xss[i] (List.getElem?_eq_getElem (by rw [← hrl]; exact hi))).2

end Go.Proofs.YtbmimdnpchldlaaGreatDoor

namespace Go.Proofs.YtbmimdnpchldlaaGreatDoor
open Go.RowKit

set_option maxRecDepth 100000 in
set_option maxHeartbeats 8000000 in
theorem values_out (vv rv : Value) (m : Md) (c : Int) (w : World) (h : IsMd w vv rv m) (ht : Tab w) (hp : m.Ok) (hc : c < 0 ∨ countL m.vars ≤ c) :
    Calls Tryz.prog 52 #[.agg #[vv, rv], .int .i64 c] w fun e w' => e = .returned (.tuple #[.slice none 0 0, .int .i64 9]) ∧ Ext w w' := by
  have hE0 := ext_al (Ext.refl w) (Obj.cells #[vv, rv] 31)
  have HCK := Lib.hid (count_any vv rv m _ (h.ext hE0) (ht.ext hE0) hp)
  obtain ⟨av, cv, rfl⟩ := EachL.val h.vars
  obtain ⟨a, c', rfl⟩ := EachL.val h.rules
  have HE := Lib.hid hE0
  clear h hp ht hE0
  generalize m.rules.length = nr at *
  generalize m.vars = l at *
  generalize countL l = N at *
  generalize l.length = nv at *
  go_enter Tryz.func52, Tryz.ntmps52
  go_wp2_with fail
  generalize w.alloc (Obj.cells #[.slice av nv cv, .slice a nr c'] 31) = W1 at *
  refine HCK.out.mono ?_
  rintro e w2 ⟨rfl, hE2⟩
  have HE2 := Lib.hid (HE.out.trans hE2)
  clear hE2 HCK HE
  by_cases h0 : c < 0
  · clear hc
    go_wp2
    go_ret2
    exact ⟨rfl, HE2.out⟩
  · have hc1 : N ≤ c := by omega
    clear hc
    go_wp2
    go_ret2
    exact ⟨rfl, HE2.out⟩

/-- What the laws know of a model that they drew. -/
structure Drawn (m : Md) : Prop where
  ok : m.Ok
  two : m.vars.length = 2
  n1 : 1 ≤ countL m.vars
  n16 : countL m.vars ≤ 16
  five : m.rules.length ≤ 5
theorem Dn.drawn (d : Dn) : Drawn d.md := ⟨d.ok, rfl, d.span.1, d.span.2, d.rules_len⟩

theorem IsMd.shape {w : World} {vv rv : Value} {m : Md} (h : IsMd w vv rv m) (h2 : m.vars.length = 2) : ∃ av cv ar cr, vv = .slice av 2 cv ∧ rv = .slice ar m.rules.length cr := by
  obtain ⟨av, cv, rfl⟩ := EachL.val h.vars
  obtain ⟨a, c', rfl⟩ := EachL.val h.rules
  exact ⟨av, cv, a, c', by rw [h2], rfl⟩

end Go.Proofs.YtbmimdnpchldlaaGreatDoor

namespace Go.Proofs.YtbmimdnpchldlaaGreatDoor
open Go.RowKit

/-- What propositions must be. -/
structure PropsOk (n : Int) (P : List Tm) : Prop where
  six : P.length ≤ 6
  each : ∀ p ∈ P, Sub p n ∧ p.size ≤ 60 ∧ mkK p.kind = true

set_option maxRecDepth 100000 in
set_option maxHeartbeats 8000000 in
theorem props_any (vv rv pv : Value) (m : Md) (P : List Tm) (w : World) (h : IsMd w vv rv m) (ht : Tab w) (hp : m.Ok) (hP : IsTms w pv P) (hk : PropsOk m.vars.length P) :
    Calls Tryz.prog 51 #[.agg #[vv, rv], pv] w fun e w' => e = .returned (.int .i64 0) ∧ Ext w w' := by
  have h6 := hk.six
  have hv6 := hp.six
  have HCK := Lib.hid fun wx (hx : Ext w wx) => mcheck_ok vv rv m wx (h.ext hx) (ht.ext hx) hp
  obtain ⟨ap, cp, rfl, _, b, off, ha, hcells⟩ := hP.at
  have HKI := Lib.hid fun (u : Value) (t : Tm) wx (hu : IsT w u t) (hx : Ext w wx) (hs : Sub t m.vars.length ∧ t.size ≤ 60 ∧ mkK t.kind = true) => (show Calls Tryz.prog 86 #[u, .int .i64 (m.vars.length : Int), .bool true] wx (fun e w' => e = .returned (.int .i64 0) ∧ Ext wx w') from by
    have := kind_any u t m.vars.length true wx (hu.ext hx) (ht.ext hx) (by omega) (by omega) hs.1 hs.2.1
    rw [show kindE t true = 0 by unfold kindE; rw [hs.2.2]; rfl] at this
    exact this)
  obtain ⟨av, cv, rfl⟩ := EachL.val h.vars
  obtain ⟨a, cr, rfl⟩ := EachL.val h.rules
  have hbk := blk_new w (Obj.cells #[.slice av m.vars.length cv, .slice a m.rules.length cr] 31)
  have HE := Lib.hid (ext_al (Ext.refl w) (Obj.cells #[.slice av m.vars.length cv, .slice a m.rules.length cr] 31))
  have HB := Lib.hid hbk
  have HA := Lib.hid ha
  have HC := Lib.hid hcells
  have HS := Lib.hid hk.each
  clear h ht hp hP hk ha hcells hbk
  generalize m.rules.length = nr at *
  generalize m.vars.length = nv at *
  go_enter Tryz.func51, Tryz.ntmps51
  have d0 := blk_cell HB.out (i := 0) (v := .slice av nv cv) rfl
  have d1 := blk_cell HB.out (i := 1) (v := .slice a nr cr) rfl
  go_wp2_with fail
  generalize w.alloc (Obj.cells #[.slice av nv cv, .slice a nr cr] 31) = W1 at *
  refine (HCK.out _ HE.out).mono ?_
  rintro e w2 ⟨rfl, hE2⟩
  have HB2 := Lib.hid (blk_ext HB.out hE2)
  have HE2 := Lib.hid (HE.out.trans hE2)
  clear hE2 HCK HB HE d0 d1
  go_wp2_with fail
  go_loopg [19] P.length (fun k x wr => ∃ i : Nat, k + i = P.length ∧ x = .int .i64 (i : Int) ∧ Ext w2 wr)
  case atStart => exact ⟨0, by omega, by go_num, Ext.refl _⟩
  case round =>
    obtain ⟨i, hki, rfl, hE⟩ := hrel
    have HK := Lib.hid hki
    have HX := Lib.hid hE
    by_cases hi : i < P.length
    · obtain rfl := HA.out (by omega)
      obtain ⟨u, c0, hu⟩ := HC.out i hi
      have c0 := cell_later (HE2.out.trans hE) c0
      have d0 := blk_cell (blk_ext HB2.out hE) (i := 0) (v := .slice av nv cv) rfl
      have HKC := Lib.hid (HKI.out u P[i] wr hu (HE2.out.trans hE) (HS.out P[i] (by simp)))
      obtain ⟨au, nu, cu, rfl⟩ := hu.val
      have hiI : (i : Int) < (P.length : Int) := by omega
      have hi0 : (0 : Int) ≤ (i : Int) := by omega
      clear hki hE hu
      go_wp2_with fail
      refine HKC.out.mono ?_
      rintro e w3 ⟨rfl, hE3⟩
      have HX3 := Lib.hid (HX.out.trans hE3)
      clear hE3 c0 d0 HKC
      go_wp2_with fail
      go_roundg (gk - 1)
      case measure => have := HK.out; omega
      case rel => exact ⟨i + 1, by have := HK.out; omega, by go_num, HX3.out⟩
    · have hiI : ¬ (i : Int) < (P.length : Int) := by omega
      clear hki hE
      go_wp2
      go_ret
      exact ⟨rfl, HE2.out.trans HX.out⟩

/-- The letter of values. -/
def letS (P : List Tm) (xs : List Int) : List Bool := P.map fun p => decide (evalT xs p = some 1)
theorem letS_len (P : List Tm) (xs : List Int) : (letS P xs).length = P.length := by simp [letS]
def fillB (L : List Bool) (i : Nat) : List Bool := L.take i ++ List.replicate (L.length - i) false
theorem fillB_len {L : List Bool} {i : Nat} (h : i ≤ L.length) : (fillB L i).length = L.length := by unfold fillB; simp; omega
theorem fillB_step {L : List Bool} {i : Nat} (h : i < L.length) : (fillB L i).set i L[i] = fillB L (i + 1) := by
  unfold fillB
  have e : L.length - i = (L.length - (i + 1)) + 1 := by omega
  rw [e, List.replicate_succ, List.set_append, if_neg (by simp; omega)]
  have e0 : i - (List.take i L).length = 0 := by simp; omega
  rw [e0, List.set_cons_zero, List.take_succ_eq_append_getElem h, List.append_assoc]
  rfl
theorem fillB_all (L : List Bool) : fillB L L.length = L := by unfold fillB; simp
theorem set_mapB (l : List Bool) (i : Nat) (x : Bool) : (l.map Value.bool).set i (.bool x) = (l.set i x).map Value.bool := by rw [List.map_set]
theorem Tryz.slBoolsS : SlTy Tryz.prog 53 4 (.bool false) 1 1 := SlTy.mk' Tryz.underlying53 (by kernel_rfl) (by rfl) (by omega)

set_option maxRecDepth 100000 in
set_option maxHeartbeats 8000000 in
theorem sletter_any (vv rv pv : Value) (m : Md) (P : List Tm) (c : Int) (w : World) (h : IsMd w vv rv m) (ht : Tab w) (hp : m.Ok) (hP : IsTms w pv P) (hk : PropsOk m.vars.length P) (hc0 : 0 ≤ c) (hc1 : c < countL m.vars) :
    Calls Tryz.prog 23 #[.agg #[vv, rv], pv, .int .i64 c] w fun e w' => ∃ v, e = .returned (.tuple #[v, .int .i64 0]) ∧ w'.ownsRow w.heap.size 4 1 v P.length ((letS P (valsL m.vars c)).map .bool) ∧ Ext w w' := by
  have h6 := hk.six
  have hv6 := hp.six
  have hvl := valsL_len m.vars c
  have hsm := small_of hp.vars (digL_in hp.vars c)
  have HPR := Lib.hid fun wx (hx : Ext w wx) => props_any vv rv pv m P wx (h.ext hx) (ht.ext hx) hp (hP.ext hx) hk
  have HVA := Lib.hid fun wx (hx : Ext w wx) => values_any vv rv m c wx (h.ext hx) (ht.ext hx) hp hc0 hc1
  obtain ⟨ap, cp, rfl, _, b, off, ha, hcells⟩ := hP.at
  have HEV := Lib.hid fun (u xv : Value) (t : Tm) wx (hu : IsT w u t) (hx : Ext w wx) (hi : Ints wx xv (valsL m.vars c)) (ht' : t ∈ P) => eval_t u xv t (valsL m.vars c) wx (hu.ext hx) hi (ht.ext hx) (by rw [hvl]; exact (hk.each t ht').1) (hk.each t ht').2.1 (by omega) hsm
  obtain ⟨av, cv, rfl⟩ := EachL.val h.vars
  obtain ⟨a, cr, rfl⟩ := EachL.val h.rules
  have hbk := blk_new w (Obj.cells #[.slice av m.vars.length cv, .slice a m.rules.length cr] 31)
  have HE := Lib.hid (ext_al (Ext.refl w) (Obj.cells #[.slice av m.vars.length cv, .slice a m.rules.length cr] 31))
  have HB := Lib.hid hbk
  have HA := Lib.hid ha
  have HC := Lib.hid hcells
  clear h ht hp hP hk ha hcells hbk hsm
  generalize m.rules.length = nr at *
  generalize m.vars.length = nv at *
  generalize valsL m.vars c = xs at *
  obtain ⟨L, hL⟩ : ∃ L, letS P xs = L := ⟨_, rfl⟩
  have hLl : L.length = P.length := by rw [← hL, letS_len]
  have HLA := Lib.hid fun (i : Nat) (hi : i < P.length) (hj : i < L.length) => (show L[i] = decide (evalT xs P[i] = some 1) by
    subst hL
    simp [letS])
  have HLL := Lib.hid hLl
  rw [hL]
  clear hL hLl
  go_enter Tryz.func23, Tryz.ntmps23
  have d0 := blk_cell HB.out (i := 0) (v := .slice av nv cv) rfl
  have d1 := blk_cell HB.out (i := 1) (v := .slice a nr cr) rfl
  go_wp2_with fail
  generalize w.alloc (Obj.cells #[.slice av nv cv, .slice a nr cr] 31) = W1 at *
  refine (HPR.out _ HE.out).mono ?_
  rintro e w2 ⟨rfl, hE2⟩
  have d0 := cell_later hE2 d0
  have d1 := cell_later hE2 d1
  have HE2 := Lib.hid (HE.out.trans hE2)
  clear hE2 HPR
  go_wp2_with fail
  refine (HVA.out _ HE2.out).mono ?_
  rintro e w3 ⟨xv, rfl, hox, hE3⟩
  have HE3 := Lib.hid (HE2.out.trans hE3)
  have HIX := Lib.hid (show Ints w3 xv xs from by
    have h := hox.reads
    unfold Ints
    rw [hvl]
    exact h)
  obtain ⟨ax, cx, rfl, _⟩ := hox.row
  have h33 := HE3.out.size
  clear hox hE3 HVA d0 d1 HB HE HE2
  go_wp2_with (at_make; go_must (refine wpList_make_full _ rfl _ _ 53 rfl w3.heap.size 4 (Tryz.slBoolsS.inf.choose) (.bool false) 1 Tryz.underlying53 Tryz.slBoolsS.inf.choose_spec.1 Tryz.slBoolsS.inf.choose_spec.2.1 Tryz.slBoolsS.inf.choose_spec.2.2.1 .i64 .i64 P.length P.length P.length rfl rfl rfl rfl (by rw [Tryz.slBoolsS.inf.choose_spec.2.2.2]; omega) (by unfold maxLen; omega) (Nat.le_refl _) ?_))
  intro w4 hown4 hg4
  have hmx : (madeCells #[Value.bool false] P.length).toList = (fillB L 0).map .bool := by
    rw [toList_madeCells_one, fillB, HLL.out]
    simp
  rw [hmx] at hown4
  have HO4 := Lib.hid hown4
  have HX4 := Lib.hid ((Ext.refl w3).grown hg4 (Nat.le_refl _) (by simp))
  obtain ⟨D, hD⟩ : ∃ D, w3.heap.size = D := ⟨_, rfl⟩
  rw [hD] at HO4 h33 ⊢
  have HD := Lib.hid hD
  clear hown4 hg4 hmx hD
  go_wp2_with fail
  go_loopg [36] P.length (fun k x wr => ∃ i : Nat, k + i = P.length ∧ x = .int .i64 (i : Int) ∧ Ext w3 wr ∧ wr.ownsRow D 4 1 (.slice (some ⟨D, 0, none⟩) P.length P.length) P.length ((fillB L i).map .bool))
  case atStart => exact ⟨0, by omega, by go_num, HX4.out, HO4.out⟩
  case round =>
    obtain ⟨i, hki, rfl, hE, hO⟩ := hrel
    clear HO4 HX4
    have HK := Lib.hid hki
    have HX := Lib.hid hE
    have HO := Lib.hid hO
    by_cases hi : i < P.length
    · have hiL : i < L.length := by have := HLL.out; omega
      obtain rfl := HA.out (by omega)
      obtain ⟨u, c0, hu⟩ := HC.out i hi
      have c0 := cell_later (HE3.out.trans hE) c0
      have HEC := Lib.hid (HEV.out u _ P[i] wr hu (HE3.out.trans hE) (HIX.out.ext hE) (by simp))
      have HLI := Lib.hid (HLA.out i hi hiL)
      have HST := Lib.hid (fillB_step hiL)
      obtain ⟨au, nu, cu, rfl⟩ := hu.val
      have hiI : (i : Int) < (P.length : Int) := by omega
      have hi0 : (0 : Int) ≤ (i : Int) := by omega
      have hfl := fillB_len (L := L) (i := i) (by omega)
      generalize evalT xs P[i] = ev at *
      generalize L[i] = li at *
      clear hki hE hu hO
      go_wp2_with fail
      refine HEC.out.mono ?_
      rintro e w5 ⟨hE5, rfl⟩
      have hO5 := own_ext HO.out hE5
      have fr := own_freeAt hO5 i
      obtain ⟨uu, cr5⟩ : ∃ uu, w5.cell? ⟨D, i, none⟩ = some uu := ⟨_, own_cellAt hO5 (i := i) (by rw [List.length_map, hfl]; exact hiL)⟩
      have HO5 := Lib.hid hO5
      have HX5 := Lib.hid (HX.out.trans hE5)
      have HS5 := Lib.hid (show (w5.setCell ⟨D, i, none⟩ (.bool li)).ownsRow D 4 1 (.slice (some ⟨D, 0, none⟩) P.length P.length) P.length ((fillB L (i + 1)).map .bool) from by
        have h := own_setAt hO5 (i := i) (.bool li)
        rw [set_mapB, HST.out] at h
        exact h)
      have HX6 := Lib.hid (ext_st HX5.out (p := ⟨D, i, none⟩) (by show w3.heap.size ≤ D; rw [HD.out]; exact Nat.le_refl _) (.bool li))
      clear hE5 hO5 c0 HEC hfl
      cases ev with
      | none =>
        obtain rfl : li = false := by rw [HLI.out]; simp
        go_wp2_with fail
        go_roundg (gk - 1)
        case measure => have := HK.out; omega
        case rel => exact ⟨i + 1, by have := HK.out; omega, by go_num, HX6.out, HS5.out⟩
      | some n =>
        by_cases hn : n = 1
        · subst hn
          obtain rfl : li = true := by rw [HLI.out]; simp
          go_wp2_with fail
          go_roundg (gk - 1)
          case measure => have := HK.out; omega
          case rel => exact ⟨i + 1, by have := HK.out; omega, by go_num, HX6.out, HS5.out⟩
        · obtain rfl : li = false := by rw [HLI.out]; simp [hn]
          have hn2 : (n == 1) = false := by rw [beq_eq_false_iff_ne]; exact hn
          clear hn
          go_wp2_with fail
          go_roundg (gk - 1)
          case measure => have := HK.out; omega
          case rel => exact ⟨i + 1, by have := HK.out; omega, by go_num, HX6.out, HS5.out⟩
    · obtain rfl : i = P.length := by omega
      have hiI : ¬ (P.length : Int) < (P.length : Int) := by omega
      have HFA := Lib.hid (show fillB L P.length = L from by rw [← HLL.out]; exact fillB_all L)
      rw [HFA.out] at HO
      clear hki hE hO
      go_wp2
      go_ret2
      exact ⟨_, rfl, own_down HO.out h33, HE3.out.trans HX.out⟩

end Go.Proofs.YtbmimdnpchldlaaGreatDoor

namespace Go.Proofs.YtbmimdnpchldlaaGreatDoor
open Go.RowKit

def tX : Tm := .n0 2 0
def tY : Tm := .n0 2 1
def t1 : Tm := .n0 1 1
def propT : List Tm := [.n2 7 0 tX t1, .n2 7 0 tX tY, .n2 6 0 tX tY]
theorem leaf_sub (k v : Int) (hk : k = 1 ∨ k = 2) (h0 : 0 ≤ v) (h1 : v ≤ 1) : Sub (.n0 k v) 2 := by
  have hv : v = 0 ∨ v = 1 := by omega
  refine ⟨?_, ?_, rfl⟩
  · simp only [Tm.ok]
    rcases hk with rfl | rfl <;> exact ⟨by omega, by omega, by decide⟩
  · intro o ho
    simp only [Tm.flat, List.mem_singleton] at ho
    subst ho
    rcases hk with rfl | rfl <;> rcases hv with rfl | rfl <;> decide
theorem cmp_sub (k : Int) (hk : k = 6 ∨ k = 7) {a b : Tm} (ha : Sub a 2) (hb : Sub b 2) (ka : mkK a.kind = false) (kb : mkK b.kind = false) : Sub (.n2 k 0 a b) 2 := by
  refine ⟨ok_n2 (by omega) ha.ok hb.ok, good_n2 (by omega) (by omega) ha.good hb.good, ?_⟩
  have ht : tkK k = false := by rcases hk with rfl | rfl <;> rfl
  simp [Tm.typed, ha.typed, hb.typed, ka, kb, ht]
theorem propT_ok : PropsOk 2 propT := by
  have hx := leaf_sub 2 0 (.inr rfl) (by omega) (by omega)
  have hy := leaf_sub 2 1 (.inr rfl) (by omega) (by omega)
  have h1 := leaf_sub 1 1 (.inl rfl) (by omega) (by omega)
  refine ⟨by decide, fun p hp => ?_⟩
  unfold propT at hp
  simp only [List.mem_cons, List.not_mem_nil, or_false] at hp
  rcases hp with rfl | rfl | rfl
  · exact ⟨cmp_sub 7 (.inr rfl) hx h1 rfl rfl, by decide, rfl⟩
  · exact ⟨cmp_sub 7 (.inr rfl) hx hy rfl rfl, by decide, rfl⟩
  · exact ⟨cmp_sub 6 (.inl rfl) hx hy rfl rfl, by decide, rfl⟩
theorem letS_props (a b : Int) (ha : -1000 ≤ a ∧ a ≤ 1000) (hb : -1000 ≤ b ∧ b ≤ 1000) : letS propT [a, b] = [decide (a < 1), decide (a < b), decide (a = b)] := by
  have o1 : ∀ x : Int, -1000 ≤ x ∧ x ≤ 1000 → over x = some x := fun x hx => by unfold over; rw [if_pos (by unfold Small; omega)]
  have ex : evalT [a, b] tX = some a := o1 a ha
  have ey : evalT [a, b] tY = some b := o1 b hb
  have e1 : evalT [a, b] t1 = some 1 := by rfl
  have l1 : opV 7 a 1 = if a < 1 then 1 else 0 := rfl
  have l2 : opV 7 a b = if a < b then 1 else 0 := rfl
  have l3 : opV 6 a b = if a = b then 1 else 0 := rfl
  unfold letS propT
  simp only [List.map_cons, List.map_nil, evalT, ex, ey, e1, Option.bind_some, l1, l2, l3]
  refine List.cons_eq_cons.2 ⟨?_, List.cons_eq_cons.2 ⟨?_, List.cons_eq_cons.2 ⟨?_, rfl⟩⟩⟩
  · by_cases h : a < 1 <;> simp [h, over, Small]
  · by_cases h : a < b <;> simp [h, over, Small]
  · by_cases h : a = b <;> simp [h, over, Small]

theorem isT_lit (w : World) (T : TypeId) (k v : Int) (n : Nat) (hn : n = w.heap.size) : IsT (w.alloc (.cells #[.int .i64 k, .int .i64 v] T)) (.slice (some ⟨n, 0, none⟩) 1 1) (.n0 k v) :=
  ⟨_, _, rfl, Row.newK w T 2 n _ rfl hn⟩
theorem isTms_three {w : World} {a b c : Value} {x y z : Tm} (T : TypeId) (n : Nat) (hn : n = w.heap.size) (ha : IsT w a x) (hb : IsT w b y) (hc : IsT w c z) : IsTms (w.alloc (.cells #[a, b, c] T)) (.slice (some ⟨n, 0, none⟩) 3 3) [x, y, z] := by
  have hE := ext_al (Ext.refl w) (Obj.cells #[a, b, c] T)
  subst hn
  refine ⟨[[a], [b], [c]], rfl, by simp, ⟨_, _, rfl, Row.new w T [a, b, c] (by simp [maxLen])⟩, fun i cs s h1 h2 => ?_⟩
  match i with
  | 0 => simp at h1 h2; subst h1; subst h2; exact ⟨a, rfl, ha.ext hE⟩
  | 1 => simp at h1 h2; subst h1; subst h2; exact ⟨b, rfl, hb.ext hE⟩
  | 2 => simp at h1 h2; subst h1; subst h2; exact ⟨c, rfl, hc.ext hE⟩
  | i + 3 => simp at h1

set_option maxRecDepth 100000 in
set_option maxHeartbeats 8000000 in
theorem kprops_any (w : World) : Calls Tryz.prog 39 #[] w fun e w' => ∃ v, e = .returned v ∧ IsTms w' v propT ∧ Ext w w' := by
  have a1 := ext_al (Ext.refl w) (Obj.cells #[.int .i64 2, .int .i64 0] 75)
  have x1 := isT_lit w 75 2 0 _ rfl
  generalize hW1 : w.alloc (Obj.cells #[.int .i64 2, .int .i64 0] 75) = W1 at *
  have s1 : W1.heap.size = w.heap.size + 1 := by rw [← hW1]; simp
  have a2 := ext_al (Ext.refl W1) (Obj.cells #[.int .i64 2, .int .i64 1] 75)
  have y2 := isT_lit W1 75 2 1 (w.heap.size + 1) s1.symm
  generalize hW2 : W1.alloc (Obj.cells #[.int .i64 2, .int .i64 1] 75) = W2 at *
  have s2 : W2.heap.size = w.heap.size + 1 + 1 := by rw [← hW2]; simp [s1]
  have a3 := ext_al (Ext.refl W2) (Obj.cells #[.int .i64 1, .int .i64 1] 75)
  have z3 := isT_lit W2 75 1 1 (w.heap.size + 1 + 1) s2.symm
  generalize hW3 : W2.alloc (Obj.cells #[.int .i64 1, .int .i64 1] 75) = W3 at *
  have s3 : W3.heap.size = w.heap.size + 1 + 1 + 1 := by rw [← hW3]; simp [s2]
  have HJ1 := Lib.hid (joinT2 7 _ _ tX t1 W3 33 (x1.ext (a2.trans a3)) z3 (by decide))
  rw [s3] at HJ1
  have HA1 := Lib.hid a1
  have HX2 := Lib.hid (x1.ext a2)
  have HY2 := Lib.hid y2
  have HA2 := Lib.hid (a1.trans a2)
  have HA3 := Lib.hid a3
  subst hW3
  subst hW2
  subst hW1
  clear x1 y2 z3 a1 a2 a3 s1 s2 s3
  go_enter Tryz.func39, Tryz.ntmps39
  go_wp2_with fail
  refine HJ1.out.mono ?_
  rintro e w4 ⟨v4, rfl, h4, hE4⟩
  have HX4 := Lib.hid (HX2.out.ext (HA3.out.trans (Ext.trans (Ext.refl _) hE4)))
  have HY4 := Lib.hid (HY2.out.ext (HA3.out.trans hE4))
  have HE4 := Lib.hid ((HA2.out.trans HA3.out).trans hE4)
  have H4 := Lib.hid h4
  obtain ⟨b4, n4, c4, rfl⟩ := h4.val
  clear h4 hE4 HJ1
  go_wp2_with fail
  refine (joinT2 7 _ _ tX tY w4 _ HX4.out HY4.out (by decide)).mono ?_
  rintro e w5 ⟨v5, rfl, h5, hE5⟩
  have H5 := Lib.hid h5
  have HX5 := Lib.hid (HX4.out.ext hE5)
  have HY5 := Lib.hid (HY4.out.ext hE5)
  have HE5 := Lib.hid (HE4.out.trans hE5)
  have H45 := Lib.hid (H4.out.ext hE5)
  obtain ⟨b5, n5, c5, rfl⟩ := h5.val
  clear h5 hE5
  go_wp2_with fail
  refine (joinT2 6 _ _ tX tY w5 _ HX5.out HY5.out (by decide)).mono ?_
  rintro e w6 ⟨v6, rfl, h6, hE6⟩
  have H6 := Lib.hid (isTms_three 33 w6.heap.size rfl (H45.out.ext hE6) (H5.out.ext hE6) h6)
  have HE6 := Lib.hid (HE5.out.trans (hE6.trans (ext_al (Ext.refl w6) (Obj.cells #[.slice b4 n4 c4, .slice b5 n5 c5, v6] 33))))
  obtain ⟨b6, n6, c6, rfl⟩ := h6.val
  clear h6 hE6
  go_wp2
  go_ret
  exact ⟨_, rfl, H6.out, HE6.out⟩

end Go.Proofs.YtbmimdnpchldlaaGreatDoor

namespace Go.Proofs.YtbmimdnpchldlaaGreatDoor

/-- Does a kind look ahead? -/
def aheadB (k : Int) : Bool := decide (14 ≤ k ∧ k ≤ 18)
def cntA : List Op2 → Nat
  | [] => 0
  | o :: l => (if aheadB o.1 then 1 else 0) + cntA l
theorem cntA_app (a b : List Op2) : cntA (a ++ b) = cntA a + cntA b := by
  induction a with
  | nil => simp [cntA]
  | cons o a ih => simp only [List.cons_append, cntA, ih]; omega

def fLeaf (r : Op2) (props : Int) : Tm := if 0 < props then .n0 13 (pk r.2 props) else .n0 (11 + pk r.2 2) 0
def fKind0 (r : Op2) (d p : Nat) : Int := if d = 0 ∨ 12 < p + 1 then pk r.1 4 else pk r.1 16
def fKind (r : Op2) (d p t : Nat) : Int := if 8 < fKind0 r d p ∧ t = 0 then 4 + fKind0 r d p % 5 else fKind0 r d p
def aheadK (k : Int) : Int := if k = 9 then 14 else if k = 11 then 18 else 17

def fT (raw : List Op2) (props : Int) : Nat → Nat → Nat → Tm × Nat × Nat
  | 0, p, t => (fLeaf (rawAt raw p) props, p + 1, t)
  | d + 1, p, t =>
    if fKind (rawAt raw p) (d + 1) p t < 4 then (fLeaf (rawAt raw p) props, p + 1, t)
    else if fKind (rawAt raw p) (d + 1) p t < 6 then (.n1 10 0 (fT raw props d (p + 1) t).1, (fT raw props d (p + 1) t).2)
    else if fKind (rawAt raw p) (d + 1) p t < 9 then
      (.n2 (8 + fKind (rawAt raw p) (d + 1) p t % 2) 0 (fT raw props d (p + 1) t).1 (fT raw props d (fT raw props d (p + 1) t).2.1 (fT raw props d (p + 1) t).2.2).1, (fT raw props d (fT raw props d (p + 1) t).2.1 (fT raw props d (p + 1) t).2.2).2)
    else if fKind (rawAt raw p) (d + 1) p t < 13 then (.n1 (aheadK (fKind (rawAt raw p) (d + 1) p t)) 0 (fT raw props d (p + 1) (t - 1)).1, (fT raw props d (p + 1) (t - 1)).2)
    else
      (.n2 (15 + fKind (rawAt raw p) (d + 1) p t % 2) 0 (fT raw props d (p + 1) (t - 1)).1 (fT raw props d (fT raw props d (p + 1) (t - 1)).2.1 (fT raw props d (p + 1) (t - 1)).2.2).1, (fT raw props d (fT raw props d (p + 1) (t - 1)).2.1 (fT raw props d (p + 1) (t - 1)).2.2).2)

theorem fKind0_bd (r : Op2) (d p : Nat) : 0 ≤ fKind0 r d p ∧ fKind0 r d p < 16 ∧ (d = 0 ∨ 12 ≤ p → fKind0 r d p < 4) := by
  unfold fKind0
  have h1 := pk_bd r.1 4 (by omega)
  have h2 := pk_bd r.1 16 (by omega)
  split <;> omega

theorem fKind_bd (r : Op2) (d p t : Nat) : 0 ≤ fKind r d p t ∧ fKind r d p t < 16 ∧ (d = 0 ∨ 12 ≤ p → fKind r d p t < 4) ∧ (t = 0 → fKind r d p t < 9) := by
  have h := fKind0_bd r d p
  unfold fKind
  split <;> omega

theorem fLeaf_size (r : Op2) (props : Int) : (fLeaf r props).size = 1 := by unfold fLeaf; split <;> rfl

theorem fT_size (raw : List Op2) (props : Int) : ∀ d p t, (fT raw props d p t).2.1 = p + (fT raw props d p t).1.size := by
  intro d
  induction d with
  | zero => intro p t; simp [fT, fLeaf_size]
  | succ d ih =>
    intro p t
    unfold fT
    have h1 := ih (p + 1) t
    have h2 := ih (fT raw props d (p + 1) t).2.1 (fT raw props d (p + 1) t).2.2
    have h3 := ih (p + 1) (t - 1)
    have h4 := ih (fT raw props d (p + 1) (t - 1)).2.1 (fT raw props d (p + 1) (t - 1)).2.2
    split
    · simp [fLeaf_size]
    · split
      · simp only [Tm.size]; omega
      · split
        · simp only [Tm.size]; omega
        · split <;> simp only [Tm.size] <;> omega

theorem fT_end (raw : List Op2) (props : Int) : ∀ d p t, (12 ≤ p → (fT raw props d p t).2.1 = p + 1) ∧ (p < 12 → (fT raw props d p t).2.1 ≤ 13 + d) := by
  intro d
  induction d with
  | zero => intro p t; exact ⟨fun _ => rfl, fun h => by show p + 1 ≤ 13 + 0; omega⟩
  | succ d ih =>
    intro p t
    have hk := fKind_bd (rawAt raw p) (d + 1) p t
    have h1 := ih (p + 1) t
    have h2 := ih (fT raw props d (p + 1) t).2.1 (fT raw props d (p + 1) t).2.2
    have h3 := ih (p + 1) (t - 1)
    have h4 := ih (fT raw props d (p + 1) (t - 1)).2.1 (fT raw props d (p + 1) (t - 1)).2.2
    by_cases hp : 12 ≤ p
    · unfold fT
      rw [if_pos (by omega)]
      exact ⟨fun _ => rfl, fun h => by omega⟩
    · refine ⟨fun h => by omega, fun _ => ?_⟩
      unfold fT
      split
      · show p + 1 ≤ _; omega
      · split
        · show (fT raw props d (p + 1) t).2.1 ≤ _; omega
        · split
          · show (fT raw props d (fT raw props d (p + 1) t).2.1 (fT raw props d (p + 1) t).2.2).2.1 ≤ _; omega
          · split
            · show (fT raw props d (p + 1) (t - 1)).2.1 ≤ _; omega
            · show (fT raw props d (fT raw props d (p + 1) (t - 1)).2.1 (fT raw props d (p + 1) (t - 1)).2.2).2.1 ≤ _; omega

theorem fT_small (raw : List Op2) (props : Int) (d t : Nat) : (fT raw props d 0 t).1.size ≤ 13 + d := by
  have h1 := (fT_end raw props d 0 t).2 (by omega)
  have h2 := fT_size raw props d 0 t
  omega

theorem fLeaf_ok (r : Op2) (props : Int) : (fLeaf r props).ok := by
  unfold fLeaf
  have := pk_bd r.2 2 (by omega)
  split
  · simp [Tm.ok, partsOf]
  · refine ⟨by omega, by omega, ?_⟩
    unfold partsOf
    rw [if_neg (by omega), if_neg (by omega)]

theorem fT_ok (raw : List Op2) (props : Int) : ∀ d p t, (fT raw props d p t).1.ok := by
  intro d
  induction d with
  | zero => intro p t; exact fLeaf_ok _ _
  | succ d ih =>
    intro p t
    have hk := fKind_bd (rawAt raw p) (d + 1) p t
    unfold fT
    split
    · exact fLeaf_ok _ _
    · split
      · exact ⟨by omega, by omega, by unfold partsOf; simp, ih _ _⟩
      · split
        · refine ⟨by omega, by omega, ?_, ih _ _, ih _ _⟩
          unfold partsOf
          rw [if_pos (by omega)]
        · split
          · have ha : aheadK (fKind (rawAt raw p) (d + 1) p t) = 14 ∨ aheadK (fKind (rawAt raw p) (d + 1) p t) = 17 ∨ aheadK (fKind (rawAt raw p) (d + 1) p t) = 18 := by
              unfold aheadK; split
              · omega
              · split <;> omega
            refine ⟨by omega, by omega, ?_, ih _ _⟩
            unfold partsOf
            rw [if_neg (by omega), if_pos (by omega)]
          · refine ⟨by omega, by omega, ?_, ih _ _, ih _ _⟩
            unfold partsOf
            rw [if_pos (by omega)]

/-- What logic.Check wants of an op. -/
def FitOp (props : Int) (o : Op2) : Prop := 8 ≤ o.1 ∧ o.1 ≤ 18 ∧ (o.1 = 13 → 0 ≤ o.2 ∧ o.2 < props) ∧ (o.1 ≠ 13 → o.2 = 0)

theorem fLeaf_fit (r : Op2) (props : Int) : ∀ o ∈ (fLeaf r props).flat, FitOp props o ∧ aheadB o.1 = false := by
  unfold fLeaf
  have := pk_bd r.2 2 (by omega)
  split
  · rename_i h
    have := pk_bd r.2 props h
    intro o ho
    simp only [Tm.flat, List.mem_singleton] at ho
    subst ho
    refine ⟨⟨by simp, by simp, fun _ => this, fun h => absurd rfl h⟩, by simp [aheadB]⟩
  · intro o ho
    simp only [Tm.flat, List.mem_singleton] at ho
    subst ho
    refine ⟨⟨by simp only; omega, by simp only; omega, fun h => by simp only at h; omega, fun _ => rfl⟩, ?_⟩
    unfold aheadB
    simp only [decide_eq_false_iff_not]
    omega

theorem fT_fit (raw : List Op2) (props : Int) : ∀ d p t, ∀ o ∈ (fT raw props d p t).1.flat, FitOp props o := by
  intro d
  induction d with
  | zero => intro p t o ho; exact (fLeaf_fit _ _ o ho).1
  | succ d ih =>
    intro p t o ho
    have hk := fKind_bd (rawAt raw p) (d + 1) p t
    unfold fT at ho
    have hop : ∀ k : Int, 8 ≤ k → k ≤ 18 → k ≠ 13 → FitOp props (k, 0) := fun k h1 h2 h3 => ⟨h1, h2, fun h => absurd h h3, fun _ => rfl⟩
    split at ho
    · exact (fLeaf_fit _ _ o ho).1
    · split at ho
      · rcases List.mem_cons.1 ho with rfl | ho
        · exact hop 10 (by omega) (by omega) (by omega)
        · exact ih _ _ o ho
      · split at ho
        · rcases List.mem_cons.1 ho with rfl | ho
          · exact hop _ (by omega) (by omega) (by omega)
          · rcases List.mem_append.1 ho with ho | ho
            · exact ih _ _ o ho
            · exact ih _ _ o ho
        · split at ho
          · have ha : aheadK (fKind (rawAt raw p) (d + 1) p t) = 14 ∨ aheadK (fKind (rawAt raw p) (d + 1) p t) = 17 ∨ aheadK (fKind (rawAt raw p) (d + 1) p t) = 18 := by
              unfold aheadK; split
              · omega
              · split <;> omega
            rcases List.mem_cons.1 ho with rfl | ho
            · exact hop _ (by omega) (by omega) (by omega)
            · exact ih _ _ o ho
          · rcases List.mem_cons.1 ho with rfl | ho
            · exact hop _ (by omega) (by omega) (by omega)
            · rcases List.mem_append.1 ho with ho | ho
              · exact ih _ _ o ho
              · exact ih _ _ o ho

theorem cntA_zero : ∀ l : List Op2, (∀ o ∈ l, aheadB o.1 = false) → cntA l = 0
  | [], _ => rfl
  | o :: l, h => by
    have h1 := h o (by simp)
    have h2 := cntA_zero l fun x hx => h x (List.mem_cons_of_mem _ hx)
    simp [cntA, h1, h2]

theorem fT_cnt (raw : List Op2) (props : Int) : ∀ d p t, cntA (fT raw props d p t).1.flat + (fT raw props d p t).2.2 = t := by
  intro d
  induction d with
  | zero =>
    intro p t
    have := cntA_zero _ fun o ho => (fLeaf_fit (rawAt raw p) props o ho).2
    simp [fT, this]
  | succ d ih =>
    intro p t
    have hk := fKind_bd (rawAt raw p) (d + 1) p t
    have h1 := ih (p + 1) t
    have h2 := ih (fT raw props d (p + 1) t).2.1 (fT raw props d (p + 1) t).2.2
    have h3 := ih (p + 1) (t - 1)
    have h4 := ih (fT raw props d (p + 1) (t - 1)).2.1 (fT raw props d (p + 1) (t - 1)).2.2
    unfold fT
    split
    · have := cntA_zero _ fun o ho => (fLeaf_fit (rawAt raw p) props o ho).2
      simp [this]
    · split
      · simp only [Tm.flat, cntA, aheadB]
        simp
        exact h1
      · split
        · have hb : aheadB (8 + fKind (rawAt raw p) (d + 1) p t % 2) = false := by unfold aheadB; simp only [decide_eq_false_iff_not]; omega
          simp only [Tm.flat, cntA, cntA_app, hb]
          simp
          omega
        · have ht : t ≠ 0 := fun e => by have := hk.2.2.2 e; omega
          split
          · have hb : aheadB (aheadK (fKind (rawAt raw p) (d + 1) p t)) = true := by
              unfold aheadB aheadK; split
              · simp
              · split <;> simp
            simp only [Tm.flat, cntA, hb]
            simp
            omega
          · have hb : aheadB (15 + fKind (rawAt raw p) (d + 1) p t % 2) = true := by unfold aheadB; simp only [decide_eq_true_eq]; omega
            simp only [Tm.flat, cntA, cntA_app, hb]
            simp
            omega

end Go.Proofs.YtbmimdnpchldlaaGreatDoor

namespace Go.Proofs.YtbmimdnpchldlaaGreatDoor
open Go.RowKit

theorem Row.oneAt' (w : World) (t : TypeId) (x : Value) (k : Nat) (hk : k = w.heap.size) : Row (w.alloc (.cells #[x] t)) 1 (some ⟨k, 0, none⟩) 1 1 [x] := by subst hk; exact Row.one w t x

theorem ah_fn (k : Int) (w : World) : Calls Tryz.prog 77 #[.int .i64 k] w fun e w' => e = .returned (.bool (aheadB k)) ∧ w = w' := by
  by_cases h1 : 14 ≤ k
  · by_cases h2 : k ≤ 18
    · have hb : aheadB k = true := by simp [aheadB, h1, h2]
      rw [hb]
      go_enter Tryz.func77, Tryz.ntmps77
      go_wp2
      go_ret
      exact ⟨rfl, rfl⟩
    · have hb : aheadB k = false := by simp [aheadB, h2]
      rw [hb]
      go_enter Tryz.func77, Tryz.ntmps77
      go_wp2
      go_ret
      exact ⟨rfl, rfl⟩
  · have hb : aheadB k = false := by simp [aheadB, h1]
    rw [hb]
    go_enter Tryz.func77, Tryz.ntmps77
    go_wp2
    go_ret
    exact ⟨rfl, rfl⟩

theorem fits_ok (o : Op2) (props : Int) (w : World) (h : FitOp props o) : Calls Tryz.prog 108 #[.agg #[.int .i64 o.1, .int .i64 o.2], .int .i64 props] w fun e w' => e = .returned (.int .i64 0) ∧ Ext w w' := by
  obtain ⟨k, v⟩ := o
  obtain ⟨h1, h2, h3, h4⟩ := h
  simp only at h1 h2 h3 h4 ⊢
  have hk8 : ¬ k < 8 := by omega
  by_cases hk : k = 13
  · obtain ⟨h5, h6⟩ := h3 hk
    have hv : ¬ v < 0 := by omega
    have hv2 : ¬ props ≤ v := by omega
    clear h3 h4
    subst hk
    go_enter Tryz.func108, Tryz.ntmps108
    go_wp2
    go_ret
    exact ⟨rfl, ext_al (Ext.refl w) _⟩
  · have hv := h4 hk
    have hkb : (k == 13) = false := by rw [beq_eq_false_iff_ne]; exact hk
    have hkb2 : (k != 13) = true := by rw [bne_iff_ne]; exact hk
    clear h3 h4
    subst hv
    go_enter Tryz.func108, Tryz.ntmps108
    go_wp2
    go_ret
    exact ⟨rfl, ext_al (Ext.refl w) _⟩

theorem cntA_take (l : List Op2) {i : Nat} (h : i < l.length) : cntA (l.take (i + 1)) = cntA (l.take i) + (if aheadB l[i].1 then 1 else 0) := by
  rw [List.take_succ_eq_append_getElem h, cntA_app]
  simp [cntA]

theorem cntA_take_le (l : List Op2) (i : Nat) : cntA (l.take i) ≤ cntA l := by
  have : cntA l = cntA (l.take i) + cntA (l.drop i) := by rw [← cntA_app, List.take_append_drop]
  omega

/-- A formula: what logic.Check wants. -/
structure IsF (l : List Op2) (props : Int) (t : Tm) : Prop where
  ok : t.ok
  flat : t.flat = l
  small : t.size ≤ 60
  fit : ∀ o ∈ l, FitOp props o
  cnt : cntA l ≤ 6
  p0 : 0 ≤ props
  p6 : props ≤ 6

set_option maxRecDepth 100000 in
set_option maxHeartbeats 4000000 in
theorem lcheck_ok (v : Value) (l : List Op2) (props : Int) (t : Tm) (w : World) (h : Ops w v l) (ht : Tab w) (hf : IsF l props t) :
    Calls Tryz.prog 76 #[v, .int .i64 props] w fun e w' => e = .returned (.int .i64 0) ∧ Ext w w' := by
  have hen := ends_term t hf.ok hf.small
  rw [hf.flat] at hen
  have HH := Lib.hid (by have H := ends_any v l w h ht; rw [hen] at H; exact H)
  obtain ⟨a, cap, rfl, hr⟩ := h
  have hl60 : l.length ≤ 60 := by rw [← hf.flat, Tm.flat_len]; exact hf.small
  have hpos : 0 < l.length := by rw [← hf.flat, Tm.flat_len]; exact t.size_pos
  have HR := Lib.hid hr
  have HF := Lib.hid hf
  have hp0 := hf.p0
  have hp6 := hf.p6
  clear hen hf hr ht
  go_enter Tryz.func76, Tryz.ntmps76
  go_wp2_with fail
  refine HH.out.mono ?_
  rintro e w1 ⟨hE1, v1, rfl, hown⟩
  obtain ⟨a1, c1, rfl, _⟩ := hown.row
  have HE1 := Lib.hid hE1
  clear hown hE1 HH
  go_wp2_with fail
  go_loopg [7, 27] l.length (fun m y x wr => ∃ i : Nat, m + i = l.length ∧ x = .int .i64 (i : Int) ∧ y = .int .i64 (cntA (l.take i) : Int) ∧ Ext w wr)
  case atStart => exact ⟨0, by omega, by go_num, by simp [cntA], HE1.out⟩
  case round =>
    obtain ⟨i, hmi, rfl, rfl, hE⟩ := hrel
    have HMI := Lib.hid hmi
    have HE := Lib.hid hE
    by_cases hi : i < l.length
    · obtain ⟨b, off, ha, hc⟩ := (HR.out.ext hE).ops
      obtain rfl := ha hpos
      obtain ⟨k1, k2⟩ := hc i hi
      have hfit := HF.out.fit l[i] (by simp)
      have HCN := Lib.hid (cntA_take l hi)
      have hle := cntA_take_le l i
      have hc6 := HF.out.cnt
      have hiI : (i : Int) < (l.length : Int) := by omega
      have hi0 : (0 : Int) ≤ (i : Int) := by omega
      have HFO := Lib.hid fun wx => fits_ok l[i] props wx hfit
      have HAF := Lib.hid fun wx => ah_fn l[i].1 wx
      clear hc ha hE hmi hfit
      generalize l[i] = o at *
      generalize hcn : cntA (l.take i) = n at *
      have HN := Lib.hid hcn
      clear hcn
      have q0 := blk_new wr (Obj.cells #[.int .i64 o.1, .int .i64 o.2] 75)
      have HQ := Lib.hid q0
      clear q0
      go_wp2_with fail
      refine (HFO.out _).mono ?_
      rintro e w3 ⟨rfl, hE3⟩
      have q3 := blk_ext HQ.out hE3
      have q30 := blk_cell q3 (i := 0) rfl
      have HE3 := Lib.hid (Ext.trans (ext_al HE.out (Obj.cells #[.int .i64 o.1, .int .i64 o.2] 75)) hE3)
      clear q3 hE3
      go_wp2_with fail
      refine (HAF.out _).mono ?_
      rintro e wq ⟨rfl, rfl⟩
      have hcn2 := HCN.out
      cases hah : aheadB o.1
      · rw [hah] at hcn2
        have HC2 := Lib.hid hcn2
        clear hcn2 hah
        go_wp2_with fail
        go_roundg (gk - 1)
        case measure => have := HMI.out; omega
        case rel => exact ⟨i + 1, by have := HMI.out; omega, by go_num, by rw [HC2.out]; rfl, HE3.out⟩
      · rw [hah] at hcn2
        have HC2 := Lib.hid hcn2
        clear hcn2 hah
        go_wp2_with fail
        go_roundg (gk - 1)
        case measure => have := HMI.out; omega
        case rel => exact ⟨i + 1, by have := HMI.out; omega, by go_num, by rw [HC2.out]; go_num, HE3.out⟩
    · have hiI : ¬ (i : Int) < (l.length : Int) := by omega
      have hle := cntA_take_le l i
      have hc6 := HF.out.cnt
      have hc6I : ¬ (6 : Int) < (cntA (l.take i) : Int) := by omega
      generalize cntA (l.take i) = n at *
      go_wp2
      go_ret
      exact ⟨rfl, HE.out⟩

/-- The places of the ops that look ahead among the first. -/
def plUp (l : List Op2) : Nat → List Nat
  | 0 => []
  | i + 1 => if aheadB (l.getD i (0, 0)).1 then plUp l i ++ [i] else plUp l i
theorem plUp_len (l : List Op2) : ∀ i, i ≤ l.length → (plUp l i).length = cntA (l.take i)
  | 0, _ => by simp [plUp, cntA]
  | i + 1, h => by
    have ih := plUp_len l i (by omega)
    rw [cntA_take l (by omega)]
    unfold plUp
    rw [show l.getD i (0, 0) = l[i]'(by omega) by simp [List.getD, List.getElem?_eq_getElem (show i < l.length by omega)]]
    split
    · rename_i e; rw [List.length_append, ih]; rfl
    · rename_i e; rw [ih]; rfl
theorem plUp_get (l : List Op2) : ∀ i, i ≤ l.length → ∀ j a, (plUp l i)[j]? = some a → a < i ∧ aheadB (l.getD a (0, 0)).1 = true ∧ cntA (l.take a) = j
  | 0, _, j, a, h => by simp [plUp] at h
  | i + 1, hi, j, a, h => by
    unfold plUp at h
    split at h
    · rename_i e
      by_cases hj : j < (plUp l i).length
      · rw [List.getElem?_append_left hj] at h
        obtain ⟨h1, h2, h3⟩ := plUp_get l i (by omega) j a h
        exact ⟨by omega, h2, h3⟩
      · rw [List.getElem?_append_right (by omega)] at h
        have hj2 : j - (plUp l i).length = 0 := by
          by_cases e0 : j - (plUp l i).length = 0
          · exact e0
          · rw [List.getElem?_eq_none (by simp; omega)] at h; cases h
        rw [hj2] at h
        have : i = a := by simpa using h
        subst this
        exact ⟨by omega, e, by rw [← plUp_len l i (by omega)]; omega⟩
    · obtain ⟨h1, h2, h3⟩ := plUp_get l i (by omega) j a h
      exact ⟨by omega, h2, h3⟩

def plL (l : List Op2) : List Int := (plUp l l.length).map fun a : Nat => (a : Int)
theorem plL_len (l : List Op2) : (plL l).length = cntA l := by
  rw [plL, List.length_map, plUp_len l l.length (Nat.le_refl _), List.take_length]

set_option maxRecDepth 100000 in
set_option maxHeartbeats 4000000 in
theorem places_any (v : Value) (l : List Op2) (props : Int) (t : Tm) (w : World) (h : Ops w v l) (ht : Tab w) (hf : IsF l props t) :
    Calls Tryz.prog 43 #[v, .int .i64 props] w fun e w' => ∃ a c, e = .returned (.tuple #[.slice a (plL l).length c, .int .i64 0]) ∧ w'.ownsRow w.heap.size 3 1 (.slice a (plL l).length c) (plL l).length ((plL l).map (.int .i64)) ∧ Ext w w' := by
  have HCK := Lib.hid (lcheck_ok v l props t w h ht hf)
  obtain ⟨a, cap, rfl, hr⟩ := h
  have hl60 : l.length ≤ 60 := by rw [← hf.flat, Tm.flat_len]; exact hf.small
  have hpos : 0 < l.length := by rw [← hf.flat, Tm.flat_len]; exact t.size_pos
  have HR := Lib.hid hr
  have hc6 := hf.cnt
  clear hf hr ht
  go_enter Tryz.func43, Tryz.ntmps43
  go_wp2_with fail
  refine HCK.out.mono ?_
  rintro e w1 ⟨rfl, hE1⟩
  have HE1 := Lib.hid hE1
  clear hE1 HCK
  go_wp2_with fail
  go_loopg [7, 18] l.length (fun m y x wr => ∃ (i : Nat) (ap : Option Addr) (cp : Nat), m + i = l.length ∧ x = .int .i64 (i : Int) ∧ y = .slice ap (plUp l i).length cp ∧ wr.ownsRow w1.heap.size 3 1 (.slice ap (plUp l i).length cp) (plUp l i).length ((plUp l i).map fun a : Nat => Value.int .i64 (a : Int)) ∧ Ext w1 wr)
  case atStart => exact ⟨0, none, 0, by omega, by go_num, rfl, World.ownsRow_nil _ _ _ _, Ext.refl _⟩
  case round =>
    obtain ⟨i, ap, cp, hmi, rfl, rfl, ho, hE⟩ := hrel
    have HMI := Lib.hid hmi
    have HO := Lib.hid ho
    have HE := Lib.hid hE
    by_cases hi : i < l.length
    · obtain ⟨b, off, ha, hc⟩ := (HR.out.ext (HE1.out.trans hE)).ops
      obtain rfl := ha hpos
      obtain ⟨k1, k2⟩ := hc i hi
      have hiI : (i : Int) < (l.length : Int) := by omega
      have hi0 : (0 : Int) ≤ (i : Int) := by omega
      have hpl : plUp l (i + 1) = if aheadB l[i].1 then plUp l i ++ [i] else plUp l i := by
        rw [plUp, show l.getD i (0, 0) = l[i] by simp [List.getD, List.getElem?_eq_getElem hi]]
      have hpn : (plUp l i).length ≤ 6 := by have := cntA_take_le l i; rw [plUp_len l i (by omega)]; omega
      have HPL := Lib.hid hpl
      clear hc ha hE hmi hpl ho
      generalize l[i] = o at *
      generalize plUp l i = pl at *
      have q0 := blk_new wr (Obj.cells #[.int .i64 o.1, .int .i64 o.2] 75)
      have hx := ext_al HE.out (Obj.cells #[.int .i64 o.1, .int .i64 o.2] 75)
      have HX := Lib.hid hx
      have ho2 := HO.out.alloc (Obj.cells #[.int .i64 o.1, .int .i64 o.2] 75)
      have HO2 := Lib.hid ho2
      clear q0 hx ho2
      go_wp2_with fail
      refine (ah_fn o.1 _).mono ?_
      rintro e wq ⟨rfl, rfl⟩
      have hpl := HPL.out
      cases hah : aheadB o.1
      · rw [hah, if_neg (by simp)] at hpl
        have HP2 := Lib.hid hpl
        clear hpl hah
        go_wp2_with fail
        go_roundg (gk - 1)
        case measure => have := HMI.out; omega
        case rel => exact ⟨i + 1, ap, cp, by have := HMI.out; omega, by go_num, by rw [HP2.out], by rw [HP2.out]; exact HO2.out, HX.out⟩
      · rw [hah, if_pos rfl] at hpl
        have HP2 := Lib.hid hpl
        have ho3 := HO2.out.alloc (Obj.cells #[.int .i64 (i : Int)] 3)
        have hx3 := ext_al HX.out (Obj.cells #[.int .i64 (i : Int)] 3)
        have HO3 := Lib.hid ho3
        have HX3 := Lib.hid hx3
        clear hpl hah hx3
        go_wp2_with (at_builtin; go_must (refine wpl_append rfl rfl Tryz.slInts w1.heap.size rfl ho3 rfl (Row.oneAt' _ _ _ _ (by simp)) (one_int _) (by unfold maxLen; omega) (by omega) HX3.out.size ?_))
        intro v4 w4 hown4 hg4 hb4 _
        obtain ⟨a4, c4, rfl, _⟩ := hown4.row
        have HE4 := Lib.hid (Below.grown HX3.out hg4 HX3.out.size (fun b hb => (HO3.out.lt b hb).1))
        have HO4 := Lib.hid hown4
        clear hown4 hg4 hb4 ho3
        go_wp2_with fail
        go_roundg (gk - 1)
        case measure => have := HMI.out; omega
        case rel => exact ⟨i + 1, a4, c4, by have := HMI.out; omega, by go_num, by rw [HP2.out, List.length_append]; rfl, by rw [HP2.out, List.length_append, List.map_append]; exact HO4.out, HE4.out⟩
    · obtain rfl : i = l.length := by omega
      have hiI : ¬ (l.length : Int) < (l.length : Int) := by omega
      have hl : (plL l).length = (plUp l l.length).length := by rw [plL, List.length_map]
      have hm : (plL l).map (Value.int .i64) = (plUp l l.length).map fun a : Nat => Value.int .i64 (a : Int) := by rw [plL, List.map_map]; rfl
      have HL := Lib.hid hl
      have HMM := Lib.hid hm
      have HEW := Lib.hid (HE1.out.trans hE)
      clear hE ho hl hm HE hmi
      go_wp2
      go_ret2
      exact ⟨ap, cp, by rw [HL.out]; rfl, by rw [HL.out, HMM.out]; exact own_down HO.out HE1.out.size, HEW.out⟩

end Go.Proofs.YtbmimdnpchldlaaGreatDoor
