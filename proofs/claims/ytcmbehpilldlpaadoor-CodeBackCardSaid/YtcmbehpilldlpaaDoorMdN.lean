/- The contracts of step.next, step.Next. -/
import Derived.Test.YtcmbehpilldlpaaDoorMdK
namespace Go.Proofs.YtcmbehpilldlpaaDoor
open Go.RowKit

theorem behindL_snoc (m : Md) (xs : List Int) {l : List Rl} {i : Nat} (hi : i < l.length) : behindL m xs (l.take (i + 1)) = behindL m xs (l.take i) ++ (match afterV m l[i] xs with
    | none => []
    | some ys => [codeL m.vars ys 0]) := by
  rw [List.take_succ_eq_append_getElem hi, behindL_app]
  congr 1
  cases h : afterV m l[i] xs <;> simp [behindL, h]

def behV (m : Md) (xs : List Int) (l : List Rl) (i : Nat) : List Value := (behindL m xs (l.take i)).map (.int .i64)
theorem behV_none {m : Md} {xs : List Int} {l : List Rl} {i : Nat} (hi : i < l.length) (h : afterV m l[i] xs = none) : behV m xs l (i + 1) = behV m xs l i ∧ (behindL m xs (l.take (i + 1))).length = (behindL m xs (l.take i)).length := by
  unfold behV
  rw [behindL_snoc m xs hi, h]
  simp
theorem behV_some {m : Md} {xs ys : List Int} {l : List Rl} {i : Nat} (hi : i < l.length) (h : afterV m l[i] xs = some ys) : behV m xs l (i + 1) = behV m xs l i ++ [.int .i64 (codeL m.vars ys 0)] ∧ (behindL m xs (l.take (i + 1))).length = (behindL m xs (l.take i)).length + 1 := by
  unfold behV
  rw [behindL_snoc m xs hi, h]
  simp

set_option maxRecDepth 100000 in
set_option maxHeartbeats 16000000 in
theorem next_any (vv rv xv : Value) (m : Md) (xs : List Int) (w : World) (h : IsMd w vv rv m) (ht : Tab w) (hp : m.Ok) (h0 : 0 < m.vars.length) (hx : Ints w xv xs) (hI : InV m.vars xs) :
    Calls Tryd.prog 35 #[.agg #[vv, rv], xv] w fun e w' => ∃ v, e = .returned v ∧ w'.ownsRow w.heap.size 3 1 v (setL (behindL m xs m.rules)).length ((setL (behindL m xs m.rules)).map (.int .i64)) ∧ Ext w w' := by
  obtain ⟨av, cv, rfl⟩ := EachL.val h.vars
  obtain ⟨a, c, rfl, _, b, off, ha, hcells⟩ := h.rules.at
  have h12 := hp.twelve
  have hbk := blk_new w (Obj.cells #[.slice av m.vars.length cv, .slice a m.rules.length c] 29)
  have hE0 := ext_al (Ext.refl w) (Obj.cells #[.slice av m.vars.length cv, .slice a m.rules.length c] 29)
  have HAF := Lib.hid fun (g s : Value) (r : Rl) wx (hr : r ∈ m.rules) (hg : IsT w g r.guard) (hs : IsSets w s r.sets) (hx' : Ext w wx) => after_any (.slice av m.vars.length cv) (.slice a m.rules.length c) g s xv m r xs wx (h.vars.ext hx') ⟨_, _, _, rfl⟩ (hg.ext hx') (hs.ext hx') (ht.ext hx') hp.vars hp.six h0 (hp.rules r hr) (hx.ext hx') hI
  have HCO := Lib.hid fun (v : Value) (ys : List Int) wx (hx' : Ext w wx) (hy : Ints wx v ys) (hb : InV m.vars ys) => code_any (.slice av m.vars.length cv) (.slice a m.rules.length c) v m ys wx (h.ext hx') (ht.ext hx') hp hy (fun x hxy => by
    have := inV_small hp.vars hb x hxy
    unfold I64; omega)
  have HIN := Lib.hid fun (r : Rl) (ys : List Int) (hr : r ∈ m.rules) (he : afterV m r xs = some ys) => afterV_in (hp.rules r hr) hI he
  have HA := Lib.hid ha
  have HC := Lib.hid hcells
  obtain ⟨ax, cx, rfl, _⟩ := hx
  have HL5 := Lib.hid fun (i : Nat) => (show (behindL m xs (m.rules.take i)).length ≤ 12 from Nat.le_trans (behindL_len m xs _) (by rw [List.length_take]; omega))
  clear h ht hp hcells ha
  obtain ⟨l, hl⟩ : ∃ l, m.rules = l := ⟨_, rfl⟩
  rw [hl] at HAF HCO HIN HA HC HL5 h12 hbk hE0 ⊢
  clear hl
  generalize m.vars.length = nv at *
  generalize xs.length = nx at *
  go_enter Tryd.func35, Tryd.ntmps35
  have d1 := blk_cell hbk (i := 1) (v := .slice a l.length c) rfl
  have HB := Lib.hid hbk
  have HE := Lib.hid hE0
  clear hbk hE0
  go_wp2_with fail
  generalize w.alloc (Obj.cells #[.slice av nv cv, .slice a l.length c] 29) = W1 at *
  clear d1
  have HO0 := Lib.hid (show W1.ownsRow W1.heap.size 3 1 (.slice none 0 0) (behindL m xs (l.take 0)).length (behV m xs l 0) from World.ownsRow_nil _ _ _ _)
  go_loopg [15, 5] l.length (fun k x s wr => ∃ (i : Nat) (as' : Option Addr) (cs' : Nat), k + i = l.length ∧ x = .int .i64 (i : Int) ∧ s = .slice as' (behindL m xs (l.take i)).length cs' ∧ Ext W1 wr ∧ wr.ownsRow W1.heap.size 3 1 (.slice as' (behindL m xs (l.take i)).length cs') (behindL m xs (l.take i)).length (behV m xs l i))
  case atStart => exact ⟨0, none, 0, by omega, by go_num, rfl, Ext.refl _, HO0.out⟩
  case round =>
    obtain ⟨i, as', cs', hki, rfl, rfl, hE, hO⟩ := hrel
    clear HO0
    have HKI := Lib.hid hki
    have HX := Lib.hid hE
    have HXW := Lib.hid (HE.out.trans hE)
    by_cases hi : i < l.length
    · obtain rfl := HA.out (by omega)
      obtain ⟨g, s, c0, c1, hg, hs⟩ := HC.out i hi
      have c0 := cell_later HXW.out c0
      have c1 := cell_later HXW.out c1
      have hiI : (i : Int) < (l.length : Int) := by omega
      have hi0 : (0 : Int) ≤ (i : Int) := by omega
      have hx3 := ext_al (Ext.refl wr) (Obj.cells #[g, s] 42)
      have hb3 := blk_new wr (Obj.cells #[g, s] 42)
      have HAR := Lib.hid (HAF.out g s l[i] _ (by simp) hg hs (HXW.out.trans hx3))
      have HX3 := Lib.hid (HX.out.trans hx3)
      have d0 := blk_cell (blk_ext HB.out HX3.out) (i := 0) (v := .slice av nv cv) rfl
      have d1 := blk_cell (blk_ext HB.out HX3.out) (i := 1) (v := .slice (some ⟨b, off, none⟩) l.length c) rfl
      have e1 := blk_cell (blk_ext HB.out HX.out) (i := 1) (v := .slice (some ⟨b, off, none⟩) l.length c) rfl
      have r0 := blk_cell hb3 (i := 0) (v := g) rfl
      have r1 := blk_cell hb3 (i := 1) (v := s) rfl
      have HO3 := Lib.hid (own_ext hO hx3)
      obtain ⟨ag, ng, cg, rfl⟩ := hg.val
      obtain ⟨asl, csl, rfl⟩ := EachL.val hs
      obtain ⟨nss, hnss⟩ : ∃ n, l[i].sets.length = n := ⟨_, rfl⟩
      rw [hnss] at HAR hx3 hb3 HX3 d0 d1 r0 r1 HO3 c1
      have HIN2 := Lib.hid fun (ys : List Int) (he : afterV m l[i] xs = some ys) => HIN.out l[i] ys (by simp) he
      have HBN := Lib.hid fun (he : afterV m l[i] xs = none) => behV_none hi he
      have HBS := Lib.hid fun (ys : List Int) (he : afterV m l[i] xs = some ys) => behV_some hi he
      have h5 := HL5.out i
      generalize afterV m l[i] xs = ra at *
      clear hE hO hki hg hs hb3 hx3 hnss
      go_wp2_with fail
      generalize wr.alloc (Obj.cells #[.slice ag ng cg, .slice asl nss csl] 42) = W3 at *
      refine HAR.out.mono ?_
      rintro e w4 ⟨hE4, ⟨rfl, rfl⟩ | ⟨ys, v4, rfl, rfl, hown4⟩⟩
      · have HO4 := Lib.hid (own_ext HO3.out hE4)
        have HX4 := Lib.hid (HX3.out.trans hE4)
        obtain ⟨hn1, hn2⟩ := HBN.out rfl
        have HN1 := Lib.hid hn1
        have HN2 := Lib.hid hn2
        clear hE4 hn1 hn2 HAR HBN HBS HIN2 d0 d1 e1 r0 r1 c0 c1 HO3 HX3
        go_wp2_with fail
        go_roundg (gk - 1)
        case measure => have := HKI.out; omega
        case rel => exact ⟨i + 1, as', cs', by have := HKI.out; omega, by go_num, by rw [HN2.out], HX4.out, by rw [HN1.out, HN2.out]; exact HO4.out⟩
      · have hO4 := own_ext HO3.out hE4
        have HX4 := Lib.hid (HX3.out.trans hE4)
        have HYI := Lib.hid (HIN2.out ys rfl)
        obtain ⟨hn1, hn2⟩ := HBS.out ys rfl
        have HCC := Lib.hid (HCO.out v4 ys w4 (HE.out.trans HX4.out) (show Ints w4 v4 ys from hown4.reads) HYI.out)
        have d0 := cell_later hE4 d0
        have d1 := cell_later hE4 d1
        have HO4 := Lib.hid hO4
        have HN1 := Lib.hid hn1
        have HN2 := Lib.hid hn2
        obtain ⟨a4, c4, rfl, _⟩ := hown4.row
        clear hE4 hn1 hn2 HAR HBN HBS HIN2 e1 r0 r1 c0 c1 HO3 HX3 hO4 hown4
        go_wp2_with fail
        refine HCC.out.mono ?_
        rintro e w5 ⟨n, k, rfl, hce, hE5⟩
        obtain ⟨hnn, rfl⟩ : n = codeL m.vars ys 0 ∧ k = 0 := by
          rcases hce with ⟨_, h1, h2⟩ | ⟨h1, _⟩
          · exact ⟨h1, h2⟩
          · exact absurd HYI.out h1
        have HNN := Lib.hid hnn
        have HX5 := Lib.hid (HX4.out.trans hE5)
        have HO5 := Lib.hid fun (o : Obj) => own_ext (own_ext HO4.out hE5) (ext_al (Ext.refl w5) o)
        have h15 := HX5.out.size
        clear hce hnn hE5 d0 d1 HO4 HX4 HCC
        go_wp2_with (at_builtin; go_must (refine wpl_append rfl rfl Tryd.slInts W1.heap.size rfl (HO5.out _) rfl (Row.oneM _ _ _ _ (by simp)) (one_int _) (by unfold maxLen; omega) (by omega) (by simp; omega) ?_))
        intro v6 w6 hown6 hg6 hb6 _
        obtain ⟨a6, c6, rfl, _⟩ := hown6.row
        have HE6 := Lib.hid (show Ext W1 w6 from Below.grown (HX5.out.trans (ext_al (Ext.refl w5) _)) hg6 (by simp; omega) (fun b hb => ((HO5.out (Obj.cells #[] 0)).lt b hb).1))
        rw [HNN.out, ← HN1.out, ← HN2.out] at hown6
        have HO6 := Lib.hid hown6
        clear hown6 hg6 hb6
        go_wp2_with fail
        go_roundg (gk - 1)
        case measure => have := HKI.out; omega
        case rel => exact ⟨i + 1, a6, c6, by have := HKI.out; omega, by go_num, by rw [HN2.out], HE6.out, HO6.out⟩
    · obtain rfl : i = l.length := by omega
      have hiI : ¬ (l.length : Int) < (l.length : Int) := by omega
      have h5 := HL5.out l.length
      have hO2 := hO
      unfold behV at hO2
      rw [List.take_length] at hO2 h5
      have HSO := Lib.hid (sortI_any _ _ W1.heap.size wr hO2 (by omega))
      obtain ⟨L, hL⟩ : ∃ L, behindL m xs l = L := ⟨_, rfl⟩
      rw [List.take_length, hL]
      rw [hL] at HSO h5
      have HSL := Lib.hid (show setL (behindL m xs l) = Lib.compact (sortL L) by rw [hL]; rfl)
      have hew := HE.out.size
      clear hE hO hki hO2 HAF HCO HIN
      go_wp2_with fail
      refine HSO.out.mono ?_
      rintro e w5 ⟨rfl, hown5, hg5⟩
      have hown5' : w5.ownsRow W1.heap.size 3 1 (.slice as' L.length cs') (sortL L).length ((sortL L).map (.int .i64)) := by rw [sortL_len]; exact hown5
      have HCC := Lib.hid (compactI_any _ (sortL L) W1.heap.size w5 hown5' (by rw [sortL_len]; omega))
      have HE5 := Lib.hid (show Ext W1 w5 from Below.grown HX.out hg5 HX.out.size (fun b hb => (hown5.lt b hb).1))
      have HB5 := Lib.hid fun b hb => (hown5.lt b hb).1
      clear hown5 hown5' hg5 HSO
      go_wp2_with fail
      refine HCC.out.mono ?_
      rintro e w6 ⟨v6, rfl, hown6, hg6, hb6⟩
      have HE6 := Lib.hid (show Ext W1 w6 from Below.grown HE5.out hg6 HE5.out.size HB5.out)
      have HO6 := Lib.hid hown6
      obtain ⟨a6, c6, rfl, _⟩ := hown6.row
      clear hown6 hg6 hb6
      go_wp2
      go_ret
      exact ⟨.slice a6 (Lib.compact (sortL L)).length c6, rfl, by rw [HSL.out]; exact own_down HO6.out hew, HE.out.trans HE6.out⟩

/-- What Next answers. -/
def nextL (m : Md) (c : Int) : List Int := if behindL m (valsL m.vars c) m.rules = [] then [c] else setL (behindL m (valsL m.vars c) m.rules)
theorem nextL_ok (m : Md) (c : Int) : NextL m c (nextL m c) := by
  obtain ⟨h1, h2⟩ := setL_up (behindL m (valsL m.vars c) m.rules)
  unfold nextL
  split
  · rename_i h
    exact ⟨by simp [Rises], fun d => by unfold NextP; rw [h]; simp⟩
  · rename_i h
    refine ⟨h1, fun d => ?_⟩
    rw [h2]
    unfold NextP
    constructor
    · exact .inl
    · rintro (h3 | ⟨h3, _⟩)
      · exact h3
      · exact absurd h3 h
theorem nextL_len (m : Md) (c : Int) : 0 < (nextL m c).length ∧ (nextL m c).length ≤ max m.rules.length 1 := by
  have h1 := setL_len (behindL m (valsL m.vars c) m.rules)
  have h2 := behindL_len m (valsL m.vars c) m.rules
  refine ⟨?_, ?_⟩
  · obtain ⟨d, hd⟩ := NextP.some m c
    have := ((nextL_ok m c).mem d).2 hd
    exact List.length_pos_of_mem this
  · unfold nextL
    split
    · simp; omega
    · omega

set_option maxRecDepth 100000 in
set_option maxHeartbeats 8000000 in
theorem nextE_any (vv rv : Value) (m : Md) (c : Int) (w : World) (h : IsMd w vv rv m) (ht : Tab w) (hp : m.Ok) (h0 : 0 < m.vars.length) (hc0 : 0 ≤ c) (hc1 : c < countL m.vars) :
    Calls Tryd.prog 24 #[.agg #[vv, rv], .int .i64 c] w fun e w' => ∃ v, e = .returned (.tuple #[v, .int .i64 0]) ∧ w'.ownsRow w.heap.size 3 1 v (nextL m c).length ((nextL m c).map (.int .i64)) ∧ Ext w w' := by
  have hvi := digL_in hp.vars c
  have hvl := valsL_len m.vars c
  have HVA := Lib.hid fun wx (hx : Ext w wx) => values_any vv rv m c wx (h.ext hx) (ht.ext hx) hp hc0 hc1
  have HNX := Lib.hid fun wx (xv : Value) (hx : Ext w wx) (hi : Ints wx xv (valsL m.vars c)) => next_any vv rv xv m (valsL m.vars c) wx (h.ext hx) (ht.ext hx) hp h0 hi hvi
  have HNL := Lib.hid (show nextL m c = if behindL m (valsL m.vars c) m.rules = [] then [c] else setL (behindL m (valsL m.vars c) m.rules) from rfl)
  have hsl := setL_len (behindL m (valsL m.vars c) m.rules)
  have hbl := behindL_len m (valsL m.vars c) m.rules
  have h12 := hp.twelve
  have HNE := Lib.hid (show behindL m (valsL m.vars c) m.rules = [] ↔ (setL (behindL m (valsL m.vars c) m.rules)).length = 0 from by
    have hm := (setL_up (behindL m (valsL m.vars c) m.rules)).2
    constructor
    · intro e
      have e2 : (behindL m (valsL m.vars c) m.rules).length = 0 := by rw [e]; rfl
      omega
    · intro e
      have e2 := List.eq_nil_of_length_eq_zero e
      cases hb : behindL m (valsL m.vars c) m.rules with
      | nil => rfl
      | cons x r =>
        have := (hm x).2 (by rw [hb]; simp)
        rw [e2] at this
        simp at this)
  obtain ⟨av, cv, rfl⟩ := EachL.val h.vars
  obtain ⟨a, cr, rfl⟩ := EachL.val h.rules
  have hbk := blk_new w (Obj.cells #[.slice av m.vars.length cv, .slice a m.rules.length cr] 29)
  have HE := Lib.hid (ext_al (Ext.refl w) (Obj.cells #[.slice av m.vars.length cv, .slice a m.rules.length cr] 29))
  generalize nextL m c = L at *
  generalize valsL m.vars c = xs at *
  have hS : (setL (behindL m xs m.rules)).length ≤ 12 := by omega
  generalize setL (behindL m xs m.rules) = S at *
  clear h ht hp hvi hsl hbl
  generalize m.rules.length = nr at *
  generalize m.vars.length = nv at *
  go_enter Tryd.func24, Tryd.ntmps24
  have HB := Lib.hid hbk
  clear hbk
  go_wp2_with fail
  generalize w.alloc (Obj.cells #[.slice av nv cv, .slice a nr cr] 29) = W1 at *
  refine (HVA.out _ HE.out).mono ?_
  rintro e w2 ⟨xv, rfl, hox, hE2⟩
  have HE2 := Lib.hid (HE.out.trans hE2)
  have d0 := blk_cell (blk_ext HB.out hE2) (i := 0) rfl
  have d1 := blk_cell (blk_ext HB.out hE2) (i := 1) rfl
  have HNC := Lib.hid (HNX.out w2 xv HE2.out (by
    have h := hox.reads
    unfold Ints
    rw [hvl]
    exact h))
  obtain ⟨ax, cx, rfl, _⟩ := hox.row
  clear hox hE2 HNX HVA
  go_wp2_with fail
  refine HNC.out.mono ?_
  rintro e w3 ⟨v3, rfl, ho3, hE3⟩
  have HE3 := Lib.hid (HE2.out.trans hE3)
  have HO3 := Lib.hid ho3
  obtain ⟨a3, c3, rfl, _⟩ := ho3.row
  have h23 := HE2.out.size
  have h33 := hE3.size
  clear ho3 hE3 HNC d0 d1
  by_cases he : S.length = 0
  · have HL := Lib.hid (show L = [c] by rw [HNL.out, if_pos (HNE.out.2 he)])
    have hse : (S.length : Int) = 0 := by omega
    have HSN := Lib.hid (show S.map (Value.int .i64) = [] by rw [List.eq_nil_of_length_eq_zero he]; rfl)
    have HO4 := Lib.hid fun (o : Obj) => own_ext HO3.out (ext_al (Ext.refl w3) o)
    rw [HSN.out] at HO4
    generalize S.length = ns at *
    obtain rfl : ns = 0 := he
    clear hse HNE HO3 HNL
    go_wp2_with (at_builtin; go_must (refine wpl_append rfl rfl Tryd.slInts w2.heap.size rfl (HO4.out _) rfl (Row.oneM _ _ _ _ (by simp)) (one_int _) (by unfold maxLen; omega) (by omega) (by simp; omega) ?_))
    intro v6 w6 hown6 hg6 hb6 _
    obtain ⟨a6, c6, rfl, _⟩ := hown6.row
    have HE6 := Lib.hid (show Ext w w6 from Below.grown (HE3.out.trans (ext_al (Ext.refl w3) _)) hg6 (by simp; omega) (fun b hb => by have := ((HO4.out (Obj.cells #[] 0)).lt b hb).1; omega))
    have HO6 := Lib.hid hown6
    clear hown6 hg6 hb6
    go_wp2
    go_ret2
    exact ⟨_, rfl, by rw [HL.out]; exact own_down HO6.out h23, HE6.out⟩
  · have HL := Lib.hid (show L = S by rw [HNL.out, if_neg (fun h => he (HNE.out.1 h))])
    have hse : ((S.length : Int) == 0) = false := by rw [beq_eq_false_iff_ne]; omega
    have HSL := Lib.hid he
    clear HNE HNL he
    go_wp2
    go_ret2
    exact ⟨_, rfl, by rw [HL.out]; exact own_down HO3.out h23, HE3.out⟩

end Go.Proofs.YtcmbehpilldlpaaDoor
