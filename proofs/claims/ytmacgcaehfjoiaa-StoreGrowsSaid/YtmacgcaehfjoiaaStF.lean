/- The contract of store.own. -/
import Derived.Test.YtmacgcaehfjoiaaStE
import Derived.Test.YtmacgcaehfjoiaaStep
import Derived.Deep.RegionLaw
namespace Go.Proofs.Ytmacgcaehfjoiaa
open Go.RowKit

/-- Rows of the call's own whose rows lie behind a place, too. -/
def OwnK (w : World) (K : Nat) (v : Value) (ll : List (List Int)) : Prop :=
  ∃ vs, Each w vs ll ∧ w.ownsRow K 22 1 v ll.length vs ∧ Apart v vs ll ∧ ∀ x ∈ vs, ∀ b, x.ownBlock = some b → K ≤ b
theorem OwnK.ext {w w' : World} {K : Nat} {v : Value} {ll : List (List Int)} (h : OwnK w K v ll) (hE : Ext w w') : OwnK w' K v ll := by
  obtain ⟨vs, h1, h2, h3, h4⟩ := h
  exact ⟨vs, h1.ext hE, own_ext h2 hE, h3, h4⟩
theorem OwnK.lists {w : World} {K : Nat} {v : Value} {ll : List (List Int)} (h : OwnK w K v ll) : Lists w v ll := by
  obtain ⟨vs, h1, h2, h3, h4⟩ := h
  exact ⟨vs, h1, h2.reads⟩
theorem OwnK.nil (w : World) (K : Nat) : OwnK w K (.slice none 0 0) [] := ⟨[], ⟨rfl, by intro i x l hx; simp at hx⟩, World.ownsRow_nil _ _ _ _, by intro i x l hx; simp at hx, by simp⟩
/-- A row ahead of that place may be written. -/
theorem OwnK.grown {w w' : World} {K : Nat} {v : Value} {ll : List (List Int)} {row : Option Nat} (h : OwnK w K v ll) (hg : w.grownBy w' row) (hr : ∀ b, row = some b → b < K) : OwnK w' K v ll := by
  obtain ⟨vs, h1, h2, h3, h4⟩ := h
  refine ⟨vs, ⟨h1.1, fun i x l hx hl => ints_grown (h1.2 i x l hx hl) hg (.inr fun b hb hb2 => ?_)⟩, own_grown h2 hg ?_, h3, h4⟩
  · have := hr b hb
    have := h4 x (List.mem_of_getElem? hx) b hb2
    omega
  · cases hv : v.ownBlock with
    | none => exact .inl rfl
    | some b =>
      refine .inr fun e => ?_
      have := hr b e.symm
      have := (h2.lt b hv).1
      omega
theorem grown_set (w : World) (p : Addr) (u : Value) : w.grownBy (w.setCell p u) (some p.block) :=
  ⟨rfl, rfl, rfl, by simp, fun b _ hn => Below.heap_setCell _ _ _ _ (fun e => hn (by rw [e]))⟩
theorem OwnK.set {w : World} {K : Nat} {v : Value} {ll : List (List Int)} (h : OwnK w K v ll) {p : Addr} (hp : p.block < K) (u : Value) : OwnK (w.setCell p u) K v ll :=
  h.grown (row := some p.block) (grown_set w p u) (fun b hb => by injection hb with hb; omega)
theorem OwnK.snoc {w w1 : World} {K : Nat} {v v1 x : Value} {vs : List Value} {ll : List (List Int)} {l : List Int} {m : Nat} (hE : Each w vs ll) (hA : Apart v vs ll) (hf : ∀ x ∈ vs, ∀ b, x.ownBlock = some b → K ≤ b) (hx : Ints w x l) (hxa : l = [] ∨ ∀ b, v.ownBlock = some b → x.ownBlock ≠ some b) (hxK : ∀ b, x.ownBlock = some b → K ≤ b)
    (hown : w1.ownsRow K 22 1 v1 m (vs ++ [x])) (hg : w.grownBy w1 v.ownBlock) (hb : v1.ownBlock = v.ownBlock ∨ v1.ownBlock = some w.heap.size) : OwnK w1 K v1 (ll ++ [l]) := by
  obtain ⟨a, b, c⟩ := snoc_parts hE hA hx hxa hown hg hb
  refine ⟨_, a, b, c, fun y hy => ?_⟩
  rcases List.mem_append.1 hy with hy | hy
  · exact hf y hy
  · simp at hy; subst hy; exact hxK

theorem sum_ge : ∀ (l : List (List Int)), (∀ r ∈ l, 1 ≤ r.length) → l.length ≤ (l.map List.length).sum
  | [], _ => by simp
  | r :: l, h => by
    have h1 := sum_ge l fun x hx => h x (by simp [hx])
    have h2 := h r (by simp)
    simp only [List.length_cons, List.map_cons, List.sum_cons]
    omega
theorem St.Ok.runs_few {s : St} (h : s.Ok) : s.runs.length ≤ s.keys.length := by
  have h1 := sum_ge s.runs fun r hr => by have := (h.run_pos hr).1; omega
  rw [St.keys_len]
  omega

set_option maxRecDepth 100000 in
set_option maxHeartbeats 8000000 in
theorem own_st (lv rv : Value) (s : St) (w : World) (h : IsSt w lv rv s) (hp : s.Ok) (hl : s.keys.length ≤ 1000) :
    Calls Try.prog 20 #[.agg #[lv, rv]] w fun e w' => ∃ lv' rv' K, e = .returned (.agg #[lv', rv']) ∧ w'.ownsRow w.heap.size 3 1 lv' s.loose.length (s.loose.map (.int .i64)) ∧ (∀ b, lv'.ownBlock = some b → b < K) ∧ OwnK w' K rv' s.runs ∧ w.heap.size ≤ K ∧ K ≤ w'.heap.size ∧ Ext w w' := by
  have HCL := Lib.hid fun (v : Value) (l : List Int) wx (hx : Ext w wx) (hv : Ints w v l) (hl : l.length ≤ 1000) => cloneI_any v l wx (hv.ext hx) (by omega)
  have hl3 : s.loose.length ≤ 1000 := by have := St.keys_len s; omega
  have HLO := Lib.hid h.lo
  obtain ⟨al, cl, rfl, _⟩ := id h.lo
  obtain ⟨ar, cr, rfl⟩ := h.ru.val
  obtain ⟨_, hrl, hrm, br, orr, har, hcr⟩ := h.ru.cells
  unfold maxLen at hrm
  have hbk := blk_new w (Obj.cells #[.slice al s.loose.length cl, .slice ar s.runs.length cr] 25)
  have HE := Lib.hid (ext_al (Ext.refl w) (Obj.cells #[.slice al s.loose.length cl, .slice ar s.runs.length cr] 25))
  have HB := Lib.hid hbk
  have HAR := Lib.hid har
  have HCR := Lib.hid hcr
  have HP := Lib.hid hp
  have hfew := hp.runs_few
  have HAL := Lib.hid fun i => allL_len s i
  clear h har hcr hp hbk
  go_enter Try.func20, Try.ntmps20
  have hx1 := ext_al (Ext.refl (w.alloc (Obj.cells #[.slice al s.loose.length cl, .slice ar s.runs.length cr] 25))) (Obj.cells #[.slice none 0 0, .slice none 0 0] 25)
  have d0 := blk_cell (blk_ext HB.out hx1) (i := 0) (v := .slice al s.loose.length cl) rfl
  have HR1 := Lib.hid (blk_new (w.alloc (Obj.cells #[.slice al s.loose.length cl, .slice ar s.runs.length cr] 25)) (Obj.cells #[.slice none 0 0, .slice none 0 0] 25))
  have eR1 : (w.alloc (Obj.cells #[.slice al s.loose.length cl, .slice ar s.runs.length cr] 25)).heap.size = w.heap.size + 1 := by simp
  rw [eR1] at HR1
  clear eR1
  have HB1 := Lib.hid (blk_ext HB.out hx1)
  have HX1 := Lib.hid (HE.out.trans hx1)
  clear hx1
  go_wp2_with fail
  refine (HCL.out _ _ _ HX1.out HLO.out hl3).mono ?_
  rintro e w2 ⟨v2, rfl, ho2, hE2⟩
  obtain ⟨a2, c2, rfl, _⟩ := id ho2.row
  have HX2 := Lib.hid (HX1.out.trans hE2)
  have HR2 := Lib.hid (blk_ext HR1.out hE2)
  have HB2 := Lib.hid (blk_ext HB1.out hE2)
  have HO2 := Lib.hid ho2
  clear d0 hE2 ho2 HR1 HB1
  go_upto_region 2 with fail
  have hx3 := ext_al (Ext.refl w2) (Obj.cells #[.slice a2 s.loose.length c2, .slice none 0 0] 25)
  have d1 := blk_cell (blk_ext HB2.out hx3) (i := 1) (v := .slice ar s.runs.length cr) rfl
  have HB3 := Lib.hid (blk_new w2 (Obj.cells #[.slice a2 s.loose.length c2, .slice none 0 0] 25))
  have HX3 := Lib.hid hx3
  have hsz3 : (w2.alloc (Obj.cells #[.slice a2 s.loose.length c2, .slice none 0 0] 25)).heap.size = w2.heap.size + 1 := by simp
  generalize w2.alloc (Obj.cells #[.slice a2 s.loose.length c2, .slice none 0 0] 25) = W3 at *
  have HSZ := Lib.hid hsz3
  have HN0 := Lib.hid (OwnK.nil W3 (w2.heap.size + 1))
  obtain ⟨D, hD⟩ : ∃ D, w2.heap.size = D := ⟨_, rfl⟩
  rw [hD] at HB3 HN0 HSZ ⊢
  have HD := Lib.hid hD
  clear hx3 hsz3 hD HB2
  go_wp2_with fail
  clear d1
  go_loopg [13] s.runs.length (fun k x wr => ∃ (i : Nat) (av : Option Addr) (cv : Nat), k + i = s.runs.length ∧ x = .int .i64 (i : Int) ∧ wr.heap[D]? = some (.cells #[.slice a2 s.loose.length c2, .slice av i cv] 25 (0, 0)) ∧ Ext w2 wr ∧ W3.heap.size ≤ wr.heap.size ∧ OwnK wr (D + 1) (.slice av i cv) (s.runs.take i))
  case atStart => exact ⟨0, none, 0, by omega, by go_num, HB3.out, HX3.out, Nat.le_refl _, HN0.out⟩
  case round =>
    obtain ⟨i, av, cv, hki, rfl, hB, hE, hS, hO⟩ := hrel
    have HKI := Lib.hid hki
    have HEE := Lib.hid hE
    by_cases hi : i < s.runs.length
    · obtain rfl := HAR.out (by omega)
      obtain ⟨ai, ci, cr1, hir⟩ := HCR.out i hi
      have hal := HAL.out (i + 1)
      rw [allL_succ hi, List.length_append] at hal
      have cx := cell_later (HX2.out.trans hE) cr1
      have HCA := Lib.hid fun wx (hx : Ext w wx) => HCL.out _ _ wx hx hir (by omega)
      have HTK := Lib.hid (show s.runs.take (i + 1) = s.runs.take i ++ [s.runs[i]] by rw [List.take_succ_eq_append_getElem hi])
      have HPO := Lib.hid (HP.out.run_pos (List.getElem_mem hi)).1
      obtain ⟨vs, hEa, hOw, hAp, hFa⟩ := hO
      have htl : (s.runs.take i).length = i := by simp; omega
      rw [htl] at hOw
      have HEA := Lib.hid hEa
      have HOW := Lib.hid hOw
      have HAP := Lib.hid hAp
      have HFA := Lib.hid hFa
      have hiI : (i : Int) < (s.runs.length : Int) := by omega
      have hi0 : (0 : Int) ≤ (i : Int) := by omega
      have c1 := blk_cell hB (i := 1) (v := .slice av i cv) rfl
      have f1 := blk_free hB 1
      have HB := Lib.hid hB
      have HSS := Lib.hid hS
      have hDs := blk_lt hB
      have HXW := Lib.hid (HX2.out.trans hE)
      clear hEa hOw hAp hFa htl hir cr1 hki hE hS hB hal
      generalize s.runs[i] = r at *
      generalize s.runs.take i = ll at *
      go_upto_region 5 with fail
      clear cx
      go_region_law (first
        | (refine step_append rfl rfl Try.slLists (D + 1) (by rfl) (own_ext HOWN.out (by first | exact ext_al (Ext.refl _) _ | exact Below.drew (ext_al (Ext.refl _) _) | exact ext_al (Below.drew (Ext.refl _)) _)) (by rfl) (by first | exact Row.one _ _ _ | exact (Row.one _ _ _).ext (Below.drew (Ext.refl _))) (by simp [Value.oneCell']) (by unfold maxLen; omega) (by omega) (by simp; omega) ?_
           intro v6 w6 hown6 hg6 hb6 _
           obtain ⟨a6, c6, rfl, _⟩ := id hown6.row
           have hA6 := ext_al (Ext.refl wn) (Obj.cells #[.slice an r.length cn] 22)
           have bD := blk_grown (blk_ext HRN.out hA6) hg6 (fun e => by have := (HOWN.out.lt D e.symm).1; omega)
           have cD := blk_cell bD (i := 1) rfl
           have fD := blk_free bD 1
           have HK6 := Lib.hid (OwnK.snoc (HEA.out.ext (HEN.out.trans hA6)) HAP.out HFA.out (show Ints _ _ r from (HNO.out.reads).ext hA6) (.inr fun b h1 h2 => by have := (HOW.out.lt b h1).2; have := (HNO.out.lt b h2).1; have e : wr.drew.heap.size = wr.heap.size := rfl; omega) (fun b h2 => by have := (HNO.out.lt b h2).1; have e : wr.drew.heap.size = wr.heap.size := rfl; omega) hown6 hg6 hb6)
           have HE6 := Lib.hid (show Ext w2 w6 from Below.grown (HEE.out.trans (HEN.out.trans hA6)) hg6 (HEE.out.trans (HEN.out.trans hA6)).size (fun b hb => by have := (HOWN.out.lt b hb).1; have := HD.out; omega))
           have HS6 := Lib.hid hg6.size
           have HB6 := Lib.hid bD
           clear bD hown6 hg6 hb6 hA6)
        | (go_simp
           go_at_call 24
           refine (HCA.out _ (Below.drew HXW.out)).mono ?_
           rintro e wn ⟨nv, rfl, hno, hEn⟩
           obtain ⟨an, cn, rfl, _⟩ := id hno.row
           have hRn := blk_ext (blk_ext HB.out (Below.drew (Ext.refl _))) hEn
           have cRn := blk_cell hRn (i := 1) rfl
           have fRn := blk_free hRn 1
           have cRa := blk_cell (blk_ext hRn (ext_al (Ext.refl wn) (Obj.cells #[.slice an r.length cn] 22))) (i := 1) rfl
           have HOWN := Lib.hid (own_ext HOW.out (Ext.trans (Below.drew (Ext.refl _)) hEn))
           have HRN := Lib.hid hRn
           have HNO := Lib.hid hno
           have HEN := Lib.hid (Ext.trans (Below.drew (Ext.refl wr)) hEn)
           have hszn : wr.heap.size ≤ wn.heap.size := hEn.size
           clear hRn hno hEn))
      all_goals
        go_wp2_with fail
        go_roundg (gk - 1)
        case measure => have := HKI.out; omega
        case rel => exact ⟨i + 1, a6, c6, by have := HKI.out; omega, by go_num, blk_set HB6.out _, ext_st HE6.out (by have := HD.out; show w2.heap.size ≤ D; omega) _, by have := HS6.out; have := HSS.out; simp at *; omega, by rw [HTK.out]; exact HK6.out.set (by show D < D + 1; omega) _⟩
    · obtain rfl : i = s.runs.length := by have := HKI.out; omega
      have hiI : ¬ (s.runs.length : Int) < (s.runs.length : Int) := by omega
      have c0 := blk_cell hB (i := 0) rfl
      have c1 := blk_cell hB (i := 1) rfl
      have hRR := blk_ext HR2.out hE
      have r0 := blk_cell hRR (i := 0) rfl
      have r1 := blk_cell hRR (i := 1) rfl
      have f0 := blk_free hRR 0
      have hRS := blk_set (i := 0) hRR (.slice a2 s.loose.length c2)
      have r2 := blk_cell hRS (i := 1) rfl
      have f2 := blk_free hRS 1
      have HRR := Lib.hid hRR
      have HDB := Lib.hid hB
      have hDw : w.heap.size + 1 < D := by have := blk_lt HR2.out; have := HD.out; omega
      rw [List.take_length] at hO
      have HOO := Lib.hid hO
      clear hki hB hE hO
      go_wp2
      have hS2 := blk_set (i := 1) (blk_set (i := 0) HRR.out (.slice a2 s.loose.length c2)) (.slice av s.runs.length cv)
      have z0 := blk_cell hS2 (i := 0) (v := .slice a2 s.loose.length c2) (by simp)
      have z1 := blk_cell hS2 (i := 1) (v := .slice av s.runs.length cv) (by simp)
      have hL := HO2.out.lt
      have hw1 : w.heap.size + 1 ≤ W3.heap.size := by have := HSZ.out; omega
      have HEF := Lib.hid (show Ext w ((wr.setCell ⟨w.heap.size + 1, 0, none⟩ (.slice a2 s.loose.length c2)).setCell ⟨w.heap.size + 1, 1, none⟩ (.slice av s.runs.length cv)) from
        ext_st (ext_st (HX2.out.trans HEE.out) (by show w.heap.size ≤ w.heap.size + 1; omega) _) (by show w.heap.size ≤ w.heap.size + 1; omega) _)
      refine bodyPost_ret (v := .agg #[.slice a2 s.loose.length c2, .slice av s.runs.length cv]) (by simp [results, Try.results20, go_sem, z0, z1]) rfl ⟨_, _, rfl, ?_, D + 1, ?_, ?_, ?_, ?_, HEF.out⟩
      · have hne : (Value.slice a2 s.loose.length c2).ownBlock ≠ some (w.heap.size + 1) := fun e => by
          have := (hL _ e).1
          simp only [World.size_alloc] at this
          omega
        exact own_down (own_setCell (own_setCell (own_ext HO2.out HEE.out) _ hne) _ hne) (by simp; omega)
      · intro b hb
        have := (hL b hb).2
        have := HD.out
        omega
      · exact (HOO.out.set (by show w.heap.size + 1 < D + 1; omega) _).set (by show w.heap.size + 1 < D + 1; omega) _
      · omega
      · have := blk_lt HDB.out
        simp
        omega

end Go.Proofs.Ytmacgcaehfjoiaa
