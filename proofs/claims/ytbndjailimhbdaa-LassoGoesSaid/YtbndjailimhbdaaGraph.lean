/- The contract of foretellkeep.Graph. -/
import Derived.Test.YtbndjailimhbdaaGrM
namespace Go.Proofs.Ytbndjailimhbdaa
open Go.RowKit

def GraphPost (w : World) (ll : List (List Int)) (sets : List Int) (init : Int) (M n : Nat) (e : Ending) (w' : World) : Prop :=
  ∃ τ sp nx st, e = .returned (.agg #[sp, .int .i64 (if 0 < n then pk init n + 1 else 0), nx, st, .int .i64 (M : Int)]) ∧
      GMem τ w.heap.size w' sp nx st (gSpots n) (gNext n ll n) (gSets (2 ^ M : Nat) sets n) ∧ Ext w w'

set_option maxRecDepth 100000 in
set_option maxHeartbeats 4000000 in
theorem graph_small (vn vs : Value) (ll : List (List Int)) (sets : List Int) (init many : Int) (w : World) (hN : Lists w vn ll) (hS : Ints w vs sets) (hI : ∀ l ∈ ll, ∀ n ∈ l, I64 n) (hT : ∀ n ∈ sets, I64 n) (h1 : I64 init) (h2 : I64 many) (h20 : ll.length ≤ 20) (h0 : 0 < ll.length) (M : Nat) (hM : pk many 4 = M) :
    Calls Try.prog 4 #[.agg #[vn, vs, .int .i64 init, .int .i64 many]] w (GraphPost w ll sets init M ll.length) := by
  obtain ⟨an, cn, rfl⟩ : ∃ a c, vn = .slice a ll.length c := by
    obtain ⟨vs, he, a, c, rfl, _⟩ := hN
    exact ⟨a, c, rfl⟩
  obtain ⟨asv, cs, rfl, hrs⟩ := hS
  obtain ⟨_, hle, hmx, bn, on, han, hcn⟩ := hN.cells
  unfold maxLen at hmx
  have hml : ll.length ≤ 9223372036854775807 := by omega
  have hml2 : sets.length ≤ 9223372036854775807 := by have h1 := hrs.max; have h2 := hrs.le; unfold maxLen at h1; omega
  have HS := Lib.hid hrs
  have HA := Lib.hid han
  have HC := Lib.hid hcn
  have HI := Lib.hid hI
  have HT := Lib.hid hT
  unfold I64 at h1 h2
  have HP := Lib.hid fun wx => still_of (picked_any many 4 wx h2.1 h2.2 (by omega) (by omega))
  rw [hM] at HP
  have HQ := Lib.hid fun wx => still_of (picked_any init (ll.length : Int) wx h1.1 h1.2 (by omega) (by omega))
  have hpi := pk_bd init (ll.length : Int) (by omega)
  have hM4 : M < 4 := by have := pk_bd many 4 (by omega); omega
  clear hN hrs hI hT han hcn hle hmx hM h1 h2
  generalize hpe : pk init (ll.length : Int) = ini at *
  have HPE := Lib.hid hpe
  clear hpe
  go_enter Try.func4, Try.ntmps4
  go_wp2_with fail
  refine (HP.out _).mono ?_
  rintro e wx ⟨rfl, rfl⟩
  go_wp2_with fail
  refine (HQ.out _).mono ?_
  rintro e wx ⟨rfl, rfl⟩
  go_wp2_with fail
  have hE0 : Ext w (((w.alloc (Obj.cells #[.slice an ll.length cn, .slice asv sets.length cs, .int .i64 init, .int .i64 many] 25)).alloc (Obj.cells #[.slice none 0 0, .int .i64 0, .slice none 0 0, .slice none 0 0, .int .i64 0] 28)).alloc (Obj.cells #[.slice none 0 0, .int .i64 (ini + 1), .slice none 0 0, .slice none 0 0, .int .i64 (M : Int)] 28)) := ext_al (ext_al (ext_al (Ext.refl w) _) _) _
  have bG := blk_new ((w.alloc (Obj.cells #[.slice an ll.length cn, .slice asv sets.length cs, .int .i64 init, .int .i64 many] 25)).alloc (Obj.cells #[.slice none 0 0, .int .i64 0, .slice none 0 0, .slice none 0 0, .int .i64 0] 28)) (Obj.cells #[.slice none 0 0, .int .i64 (ini + 1), .slice none 0 0, .slice none 0 0, .int .i64 (M : Int)] 28)
  have bR := blk_ext (blk_new (w.alloc (Obj.cells #[.slice an ll.length cn, .slice asv sets.length cs, .int .i64 init, .int .i64 many] 25)) (Obj.cells #[.slice none 0 0, .int .i64 0, .slice none 0 0, .slice none 0 0, .int .i64 0] 28)) (ext_al (Ext.refl _) (Obj.cells #[.slice none 0 0, .int .i64 (ini + 1), .slice none 0 0, .slice none 0 0, .int .i64 (M : Int)] 28))
  have bA := blk_ext (blk_new w (Obj.cells #[.slice an ll.length cn, .slice asv sets.length cs, .int .i64 init, .int .i64 many] 25)) (ext_al (ext_al (Ext.refl _) (Obj.cells #[.slice none 0 0, .int .i64 0, .slice none 0 0, .slice none 0 0, .int .i64 0] 28)) (Obj.cells #[.slice none 0 0, .int .i64 (ini + 1), .slice none 0 0, .slice none 0 0, .int .i64 (M : Int)] 28))
  have hs0 : (((w.alloc (Obj.cells #[.slice an ll.length cn, .slice asv sets.length cs, .int .i64 init, .int .i64 many] 25)).alloc (Obj.cells #[.slice none 0 0, .int .i64 0, .slice none 0 0, .slice none 0 0, .int .i64 0] 28)).alloc (Obj.cells #[.slice none 0 0, .int .i64 (ini + 1), .slice none 0 0, .slice none 0 0, .int .i64 (M : Int)] 28)).heap.size = w.heap.size + 3 := by simp
  have hs1 : (w.alloc (Obj.cells #[.slice an ll.length cn, .slice asv sets.length cs, .int .i64 init, .int .i64 many] 25)).heap.size = w.heap.size + 1 := by simp
  have hs2 : ((w.alloc (Obj.cells #[.slice an ll.length cn, .slice asv sets.length cs, .int .i64 init, .int .i64 many] 25)).alloc (Obj.cells #[.slice none 0 0, .int .i64 0, .slice none 0 0, .slice none 0 0, .int .i64 0] 28)).heap.size = w.heap.size + 1 + 1 := by simp
  rw [hs2] at bG
  rw [hs1] at bR
  clear hs1 hs2
  generalize ((w.alloc (Obj.cells #[.slice an ll.length cn, .slice asv sets.length cs, .int .i64 init, .int .i64 many] 25)).alloc (Obj.cells #[.slice none 0 0, .int .i64 0, .slice none 0 0, .slice none 0 0, .int .i64 0] 28)).alloc (Obj.cells #[.slice none 0 0, .int .i64 (ini + 1), .slice none 0 0, .slice none 0 0, .int .i64 (M : Int)] 28) = W0 at *
  have HM0 := Lib.hid (GMem.nil W0 (w.heap.size + 3) (by omega))
  have BG := Lib.hid bG
  have BR := Lib.hid bR
  have BA := Lib.hid bA
  have HE0 := Lib.hid hE0
  clear bG bR bA hE0 hs0
  go_loopw [5] (fun y wr => ∃ (k : Nat) (τ : Nat → Nat) (sp nx st : Value), y = .int .i64 (k : Int) ∧ k ≤ ll.length ∧ wr.heap[w.heap.size]? = some (.cells #[.slice an ll.length cn, .slice asv sets.length cs, .int .i64 init, .int .i64 many] 25 (0, 0)) ∧
    wr.heap[w.heap.size + 1]? = some (.cells #[.slice none 0 0, .int .i64 0, .slice none 0 0, .slice none 0 0, .int .i64 0] 28 (0, 0)) ∧
    wr.heap[w.heap.size + 1 + 1]? = some (.cells #[sp, .int .i64 (ini + 1), nx, st, .int .i64 (M : Int)] 28 (0, 0)) ∧
    GMem τ (w.heap.size + 3) wr sp nx st (gSpots k) (gNext (ll.length : Int) ll k) (gSets (2 ^ M : Nat) sets k) ∧ Ext w wr) (fun y _ => 21 - (intOf y).toNat)
  case atStart => exact ⟨0, _, _, _, _, by go_num, by omega, BA.out, BR.out, BG.out, HM0.out, HE0.out⟩
  case round =>
    obtain ⟨k, τ, sp, nx, st, rfl, hk, bA, bR, bG, hM, hE⟩ := hrel
    clear HM0 BG BR BA HE0
    obtain ⟨ap, cp, rfl, hrp⟩ := hM.spots
    obtain ⟨ax, cx, rfl⟩ : ∃ a c, nx = .slice a (gNext (ll.length : Int) ll k).length c := by
      obtain ⟨vs, he, a, c, rfl, _⟩ := hM.lists
      exact ⟨a, c, rfl⟩
    obtain ⟨at', ct, rfl, hrt⟩ := hM.ints
    have e1 := gSpots_len k
    have e2 := gNext_len (ll.length : Int) ll k (by omega)
    have e3 := gSets_len (2 ^ M : Nat) sets k
    have cA0 := blk_cell bA (i := 0) rfl
    have cA1 := blk_cell bA (i := 1) rfl
    have HBA := Lib.hid bA
    have HBR := Lib.hid bR
    have HBG := Lib.hid bG
    have HM := Lib.hid hM
    have HEW := Lib.hid hE
    clear bA bR bG hM hE hrp hrt
    rw [e1, e2, e3] at HBG HM
    clear e1 e2 e3
    by_cases hlt : k < ll.length
    · obtain ⟨ai, ci, hx, hx2⟩ := HC.out k (by omega)
      obtain rfl := HA.out (by omega)
      replace hx := cell_later HEW.out hx
      have hIk := HI.out ll[k] (by simp)
      have HGN := Lib.hid (gNext_succ (ll.length : Int) ll k (by omega))
      have HXI := Lib.hid hx2
      obtain ⟨_, _, e, hri⟩ := hx2
      simp only [Value.slice.injEq] at e
      obtain ⟨rfl, _, rfl⟩ := e
      have hmi : ll[k].length ≤ 9223372036854775807 := by have h1 := hri.max; have h2 := hri.le; unfold maxLen at h1; omega
      obtain ⟨bi, oi, hri1, hri2⟩ := ints_cells hri
      have HI1 := Lib.hid hri1
      have HI2 := Lib.hid hri2
      have HIK := Lib.hid hIk
      have hk9 : k ≤ 20 := by omega
      clear hIk hri hri1 hri2
      generalize hlk : ll[k] = lk at *
      have HLK := Lib.hid hlk
      clear hlk
      go_wp2_with fail
      obtain ⟨wo, rfl⟩ : ∃ wo : World, wo = wr := ⟨_, rfl⟩
      go_loopw [6, 7] (fun x y wi => ∃ j : Nat, y = .int .i64 (j : Int) ∧ j ≤ 6 ∧ j ≤ lk.length ∧ wi.ownsRow wo.heap.size 3 1 x j (((lk.take j).map fun x => pk x (ll.length : Int)).map (.int .i64)) ∧ Ext wo wi) (fun _ y _ => 7 - (intOf y).toNat)
      case atStart => exact ⟨0, by go_num, by omega, by omega, World.ownsRow_nil _ _ _ _, Ext.refl _⟩
      case round =>
        obtain ⟨j, rfl, hj6, hjl, hown, hEi⟩ := hrel
        obtain ⟨a6, c6, rfl, _⟩ := hown.row
        have cA0 := cell_later hEi cA0
        have cA1 := cell_later hEi cA1
        have hx := cell_later hEi hx
        by_cases hjt : j < lk.length ∧ j < 6
        · obtain ⟨hj1, hj2⟩ := hjt
          obtain rfl := HI1.out (by omega)
          have hc := cell_later (Ext.trans HEW.out hEi) (HI2.out j hj1)
          have hv := HIK.out lk[j] (by simp)
          unfold I64 at hv
          have HQ := Lib.hid fun wx => still_of (picked_any lk[j] (ll.length : Int) wx hv.1 hv.2 (by omega) (by omega))
          have HSU := Lib.hid (show ((lk.take (j + 1)).map fun x => pk x (ll.length : Int)).map (Value.int .i64) = ((lk.take j).map fun x => pk x (ll.length : Int)).map (.int .i64) ++ [.int .i64 (pk lk[j] (ll.length : Int))] by rw [List.take_succ_eq_append_getElem hj1, List.map_append, List.map_append]; rfl)
          generalize ((lk.take j).map fun x => pk x (ll.length : Int)).map (Value.int .i64) = xs at *
          generalize lk[j] = xj at *
          generalize pk xj (ll.length : Int) = pj at *
          have HO := Lib.hid hown
          have HEi := Lib.hid hEi
          clear hown hEi hv
          go_wp2_with fail
          refine (HQ.out _).mono ?_
          rintro e wx ⟨rfl, rfl⟩
          have hown := (HO.out).alloc (Obj.cells #[.int .i64 pj] 3)
          go_wp2_with (at_builtin; go_must (refine wpl_append rfl rfl Try.slIntsG wo.heap.size rfl hown rfl (Row.one _ _ _) (one_int _) (by unfold maxLen; omega) (by omega) (by simp; have := HEi.out.size; omega) ?_))
          intro v' w1 hown' hg hb _
          have HO' := Lib.hid hown'
          have HG := Lib.hid hg
          clear hown hown' hg hb
          go_wp2_with fail
          go_roundw
          case rel => exact ⟨j + 1, by go_num, by omega, by omega, by rw [HSU.out]; exact HO'.out, (ext_al HEi.out _).grown HG.out (by simp; have := HEi.out.size; omega) (fun b hb => (HO.out.lt b hb).1)⟩
          case measure => simp [intOf]; omega
        · have hfin : lk.take j = lk.take 6 := by
            by_cases h : j = 6
            · rw [h]
            · rw [List.take_of_length_le (by omega), List.take_of_length_le (by omega)]
          have HFIN := Lib.hid hfin
          have HO := Lib.hid hown
          have HEi := Lib.hid hEi
          clear hfin hown hEi
          have bG := blk_ext HBG.out HEi.out
          have cG0 := blk_cell bG (i := 0) rfl
          have cG4 := blk_cell bG (i := 4) rfl
          clear bG
          by_cases hst : k < sets.length
          · obtain ⟨bs, os, hs1, hs2⟩ := ints_cells HS.out
            obtain rfl := hs1 (by omega)
            have hcs := cell_later (Ext.trans HEW.out HEi.out) (hs2 k hst)
            have hv := HT.out sets[k] (by simp)
            unfold I64 at hv
            have HQ := Lib.hid fun wx => still_of (picked_any sets[k] ((2 ^ M : Nat) : Int) wx hv.1 hv.2 (by have := Nat.two_pow_pos M; omega) (by have := Nat.pow_le_pow_right (n := 2) (by omega) (show M ≤ 3 by omega); omega))
            have HGS := Lib.hid (show gSet (2 ^ M : Nat) sets k = pk sets[k] (2 ^ M : Nat) by simp [gSet, hst])
            generalize sets[k] = sk at *
            have hw0 : IntKind.i64.wrap ((2 : Int) ^ M) = ((2 ^ M : Nat) : Int) := by
              rcases (show M = 0 ∨ M = 1 ∨ M = 2 ∨ M = 3 by omega) with rfl | rfl | rfl | rfl <;> decide
            generalize hPM : ((2 ^ M : Nat) : Int) = PM at *
            have HPM := Lib.hid hPM
            clear hPM
            clear hs1 hs2 hv
            go_wp2_with fail
            all_goals
              go_quiet ((go_at_call 8; exact Calls.quiet_of_same (HQ.out _)))
              have hEq : Ext wo (wr.drewN nq) := below_drewN HEi.out nq
              have hM1 := (HM.out.retag 3).ext hEq
              have hl : (wr.drewN nq).ownsRow wo.heap.size 3 1 (.slice a6 j c6) (gL (ll.length : Int) lk).length ((gL (ll.length : Int) lk).map (.int .i64)) := by
                have h := own_ext HO.out (below_drewN (Ext.refl wr) nq)
                rw [HFIN.out] at h
                have e : (gL (ll.length : Int) lk).length = j := by have := congrArg List.length HFIN.out; simp only [gL, List.length_map, List.length_take] at *; omega
                rw [e]
                exact h
              have hL1 := ((OwnT.fresh τ 3 hl).ent).mono (Q := fun x => Ints x (.slice a6 j c6) (gL (ll.length : Int) lk)) fun x hx => hx.reads
              have bG1 := blk_ext HBG.out hEq
              have bA1 := blk_ext HBA.out hEq
              have bR1 := blk_ext HBR.out hEq
              have hE1 := HEW.out.trans hEq
              generalize wr.drewN nq = wq at *
              have HGL := Lib.hid hM1
              have HL1 := Lib.hid hL1
              have HG1 := Lib.hid bG1
              have HA1 := Lib.hid bA1
              have HR1 := Lib.hid bR1
              have HE1 := Lib.hid hE1
              have hsz := hM1.size
              have ho1 := hM1.sp.own.alloc (Obj.cells #[.int .i64 (k : Int), .int .i64 0] 41)
              rw [gSpots_len] at ho1
              have cG0 := blk_cell bG1 (i := 0) rfl
              clear cA0 cA1 cG4 hx hcs hEq hM1 hl hL1 bG1 bA1 bR1 hE1 hw0
              go_wp2_with (at_builtin; go_must (refine wpl_append rfl rfl Try.slSpots (w.heap.size + 3) rfl ho1 rfl (Row.newSp _ _ _ _) (by simp [spc, Value.oneCell']) (by unfold maxLen; omega) (by omega) (by simp; omega) ?_))
              intro v2 w2 hown2 hg2 hb2 _
              have hb2' : v2.ownBlock = (Value.slice ap k cp).ownBlock ∨ v2.ownBlock = some (wq.alloc (Obj.cells #[.int .i64 (k : Int), .int .i64 0] 41)).heap.size := by
                rcases hb2 with h | h
                · exact .inl h
                · right; rw [h]; simp
              have hal : Ext wq (wq.alloc (Obj.cells #[.int .i64 (k : Int), .int .i64 0] 41)) := ext_al (Ext.refl _) _
              have hM2 := (HGL.out.ext hal).appSp hown2 (by rw [gSpots_len]) rfl hg2 hb2'
              have hL2 := (HL1.out.ext hal).app (HGL.out.ext hal).sp hg2 (by omega)
              have hlo : ∀ b, (Value.slice ap k cp).ownBlock = some b → w.heap.size + 3 ≤ b := fun b hb => (HGL.out.sp.own.lt b hb).1
              have hne : ∀ b, b < w.heap.size + 3 → some b ≠ (Value.slice ap k cp).ownBlock := fun b hb e => by have := hlo b e.symm; omega
              have bG2 := blk_grown (blk_ext HG1.out hal) hg2 (hne _ (by omega))
              have bA2 := blk_grown (blk_ext HA1.out hal) hg2 (hne _ (by omega))
              have bR2 := blk_grown (blk_ext HR1.out hal) hg2 (hne _ (by omega))
              have hE2 := (HE1.out.trans hal).grown hg2 (by simp; omega) (fun b hb => by have := hlo b hb; omega)
              obtain ⟨a2, c2, rfl, _⟩ := hown2.row
              have cG0 := blk_cell bG2 (i := 0) rfl
              have fG0 := blk_free bG2 0
              have HM2 := Lib.hid (hM2.low (p := ⟨w.heap.size + 1 + 1, 0, none⟩) (by show w.heap.size + 1 + 1 < _; omega) (.slice a2 (k + 1) c2))
              have HL2 := Lib.hid (hL2.set (p := ⟨w.heap.size + 1 + 1, 0, none⟩) (by rw [hM2.lo _ (by show w.heap.size + 1 + 1 < _; omega)]; omega) (.slice a2 (k + 1) c2))
              have HG2 := Lib.hid (blk_set bG2 (i := 0) (.slice a2 (k + 1) c2))
              have HA2 := Lib.hid (blk_far bA2 (p := ⟨w.heap.size + 1 + 1, 0, none⟩) (by show w.heap.size + 1 + 1 ≠ _; omega) (.slice a2 (k + 1) c2))
              have HR2 := Lib.hid (blk_far bR2 (p := ⟨w.heap.size + 1 + 1, 0, none⟩) (by show w.heap.size + 1 + 1 ≠ _; omega) (.slice a2 (k + 1) c2))
              have HE2 := Lib.hid (ext_st hE2 (p := ⟨w.heap.size + 1 + 1, 0, none⟩) (by show w.heap.size ≤ w.heap.size + 1 + 1; omega) (.slice a2 (k + 1) c2))
              have cG2 := blk_cell bG2 (i := 2) rfl
              clear hown2 hg2 hb2 hb2' hal hM2 hL2 hlo hne bG2 bA2 bR2 hE2 ho1 HGL HL1 HG1 HA1 HR1 HE1 hsz
              rw [← gSpots_succ] at HM2
              obtain ⟨vs, hv1, hv2⟩ := HM2.out.nx
              have HV1 := Lib.hid hv1
              have HV2 := Lib.hid hv2
              have hsz := HM2.out.size
              have ho2 := hv1.own.alloc (Obj.cells #[.slice a6 j c6] 23)
              rw [gNext_len _ _ _ (by omega)] at ho2
              clear hv1 hv2
              go_wp2_with (at_builtin; go_must (refine wpl_append rfl rfl Try.slLists (w.heap.size + 3) rfl ho2 rfl (Row.oneG _ _ _ _ (by simp)) (by simp [Value.oneCell']) (by unfold maxLen; omega) (by omega) (by simp at hsz ⊢; omega) ?_))
              intro v3 w3 hown3 hg3 hb3 _
              have hb3' : v3.ownBlock = (Value.slice ax k cx).ownBlock ∨ v3.ownBlock = some ((w2.setCell ⟨w.heap.size + 1 + 1, 0, none⟩ (.slice a2 (k + 1) c2)).alloc (Obj.cells #[.slice a6 j c6] 23)).heap.size := by
                rcases hb3 with h | h
                · exact .inl h
                · right; rw [h]; simp
              generalize w2.setCell ⟨w.heap.size + 1 + 1, 0, none⟩ (.slice a2 (k + 1) c2) = W2 at *
              have hal : Ext W2 (W2.alloc (Obj.cells #[.slice a6 j c6] 23)) := ext_al (Ext.refl _) _
              have hM3 := (HM2.out.ext hal).appNx (HV1.out.ext hal) (HV2.out.ext hal) (HL2.out.ext hal) hown3 (by rw [gNext_len _ _ _ (by omega)]) rfl hg3 hb3'
              have hlo : ∀ b, (Value.slice ax k cx).ownBlock = some b → w.heap.size + 3 ≤ b := fun b hb => (HV1.out.own.lt b hb).1
              have hne : ∀ b, b < w.heap.size + 3 → some b ≠ (Value.slice ax k cx).ownBlock := fun b hb e => by have := hlo b e.symm; omega
              have bG3 := blk_grown (blk_ext HG2.out hal) hg3 (hne _ (by omega))
              have bA3 := blk_grown (blk_ext HA2.out hal) hg3 (hne _ (by omega))
              have bR3 := blk_grown (blk_ext HR2.out hal) hg3 (hne _ (by omega))
              have hE3 := (HE2.out.trans hal).grown hg3 (by simp at hsz ⊢; omega) (fun b hb => by have := hlo b hb; omega)
              obtain ⟨a3, c3, rfl, _⟩ := hown3.row
              have cG2 := blk_cell bG3 (i := 2) rfl
              have cG3 := blk_cell bG3 (i := 3) rfl
              have fG2 := blk_free bG3 2
              have HM3 := Lib.hid (hM3.low (p := ⟨w.heap.size + 1 + 1, 2, none⟩) (by show w.heap.size + 1 + 1 < _; omega) (.slice a3 (k + 1) c3))
              have HG3 := Lib.hid (blk_set bG3 (i := 2) (.slice a3 (k + 1) c3))
              have HA3 := Lib.hid (blk_far bA3 (p := ⟨w.heap.size + 1 + 1, 2, none⟩) (by show w.heap.size + 1 + 1 ≠ _; omega) (.slice a3 (k + 1) c3))
              have HR3 := Lib.hid (blk_far bR3 (p := ⟨w.heap.size + 1 + 1, 2, none⟩) (by show w.heap.size + 1 + 1 ≠ _; omega) (.slice a3 (k + 1) c3))
              have HE3 := Lib.hid (ext_st hE3 (p := ⟨w.heap.size + 1 + 1, 2, none⟩) (by show w.heap.size ≤ w.heap.size + 1 + 1; omega) (.slice a3 (k + 1) c3))
              clear hown3 hg3 hb3 hb3' hal hM3 hlo hne bG3 bA3 bR3 hE3 ho2 hsz HM2 HV1 HV2 HL2 HG2 HA2 HR2 HE2 cG0 fG0
              have hsz := HM3.out.size
              have ho3 := HM3.out.st.own.alloc (Obj.cells #[.int .i64 (pk sk PM)] 3)
              rw [gSets_len] at ho3
              go_wp2_with (at_builtin; go_must (refine wpl_append rfl rfl Try.slIntsG (w.heap.size + 3) rfl ho3 rfl (Row.oneG _ _ _ _ (by simp)) (one_int _) (by unfold maxLen; omega) (by omega) (by simp at hsz ⊢; omega) ?_))
              intro v4 w4 hown4 hg4 hb4 _
              have hb4' : v4.ownBlock = (Value.slice at' k ct).ownBlock ∨ v4.ownBlock = some ((w3.setCell ⟨w.heap.size + 1 + 1, 2, none⟩ (.slice a3 (k + 1) c3)).alloc (Obj.cells #[.int .i64 (pk sk PM)] 3)).heap.size := by
                rcases hb4 with h | h
                · exact .inl h
                · right; rw [h]; simp
              generalize w3.setCell ⟨w.heap.size + 1 + 1, 2, none⟩ (.slice a3 (k + 1) c3) = W3 at *
              have hal : Ext W3 (W3.alloc (Obj.cells #[.int .i64 (pk sk PM)] 3)) := ext_al (Ext.refl _) _
              have hM4 := (HM3.out.ext hal).appSt hown4 (by rw [gSets_len]) rfl hg4 hb4'
              have hlo : ∀ b, (Value.slice at' k ct).ownBlock = some b → w.heap.size + 3 ≤ b := fun b hb => (HM3.out.st.own.lt b hb).1
              have hne : ∀ b, b < w.heap.size + 3 → some b ≠ (Value.slice at' k ct).ownBlock := fun b hb e => by have := hlo b e.symm; omega
              have bG4 := blk_grown (blk_ext HG3.out hal) hg4 (hne _ (by omega))
              have bA4 := blk_grown (blk_ext HA3.out hal) hg4 (hne _ (by omega))
              have bR4 := blk_grown (blk_ext HR3.out hal) hg4 (hne _ (by omega))
              have hE4 := (HE3.out.trans hal).grown hg4 (by simp at hsz ⊢; omega) (fun b hb => by have := hlo b hb; omega)
              obtain ⟨a4, c4, rfl, _⟩ := hown4.row
              have cG3 := blk_cell bG4 (i := 3) rfl
              have fG3 := blk_free bG4 3
              have HM4 := Lib.hid (hM4.low (p := ⟨w.heap.size + 1 + 1, 3, none⟩) (by show w.heap.size + 1 + 1 < _; omega) (.slice a4 (k + 1) c4))
              have HG4 := Lib.hid (blk_set bG4 (i := 3) (.slice a4 (k + 1) c4))
              have HA4 := Lib.hid (blk_far bA4 (p := ⟨w.heap.size + 1 + 1, 3, none⟩) (by show w.heap.size + 1 + 1 ≠ _; omega) (.slice a4 (k + 1) c4))
              have HR4 := Lib.hid (blk_far bR4 (p := ⟨w.heap.size + 1 + 1, 3, none⟩) (by show w.heap.size + 1 + 1 ≠ _; omega) (.slice a4 (k + 1) c4))
              have HE4 := Lib.hid (ext_st hE4 (p := ⟨w.heap.size + 1 + 1, 3, none⟩) (by show w.heap.size ≤ w.heap.size + 1 + 1; omega) (.slice a4 (k + 1) c4))
              clear hown4 hg4 hb4 hb4' hal hM4 hlo hne bG4 bA4 bR4 hE4 ho3 hsz HM3 HG3 HA3 HR3 HE3 cG2 fG2
              go_wp2_with fail
              go_roundw
              case rel =>
                have h := HM4.out
                rw [← HGN.out] at h
                have e := gSets_succ PM sets k
                rw [HGS.out] at e
                rw [← e] at h
                rw [← HPM.out] at h
                exact ⟨k + 1, _, _, _, _, by go_num, by omega, HA4.out, HR4.out, HG4.out, h, HE4.out⟩
              case measure => simp [intOf]; omega
          · have HGS := Lib.hid (show gSet (2 ^ M : Nat) sets k = 0 by simp [gSet, hst])
            have hEq : Ext wo wr := HEi.out
            have hM1 := (HM.out.retag 3).ext hEq
            have hl : wr.ownsRow wo.heap.size 3 1 (.slice a6 j c6) (gL (ll.length : Int) lk).length ((gL (ll.length : Int) lk).map (.int .i64)) := by
              have h := own_ext HO.out (Ext.refl wr)
              rw [HFIN.out] at h
              have e : (gL (ll.length : Int) lk).length = j := by have := congrArg List.length HFIN.out; simp only [gL, List.length_map, List.length_take] at *; omega
              rw [e]
              exact h
            have hL1 := ((OwnT.fresh τ 3 hl).ent).mono (Q := fun x => Ints x (.slice a6 j c6) (gL (ll.length : Int) lk)) fun x hx => hx.reads
            have bG1 := blk_ext HBG.out hEq
            have bA1 := blk_ext HBA.out hEq
            have bR1 := blk_ext HBR.out hEq
            have hE1 := HEW.out.trans hEq
            obtain ⟨wq, rfl⟩ : ∃ wq : World, wq = wr := ⟨_, rfl⟩
            have HGL := Lib.hid hM1
            have HL1 := Lib.hid hL1
            have HG1 := Lib.hid bG1
            have HA1 := Lib.hid bA1
            have HR1 := Lib.hid bR1
            have HE1 := Lib.hid hE1
            have hsz := hM1.size
            have ho1 := hM1.sp.own.alloc (Obj.cells #[.int .i64 (k : Int), .int .i64 0] 41)
            rw [gSpots_len] at ho1
            have cG0 := blk_cell bG1 (i := 0) rfl
            clear hEq hM1 hl hL1 bG1 bA1 bR1 hE1 cG4
            go_wp2_with (at_builtin; go_must (refine wpl_append rfl rfl Try.slSpots (w.heap.size + 3) rfl ho1 rfl (Row.newSp _ _ _ _) (by simp [spc, Value.oneCell']) (by unfold maxLen; omega) (by omega) (by simp; omega) ?_))
            all_goals
              intro v2 w2 hown2 hg2 hb2 _
              have hb2' : v2.ownBlock = (Value.slice ap k cp).ownBlock ∨ v2.ownBlock = some (wq.alloc (Obj.cells #[.int .i64 (k : Int), .int .i64 0] 41)).heap.size := by
                rcases hb2 with h | h
                · exact .inl h
                · right; rw [h]; simp
              have hal : Ext wq (wq.alloc (Obj.cells #[.int .i64 (k : Int), .int .i64 0] 41)) := ext_al (Ext.refl _) _
              have hM2 := (HGL.out.ext hal).appSp hown2 (by rw [gSpots_len]) rfl hg2 hb2'
              have hL2 := (HL1.out.ext hal).app (HGL.out.ext hal).sp hg2 (by omega)
              have hlo : ∀ b, (Value.slice ap k cp).ownBlock = some b → w.heap.size + 3 ≤ b := fun b hb => (HGL.out.sp.own.lt b hb).1
              have hne : ∀ b, b < w.heap.size + 3 → some b ≠ (Value.slice ap k cp).ownBlock := fun b hb e => by have := hlo b e.symm; omega
              have bG2 := blk_grown (blk_ext HG1.out hal) hg2 (hne _ (by omega))
              have bA2 := blk_grown (blk_ext HA1.out hal) hg2 (hne _ (by omega))
              have bR2 := blk_grown (blk_ext HR1.out hal) hg2 (hne _ (by omega))
              have hE2 := (HE1.out.trans hal).grown hg2 (by simp; omega) (fun b hb => by have := hlo b hb; omega)
              obtain ⟨a2, c2, rfl, _⟩ := hown2.row
              have cG0 := blk_cell bG2 (i := 0) rfl
              have fG0 := blk_free bG2 0
              have HM2 := Lib.hid (hM2.low (p := ⟨w.heap.size + 1 + 1, 0, none⟩) (by show w.heap.size + 1 + 1 < _; omega) (.slice a2 (k + 1) c2))
              have HL2 := Lib.hid (hL2.set (p := ⟨w.heap.size + 1 + 1, 0, none⟩) (by rw [hM2.lo _ (by show w.heap.size + 1 + 1 < _; omega)]; omega) (.slice a2 (k + 1) c2))
              have HG2 := Lib.hid (blk_set bG2 (i := 0) (.slice a2 (k + 1) c2))
              have HA2 := Lib.hid (blk_far bA2 (p := ⟨w.heap.size + 1 + 1, 0, none⟩) (by show w.heap.size + 1 + 1 ≠ _; omega) (.slice a2 (k + 1) c2))
              have HR2 := Lib.hid (blk_far bR2 (p := ⟨w.heap.size + 1 + 1, 0, none⟩) (by show w.heap.size + 1 + 1 ≠ _; omega) (.slice a2 (k + 1) c2))
              have HE2 := Lib.hid (ext_st hE2 (p := ⟨w.heap.size + 1 + 1, 0, none⟩) (by show w.heap.size ≤ w.heap.size + 1 + 1; omega) (.slice a2 (k + 1) c2))
              have cG2 := blk_cell bG2 (i := 2) rfl
              clear hown2 hg2 hb2 hb2' hal hM2 hL2 hlo hne bG2 bA2 bR2 hE2 ho1 HGL HL1 HG1 HA1 HR1 HE1 hsz
              rw [← gSpots_succ] at HM2
              obtain ⟨vs, hv1, hv2⟩ := HM2.out.nx
              have HV1 := Lib.hid hv1
              have HV2 := Lib.hid hv2
              have hsz := HM2.out.size
              have ho2 := hv1.own.alloc (Obj.cells #[.slice a6 j c6] 23)
              rw [gNext_len _ _ _ (by omega)] at ho2
              clear hv1 hv2
              go_wp2_with (at_builtin; go_must (refine wpl_append rfl rfl Try.slLists (w.heap.size + 3) rfl ho2 rfl (Row.oneG _ _ _ _ (by simp)) (by simp [Value.oneCell']) (by unfold maxLen; omega) (by omega) (by simp at hsz ⊢; omega) ?_))
              intro v3 w3 hown3 hg3 hb3 _
              have hb3' : v3.ownBlock = (Value.slice ax k cx).ownBlock ∨ v3.ownBlock = some ((w2.setCell ⟨w.heap.size + 1 + 1, 0, none⟩ (.slice a2 (k + 1) c2)).alloc (Obj.cells #[.slice a6 j c6] 23)).heap.size := by
                rcases hb3 with h | h
                · exact .inl h
                · right; rw [h]; simp
              generalize w2.setCell ⟨w.heap.size + 1 + 1, 0, none⟩ (.slice a2 (k + 1) c2) = W2 at *
              have hal : Ext W2 (W2.alloc (Obj.cells #[.slice a6 j c6] 23)) := ext_al (Ext.refl _) _
              have hM3 := (HM2.out.ext hal).appNx (HV1.out.ext hal) (HV2.out.ext hal) (HL2.out.ext hal) hown3 (by rw [gNext_len _ _ _ (by omega)]) rfl hg3 hb3'
              have hlo : ∀ b, (Value.slice ax k cx).ownBlock = some b → w.heap.size + 3 ≤ b := fun b hb => (HV1.out.own.lt b hb).1
              have hne : ∀ b, b < w.heap.size + 3 → some b ≠ (Value.slice ax k cx).ownBlock := fun b hb e => by have := hlo b e.symm; omega
              have bG3 := blk_grown (blk_ext HG2.out hal) hg3 (hne _ (by omega))
              have bA3 := blk_grown (blk_ext HA2.out hal) hg3 (hne _ (by omega))
              have bR3 := blk_grown (blk_ext HR2.out hal) hg3 (hne _ (by omega))
              have hE3 := (HE2.out.trans hal).grown hg3 (by simp at hsz ⊢; omega) (fun b hb => by have := hlo b hb; omega)
              obtain ⟨a3, c3, rfl, _⟩ := hown3.row
              have cG2 := blk_cell bG3 (i := 2) rfl
              have cG3 := blk_cell bG3 (i := 3) rfl
              have fG2 := blk_free bG3 2
              have HM3 := Lib.hid (hM3.low (p := ⟨w.heap.size + 1 + 1, 2, none⟩) (by show w.heap.size + 1 + 1 < _; omega) (.slice a3 (k + 1) c3))
              have HG3 := Lib.hid (blk_set bG3 (i := 2) (.slice a3 (k + 1) c3))
              have HA3 := Lib.hid (blk_far bA3 (p := ⟨w.heap.size + 1 + 1, 2, none⟩) (by show w.heap.size + 1 + 1 ≠ _; omega) (.slice a3 (k + 1) c3))
              have HR3 := Lib.hid (blk_far bR3 (p := ⟨w.heap.size + 1 + 1, 2, none⟩) (by show w.heap.size + 1 + 1 ≠ _; omega) (.slice a3 (k + 1) c3))
              have HE3 := Lib.hid (ext_st hE3 (p := ⟨w.heap.size + 1 + 1, 2, none⟩) (by show w.heap.size ≤ w.heap.size + 1 + 1; omega) (.slice a3 (k + 1) c3))
              clear hown3 hg3 hb3 hb3' hal hM3 hlo hne bG3 bA3 bR3 hE3 ho2 hsz HM2 HV1 HV2 HL2 HG2 HA2 HR2 HE2 cG0 fG0
              have hsz := HM3.out.size
              have ho3 := HM3.out.st.own.alloc (Obj.cells #[.int .i64 0] 3)
              rw [gSets_len] at ho3
              go_wp2_with (at_builtin; go_must (refine wpl_append rfl rfl Try.slIntsG (w.heap.size + 3) rfl ho3 rfl (Row.oneG _ _ _ _ (by simp)) (one_int _) (by unfold maxLen; omega) (by omega) (by simp at hsz ⊢; omega) ?_))
              intro v4 w4 hown4 hg4 hb4 _
              have hb4' : v4.ownBlock = (Value.slice at' k ct).ownBlock ∨ v4.ownBlock = some ((w3.setCell ⟨w.heap.size + 1 + 1, 2, none⟩ (.slice a3 (k + 1) c3)).alloc (Obj.cells #[.int .i64 0] 3)).heap.size := by
                rcases hb4 with h | h
                · exact .inl h
                · right; rw [h]; simp
              generalize w3.setCell ⟨w.heap.size + 1 + 1, 2, none⟩ (.slice a3 (k + 1) c3) = W3 at *
              have hal : Ext W3 (W3.alloc (Obj.cells #[.int .i64 0] 3)) := ext_al (Ext.refl _) _
              have hM4 := (HM3.out.ext hal).appSt hown4 (by rw [gSets_len]) rfl hg4 hb4'
              have hlo : ∀ b, (Value.slice at' k ct).ownBlock = some b → w.heap.size + 3 ≤ b := fun b hb => (HM3.out.st.own.lt b hb).1
              have hne : ∀ b, b < w.heap.size + 3 → some b ≠ (Value.slice at' k ct).ownBlock := fun b hb e => by have := hlo b e.symm; omega
              have bG4 := blk_grown (blk_ext HG3.out hal) hg4 (hne _ (by omega))
              have bA4 := blk_grown (blk_ext HA3.out hal) hg4 (hne _ (by omega))
              have bR4 := blk_grown (blk_ext HR3.out hal) hg4 (hne _ (by omega))
              have hE4 := (HE3.out.trans hal).grown hg4 (by simp at hsz ⊢; omega) (fun b hb => by have := hlo b hb; omega)
              obtain ⟨a4, c4, rfl, _⟩ := hown4.row
              have cG3 := blk_cell bG4 (i := 3) rfl
              have fG3 := blk_free bG4 3
              have HM4 := Lib.hid (hM4.low (p := ⟨w.heap.size + 1 + 1, 3, none⟩) (by show w.heap.size + 1 + 1 < _; omega) (.slice a4 (k + 1) c4))
              have HG4 := Lib.hid (blk_set bG4 (i := 3) (.slice a4 (k + 1) c4))
              have HA4 := Lib.hid (blk_far bA4 (p := ⟨w.heap.size + 1 + 1, 3, none⟩) (by show w.heap.size + 1 + 1 ≠ _; omega) (.slice a4 (k + 1) c4))
              have HR4 := Lib.hid (blk_far bR4 (p := ⟨w.heap.size + 1 + 1, 3, none⟩) (by show w.heap.size + 1 + 1 ≠ _; omega) (.slice a4 (k + 1) c4))
              have HE4 := Lib.hid (ext_st hE4 (p := ⟨w.heap.size + 1 + 1, 3, none⟩) (by show w.heap.size ≤ w.heap.size + 1 + 1; omega) (.slice a4 (k + 1) c4))
              clear hown4 hg4 hb4 hb4' hal hM4 hlo hne bG4 bA4 bR4 hE4 ho3 hsz HM3 HG3 HA3 HR3 HE3 cG2 fG2
              go_wp2_with fail
              go_roundw
              case rel =>
                have h := HM4.out
                rw [← HGN.out] at h
                have e := gSets_succ (2 ^ M : Nat) sets k
                rw [HGS.out] at e
                rw [← e] at h
                exact ⟨k + 1, _, _, _, _, by go_num, by omega, HA4.out, HR4.out, HG4.out, h, HE4.out⟩
              case measure => simp [intOf]; omega
    · obtain rfl : k = ll.length := by omega
      have g0 := blk_cell HBG.out (i := 0) rfl
      have g1 := blk_cell HBG.out (i := 1) rfl
      have g2 := blk_cell HBG.out (i := 2) rfl
      have g3 := blk_cell HBG.out (i := 3) rfl
      have g4 := blk_cell HBG.out (i := 4) rfl
      have r0 := blk_cell HBR.out (i := 0) rfl
      have r1 := blk_cell HBR.out (i := 1) rfl
      have r2 := blk_cell HBR.out (i := 2) rfl
      have r3 := blk_cell HBR.out (i := 3) rfl
      have r4 := blk_cell HBR.out (i := 4) rfl
      have f0 := blk_free HBR.out 0
      have f1 := blk_free HBR.out 1
      have f2 := blk_free HBR.out 2
      have f3 := blk_free HBR.out 3
      have f4 := blk_free HBR.out 4
      have HN0 := Lib.hid (show 0 < ll.length by omega)
      clear cA0 cA1 hlt
      go_wp2
      refine bodyPost_ret (v := .agg #[.slice ap ll.length cp, .int .i64 (ini + 1), .slice ax ll.length cx, .slice at' ll.length ct, .int .i64 (M : Int)]) (by simp [results, Try.results4, go_sem, r0, r1, r2, r3, r4]) rfl ?_
      refine ⟨_, _, _, _, by rw [if_pos HN0.out]; rw [← HPE.out]; try rfl, GMem.base ((((((HM.out.low ?_ _).low ?_ _).low ?_ _).low ?_ _).low ?_ _)) (by omega), ext_st (ext_st (ext_st (ext_st (ext_st HEW.out ?_ _) ?_ _) ?_ _) ?_ _) ?_ _⟩
      all_goals (first | (show w.heap.size + 1 < w.heap.size + 3; omega) | (show w.heap.size ≤ w.heap.size + 1; omega))


set_option maxRecDepth 100000 in
set_option maxHeartbeats 4000000 in
theorem graph_big (vn vs : Value) (ll : List (List Int)) (sets : List Int) (init many : Int) (w : World) (hN : Lists w vn ll) (hS : Ints w vs sets) (hI : ∀ l ∈ ll, ∀ n ∈ l, I64 n) (hT : ∀ n ∈ sets, I64 n) (h1 : I64 init) (h2 : I64 many) (h20 : 20 < ll.length) (M : Nat) (hM : pk many 4 = M) :
    Calls Try.prog 4 #[.agg #[vn, vs, .int .i64 init, .int .i64 many]] w (GraphPost w ll sets init M 20) := by
  obtain ⟨an, cn, rfl⟩ : ∃ a c, vn = .slice a ll.length c := by
    obtain ⟨vs, he, a, c, rfl, _⟩ := hN
    exact ⟨a, c, rfl⟩
  obtain ⟨asv, cs, rfl, hrs⟩ := hS
  obtain ⟨_, hle, hmx, bn, on, han, hcn⟩ := hN.cells
  unfold maxLen at hmx
  have hml : ll.length ≤ 9223372036854775807 := by omega
  have hml2 : sets.length ≤ 9223372036854775807 := by have h1 := hrs.max; have h2 := hrs.le; unfold maxLen at h1; omega
  have HS := Lib.hid hrs
  have HA := Lib.hid han
  have HC := Lib.hid hcn
  have HI := Lib.hid hI
  have HT := Lib.hid hT
  unfold I64 at h1 h2
  have HP := Lib.hid fun wx => still_of (picked_any many 4 wx h2.1 h2.2 (by omega) (by omega))
  rw [hM] at HP
  have HQ := Lib.hid fun wx => still_of (picked_any init (20 : Int) wx h1.1 h1.2 (by omega) (by omega))
  have hpi := pk_bd init (20 : Int) (by omega)
  have hM4 : M < 4 := by have := pk_bd many 4 (by omega); omega
  clear hN hrs hI hT han hcn hle hmx hM h1 h2
  generalize hpe : pk init (20 : Int) = ini at *
  have HPE := Lib.hid hpe
  clear hpe
  go_enter Try.func4, Try.ntmps4
  go_wp2_with fail
  refine (HP.out _).mono ?_
  rintro e wx ⟨rfl, rfl⟩
  go_wp2_with fail
  refine (HQ.out _).mono ?_
  rintro e wx ⟨rfl, rfl⟩
  go_wp2_with fail
  have hE0 : Ext w (((w.alloc (Obj.cells #[.slice an ll.length cn, .slice asv sets.length cs, .int .i64 init, .int .i64 many] 25)).alloc (Obj.cells #[.slice none 0 0, .int .i64 0, .slice none 0 0, .slice none 0 0, .int .i64 0] 28)).alloc (Obj.cells #[.slice none 0 0, .int .i64 (ini + 1), .slice none 0 0, .slice none 0 0, .int .i64 (M : Int)] 28)) := ext_al (ext_al (ext_al (Ext.refl w) _) _) _
  have bG := blk_new ((w.alloc (Obj.cells #[.slice an ll.length cn, .slice asv sets.length cs, .int .i64 init, .int .i64 many] 25)).alloc (Obj.cells #[.slice none 0 0, .int .i64 0, .slice none 0 0, .slice none 0 0, .int .i64 0] 28)) (Obj.cells #[.slice none 0 0, .int .i64 (ini + 1), .slice none 0 0, .slice none 0 0, .int .i64 (M : Int)] 28)
  have bR := blk_ext (blk_new (w.alloc (Obj.cells #[.slice an ll.length cn, .slice asv sets.length cs, .int .i64 init, .int .i64 many] 25)) (Obj.cells #[.slice none 0 0, .int .i64 0, .slice none 0 0, .slice none 0 0, .int .i64 0] 28)) (ext_al (Ext.refl _) (Obj.cells #[.slice none 0 0, .int .i64 (ini + 1), .slice none 0 0, .slice none 0 0, .int .i64 (M : Int)] 28))
  have bA := blk_ext (blk_new w (Obj.cells #[.slice an ll.length cn, .slice asv sets.length cs, .int .i64 init, .int .i64 many] 25)) (ext_al (ext_al (Ext.refl _) (Obj.cells #[.slice none 0 0, .int .i64 0, .slice none 0 0, .slice none 0 0, .int .i64 0] 28)) (Obj.cells #[.slice none 0 0, .int .i64 (ini + 1), .slice none 0 0, .slice none 0 0, .int .i64 (M : Int)] 28))
  have hs0 : (((w.alloc (Obj.cells #[.slice an ll.length cn, .slice asv sets.length cs, .int .i64 init, .int .i64 many] 25)).alloc (Obj.cells #[.slice none 0 0, .int .i64 0, .slice none 0 0, .slice none 0 0, .int .i64 0] 28)).alloc (Obj.cells #[.slice none 0 0, .int .i64 (ini + 1), .slice none 0 0, .slice none 0 0, .int .i64 (M : Int)] 28)).heap.size = w.heap.size + 3 := by simp
  have hs1 : (w.alloc (Obj.cells #[.slice an ll.length cn, .slice asv sets.length cs, .int .i64 init, .int .i64 many] 25)).heap.size = w.heap.size + 1 := by simp
  have hs2 : ((w.alloc (Obj.cells #[.slice an ll.length cn, .slice asv sets.length cs, .int .i64 init, .int .i64 many] 25)).alloc (Obj.cells #[.slice none 0 0, .int .i64 0, .slice none 0 0, .slice none 0 0, .int .i64 0] 28)).heap.size = w.heap.size + 1 + 1 := by simp
  rw [hs2] at bG
  rw [hs1] at bR
  clear hs1 hs2
  generalize ((w.alloc (Obj.cells #[.slice an ll.length cn, .slice asv sets.length cs, .int .i64 init, .int .i64 many] 25)).alloc (Obj.cells #[.slice none 0 0, .int .i64 0, .slice none 0 0, .slice none 0 0, .int .i64 0] 28)).alloc (Obj.cells #[.slice none 0 0, .int .i64 (ini + 1), .slice none 0 0, .slice none 0 0, .int .i64 (M : Int)] 28) = W0 at *
  have HM0 := Lib.hid (GMem.nil W0 (w.heap.size + 3) (by omega))
  have BG := Lib.hid bG
  have BR := Lib.hid bR
  have BA := Lib.hid bA
  have HE0 := Lib.hid hE0
  clear bG bR bA hE0 hs0
  go_loopw [5] (fun y wr => ∃ (k : Nat) (τ : Nat → Nat) (sp nx st : Value), y = .int .i64 (k : Int) ∧ k ≤ 20 ∧ wr.heap[w.heap.size]? = some (.cells #[.slice an ll.length cn, .slice asv sets.length cs, .int .i64 init, .int .i64 many] 25 (0, 0)) ∧
    wr.heap[w.heap.size + 1]? = some (.cells #[.slice none 0 0, .int .i64 0, .slice none 0 0, .slice none 0 0, .int .i64 0] 28 (0, 0)) ∧
    wr.heap[w.heap.size + 1 + 1]? = some (.cells #[sp, .int .i64 (ini + 1), nx, st, .int .i64 (M : Int)] 28 (0, 0)) ∧
    GMem τ (w.heap.size + 3) wr sp nx st (gSpots k) (gNext (20 : Int) ll k) (gSets (2 ^ M : Nat) sets k) ∧ Ext w wr) (fun y _ => 21 - (intOf y).toNat)
  case atStart => exact ⟨0, _, _, _, _, by go_num, by omega, BA.out, BR.out, BG.out, HM0.out, HE0.out⟩
  case round =>
    obtain ⟨k, τ, sp, nx, st, rfl, hk, bA, bR, bG, hM, hE⟩ := hrel
    clear HM0 BG BR BA HE0
    obtain ⟨ap, cp, rfl, hrp⟩ := hM.spots
    obtain ⟨ax, cx, rfl⟩ : ∃ a c, nx = .slice a (gNext (20 : Int) ll k).length c := by
      obtain ⟨vs, he, a, c, rfl, _⟩ := hM.lists
      exact ⟨a, c, rfl⟩
    obtain ⟨at', ct, rfl, hrt⟩ := hM.ints
    have e1 := gSpots_len k
    have e2 := gNext_len (20 : Int) ll k (by omega)
    have e3 := gSets_len (2 ^ M : Nat) sets k
    have cA0 := blk_cell bA (i := 0) rfl
    have cA1 := blk_cell bA (i := 1) rfl
    have HBA := Lib.hid bA
    have HBR := Lib.hid bR
    have HBG := Lib.hid bG
    have HM := Lib.hid hM
    have HEW := Lib.hid hE
    clear bA bR bG hM hE hrp hrt
    rw [e1, e2, e3] at HBG HM
    clear e1 e2 e3
    by_cases hlt : k < 20
    · obtain ⟨ai, ci, hx, hx2⟩ := HC.out k (by omega)
      obtain rfl := HA.out (by omega)
      replace hx := cell_later HEW.out hx
      have hIk := HI.out ll[k] (by simp)
      have HGN := Lib.hid (gNext_succ (20 : Int) ll k (by omega))
      have HXI := Lib.hid hx2
      obtain ⟨_, _, e, hri⟩ := hx2
      simp only [Value.slice.injEq] at e
      obtain ⟨rfl, _, rfl⟩ := e
      have hmi : ll[k].length ≤ 9223372036854775807 := by have h1 := hri.max; have h2 := hri.le; unfold maxLen at h1; omega
      obtain ⟨bi, oi, hri1, hri2⟩ := ints_cells hri
      have HI1 := Lib.hid hri1
      have HI2 := Lib.hid hri2
      have HIK := Lib.hid hIk
      have hk9 : k ≤ 20 := by omega
      clear hIk hri hri1 hri2
      generalize hlk : ll[k] = lk at *
      have HLK := Lib.hid hlk
      clear hlk
      go_wp2_with fail
      obtain ⟨wo, rfl⟩ : ∃ wo : World, wo = wr := ⟨_, rfl⟩
      go_loopw [6, 7] (fun x y wi => ∃ j : Nat, y = .int .i64 (j : Int) ∧ j ≤ 6 ∧ j ≤ lk.length ∧ wi.ownsRow wo.heap.size 3 1 x j (((lk.take j).map fun x => pk x (20 : Int)).map (.int .i64)) ∧ Ext wo wi) (fun _ y _ => 7 - (intOf y).toNat)
      case atStart => exact ⟨0, by go_num, by omega, by omega, World.ownsRow_nil _ _ _ _, Ext.refl _⟩
      case round =>
        obtain ⟨j, rfl, hj6, hjl, hown, hEi⟩ := hrel
        obtain ⟨a6, c6, rfl, _⟩ := hown.row
        have cA0 := cell_later hEi cA0
        have cA1 := cell_later hEi cA1
        have hx := cell_later hEi hx
        by_cases hjt : j < lk.length ∧ j < 6
        · obtain ⟨hj1, hj2⟩ := hjt
          obtain rfl := HI1.out (by omega)
          have hc := cell_later (Ext.trans HEW.out hEi) (HI2.out j hj1)
          have hv := HIK.out lk[j] (by simp)
          unfold I64 at hv
          have HQ := Lib.hid fun wx => still_of (picked_any lk[j] (20 : Int) wx hv.1 hv.2 (by omega) (by omega))
          have HSU := Lib.hid (show ((lk.take (j + 1)).map fun x => pk x (20 : Int)).map (Value.int .i64) = ((lk.take j).map fun x => pk x (20 : Int)).map (.int .i64) ++ [.int .i64 (pk lk[j] (20 : Int))] by rw [List.take_succ_eq_append_getElem hj1, List.map_append, List.map_append]; rfl)
          generalize ((lk.take j).map fun x => pk x (20 : Int)).map (Value.int .i64) = xs at *
          generalize lk[j] = xj at *
          generalize pk xj (20 : Int) = pj at *
          have HO := Lib.hid hown
          have HEi := Lib.hid hEi
          clear hown hEi hv
          go_wp2_with fail
          refine (HQ.out _).mono ?_
          rintro e wx ⟨rfl, rfl⟩
          have hown := (HO.out).alloc (Obj.cells #[.int .i64 pj] 3)
          go_wp2_with (at_builtin; go_must (refine wpl_append rfl rfl Try.slIntsG wo.heap.size rfl hown rfl (Row.one _ _ _) (one_int _) (by unfold maxLen; omega) (by omega) (by simp; have := HEi.out.size; omega) ?_))
          intro v' w1 hown' hg hb _
          have HO' := Lib.hid hown'
          have HG := Lib.hid hg
          clear hown hown' hg hb
          go_wp2_with fail
          go_roundw
          case rel => exact ⟨j + 1, by go_num, by omega, by omega, by rw [HSU.out]; exact HO'.out, (ext_al HEi.out _).grown HG.out (by simp; have := HEi.out.size; omega) (fun b hb => (HO.out.lt b hb).1)⟩
          case measure => simp [intOf]; omega
        · have hfin : lk.take j = lk.take 6 := by
            by_cases h : j = 6
            · rw [h]
            · rw [List.take_of_length_le (by omega), List.take_of_length_le (by omega)]
          have HFIN := Lib.hid hfin
          have HO := Lib.hid hown
          have HEi := Lib.hid hEi
          clear hfin hown hEi
          have bG := blk_ext HBG.out HEi.out
          have cG0 := blk_cell bG (i := 0) rfl
          have cG4 := blk_cell bG (i := 4) rfl
          clear bG
          by_cases hst : k < sets.length
          · obtain ⟨bs, os, hs1, hs2⟩ := ints_cells HS.out
            obtain rfl := hs1 (by omega)
            have hcs := cell_later (Ext.trans HEW.out HEi.out) (hs2 k hst)
            have hv := HT.out sets[k] (by simp)
            unfold I64 at hv
            have HQ := Lib.hid fun wx => still_of (picked_any sets[k] ((2 ^ M : Nat) : Int) wx hv.1 hv.2 (by have := Nat.two_pow_pos M; omega) (by have := Nat.pow_le_pow_right (n := 2) (by omega) (show M ≤ 3 by omega); omega))
            have HGS := Lib.hid (show gSet (2 ^ M : Nat) sets k = pk sets[k] (2 ^ M : Nat) by simp [gSet, hst])
            generalize sets[k] = sk at *
            have hw0 : IntKind.i64.wrap ((2 : Int) ^ M) = ((2 ^ M : Nat) : Int) := by
              rcases (show M = 0 ∨ M = 1 ∨ M = 2 ∨ M = 3 by omega) with rfl | rfl | rfl | rfl <;> decide
            generalize hPM : ((2 ^ M : Nat) : Int) = PM at *
            have HPM := Lib.hid hPM
            clear hPM
            clear hs1 hs2 hv
            go_wp2_with fail
            all_goals
              go_quiet ((go_at_call 8; exact Calls.quiet_of_same (HQ.out _)))
              have hEq : Ext wo (wr.drewN nq) := below_drewN HEi.out nq
              have hM1 := (HM.out.retag 3).ext hEq
              have hl : (wr.drewN nq).ownsRow wo.heap.size 3 1 (.slice a6 j c6) (gL (20 : Int) lk).length ((gL (20 : Int) lk).map (.int .i64)) := by
                have h := own_ext HO.out (below_drewN (Ext.refl wr) nq)
                rw [HFIN.out] at h
                have e : (gL (20 : Int) lk).length = j := by have := congrArg List.length HFIN.out; simp only [gL, List.length_map, List.length_take] at *; omega
                rw [e]
                exact h
              have hL1 := ((OwnT.fresh τ 3 hl).ent).mono (Q := fun x => Ints x (.slice a6 j c6) (gL (20 : Int) lk)) fun x hx => hx.reads
              have bG1 := blk_ext HBG.out hEq
              have bA1 := blk_ext HBA.out hEq
              have bR1 := blk_ext HBR.out hEq
              have hE1 := HEW.out.trans hEq
              generalize wr.drewN nq = wq at *
              have HGL := Lib.hid hM1
              have HL1 := Lib.hid hL1
              have HG1 := Lib.hid bG1
              have HA1 := Lib.hid bA1
              have HR1 := Lib.hid bR1
              have HE1 := Lib.hid hE1
              have hsz := hM1.size
              have ho1 := hM1.sp.own.alloc (Obj.cells #[.int .i64 (k : Int), .int .i64 0] 41)
              rw [gSpots_len] at ho1
              have cG0 := blk_cell bG1 (i := 0) rfl
              clear cA0 cA1 cG4 hx hcs hEq hM1 hl hL1 bG1 bA1 bR1 hE1 hw0
              go_wp2_with (at_builtin; go_must (refine wpl_append rfl rfl Try.slSpots (w.heap.size + 3) rfl ho1 rfl (Row.newSp _ _ _ _) (by simp [spc, Value.oneCell']) (by unfold maxLen; omega) (by omega) (by simp; omega) ?_))
              intro v2 w2 hown2 hg2 hb2 _
              have hb2' : v2.ownBlock = (Value.slice ap k cp).ownBlock ∨ v2.ownBlock = some (wq.alloc (Obj.cells #[.int .i64 (k : Int), .int .i64 0] 41)).heap.size := by
                rcases hb2 with h | h
                · exact .inl h
                · right; rw [h]; simp
              have hal : Ext wq (wq.alloc (Obj.cells #[.int .i64 (k : Int), .int .i64 0] 41)) := ext_al (Ext.refl _) _
              have hM2 := (HGL.out.ext hal).appSp hown2 (by rw [gSpots_len]) rfl hg2 hb2'
              have hL2 := (HL1.out.ext hal).app (HGL.out.ext hal).sp hg2 (by omega)
              have hlo : ∀ b, (Value.slice ap k cp).ownBlock = some b → w.heap.size + 3 ≤ b := fun b hb => (HGL.out.sp.own.lt b hb).1
              have hne : ∀ b, b < w.heap.size + 3 → some b ≠ (Value.slice ap k cp).ownBlock := fun b hb e => by have := hlo b e.symm; omega
              have bG2 := blk_grown (blk_ext HG1.out hal) hg2 (hne _ (by omega))
              have bA2 := blk_grown (blk_ext HA1.out hal) hg2 (hne _ (by omega))
              have bR2 := blk_grown (blk_ext HR1.out hal) hg2 (hne _ (by omega))
              have hE2 := (HE1.out.trans hal).grown hg2 (by simp; omega) (fun b hb => by have := hlo b hb; omega)
              obtain ⟨a2, c2, rfl, _⟩ := hown2.row
              have cG0 := blk_cell bG2 (i := 0) rfl
              have fG0 := blk_free bG2 0
              have HM2 := Lib.hid (hM2.low (p := ⟨w.heap.size + 1 + 1, 0, none⟩) (by show w.heap.size + 1 + 1 < _; omega) (.slice a2 (k + 1) c2))
              have HL2 := Lib.hid (hL2.set (p := ⟨w.heap.size + 1 + 1, 0, none⟩) (by rw [hM2.lo _ (by show w.heap.size + 1 + 1 < _; omega)]; omega) (.slice a2 (k + 1) c2))
              have HG2 := Lib.hid (blk_set bG2 (i := 0) (.slice a2 (k + 1) c2))
              have HA2 := Lib.hid (blk_far bA2 (p := ⟨w.heap.size + 1 + 1, 0, none⟩) (by show w.heap.size + 1 + 1 ≠ _; omega) (.slice a2 (k + 1) c2))
              have HR2 := Lib.hid (blk_far bR2 (p := ⟨w.heap.size + 1 + 1, 0, none⟩) (by show w.heap.size + 1 + 1 ≠ _; omega) (.slice a2 (k + 1) c2))
              have HE2 := Lib.hid (ext_st hE2 (p := ⟨w.heap.size + 1 + 1, 0, none⟩) (by show w.heap.size ≤ w.heap.size + 1 + 1; omega) (.slice a2 (k + 1) c2))
              have cG2 := blk_cell bG2 (i := 2) rfl
              clear hown2 hg2 hb2 hb2' hal hM2 hL2 hlo hne bG2 bA2 bR2 hE2 ho1 HGL HL1 HG1 HA1 HR1 HE1 hsz
              rw [← gSpots_succ] at HM2
              obtain ⟨vs, hv1, hv2⟩ := HM2.out.nx
              have HV1 := Lib.hid hv1
              have HV2 := Lib.hid hv2
              have hsz := HM2.out.size
              have ho2 := hv1.own.alloc (Obj.cells #[.slice a6 j c6] 23)
              rw [gNext_len _ _ _ (by omega)] at ho2
              clear hv1 hv2
              go_wp2_with (at_builtin; go_must (refine wpl_append rfl rfl Try.slLists (w.heap.size + 3) rfl ho2 rfl (Row.oneG _ _ _ _ (by simp)) (by simp [Value.oneCell']) (by unfold maxLen; omega) (by omega) (by simp at hsz ⊢; omega) ?_))
              intro v3 w3 hown3 hg3 hb3 _
              have hb3' : v3.ownBlock = (Value.slice ax k cx).ownBlock ∨ v3.ownBlock = some ((w2.setCell ⟨w.heap.size + 1 + 1, 0, none⟩ (.slice a2 (k + 1) c2)).alloc (Obj.cells #[.slice a6 j c6] 23)).heap.size := by
                rcases hb3 with h | h
                · exact .inl h
                · right; rw [h]; simp
              generalize w2.setCell ⟨w.heap.size + 1 + 1, 0, none⟩ (.slice a2 (k + 1) c2) = W2 at *
              have hal : Ext W2 (W2.alloc (Obj.cells #[.slice a6 j c6] 23)) := ext_al (Ext.refl _) _
              have hM3 := (HM2.out.ext hal).appNx (HV1.out.ext hal) (HV2.out.ext hal) (HL2.out.ext hal) hown3 (by rw [gNext_len _ _ _ (by omega)]) rfl hg3 hb3'
              have hlo : ∀ b, (Value.slice ax k cx).ownBlock = some b → w.heap.size + 3 ≤ b := fun b hb => (HV1.out.own.lt b hb).1
              have hne : ∀ b, b < w.heap.size + 3 → some b ≠ (Value.slice ax k cx).ownBlock := fun b hb e => by have := hlo b e.symm; omega
              have bG3 := blk_grown (blk_ext HG2.out hal) hg3 (hne _ (by omega))
              have bA3 := blk_grown (blk_ext HA2.out hal) hg3 (hne _ (by omega))
              have bR3 := blk_grown (blk_ext HR2.out hal) hg3 (hne _ (by omega))
              have hE3 := (HE2.out.trans hal).grown hg3 (by simp at hsz ⊢; omega) (fun b hb => by have := hlo b hb; omega)
              obtain ⟨a3, c3, rfl, _⟩ := hown3.row
              have cG2 := blk_cell bG3 (i := 2) rfl
              have cG3 := blk_cell bG3 (i := 3) rfl
              have fG2 := blk_free bG3 2
              have HM3 := Lib.hid (hM3.low (p := ⟨w.heap.size + 1 + 1, 2, none⟩) (by show w.heap.size + 1 + 1 < _; omega) (.slice a3 (k + 1) c3))
              have HG3 := Lib.hid (blk_set bG3 (i := 2) (.slice a3 (k + 1) c3))
              have HA3 := Lib.hid (blk_far bA3 (p := ⟨w.heap.size + 1 + 1, 2, none⟩) (by show w.heap.size + 1 + 1 ≠ _; omega) (.slice a3 (k + 1) c3))
              have HR3 := Lib.hid (blk_far bR3 (p := ⟨w.heap.size + 1 + 1, 2, none⟩) (by show w.heap.size + 1 + 1 ≠ _; omega) (.slice a3 (k + 1) c3))
              have HE3 := Lib.hid (ext_st hE3 (p := ⟨w.heap.size + 1 + 1, 2, none⟩) (by show w.heap.size ≤ w.heap.size + 1 + 1; omega) (.slice a3 (k + 1) c3))
              clear hown3 hg3 hb3 hb3' hal hM3 hlo hne bG3 bA3 bR3 hE3 ho2 hsz HM2 HV1 HV2 HL2 HG2 HA2 HR2 HE2 cG0 fG0
              have hsz := HM3.out.size
              have ho3 := HM3.out.st.own.alloc (Obj.cells #[.int .i64 (pk sk PM)] 3)
              rw [gSets_len] at ho3
              go_wp2_with (at_builtin; go_must (refine wpl_append rfl rfl Try.slIntsG (w.heap.size + 3) rfl ho3 rfl (Row.oneG _ _ _ _ (by simp)) (one_int _) (by unfold maxLen; omega) (by omega) (by simp at hsz ⊢; omega) ?_))
              intro v4 w4 hown4 hg4 hb4 _
              have hb4' : v4.ownBlock = (Value.slice at' k ct).ownBlock ∨ v4.ownBlock = some ((w3.setCell ⟨w.heap.size + 1 + 1, 2, none⟩ (.slice a3 (k + 1) c3)).alloc (Obj.cells #[.int .i64 (pk sk PM)] 3)).heap.size := by
                rcases hb4 with h | h
                · exact .inl h
                · right; rw [h]; simp
              generalize w3.setCell ⟨w.heap.size + 1 + 1, 2, none⟩ (.slice a3 (k + 1) c3) = W3 at *
              have hal : Ext W3 (W3.alloc (Obj.cells #[.int .i64 (pk sk PM)] 3)) := ext_al (Ext.refl _) _
              have hM4 := (HM3.out.ext hal).appSt hown4 (by rw [gSets_len]) rfl hg4 hb4'
              have hlo : ∀ b, (Value.slice at' k ct).ownBlock = some b → w.heap.size + 3 ≤ b := fun b hb => (HM3.out.st.own.lt b hb).1
              have hne : ∀ b, b < w.heap.size + 3 → some b ≠ (Value.slice at' k ct).ownBlock := fun b hb e => by have := hlo b e.symm; omega
              have bG4 := blk_grown (blk_ext HG3.out hal) hg4 (hne _ (by omega))
              have bA4 := blk_grown (blk_ext HA3.out hal) hg4 (hne _ (by omega))
              have bR4 := blk_grown (blk_ext HR3.out hal) hg4 (hne _ (by omega))
              have hE4 := (HE3.out.trans hal).grown hg4 (by simp at hsz ⊢; omega) (fun b hb => by have := hlo b hb; omega)
              obtain ⟨a4, c4, rfl, _⟩ := hown4.row
              have cG3 := blk_cell bG4 (i := 3) rfl
              have fG3 := blk_free bG4 3
              have HM4 := Lib.hid (hM4.low (p := ⟨w.heap.size + 1 + 1, 3, none⟩) (by show w.heap.size + 1 + 1 < _; omega) (.slice a4 (k + 1) c4))
              have HG4 := Lib.hid (blk_set bG4 (i := 3) (.slice a4 (k + 1) c4))
              have HA4 := Lib.hid (blk_far bA4 (p := ⟨w.heap.size + 1 + 1, 3, none⟩) (by show w.heap.size + 1 + 1 ≠ _; omega) (.slice a4 (k + 1) c4))
              have HR4 := Lib.hid (blk_far bR4 (p := ⟨w.heap.size + 1 + 1, 3, none⟩) (by show w.heap.size + 1 + 1 ≠ _; omega) (.slice a4 (k + 1) c4))
              have HE4 := Lib.hid (ext_st hE4 (p := ⟨w.heap.size + 1 + 1, 3, none⟩) (by show w.heap.size ≤ w.heap.size + 1 + 1; omega) (.slice a4 (k + 1) c4))
              clear hown4 hg4 hb4 hb4' hal hM4 hlo hne bG4 bA4 bR4 hE4 ho3 hsz HM3 HG3 HA3 HR3 HE3 cG2 fG2
              go_wp2_with fail
              go_roundw
              case rel =>
                have h := HM4.out
                rw [← HGN.out] at h
                have e := gSets_succ PM sets k
                rw [HGS.out] at e
                rw [← e] at h
                rw [← HPM.out] at h
                exact ⟨k + 1, _, _, _, _, by go_num, by omega, HA4.out, HR4.out, HG4.out, h, HE4.out⟩
              case measure => simp [intOf]; omega
          · have HGS := Lib.hid (show gSet (2 ^ M : Nat) sets k = 0 by simp [gSet, hst])
            have hEq : Ext wo wr := HEi.out
            have hM1 := (HM.out.retag 3).ext hEq
            have hl : wr.ownsRow wo.heap.size 3 1 (.slice a6 j c6) (gL (20 : Int) lk).length ((gL (20 : Int) lk).map (.int .i64)) := by
              have h := own_ext HO.out (Ext.refl wr)
              rw [HFIN.out] at h
              have e : (gL (20 : Int) lk).length = j := by have := congrArg List.length HFIN.out; simp only [gL, List.length_map, List.length_take] at *; omega
              rw [e]
              exact h
            have hL1 := ((OwnT.fresh τ 3 hl).ent).mono (Q := fun x => Ints x (.slice a6 j c6) (gL (20 : Int) lk)) fun x hx => hx.reads
            have bG1 := blk_ext HBG.out hEq
            have bA1 := blk_ext HBA.out hEq
            have bR1 := blk_ext HBR.out hEq
            have hE1 := HEW.out.trans hEq
            obtain ⟨wq, rfl⟩ : ∃ wq : World, wq = wr := ⟨_, rfl⟩
            have HGL := Lib.hid hM1
            have HL1 := Lib.hid hL1
            have HG1 := Lib.hid bG1
            have HA1 := Lib.hid bA1
            have HR1 := Lib.hid bR1
            have HE1 := Lib.hid hE1
            have hsz := hM1.size
            have ho1 := hM1.sp.own.alloc (Obj.cells #[.int .i64 (k : Int), .int .i64 0] 41)
            rw [gSpots_len] at ho1
            have cG0 := blk_cell bG1 (i := 0) rfl
            clear hEq hM1 hl hL1 bG1 bA1 bR1 hE1 cG4
            go_wp2_with (at_builtin; go_must (refine wpl_append rfl rfl Try.slSpots (w.heap.size + 3) rfl ho1 rfl (Row.newSp _ _ _ _) (by simp [spc, Value.oneCell']) (by unfold maxLen; omega) (by omega) (by simp; omega) ?_))
            all_goals
              intro v2 w2 hown2 hg2 hb2 _
              have hb2' : v2.ownBlock = (Value.slice ap k cp).ownBlock ∨ v2.ownBlock = some (wq.alloc (Obj.cells #[.int .i64 (k : Int), .int .i64 0] 41)).heap.size := by
                rcases hb2 with h | h
                · exact .inl h
                · right; rw [h]; simp
              have hal : Ext wq (wq.alloc (Obj.cells #[.int .i64 (k : Int), .int .i64 0] 41)) := ext_al (Ext.refl _) _
              have hM2 := (HGL.out.ext hal).appSp hown2 (by rw [gSpots_len]) rfl hg2 hb2'
              have hL2 := (HL1.out.ext hal).app (HGL.out.ext hal).sp hg2 (by omega)
              have hlo : ∀ b, (Value.slice ap k cp).ownBlock = some b → w.heap.size + 3 ≤ b := fun b hb => (HGL.out.sp.own.lt b hb).1
              have hne : ∀ b, b < w.heap.size + 3 → some b ≠ (Value.slice ap k cp).ownBlock := fun b hb e => by have := hlo b e.symm; omega
              have bG2 := blk_grown (blk_ext HG1.out hal) hg2 (hne _ (by omega))
              have bA2 := blk_grown (blk_ext HA1.out hal) hg2 (hne _ (by omega))
              have bR2 := blk_grown (blk_ext HR1.out hal) hg2 (hne _ (by omega))
              have hE2 := (HE1.out.trans hal).grown hg2 (by simp; omega) (fun b hb => by have := hlo b hb; omega)
              obtain ⟨a2, c2, rfl, _⟩ := hown2.row
              have cG0 := blk_cell bG2 (i := 0) rfl
              have fG0 := blk_free bG2 0
              have HM2 := Lib.hid (hM2.low (p := ⟨w.heap.size + 1 + 1, 0, none⟩) (by show w.heap.size + 1 + 1 < _; omega) (.slice a2 (k + 1) c2))
              have HL2 := Lib.hid (hL2.set (p := ⟨w.heap.size + 1 + 1, 0, none⟩) (by rw [hM2.lo _ (by show w.heap.size + 1 + 1 < _; omega)]; omega) (.slice a2 (k + 1) c2))
              have HG2 := Lib.hid (blk_set bG2 (i := 0) (.slice a2 (k + 1) c2))
              have HA2 := Lib.hid (blk_far bA2 (p := ⟨w.heap.size + 1 + 1, 0, none⟩) (by show w.heap.size + 1 + 1 ≠ _; omega) (.slice a2 (k + 1) c2))
              have HR2 := Lib.hid (blk_far bR2 (p := ⟨w.heap.size + 1 + 1, 0, none⟩) (by show w.heap.size + 1 + 1 ≠ _; omega) (.slice a2 (k + 1) c2))
              have HE2 := Lib.hid (ext_st hE2 (p := ⟨w.heap.size + 1 + 1, 0, none⟩) (by show w.heap.size ≤ w.heap.size + 1 + 1; omega) (.slice a2 (k + 1) c2))
              have cG2 := blk_cell bG2 (i := 2) rfl
              clear hown2 hg2 hb2 hb2' hal hM2 hL2 hlo hne bG2 bA2 bR2 hE2 ho1 HGL HL1 HG1 HA1 HR1 HE1 hsz
              rw [← gSpots_succ] at HM2
              obtain ⟨vs, hv1, hv2⟩ := HM2.out.nx
              have HV1 := Lib.hid hv1
              have HV2 := Lib.hid hv2
              have hsz := HM2.out.size
              have ho2 := hv1.own.alloc (Obj.cells #[.slice a6 j c6] 23)
              rw [gNext_len _ _ _ (by omega)] at ho2
              clear hv1 hv2
              go_wp2_with (at_builtin; go_must (refine wpl_append rfl rfl Try.slLists (w.heap.size + 3) rfl ho2 rfl (Row.oneG _ _ _ _ (by simp)) (by simp [Value.oneCell']) (by unfold maxLen; omega) (by omega) (by simp at hsz ⊢; omega) ?_))
              intro v3 w3 hown3 hg3 hb3 _
              have hb3' : v3.ownBlock = (Value.slice ax k cx).ownBlock ∨ v3.ownBlock = some ((w2.setCell ⟨w.heap.size + 1 + 1, 0, none⟩ (.slice a2 (k + 1) c2)).alloc (Obj.cells #[.slice a6 j c6] 23)).heap.size := by
                rcases hb3 with h | h
                · exact .inl h
                · right; rw [h]; simp
              generalize w2.setCell ⟨w.heap.size + 1 + 1, 0, none⟩ (.slice a2 (k + 1) c2) = W2 at *
              have hal : Ext W2 (W2.alloc (Obj.cells #[.slice a6 j c6] 23)) := ext_al (Ext.refl _) _
              have hM3 := (HM2.out.ext hal).appNx (HV1.out.ext hal) (HV2.out.ext hal) (HL2.out.ext hal) hown3 (by rw [gNext_len _ _ _ (by omega)]) rfl hg3 hb3'
              have hlo : ∀ b, (Value.slice ax k cx).ownBlock = some b → w.heap.size + 3 ≤ b := fun b hb => (HV1.out.own.lt b hb).1
              have hne : ∀ b, b < w.heap.size + 3 → some b ≠ (Value.slice ax k cx).ownBlock := fun b hb e => by have := hlo b e.symm; omega
              have bG3 := blk_grown (blk_ext HG2.out hal) hg3 (hne _ (by omega))
              have bA3 := blk_grown (blk_ext HA2.out hal) hg3 (hne _ (by omega))
              have bR3 := blk_grown (blk_ext HR2.out hal) hg3 (hne _ (by omega))
              have hE3 := (HE2.out.trans hal).grown hg3 (by simp at hsz ⊢; omega) (fun b hb => by have := hlo b hb; omega)
              obtain ⟨a3, c3, rfl, _⟩ := hown3.row
              have cG2 := blk_cell bG3 (i := 2) rfl
              have cG3 := blk_cell bG3 (i := 3) rfl
              have fG2 := blk_free bG3 2
              have HM3 := Lib.hid (hM3.low (p := ⟨w.heap.size + 1 + 1, 2, none⟩) (by show w.heap.size + 1 + 1 < _; omega) (.slice a3 (k + 1) c3))
              have HG3 := Lib.hid (blk_set bG3 (i := 2) (.slice a3 (k + 1) c3))
              have HA3 := Lib.hid (blk_far bA3 (p := ⟨w.heap.size + 1 + 1, 2, none⟩) (by show w.heap.size + 1 + 1 ≠ _; omega) (.slice a3 (k + 1) c3))
              have HR3 := Lib.hid (blk_far bR3 (p := ⟨w.heap.size + 1 + 1, 2, none⟩) (by show w.heap.size + 1 + 1 ≠ _; omega) (.slice a3 (k + 1) c3))
              have HE3 := Lib.hid (ext_st hE3 (p := ⟨w.heap.size + 1 + 1, 2, none⟩) (by show w.heap.size ≤ w.heap.size + 1 + 1; omega) (.slice a3 (k + 1) c3))
              clear hown3 hg3 hb3 hb3' hal hM3 hlo hne bG3 bA3 bR3 hE3 ho2 hsz HM2 HV1 HV2 HL2 HG2 HA2 HR2 HE2 cG0 fG0
              have hsz := HM3.out.size
              have ho3 := HM3.out.st.own.alloc (Obj.cells #[.int .i64 0] 3)
              rw [gSets_len] at ho3
              go_wp2_with (at_builtin; go_must (refine wpl_append rfl rfl Try.slIntsG (w.heap.size + 3) rfl ho3 rfl (Row.oneG _ _ _ _ (by simp)) (one_int _) (by unfold maxLen; omega) (by omega) (by simp at hsz ⊢; omega) ?_))
              intro v4 w4 hown4 hg4 hb4 _
              have hb4' : v4.ownBlock = (Value.slice at' k ct).ownBlock ∨ v4.ownBlock = some ((w3.setCell ⟨w.heap.size + 1 + 1, 2, none⟩ (.slice a3 (k + 1) c3)).alloc (Obj.cells #[.int .i64 0] 3)).heap.size := by
                rcases hb4 with h | h
                · exact .inl h
                · right; rw [h]; simp
              generalize w3.setCell ⟨w.heap.size + 1 + 1, 2, none⟩ (.slice a3 (k + 1) c3) = W3 at *
              have hal : Ext W3 (W3.alloc (Obj.cells #[.int .i64 0] 3)) := ext_al (Ext.refl _) _
              have hM4 := (HM3.out.ext hal).appSt hown4 (by rw [gSets_len]) rfl hg4 hb4'
              have hlo : ∀ b, (Value.slice at' k ct).ownBlock = some b → w.heap.size + 3 ≤ b := fun b hb => (HM3.out.st.own.lt b hb).1
              have hne : ∀ b, b < w.heap.size + 3 → some b ≠ (Value.slice at' k ct).ownBlock := fun b hb e => by have := hlo b e.symm; omega
              have bG4 := blk_grown (blk_ext HG3.out hal) hg4 (hne _ (by omega))
              have bA4 := blk_grown (blk_ext HA3.out hal) hg4 (hne _ (by omega))
              have bR4 := blk_grown (blk_ext HR3.out hal) hg4 (hne _ (by omega))
              have hE4 := (HE3.out.trans hal).grown hg4 (by simp at hsz ⊢; omega) (fun b hb => by have := hlo b hb; omega)
              obtain ⟨a4, c4, rfl, _⟩ := hown4.row
              have cG3 := blk_cell bG4 (i := 3) rfl
              have fG3 := blk_free bG4 3
              have HM4 := Lib.hid (hM4.low (p := ⟨w.heap.size + 1 + 1, 3, none⟩) (by show w.heap.size + 1 + 1 < _; omega) (.slice a4 (k + 1) c4))
              have HG4 := Lib.hid (blk_set bG4 (i := 3) (.slice a4 (k + 1) c4))
              have HA4 := Lib.hid (blk_far bA4 (p := ⟨w.heap.size + 1 + 1, 3, none⟩) (by show w.heap.size + 1 + 1 ≠ _; omega) (.slice a4 (k + 1) c4))
              have HR4 := Lib.hid (blk_far bR4 (p := ⟨w.heap.size + 1 + 1, 3, none⟩) (by show w.heap.size + 1 + 1 ≠ _; omega) (.slice a4 (k + 1) c4))
              have HE4 := Lib.hid (ext_st hE4 (p := ⟨w.heap.size + 1 + 1, 3, none⟩) (by show w.heap.size ≤ w.heap.size + 1 + 1; omega) (.slice a4 (k + 1) c4))
              clear hown4 hg4 hb4 hb4' hal hM4 hlo hne bG4 bA4 bR4 hE4 ho3 hsz HM3 HG3 HA3 HR3 HE3 cG2 fG2
              go_wp2_with fail
              go_roundw
              case rel =>
                have h := HM4.out
                rw [← HGN.out] at h
                have e := gSets_succ (2 ^ M : Nat) sets k
                rw [HGS.out] at e
                rw [← e] at h
                exact ⟨k + 1, _, _, _, _, by go_num, by omega, HA4.out, HR4.out, HG4.out, h, HE4.out⟩
              case measure => simp [intOf]; omega
    · obtain rfl : k = 20 := by omega
      have g0 := blk_cell HBG.out (i := 0) rfl
      have g1 := blk_cell HBG.out (i := 1) rfl
      have g2 := blk_cell HBG.out (i := 2) rfl
      have g3 := blk_cell HBG.out (i := 3) rfl
      have g4 := blk_cell HBG.out (i := 4) rfl
      have r0 := blk_cell HBR.out (i := 0) rfl
      have r1 := blk_cell HBR.out (i := 1) rfl
      have r2 := blk_cell HBR.out (i := 2) rfl
      have r3 := blk_cell HBR.out (i := 3) rfl
      have r4 := blk_cell HBR.out (i := 4) rfl
      have f0 := blk_free HBR.out 0
      have f1 := blk_free HBR.out 1
      have f2 := blk_free HBR.out 2
      have f3 := blk_free HBR.out 3
      have f4 := blk_free HBR.out 4
      have HN0 := Lib.hid (show 0 < 20 by omega)
      clear cA0 cA1 hlt
      go_wp2
      refine bodyPost_ret (v := .agg #[.slice ap 20 cp, .int .i64 (ini + 1), .slice ax 20 cx, .slice at' 20 ct, .int .i64 (M : Int)]) (by simp [results, Try.results4, go_sem, r0, r1, r2, r3, r4]) rfl ?_
      refine ⟨_, _, _, _, by rw [if_pos HN0.out]; rw [← HPE.out]; try rfl, GMem.base ((((((HM.out.low ?_ _).low ?_ _).low ?_ _).low ?_ _).low ?_ _)) (by omega), ext_st (ext_st (ext_st (ext_st (ext_st HEW.out ?_ _) ?_ _) ?_ _) ?_ _) ?_ _⟩
      all_goals (first | (show w.heap.size + 1 < w.heap.size + 3; omega) | (show w.heap.size ≤ w.heap.size + 1; omega))


set_option maxRecDepth 100000 in
set_option maxHeartbeats 4000000 in
theorem graph_none (vn vs : Value) (sets : List Int) (init many : Int) (w : World) (hN : Lists w vn []) (hS : Ints w vs sets) (h2 : I64 many) (M : Nat) (hM : pk many 4 = M) :
    Calls Try.prog 4 #[.agg #[vn, vs, .int .i64 init, .int .i64 many]] w (GraphPost w [] sets init M 0) := by
  obtain ⟨an, cn, rfl⟩ : ∃ a c, vn = .slice a 0 c := by
    obtain ⟨vs, he, a, c, rfl, _⟩ := hN
    exact ⟨a, c, rfl⟩
  obtain ⟨asv, cs, rfl, hrs⟩ := hS
  unfold I64 at h2
  have HP := Lib.hid fun wx => still_of (picked_any many 4 wx h2.1 h2.2 (by omega) (by omega))
  rw [hM] at HP
  clear hN hrs hM h2
  go_enter Try.func4, Try.ntmps4
  go_wp2_with fail
  refine (HP.out _).mono ?_
  rintro e wx ⟨rfl, rfl⟩
  go_wp2_with fail
  go_loopw [5] (fun y wr => y = .int .i64 0 ∧ wr = ((w.alloc (Obj.cells #[.slice an 0 cn, .slice asv sets.length cs, .int .i64 init, .int .i64 many] 25)).alloc (Obj.cells #[.slice none 0 0, .int .i64 0, .slice none 0 0, .slice none 0 0, .int .i64 0] 28)).alloc (Obj.cells #[.slice none 0 0, .int .i64 0, .slice none 0 0, .slice none 0 0, .int .i64 (M : Int)] 28)) (fun _ _ => 0)
  case atStart => exact ⟨rfl, rfl⟩
  case round =>
    obtain ⟨rfl, rfl⟩ := hrel
    go_wp2
    refine bodyPost_ret (v := .agg #[.slice none 0 0, .int .i64 0, .slice none 0 0, .slice none 0 0, .int .i64 (M : Int)]) (by simp [results, Try.results4, go_sem]) rfl ?_
    refine ⟨_, _, _, _, rfl, GMem.nil _ _ ?_, ?_⟩
    · simp; omega
    · exact ext_al (ext_al (ext_al (Ext.refl w) _) _) _

theorem graph_any (vn vs : Value) (ll : List (List Int)) (sets : List Int) (init many : Int) (w : World) (hN : Lists w vn ll) (hS : Ints w vs sets) (hI : ∀ l ∈ ll, ∀ n ∈ l, I64 n) (hT : ∀ n ∈ sets, I64 n) (h1 : I64 init) (h2 : I64 many) (M : Nat) (hM : pk many 4 = M) :
    Calls Try.prog 4 #[.agg #[vn, vs, .int .i64 init, .int .i64 many]] w (GraphPost w ll sets init M (min ll.length 20)) := by
  by_cases h0 : ll.length = 0
  · obtain rfl := List.eq_nil_of_length_eq_zero h0
    exact graph_none vn vs sets init many w hN hS h2 M hM
  · by_cases h20 : ll.length ≤ 20
    · rw [Nat.min_eq_left h20]
      exact graph_small vn vs ll sets init many w hN hS hI hT h1 h2 h20 (by omega) M hM
    · rw [Nat.min_eq_right (by omega)]
      exact graph_big vn vs ll sets init many w hN hS hI hT h1 h2 (by omega) M hM


end Go.Proofs.Ytbndjailimhbdaa
