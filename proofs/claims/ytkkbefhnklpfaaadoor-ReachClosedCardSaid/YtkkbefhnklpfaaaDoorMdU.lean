/- The contract of step.Reach. (Written, not built yet.) -/
import Derived.Test.YtkkbefhnklpfaaaDoorMdT
import Derived.Deep.DeepCutAuto
import Derived.Deep.RegionLaw
namespace Go.Proofs.YtkkbefhnklpfaaaDoor
open Go.RowKit

theorem RInv.len {m : Md} (hp : m.Pre) {l : List Int} {i : Nat} (h : RInv m l i) (h4 : countL m.vars ≤ 4096) : l.length ≤ 4096 :=
  nodup_bound 4096 h.nd fun x hx => by
    have := (h.rs x hx).bd hp
    omega

theorem RInv.step {m : Md} {l : List Int} {i : Nat} (h : RInv m l i) {c : Int} (hc : l[i]? = some c) (hd : ∀ d, NextP m c d → d ∈ l) : RInv m l (i + 1) where
  nd := h.nd
  rs := h.rs
  fi := h.fi
  le := by have := (List.getElem?_eq_some_iff.1 hc).1; omega
  cl := by
    intro j hj hji d hn
    by_cases e : j = i
    · subst e
      have : l[j] = c := (List.getElem?_eq_some_iff.1 hc).2
      rw [this] at hn
      exact hd d hn
    · exact h.cl j hj (by omega) d hn

theorem sortL_rises {l : List Int} (h : l.Nodup) : (sortL l).Pairwise (· < ·) := by
  have h2 := (sortL_perm l).nodup_iff.2 h
  refine ((sortL_up l).and h2).imp fun h => ?_
  have := h.1
  have := h.2
  omega

/-- What Reach answers. -/
def ReachR (m : Md) (w : World) (e : Ending) (w' : World) : Prop :=
  ∃ (v : Value) (L : List Int), e = .returned (.tuple #[v, .int .i64 0]) ∧ w'.ownsRow w.heap.size 3 1 v L.length (L.map (.int .i64)) ∧ L.Pairwise (· < ·) ∧ L.length ≤ 4096 ∧ (∀ c, c ∈ L ↔ ReachS m c) ∧ Ext w w'

set_option maxRecDepth 100000 in
set_option maxHeartbeats 16000000 in
theorem reach_any (vv rv : Value) (m : Md) (w : World) (h : IsMd w vv rv m) (ht : Tab w) (hp : m.Ok) (h0 : 0 < m.vars.length) :
    Calls Tryd.prog 17 #[.agg #[vv, rv]] w (ReachR m w) := by
  have HFI := Lib.hid fun wx (hx : Ext w wx) => first_any vv rv m wx (h.ext hx) (ht.ext hx) hp
  have HNX := Lib.hid fun (c : Int) wx (hx : Ext w wx) (hc : ReachS m c) => nextE_any vv rv m c wx (h.ext hx) (ht.ext hx) hp h0 (hc.bd hp.toPre).1 (hc.bd hp.toPre).2
  have HLN := Lib.hid fun (l : List Int) (i : Nat) (hi : RInv m l i) => hi.len hp.toPre hp.count
  have H12 := Lib.hid fun c => (show (nextL m c).length ≤ 12 from by have := (nextL_len m c).2; have := hp.twelve; omega)
  obtain ⟨av, cv, rfl⟩ := EachL.val h.vars
  obtain ⟨a, cr, rfl⟩ := EachL.val h.rules
  have hbk := blk_new w (Obj.cells #[.slice av m.vars.length cv, .slice a m.rules.length cr] 29)
  have HE := Lib.hid (ext_al (Ext.refl w) (Obj.cells #[.slice av m.vars.length cv, .slice a m.rules.length cr] 29))
  have HB := Lib.hid hbk
  have hmm := @run_makeMap Tryd.prog
  clear h ht hp hbk
  generalize m.rules.length = nr at *
  generalize m.vars.length = nv at *
  go_enter Tryd.func17, Tryd.ntmps17
  have d0 := blk_cell HB.out (i := 0) (v := .slice av nv cv) rfl
  have d1 := blk_cell HB.out (i := 1) (v := .slice a nr cr) rfl
  go_wp2_with fail
  generalize w.alloc (Obj.cells #[.slice av nv cv, .slice a nr cr] 29) = W1 at *
  refine (HFI.out _ HE.out).mono ?_
  rintro e w2 ⟨rfl, hE2⟩
  have HE2 := Lib.hid (HE.out.trans hE2)
  have HB2 := Lib.hid (blk_ext HB.out hE2)
  have HM0 := Lib.hid (MapG.new encI w2)
  have HEM := Lib.hid (ext_al (Ext.refl w2) (Obj.map #[] 0))
  clear d0 hE2 HFI HE HB
  obtain ⟨fi, hfi⟩ : ∃ fi, m.first = fi := ⟨_, rfl⟩
  rw [hfi]
  have HFF := Lib.hid hfi
  clear hfi
  have hseen0 : lkp fi (seenL ([] : List Int)) = none := rfl
  go_wp2_with (refine wpl_insert_g Tryd.keyI Tryd.underlying91 rfl rfl (l := seenL []) HM0.out rfl rfl hseen0 ?_)
  intro w3 hm3 hg3 hs3
  have HM3 := Lib.hid (show MapG encI w3 w2.heap.size (seenL [fi]) from hm3)
  have HE3 := Lib.hid (show Ext w2 w3 from Below.grown HEM.out hg3 HEM.out.size (fun b hb => by injection hb with hb; omega))
  have hs4 : w3.heap.size = w2.heap.size + 1 := by first | (rw [hs3]; done) | (rw [hs3]; simp)
  obtain ⟨M, hM⟩ : ∃ M, w2.heap.size = M := ⟨_, rfl⟩
  rw [hM] at HM3 hs4 ⊢
  have HMM := Lib.hid hM
  have HS4 := Lib.hid hs4
  clear hm3 hg3 hs3 hseen0 hM HM0 HEM hs4
  go_upto_region 6 with fail
  have HX4 := Lib.hid (HE3.out.trans (ext_al (Ext.refl w3) (Obj.cells #[.int .i64 fi] 3)))
  have HM4 := Lib.hid (HM3.out.ext (ext_al (Ext.refl w3) (Obj.cells #[.int .i64 fi] 3)))
  have HO4 := Lib.hid (show (w3.alloc (Obj.cells #[.int .i64 fi] 3)).ownsRow (M + 1) 3 1 (.slice (some ⟨w3.heap.size, 0, none⟩) 1 1) 1 [.int .i64 fi] from World.ownsRow_lit w3 #[.int .i64 fi] 1 (by rw [HS4.out]; exact Nat.le_refl _) (by unfold maxLen; omega) rfl)
  go_wp2_with fail
  generalize w3.alloc (Obj.cells #[.int .i64 fi] 3) = W4 at *
  have HI0 := Lib.hid (show RInv m [fi] 0 from HFF.out ▸ RInv.start m)
  have HR0 := Lib.hid (show (Value.slice (some ⟨w3.heap.size, 0, none⟩) 1 1).ownBlock ≠ none from by simp [Value.ownBlock])
  go_loopg [8, 7] 4097 (fun g x y wr => ∃ (i : Nat) (L : List Int) (al : Option Addr) (cl : Nat), g + i = 4097 ∧ x = .int .i64 (i : Int) ∧ y = .slice al L.length cl ∧ RInv m L i ∧ Ext w2 wr ∧ MapG encI wr M (seenL L) ∧ wr.ownsRow (M + 1) 3 1 (.slice al L.length cl) L.length (L.map (.int .i64)))
  case atStart => exact ⟨0, [fi], _, _, by omega, by go_num, rfl, HI0.out, HX4.out, HM4.out, HO4.out⟩
  case round =>
    obtain ⟨i, L, al, cl, hgi, rfl, rfl, hI, hE, hM, hO⟩ := hrel
    have hL4 := HLN.out L i hI
    have HII := Lib.hid hI
    have HEE := Lib.hid hE
    have HMP := Lib.hid hM
    have HOO := Lib.hid hO
    have HGI := Lib.hid hgi
    have m0 := blk_cell (blk_ext HB2.out hE) (i := 0) (v := .slice av nv cv) rfl
    have m1 := blk_cell (blk_ext HB2.out hE) (i := 1) (v := .slice a nr cr) rfl
    by_cases hi : i < L.length
    · obtain ⟨_, _, e1, hr⟩ := id hO.row
      simp only [Value.slice.injEq] at e1
      obtain ⟨rfl, -, rfl⟩ := e1
      obtain ⟨bL, oL, r1, r2⟩ := ints_at' hr
      obtain rfl := r1 (by omega)
      have cx := r2 i hi
      have hc : L[i]? = some L[i] := List.getElem?_eq_getElem hi
      have hRc := hI.rs L[i] (by simp)
      have HNC := Lib.hid fun wx (hx : Ext wr wx) => HNX.out L[i] wx (HE2.out.trans (hE.trans hx)) hRc
      have hn1 := (nextL_len m L[i]).1
      have hn2 := H12.out L[i]
      have HNM := Lib.hid fun d => (nextL_ok m L[i]).mem d
      have hcap := hr.le
      generalize L[i] = c at *
      have HRC := Lib.hid hRc
      have HC := Lib.hid hc
      obtain ⟨ns, hns⟩ : ∃ ns, nextL m c = ns := ⟨_, rfl⟩
      rw [hns] at HNC HNM hn1 hn2
      obtain ⟨nL, hnL⟩ : ∃ x, L.length = x := ⟨_, rfl⟩
      rw [hnL] at HOO hi hL4 hcap ⊢
      have HNL := Lib.hid hnL
      have hiI : (i : Int) < (nL : Int) := by omega
      have hi0 : (0 : Int) ≤ (i : Int) := by omega
      clear hI hE hM hO hgi hr r1 r2 hc hRc hns hnL
      go_upto_region 9 with fail
      go_cut [9, 10] (fun s9 s10 wx => s10 = .int .i64 0 ∧ ∃ (Q cq : Nat), s9 = .slice (some ⟨Q, 0, none⟩) ns.length cq ∧ wx.ownsRow wr.heap.size 3 1 (.slice (some ⟨Q, 0, none⟩) ns.length cq) ns.length (ns.map (.int .i64)) ∧ Ext wr wx)
      case first =>
        go_region_law (first
          | (go_simp
             go_at_call 19
             refine (HNC.out _ (Below.drew (Ext.refl _))).mono ?_
             rintro e w5 ⟨v5, rfl, ho5, hE5⟩
             obtain ⟨Q, cq, rfl⟩ := own_shape ho5 hn1
             have HO5 := Lib.hid (own_down ho5 (Below.drew (Ext.refl wr)).size)
             have HE5 := Lib.hid (Ext.trans (Below.drew (Ext.refl _)) hE5)
             clear ho5 hE5))
        all_goals
          go_wp2_with fail
          go_meet
          exact ⟨rfl, Q, cq, rfl, HO5.out, HE5.out⟩
      case rest =>
        obtain ⟨rfl, Q, cq, rfl, ho5, hE5⟩ := hcut
        have hMl := HMP.out.lt
        have hE5b := HEE.out.trans hE5
        have HM5 := Lib.hid (HMP.out.ext hE5)
        have HO5 := Lib.hid (own_ext HOO.out hE5)
        have HQ5 := Lib.hid ho5
        have HE5 := Lib.hid hE5b
        have hQ := (ho5.lt Q rfl).1
        have HLQ := Lib.hid (show ∀ b, (Value.slice (some ⟨bL, oL, none⟩) nL cl).ownBlock = some b → b ≠ Q from fun b hb e => by
          have := (HOO.out.lt b hb).2
          omega)
        obtain ⟨B5, hB5⟩ : ∃ x, wr.heap.size = x := ⟨_, rfl⟩
        rw [hB5] at HQ5 hQ hMl
        have HIC := Lib.hid (show L[i]? = some c from HC.out)
        have hQM : Q ≠ M := by omega
        clear m0 m1 cx hE5 ho5 hE5b hB5 HMP HOO HNC
        go_wp2_with fail
        obtain ⟨wo, rfl⟩ : ∃ wo : World, wo = wr := ⟨_, rfl⟩
        obtain ⟨G0, rfl⟩ : ∃ G0 : Nat, G0 = gk := ⟨_, rfl⟩
        go_loopg [46, 7] ns.length (fun g x y wq => ∃ (j : Nat) (L' : List Int) (al' : Option Addr) (cl' : Nat), g + j = ns.length ∧ x = .int .i64 (j : Int) ∧ y = .slice al' L'.length cl' ∧ RInv m L' i ∧ L'[i]? = some c ∧ (∀ (t : Nat) (h : t < ns.length), t < j → ns[t] ∈ L') ∧ Ext w2 wq ∧ MapG encI wq M (seenL L') ∧ wq.ownsRow (M + 1) 3 1 (.slice al' L'.length cl') L'.length (L'.map (.int .i64)) ∧ (∀ b, (Value.slice al' L'.length cl').ownBlock = some b → b ≠ Q) ∧ wq.ownsRow B5 3 1 (.slice (some ⟨Q, 0, none⟩) ns.length cq) ns.length (ns.map (.int .i64)))
        case atStart => exact ⟨0, L, _, _, by omega, by go_num, by rw [HNL.out], HII.out, HIC.out, fun t _ h => by omega, HE5.out, HM5.out, by rw [HNL.out]; exact HO5.out, by rw [HNL.out]; exact HLQ.out, HQ5.out⟩
        case round =>
          obtain ⟨j, L', al', cl', hgj, rfl, rfl, hI, hic, hin, hE, hM, hO, hLQ, hQo⟩ := hrel
          have hL4' := HLN.out L' i hI
          have HII' := Lib.hid hI
          have HIC' := Lib.hid hic
          have HINS := Lib.hid hin
          have HEE' := Lib.hid hE
          have HMP := Lib.hid hM
          have HOO' := Lib.hid hO
          have HLQ' := Lib.hid hLQ
          have HQO := Lib.hid hQo
          have HGJ := Lib.hid hgj
          obtain ⟨n', hn'⟩ : ∃ x, L'.length = x := ⟨_, rfl⟩
          rw [hn'] at HOO' HLQ' hL4' ⊢
          have HNL' := Lib.hid hn'
          clear hI hic hin hE hM hO hLQ hgj hn'
          by_cases hj : j < ns.length
          · have cj := own_cellAt hQo (i := j) (by simpa using hj)
            rw [List.getElem_map] at cj
            have hjI : (j : Int) < (ns.length : Int) := by omega
            have hj0 : (0 : Int) ≤ (j : Int) := by omega
            have hnx : NextP m c ns[j] := (HNM.out ns[j]).1 (by simp)
            have HRN := Lib.hid (ReachS.next HRC.out hnx)
            have HTJ := Lib.hid fun (X : List Int) (hX : ∀ x ∈ L', x ∈ X) (hn : ns[j] ∈ X) (t : Nat) (h : t < ns.length) (htj : t < j + 1) => (show ns[t] ∈ X from by
              by_cases e : t = j
              · subst e; exact hn
              · exact hX _ (HINS.out t h (by omega)))
            have hx3 := ext_al (Ext.refl wr) (Obj.cells #[] 90)
            have HX3 := Lib.hid hx3
            generalize ns[j] = n at *
            have hsz := HMP.out.lt
            clear hnx hQo hx3
            by_cases hin : n ∈ L'
            · have HIN := Lib.hid (seen_some hin)
              have HNI := Lib.hid hin
              clear hin
              go_wp2_with (refine wpl_lookup_g Tryd.keyI Tryd.underlying91 rfl rfl HMP.out rfl rfl HIN.out ?_)
              go_roundg (gk - 1)
              case measure => have := HGJ.out; omega
              case rel => exact ⟨j + 1, L', al', cl', by have := HGJ.out; omega, by go_num, by rw [HNL'.out], HII'.out, HIC'.out, HTJ.out L' (fun _ h => h) HNI.out, HEE'.out.trans HX3.out, HMP.out.ext HX3.out, by rw [HNL'.out]; exact own_ext HOO'.out HX3.out, by rw [HNL'.out]; exact HLQ'.out, own_ext HQO.out HX3.out⟩
            · have HIN := Lib.hid (seen_none hin)
              have HRA := Lib.hid (HII'.out.add HRN.out hin)
              clear hin
              go_wp2_with (first
                | (refine wpl_lookup_gn Tryd.keyI Tryd.underlying91 rfl rfl HMP.out rfl rfl (Tryd.zeroU _) HIN.out ?_)
                | (at_mapUpdate; go_must (refine wpl_update_g Tryd.keyI Tryd.underlying91 rfl rfl (HMP.out.ext HX3.out) rfl rfl HIN.out ?_)))
              intro w6 hm6 hg6 hs6
              rw [seen_snoc] at hm6
              have HM6 := Lib.hid hm6
              have HE6 := Lib.hid (show Ext w2 w6 from Below.grown (HEE'.out.trans HX3.out) hg6 (HEE'.out.trans HX3.out).size (fun b hb => by injection hb with hb; have := HMM.out; omega))
              have HO6 := Lib.hid (own_grown (own_ext HOO'.out HX3.out) hg6 (by
                cases hv : (Value.slice al' n' cl').ownBlock with
                | none => exact .inl rfl
                | some b => exact .inr fun e => by injection e with e; have := (HOO'.out.lt b hv).1; omega))
              have HQ6 := Lib.hid (own_grown (own_ext HQO.out HX3.out) hg6 (.inr fun e => by simp [Value.ownBlock] at e; omega))
              have hs6' : wr.heap.size < w6.heap.size := by rw [hs6]; simp
              have HS6 := Lib.hid hs6'
              clear hm6 hg6 hs6 hs6' cj
              have HA6 := Lib.hid (own_ext HO6.out (ext_al (Ext.refl w6) (Obj.cells #[.int .i64 n] 3)))
              go_wp2_with (at_builtin; go_must (refine wpl_append rfl rfl Tryd.slInts (M + 1) rfl HA6.out rfl (Row.one _ _ _) (one_int _) (by unfold maxLen; omega) (by omega) (by have := HS6.out; simp; omega) ?_))
              intro v7 w7 hown7 hg7 hb7 _
              obtain ⟨a7, c7, rfl, _⟩ := id hown7.row
              have hA7 := ext_al (Ext.refl w6) (Obj.cells #[.int .i64 n] 3)
              have HM7 := Lib.hid ((HM6.out.ext hA7).grown hg7 (fun e => by have := (HO6.out.lt M e.symm).1; omega))
              have HE7 := Lib.hid (show Ext w2 w7 from Below.grown (HE6.out.trans hA7) hg7 (HE6.out.trans hA7).size (fun b hb => by have := (HO6.out.lt b hb).1; have := HMM.out; omega))
              have HQ7 := Lib.hid (own_grown (own_ext HQ6.out hA7) hg7 (.inr fun e => HLQ'.out Q (by rw [← e]; rfl) rfl))
              have hkl : (L' ++ [n]).length = n' + 1 := by rw [List.length_append, HNL'.out]; rfl
              have HO7 := Lib.hid (show w7.ownsRow (M + 1) 3 1 (.slice a7 (n' + 1) c7) (L' ++ [n]).length ((L' ++ [n]).map (.int .i64)) from by
                have e1 : (L' ++ [n]).map (Value.int .i64) = L'.map (.int .i64) ++ [.int .i64 n] := by simp
                rw [hkl, e1]
                exact hown7)
              have HL7 := Lib.hid (show ∀ b, (Value.slice a7 (n' + 1) c7).ownBlock = some b → b ≠ Q from fun b hb e => by
                rcases hb7 with h | h
                · rw [h] at hb; exact HLQ'.out b hb e
                · rw [h] at hb
                  injection hb with hb
                  have h2 := (HQ6.out.lt Q rfl).2
                  first | omega | (simp at hb; omega))
              have HKL := Lib.hid hkl
              clear hown7 hg7 hb7 hA7 hkl
              go_wp2_with fail
              go_roundg (gk - 1)
              case measure => have := HGJ.out; omega
              case rel => exact ⟨j + 1, L' ++ [n], a7, c7, by have := HGJ.out; omega, by go_num, by rw [HKL.out], HRA.out, by rw [List.getElem?_append_left (List.getElem?_eq_some_iff.1 HIC'.out).1]; exact HIC'.out, HTJ.out (L' ++ [n]) (fun _ h => List.mem_append_left _ h) (by simp), HE7.out, HM7.out, by rw [HKL.out]; rw [HKL.out] at HO7; exact HO7.out, by rw [HKL.out]; exact HL7.out, HQ7.out⟩
          · have hjI : ¬ (j : Int) < (ns.length : Int) := by omega
            have HRS := Lib.hid (HII'.out.step HIC'.out (fun d hd => by
              obtain ⟨t, ht, e⟩ := List.mem_iff_getElem.1 ((HNM.out d).2 hd)
              rw [← e]
              exact HINS.out t ht (by omega)))
            clear hQo
            go_wp2_with fail
            go_roundg (G0 - 1)
            case measure => have := HGI.out; omega
            case rel => exact ⟨i + 1, L', al', cl', by have := HGI.out; omega, by go_num, by rw [HNL'.out], HRS.out, HEE'.out, HMP.out, by rw [HNL'.out]; exact HOO'.out⟩
    · obtain rfl : i = L.length := by have := hI.le; omega
      have hiI : ¬ (L.length : Int) < (L.length : Int) := by omega
      have HSO := Lib.hid (sortI_any _ _ _ wr hO (by omega))
      have HDN := Lib.hid fun c => hI.done c
      have HUP := Lib.hid (sortL_rises hI.nd)
      have hM2 := HMM.out
      have hsw := HE2.out.size
      clear hI hE hM hgi
      go_wp2_with fail
      refine HSO.out.mono ?_
      rintro e w6 ⟨rfl, ho6, hg6⟩
      have HE6 := Lib.hid (show Ext w w6 from Below.grown (HE2.out.trans HEE.out) hg6 (HE2.out.trans HEE.out).size (fun b hb => by have := (HOO.out.lt b hb).1; omega))
      have HO6 := Lib.hid (own_down ho6 (show w.heap.size ≤ M + 1 by omega))
      have hsl := sortL_len L
      clear ho6 hg6 HSO hO m0 m1
      go_wp2
      go_ret2
      exact ⟨_, sortL L, rfl, by rw [hsl]; exact HO6.out, HUP.out, by rw [hsl]; exact hL4, fun c => by rw [sortL_mem]; exact HDN.out c, HE6.out⟩

end Go.Proofs.YtkkbefhnklpfaaaDoor
