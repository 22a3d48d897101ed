/- The law ClaimStuck. -/
import Derived.Test.YtffjhhpikgodiaaDoorLineAll
import Derived.Test.YtffjhhpikgodiaaDoorWordL
import Derived.Test.YtffjhhpikgodiaaDoorStep
import Derived.Deep.DeepCutAuto
import Derived.Deep.RegionLaw
import Derived.Test.YtffjhhpikgodiaaDoorShut
namespace Go.Proofs.YtffjhhpikgodiaaDoor
open Go.RowKit

theorem four_later {w w' : World} {p q r s : Addr} {a b c d : Value} (hE : Ext w w') (h : w.cell? p = some a ∧ w.cell? q = some b ∧ w.cell? r = some c ∧ w.cell? s = some d) : w'.cell? p = some a ∧ w'.cell? q = some b ∧ w'.cell? r = some c ∧ w'.cell? s = some d :=
  ⟨cell_later hE h.1, cell_later hE h.2.1, cell_later hE h.2.2.1, cell_later hE h.2.2.2⟩

set_option maxRecDepth 100000 in
set_option maxHeartbeats 8000000 in
theorem claimStuck_law (v0 : Value) (cs : Array Value) (z0 : Value) (W : World) (ht : Tab W) (h0 : Cells Tryd.prog W 22 [v0]) (hs : Cells Tryd.prog W 40 cs.toList) (g0 : Cells Tryd.prog W 3 [z0]) :
    Calls Tryd.prog 14 #[v0, .agg cs, z0] W fun e w' => e = .returned (.bool true) ∧ Ext W w' := by
  obtain ⟨raw0, o0, hraw0⟩ := raw_for h0
  obtain ⟨aS, aL, cS, cL, S, L, rfl, hS, hL, iS, iL⟩ := spell_of hs
  have EE := ext_al (Ext.refl W) (Obj.cells #[.slice aS S.length cS, .slice aL L.length cL] 40)
  have TB := ht.ext EE
  have HWA := Lib.hid (word_any _ _ S L _ (hS.ext EE) (hL.ext EE) iS iL)
  have WOK := Lib.hid (word_ok S L)
  replace o0 := ops_ext o0 EE
  have M0 := Lib.hid (show ∀ w, Ops w v0 raw0 → Calls Tryd.prog 16 #[v0, .int .i64 3, .int .i64 3] w (fun e w' => ∃ v', e = .returned v' ∧ w'.ownsRow w.heap.size 51 2 v' (forO raw0 3 3).flat.length ((forO raw0 3 3).flat.flatMap opc) ∧ Ext w w') from fun w h => mkFormula v0 raw0 3 3 w h hraw0 (by omega) (by omega) (by omega))
  have F0 := Lib.hid (fm_for raw0 3)
  generalize forO raw0 3 3 = t0 at *
  have hs0 := F0.out.size
  have hSl : S.length = S.length := rfl
  generalize letsL S = Sm at *
  generalize loopW L = Lp at *
  obtain ⟨bt, e0, hbt⟩ := Cells.i64 Tryd.underlying3 g0
  simp only [List.cons.injEq, and_true] at e0
  subst e0
  unfold I64 at hbt
  clear g0
  obtain ⟨n, hn⟩ : ∃ n, (Sm ++ Lp).length = n := ⟨_, rfl⟩
  have hsum : (Sm.length : Int) + (Lp.length : Int) = (n : Int) := by rw [← hn, List.length_append]; push_cast; rfl
  have hbk : Sm.length < n := by have := WOK.out.l1; rw [← hn, List.length_append]; omega
  have hn24 : n ≤ 24 := by have := WOK.out.s12; have := WOK.out.l12; rw [← hn, List.length_append]; omega
  have HN := Lib.hid hn
  clear hn
  obtain ⟨N, hNN⟩ : ∃ N, cntA t0.flat = N := ⟨_, rfl⟩
  have hN6 : N ≤ 6 := by have := F0.out.cnt; omega
  have HCN := Lib.hid hNN
  have HPL := Lib.hid (show (plL t0.flat).length = N by rw [plL_len]; exact hNN)
  have HFL := Lib.hid t0.flat_len
  have HNS := Lib.hid (show Sm.length + Lp.length = n by omega)
  clear hNN

  clear ht hs hS hL iS iL hSl h0 hraw0
  go_enter Tryd.func14, Tryd.ntmps14
  go_wp2_with fail
  generalize W.alloc (Obj.cells #[.slice aS S.length cS, .slice aL L.length cL] 40) = w0 at *
  refine HWA.out.mono ?_
  rintro e wn ⟨sv, lv, rfl, WW, hE⟩
  clear HWA
  replace o0 := ops_ext o0 hE
  replace TB := TB.ext hE
  replace EE := EE.trans hE
  clear hE
  obtain ⟨xsS, xeS, axS, cxS, rfl, xrS⟩ := WW.st
  obtain ⟨xsL, xeL, axL, cxL, rfl, xrL⟩ := WW.lp
  clear xeS xrS xeL xrL
  go_wp2_with fail
  have hE := ext_al (Ext.refl wn) (Obj.cells #[.slice axS Sm.length cxS, .slice axL Lp.length cxL] 43)
  have hbk := blk_new wn (Obj.cells #[.slice axS Sm.length cxS, .slice axL Lp.length cxL] 43)
  have c0 := blk_cell hbk (i := 0) (v := .slice axS Sm.length cxS) rfl
  have c1 := blk_cell hbk (i := 1) (v := .slice axL Lp.length cxL) rfl
  clear hbk
  generalize hwB : wn.heap.size = wB at *
  clear hwB
  generalize hwn : wn.alloc (Obj.cells #[.slice axS Sm.length cxS, .slice axL Lp.length cxL] 43) = wn2 at *
  clear hwn
  have cur := And.intro c0 c1
  clear c0 c1
  replace o0 := ops_ext o0 hE
  replace WW := WW.ext hE
  replace TB := TB.ext hE
  replace EE := EE.trans hE
  clear hE
  refine (M0.out _ o0).mono ?_
  rintro e wn ⟨u0, rfl, hown, hE⟩
  have A0 := isT_own hown
  obtain ⟨a0, m0, c0, rfl⟩ := A0.val
  clear hown o0 M0
  replace WW := WW.ext hE
  replace TB := TB.ext hE
  replace cur := two_later hE cur
  replace EE := EE.trans hE
  clear hE
  have hm0 : m0 = t0.flat.length := by
    obtain ⟨_, _, e, _⟩ := A0
    injection e
  subst hm0
  have q0 := cur.1
  have q1 := cur.2
  go_wp2_with fail
  clear q0 q1
  refine (claims_any _ _ _ _ Sm Lp 3 _ A0 TB (F0.out.isF (by omega) (by omega)) WW WOK.out n HN.out N HCN.out).mono ?_
  rintro e wn ⟨DC, rfl, RC, hE⟩
  replace WW := WW.ext hE
  replace A0 := A0.ext hE
  replace TB := TB.ext hE
  replace cur := two_later hE cur
  replace EE := EE.trans hE
  clear hE
  go_wp2_with fail
  refine (places_any _ _ 3 _ _ A0 TB (F0.out.isF (by omega) (by omega))).mono ?_
  rintro e wn ⟨aP, cP, rfl, RP, hE⟩
  rw [HPL.out]
  replace WW := WW.ext hE
  replace A0 := A0.ext hE
  replace RC := own_ext RC hE
  replace TB := TB.ext hE
  replace cur := two_later hE cur
  replace EE := EE.trans hE
  clear hE
  have q0 := cur.1
  have q1 := cur.2
  by_cases hN0 : N = 0
  · subst hN0
    have cRC := rowI_cell RC (i := 0) (by omega)
    have hc0 : clU (ahB ⟨Sm ++ Lp, Sm.length⟩ t0) 0 0 = 0 := by have := clU_lt (ahB ⟨Sm ++ Lp, Sm.length⟩ t0) 0 0; omega
    rw [hc0] at cRC
    clear hc0
    go_wp2
    go_ret
    exact ⟨rfl, EE⟩
  have hN1 : 0 < N := by omega
  have hNz : ((N : Int) == 0) = false := by rw [beq_eq_false_iff_ne]; omega
  have HPK := Lib.hid fun wx => picked_any bt (N : Int) wx hbt.1 hbt.2 (by omega) (by omega)
  obtain ⟨p0, p1⟩ := pk_bd bt (N : Int) (by omega)
  obtain ⟨b, hb⟩ : ∃ b : Nat, pk bt (N : Int) = (b : Int) := ⟨(pk bt (N : Int)).toNat, by omega⟩
  rw [hb] at p0 p1 HPK
  have hbN : b < N := by omega
  clear p0 p1 hb hN0
  go_wp2_with fail
  refine (HPK.out _).mono ?_
  rintro e w' ⟨rfl, rfl⟩
  clear q0 q1 hNz
  go_upto_region 10 with fail
  obtain ⟨xS, eS, aS1, cS1, e, rS⟩ := WW.st
  simp only [Value.slice.injEq] at e
  obtain ⟨rfl, _, rfl⟩ := e
  obtain ⟨xL, eL, aL1, cL1, e, rL⟩ := WW.lp
  simp only [Value.slice.injEq] at e
  obtain ⟨rfl, _, rfl⟩ := e
  have HRS := Lib.hid rS
  have HRL := Lib.hid rL
  have HES := Lib.hid eS
  have HEL := Lib.hid eL
  have hs12 := WOK.out.s12
  have hl12 := WOK.out.l12
  have c0 := cur.1
  have c1 := cur.2
  have HS : Hid (∀ w', Ext wn w' → w'.cell? ⟨wB, 0, none⟩ = some (.slice axS Sm.length cxS) ∧ w'.cell? ⟨wB, 1, none⟩ = some (.slice axL Lp.length cxL)) := Lib.hid fun w' hE => two_later hE cur
  clear rS rL eS eL
  go_cut [14] (fun s wx => ∃ (a : Option Addr) (c : Nat), s = .slice a n c ∧ Ext wn wx ∧ Row wx 1 a n c (xS ++ xL))
  case first =>
    go_region_law (first
      | ((refine step_append rfl rfl Tryd.slBoolss wn.heap.size (by rfl) HO5.out (by rfl) (HRL.out.ext (by first | exact HE5.out | exact Below.drew (Ext.refl _))) HEL.out.one (by unfold maxLen; omega) (by omega) (Below.size HE5.out) ?_
          intro v6 w6 hown6 hg6 hb6 _
          have HE6 := Lib.hid (show Ext wn w6 from Below.grown HE5.out hg6 (Below.size HE5.out) (fun b hb => (HO5.out.lt b hb).1))
          obtain ⟨a6, c6, rfl, h6⟩ := hown6.row
          have HO6 := Lib.hid h6
          clear hown6 hg6 hb6 h6))
      | ((refine step_append rfl rfl Tryd.slBoolss wn.heap.size (by rfl) (World.ownsRow_nil _ _ _ _) (by rfl) (HRS.out.ext (by exact Below.drew (Ext.refl _))) HES.out.one (by unfold maxLen; omega) (by omega) (Below.size (show Ext wn _ by exact Below.drew (Ext.refl _))) ?_
          intro v5 w5 hown5 hg5 hb5 _
          simp only [Nat.zero_add, List.nil_append] at hown5
          have hx5 := (Ext.refl _).grown hg5 (Nat.le_refl _) (by simp [Value.ownBlock])
          have hE5 : Ext wn w5 := Ext.trans (Below.drew (Ext.refl _)) hx5
          have HE5 := Lib.hid hE5
          obtain ⟨a5, c5, rfl, _⟩ := hown5.row
          have HO5 := Lib.hid hown5
          obtain ⟨cS5, cL5⟩ := HS.out w5 hE5
          clear hown5 hg5 hb5 hx5 hE5)))
    all_goals
      go_wp2_with fail
      go_meet
      exact ⟨_, _, by rw [HNS.out], HE6.out, by rw [← HNS.out]; exact HO6.out⟩
  case rest =>
    obtain ⟨aA, cA, rfl, hE, hRA⟩ := hcut
    have eB := (HES.out.app HEL.out).ext hE
    clear c0 c1
    obtain ⟨vs, hvs⟩ : ∃ vs, xS ++ xL = vs := ⟨_, rfl⟩
    rw [hvs] at hRA eB
    clear hvs HS HES HEL HRS HRL
    obtain ⟨wL, rfl⟩ : ∃ wL, wL = wc := ⟨_, rfl⟩
    replace WW := WW.ext hE
    replace A0 := A0.ext hE
    replace RC := own_ext RC hE
    replace TB := TB.ext hE
    replace cur := two_later hE cur
    replace EE := EE.trans hE
    clear hE
    have HWW := Lib.hid WW
    have HA0 := Lib.hid A0
    have HRC := Lib.hid RC
    have HTB := Lib.hid TB
    have HEE := Lib.hid EE
    have HRA := Lib.hid hRA
    have HEB := Lib.hid eB
    have HCU := Lib.hid cur
    clear WW A0 RC TB EE cur hRA eB
    obtain ⟨cO, hcO⟩ : ∃ cO, cO = clU (ahB ⟨Sm ++ Lp, Sm.length⟩ t0) N := ⟨_, rfl⟩
    rw [← hcO] at HRC
    obtain ⟨c, hc⟩ : ∃ c : Nat → Nat, c = fun i => cO i ^^^ 2 ^ b := ⟨_, rfl⟩
    have hbW : (Wd.mk (Sm ++ Lp) Sm.length).back < (Wd.mk (Sm ++ Lp) Sm.length).n := by show Sm.length < (Sm ++ Lp).length; rw [HN.out]; exact hbk
    have hWn : (Wd.mk (Sm ++ Lp) Sm.length).n = n := HN.out
    have hlO : ∀ i, cO i < 2 ^ N := fun i => by rw [hcO]; exact clU_lt _ i N
    have hpb : 2 ^ b < 2 ^ N := Nat.pow_lt_pow_right (by omega) hbN
    have hp6 : 2 ^ N ≤ 2 ^ 6 := Nat.pow_le_pow_right (by omega) hN6
    have hlt : ∀ i, i < n → c i < 2 ^ N := fun i _ => by rw [hc]; exact Nat.xor_lt_two_pow (hlO i) hpb
    have hne : macc (metN ⟨Sm ++ Lp, Sm.length⟩ t0 c) Sm.length n = 2 ^ N - 1 → (∀ j, j < n → folN ⟨Sm ++ Lp, Sm.length⟩ t0 c j = true) → False := by
      intro h1 h2
      have hline := (line_iff hbW F0.out.ok F0.out.fit HCN.out (c := c) (fun i hi => hlt i (by omega))).1 ⟨fun i hi => h2 i (by omega), by rw [hWn]; exact h1⟩ 0 (by omega)
      rw [hc, ← hcO] at hline
      have h3 := congrArg (fun z => cO 0 ^^^ z) hline
      simp only [← Nat.xor_assoc, Nat.xor_self, Nat.zero_xor] at h3
      have := Nat.two_pow_pos b
      omega
    obtain ⟨PB, hPB⟩ : ∃ PB : Int, (2 : Int) ^ b = PB := ⟨_, rfl⟩
    have hpc : ((2 ^ b : Nat) : Int) = (2 : Int) ^ b := by push_cast; rfl
    have hp1 := Nat.two_pow_pos b
    have HWB := Lib.hid (show IntKind.i64.wrap ((2 : Int) ^ b) = PB by rw [hPB, ← hPB, ← hpc]; exact IntWalk.i64_in _ (by omega))
    have HXO := Lib.hid (show ∀ i, i < n → bits .xor .i64 (cO i : Int) PB = (c i : Int) from fun i _ => by
      rw [hc, ← hPB, ← hpc]
      exact i64_xor_nat (cO i) (2 ^ b) (Nat.lt_of_lt_of_le (hlO i) (by omega)) (Nat.lt_of_lt_of_le hpb (by omega)))
    have HNE := Lib.hid hne
    have HLT := Lib.hid hlt
    have FISF := Lib.hid (F0.out.isF (by omega) (by omega))
    clear hc hcO hbW hWn hlO hpb hp6 hlt hne hPB hpc hp1
    go_wp2_with fail
    go_loopg [15, 16] n (fun m s15 s16 wr => ∃ i : Nat, m + i = n ∧ s15 = .int .i64 (macc (metN ⟨Sm ++ Lp, Sm.length⟩ t0 c) Sm.length i : Int) ∧ s16 = .int .i64 (i : Int) ∧ Ext wL wr ∧ ∀ j, j < i → folN ⟨Sm ++ Lp, Sm.length⟩ t0 c j = true)
    case atStart => exact ⟨0, by omega, rfl, by go_num, Ext.refl _, fun j hj => by omega⟩
    case round =>
      obtain ⟨i, hmi, rfl, rfl, hE, hfj⟩ := hrel
      have HMI := Lib.hid hmi
      have HFJ := Lib.hid hfj
      clear hfj
      by_cases hi : i < n
      · obtain ⟨b0, hb0⟩ : ∃ b0, folN ⟨Sm ++ Lp, Sm.length⟩ t0 c i = b0 := ⟨_, rfl⟩
        have HB0 := Lib.hid hb0
        clear hb0
        obtain ⟨k, hk⟩ : ∃ k, nxt n Sm.length i = k := ⟨_, rfl⟩
        have hkn : k < n := by rw [← hk]; exact nxt_lt hbk
        have hvl : vs.length = n := by rw [HEB.out.1]; exact HN.out
        have hvi := List.getElem?_eq_getElem (show i < vs.length by omega)
        have hvk := List.getElem?_eq_getElem (show k < vs.length by omega)
        generalize vs[i] = x at hvi
        generalize vs[k] = y at hvk
        have HFOL := Lib.hid fun wx (hx : Ext wL wx) => fol_atb (c := c) (HA0.out.ext hx) (HTB.out.ext hx) FISF.out (HEB.out.ext hx) WOK.out HN.out HCN.out hi hvi (HLT.out i hi) hk hkn hvk (HLT.out k hkn) HB0.out
        have HMET := Lib.hid fun wx (hx : Ext wL wx) => met_at (c := c) (HA0.out.ext hx) (HTB.out.ext hx) FISF.out (HEB.out.ext hx) WOK.out HN.out HCN.out hi hvi (HLT.out i hi)
        have hk2 : (i + 1 < n ∧ k = i + 1) ∨ (i + 1 = n ∧ k = Sm.length) := by
          rw [← hk]; unfold nxt; split <;> omega
        obtain ⟨bA, oA, -, hra2, hra3⟩ := (HRA.out.ext hE).lie
        obtain rfl := hra2 (by omega)
        have EW := hE
        have cur4 := And.intro (hra3 i x hvi) (And.intro (hra3 k y hvk) (And.intro (cell_later hE (rowI_cell HRC.out hi)) (cell_later hE (rowI_cell HRC.out hkn))))
        have c0 := (two_later hE HCU.out).1
        have hiI : (i : Int) < (n : Int) := by omega
        have hi0 : (0 : Int) ≤ (i : Int) := by omega
        clear hra2 hra3 hvi hvk hvl hk hmi hE
        rcases hk2 with ⟨h1, hke⟩ | ⟨h1, rfl⟩
        · have h1I : ((i : Int) + 1 == (n : Int)) = false := by rw [beq_eq_false_iff_ne]; omega
          have h2I : (i : Int) + 1 < (n : Int) := by omega
          have hto : ((i : Int) + 1).toNat = k := by omega
          have hi10 : (0 : Int) ≤ (i : Int) + 1 := by omega
          clear hke
          have HOR := Lib.hid (show bits .or .i64 (macc (metN ⟨Sm ++ Lp, Sm.length⟩ t0 c) Sm.length i : Int) (metN ⟨Sm ++ Lp, Sm.length⟩ t0 c i : Int) = ((macc (metN ⟨Sm ++ Lp, Sm.length⟩ t0 c) Sm.length i ||| metN ⟨Sm ++ Lp, Sm.length⟩ t0 c i : Nat) : Int) by
            have h6 : 2 ^ cntA t0.flat ≤ 2 ^ 6 := Nat.pow_le_pow_right (by omega) (by rw [HCN.out]; exact hN6)
            have h1 := metN_lt ⟨Sm ++ Lp, Sm.length⟩ t0 c i
            have h2 := macc_lt (metN_lt ⟨Sm ++ Lp, Sm.length⟩ t0 c) Sm.length i
            exact i64_or_nat _ _ (by omega) (by omega))
          have HMC := Lib.hid (show macc (metN ⟨Sm ++ Lp, Sm.length⟩ t0 c) Sm.length (i + 1) = if Sm.length ≤ i then macc (metN ⟨Sm ++ Lp, Sm.length⟩ t0 c) Sm.length i ||| metN ⟨Sm ++ Lp, Sm.length⟩ t0 c i else macc (metN ⟨Sm ++ Lp, Sm.length⟩ t0 c) Sm.length i from rfl)
          generalize macc (metN ⟨Sm ++ Lp, Sm.length⟩ t0 c) Sm.length i = ma at *
          generalize metN ⟨Sm ++ Lp, Sm.length⟩ t0 c i = mi at *
          have hwb := HWB.out
          have hxi := HXO.out i hi
          have hxk := HXO.out k hkn
          go_wp2_with fail
          go_region_held3 (fun w' => w'.cell? ⟨bA, oA + i, none⟩ = some x ∧ w'.cell? ⟨bA, oA + k, none⟩ = some y ∧ w'.cell? ⟨DC, i, none⟩ = some (.int .i64 (cO i : Int)) ∧ w'.cell? ⟨DC, k, none⟩ = some (.int .i64 (cO (k) : Int)))
            (first | exact cur4 | exact four_later (Below.drew (Ext.refl _)) cur4 | go_keep)
            (first
              | (go_at_call 28
                 refine (HFOL.out _ (by first | exact EW | exact Below.drew EW)).mono ?_
                 rintro e wn ⟨rfl, hE⟩
                 replace cur4 := four_later hE (four_later (Below.drew (Ext.refl _)) cur4)
                 have hEE : Ext wL wn := Ext.trans (Below.drew EW) hE
                 replace EW := hEE
                 clear hEE
                 skip))
          go_wp2_with fail
          go_region_held3 (fun w' => w'.cell? ⟨bA, oA + i, none⟩ = some x ∧ w'.cell? ⟨bA, oA + k, none⟩ = some y ∧ w'.cell? ⟨DC, i, none⟩ = some (.int .i64 (cO i : Int)) ∧ w'.cell? ⟨DC, k, none⟩ = some (.int .i64 (cO (k) : Int)))
            (first | exact cur4 | exact four_later (Below.drew (Ext.refl _)) cur4 | go_keep)
            (first
              | (go_at_call 22
                 refine (HMET.out _ (by first | exact EW | exact Below.drew EW)).mono ?_
                 rintro e wn ⟨rfl, hE⟩
                 replace cur4 := four_later hE (four_later (Below.drew (Ext.refl _)) cur4)
                 have hEE : Ext wL wn := Ext.trans (Below.drew EW) hE
                 replace EW := hEE
                 clear hEE
                 skip))
          have HEW := Lib.hid EW
          have c0 := (two_later EW HCU.out).1
          clear cur4 EW hwb hxi hxk
          cases b0
          · have HEX := Lib.hid (HEE.out.trans HEW.out)
            go_wp2
            go_ret
            exact ⟨rfl, HEX.out⟩
          · have HF2 := Lib.hid (show ∀ j, j < i + 1 → folN ⟨Sm ++ Lp, Sm.length⟩ t0 c j = true from fun j hj => by
              by_cases e : j = i
              · subst e; exact HB0.out
              · exact HFJ.out j (by omega))
            by_cases hbi : Sm.length ≤ i
            · have hbI : (Sm.length : Int) ≤ (i : Int) := by omega
              have HM2 := Lib.hid (show macc (metN ⟨Sm ++ Lp, Sm.length⟩ t0 c) Sm.length (i + 1) = ma ||| mi by rw [HMC.out, if_pos hbi])
              have hor := HOR.out
              clear hbi
              go_wp2_with fail
              go_roundg (gk - 1)
              case measure => have := HMI.out; omega
              case rel => exact ⟨i + 1, by have := HMI.out; omega, by rw [HM2.out], by go_num, HEW.out, HF2.out⟩
            · have hbI : ¬ (Sm.length : Int) ≤ (i : Int) := by omega
              have HM2 := Lib.hid (show macc (metN ⟨Sm ++ Lp, Sm.length⟩ t0 c) Sm.length (i + 1) = ma by rw [HMC.out, if_neg hbi])
              clear hbi
              go_wp2_with fail
              go_roundg (gk - 1)
              case measure => have := HMI.out; omega
              case rel => exact ⟨i + 1, by have := HMI.out; omega, by rw [HM2.out], by go_num, HEW.out, HF2.out⟩
        · have h1I : ((i : Int) + 1 == (n : Int)) = true := by rw [beq_iff_eq]; omega
          have h2I : (Sm.length : Int) < (n : Int) := by omega
          have HOR := Lib.hid (show bits .or .i64 (macc (metN ⟨Sm ++ Lp, Sm.length⟩ t0 c) Sm.length i : Int) (metN ⟨Sm ++ Lp, Sm.length⟩ t0 c i : Int) = ((macc (metN ⟨Sm ++ Lp, Sm.length⟩ t0 c) Sm.length i ||| metN ⟨Sm ++ Lp, Sm.length⟩ t0 c i : Nat) : Int) by
            have h6 : 2 ^ cntA t0.flat ≤ 2 ^ 6 := Nat.pow_le_pow_right (by omega) (by rw [HCN.out]; exact hN6)
            have h1 := metN_lt ⟨Sm ++ Lp, Sm.length⟩ t0 c i
            have h2 := macc_lt (metN_lt ⟨Sm ++ Lp, Sm.length⟩ t0 c) Sm.length i
            exact i64_or_nat _ _ (by omega) (by omega))
          have HMC := Lib.hid (show macc (metN ⟨Sm ++ Lp, Sm.length⟩ t0 c) Sm.length (i + 1) = if Sm.length ≤ i then macc (metN ⟨Sm ++ Lp, Sm.length⟩ t0 c) Sm.length i ||| metN ⟨Sm ++ Lp, Sm.length⟩ t0 c i else macc (metN ⟨Sm ++ Lp, Sm.length⟩ t0 c) Sm.length i from rfl)
          generalize macc (metN ⟨Sm ++ Lp, Sm.length⟩ t0 c) Sm.length i = ma at *
          generalize metN ⟨Sm ++ Lp, Sm.length⟩ t0 c i = mi at *
          have hwb := HWB.out
          have hxi := HXO.out i hi
          have hxk := HXO.out Sm.length hkn
          go_wp2_with fail
          go_region_held3 (fun w' => w'.cell? ⟨bA, oA + i, none⟩ = some x ∧ w'.cell? ⟨bA, oA + Sm.length, none⟩ = some y ∧ w'.cell? ⟨DC, i, none⟩ = some (.int .i64 (cO i : Int)) ∧ w'.cell? ⟨DC, Sm.length, none⟩ = some (.int .i64 (cO (Sm.length) : Int)))
            (first | exact cur4 | exact four_later (Below.drew (Ext.refl _)) cur4 | go_keep)
            (first
              | (go_at_call 28
                 refine (HFOL.out _ (by first | exact EW | exact Below.drew EW)).mono ?_
                 rintro e wn ⟨rfl, hE⟩
                 replace cur4 := four_later hE (four_later (Below.drew (Ext.refl _)) cur4)
                 have hEE : Ext wL wn := Ext.trans (Below.drew EW) hE
                 replace EW := hEE
                 clear hEE
                 skip))
          go_wp2_with fail
          go_region_held3 (fun w' => w'.cell? ⟨bA, oA + i, none⟩ = some x ∧ w'.cell? ⟨bA, oA + Sm.length, none⟩ = some y ∧ w'.cell? ⟨DC, i, none⟩ = some (.int .i64 (cO i : Int)) ∧ w'.cell? ⟨DC, Sm.length, none⟩ = some (.int .i64 (cO (Sm.length) : Int)))
            (first | exact cur4 | exact four_later (Below.drew (Ext.refl _)) cur4 | go_keep)
            (first
              | (go_at_call 22
                 refine (HMET.out _ (by first | exact EW | exact Below.drew EW)).mono ?_
                 rintro e wn ⟨rfl, hE⟩
                 replace cur4 := four_later hE (four_later (Below.drew (Ext.refl _)) cur4)
                 have hEE : Ext wL wn := Ext.trans (Below.drew EW) hE
                 replace EW := hEE
                 clear hEE
                 skip))
          have HEW := Lib.hid EW
          have c0 := (two_later EW HCU.out).1
          clear cur4 EW hwb hxi hxk
          cases b0
          · have HEX := Lib.hid (HEE.out.trans HEW.out)
            go_wp2
            go_ret
            exact ⟨rfl, HEX.out⟩
          · have HF2 := Lib.hid (show ∀ j, j < i + 1 → folN ⟨Sm ++ Lp, Sm.length⟩ t0 c j = true from fun j hj => by
              by_cases e : j = i
              · subst e; exact HB0.out
              · exact HFJ.out j (by omega))
            by_cases hbi : Sm.length ≤ i
            · have hbI : (Sm.length : Int) ≤ (i : Int) := by omega
              have HM2 := Lib.hid (show macc (metN ⟨Sm ++ Lp, Sm.length⟩ t0 c) Sm.length (i + 1) = ma ||| mi by rw [HMC.out, if_pos hbi])
              have hor := HOR.out
              clear hbi
              go_wp2_with fail
              go_roundg (gk - 1)
              case measure => have := HMI.out; omega
              case rel => exact ⟨i + 1, by have := HMI.out; omega, by rw [HM2.out], by go_num, HEW.out, HF2.out⟩
            · exfalso
              omega
      · have hiI : ¬ (i : Int) < (n : Int) := by omega
        obtain rfl : i = n := by omega
        have hp6 : 2 ^ N ≤ 2 ^ 6 := Nat.pow_le_pow_right (by omega) hN6
        have hpc : ((2 ^ N : Nat) : Int) = (2 : Int) ^ N := by push_cast; rfl
        have hp1 := Nat.two_pow_pos N
        have HEX := Lib.hid (HEE.out.trans hE)
        have hnm : macc (metN ⟨Sm ++ Lp, Sm.length⟩ t0 c) Sm.length i ≠ 2 ^ N - 1 := fun h => HNE.out h HFJ.out
        obtain ⟨PM, hPM⟩ : ∃ PM, (2 : Int) ^ N = PM := ⟨_, rfl⟩
        have hw0 : IntKind.i64.wrap ((2 : Int) ^ N) = PM := by rw [hPM, ← hPM, ← hpc]; exact IntWalk.i64_in _ (by omega)
        have hP1 : 1 ≤ PM := by omega
        have hP2 : PM ≤ 64 := by omega
        generalize macc (metN ⟨Sm ++ Lp, Sm.length⟩ t0 c) Sm.length i = ma at *
        have hPP : ((ma : Int) == PM - 1) = false := by rw [beq_eq_false_iff_ne]; omega
        have hPQ : ((ma : Int) != PM - 1) = true := by rw [bne_iff_ne]; omega
        clear hmi hE hp6 hpc hp1 hPM hnm
        go_wp2
        go_ret
        exact ⟨rfl, HEX.out⟩


end Go.Proofs.YtffjhhpikgodiaaDoor
