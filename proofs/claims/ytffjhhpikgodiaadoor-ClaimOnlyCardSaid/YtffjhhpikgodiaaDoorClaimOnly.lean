/- The law ClaimOnly. -/
import Derived.Test.YtffjhhpikgodiaaDoorLineAll
import Derived.Test.YtffjhhpikgodiaaDoorWordL
import Derived.Test.YtffjhhpikgodiaaDoorStep
import Derived.Deep.DeepCutAuto
import Derived.Deep.RegionLaw
import Derived.Deep.CutBlock
import Derived.Test.YtffjhhpikgodiaaDoorShut
namespace Go.Proofs.YtffjhhpikgodiaaDoor
open Go.RowKit

theorem four_later {w w' : World} {p q r s : Addr} {a b c d : Value} (hE : Ext w w') (h : w.cell? p = some a ∧ w.cell? q = some b ∧ w.cell? r = some c ∧ w.cell? s = some d) : w'.cell? p = some a ∧ w'.cell? q = some b ∧ w'.cell? r = some c ∧ w'.cell? s = some d :=
  ⟨cell_later hE h.1, cell_later hE h.2.1, cell_later hE h.2.2.1, cell_later hE h.2.2.2⟩

/-- A list of the call's own that is not empty. -/
theorem own_slice {w : World} {base : Nat} {e : TypeId} {v : Value} {n : Nat} {xs : List Value} (h : w.ownsRow base e 1 v n xs) (hn : 0 < n) : ∃ g cap, v = .slice (some ⟨g, 0, none⟩) n cap ∧ base ≤ g := by
  rcases h.2 with ⟨_, h2⟩ | ⟨g, cap, _, rfl, h3, _⟩
  · subst h2; have := h.1; simp at this; omega
  · exact ⟨g, cap, rfl, h3⟩
/-- Do two lines differ ahead of a place? -/
def difU (M c : Nat → Nat) : Nat → Bool
  | 0 => false
  | i + 1 => difU M c i || M i != c i
theorem difU_iff (M c : Nat → Nat) : ∀ p, difU M c p = false ↔ ∀ j, j < p → M j = c j
  | 0 => by simp [difU]
  | p + 1 => by
    unfold difU
    rw [Bool.or_eq_false_iff, difU_iff M c p]
    constructor
    · rintro ⟨h1, h2⟩ j hj
      by_cases e : j = p
      · subst e; simpa using h2
      · exact h1 j (by omega)
    · intro h
      exact ⟨fun j hj => h j (by omega), by simpa using h p (by omega)⟩
/-- Is each of the first ones so? -/
def allU (f : Nat → Bool) : Nat → Bool
  | 0 => true
  | i + 1 => allU f i && f i
theorem allU_iff (f : Nat → Bool) : ∀ p, allU f p = true ↔ ∀ j, j < p → f j = true
  | 0 => by simp [allU]
  | p + 1 => by
    unfold allU
    rw [Bool.and_eq_true, allU_iff f p]
    constructor
    · rintro ⟨h1, h2⟩ j hj
      by_cases e : j = p
      · subst e; exact h2
      · exact h1 j (by omega)
    · intro h
      exact ⟨fun j hj => h j (by omega), h p (by omega)⟩
theorem rowI_upto (n : Nat) (M c : Nat → Nat) (i : Nat) : (rowI n fun j => if j < i then M j else c j).set i (.int .i64 (M i : Int)) = rowI n fun j => if j < i + 1 then M j else c j := by
  rw [rowI_set]
  congr 1
  funext j
  unfold updI
  by_cases e : j = i
  · subst e; simp
  · rw [if_neg e]
    show (if j < i then M j else c j) = _
    by_cases h : j < i
    · rw [if_pos h, if_pos (by omega)]
    · rw [if_neg h, if_neg (by omega)]
theorem rowC_cell {w : World} {base R n cap : Nat} {g : Nat → Nat} {i : Nat} (h : w.ownsRow base 3 1 (.slice (some ⟨R, 0, none⟩) n cap) n (rowI n g)) (hi : i < n) : w.cell? ⟨R, i, none⟩ = some (.int .i64 (g i : Int)) := by
  have hl : i < (rowI n g).length := by rw [rowI_len]; exact hi
  refine (own_cellAt h (i := i) hl).trans ?_
  have := rowI_get (g := g) hi
  rw [List.getElem?_eq_getElem hl] at this
  exact this
theorem ints_at {w : World} {a : Option Addr} {n c : Nat} {l : List Int} (h : Row w 1 a n c (l.map (.int .i64))) : ∃ b off, (0 < l.length → a = some ⟨b, off, none⟩) ∧ ∀ (i : Nat) (hi : i < l.length), w.cell? ⟨b, off + i, none⟩ = some (.int .i64 l[i]) := by
  obtain ⟨b, off, _, h2, h3⟩ := h.lie
  exact ⟨b, off, fun hl => h2 (by simpa using hl), fun i hi => h3 i _ (by rw [List.getElem?_map, List.getElem?_eq_getElem hi]; rfl)⟩
theorem rowI_one (n : Nat) (g : Nat → Nat) : ∀ u ∈ rowI n g, u.oneCell' = true := by
  intro u hu
  obtain ⟨_, _, rfl⟩ := List.mem_map.1 hu
  rfl

set_option maxRecDepth 100000 in
set_option maxHeartbeats 8000000 in
theorem claimOnly_law (v0 : Value) (cs : Array Value) (z0 : Value) (W : World) (ht : Tab W) (h0 : Cells Tryd.prog W 22 [v0]) (hs : Cells Tryd.prog W 40 cs.toList) (g0 : Cells Tryd.prog W 25 [z0]) :
    Calls Tryd.prog 13 #[v0, .agg cs, z0] W fun e w' => e = .returned (.bool true) ∧ Ext W w' := by
  obtain ⟨raw0, o0, hraw0⟩ := raw_for h0
  obtain ⟨aS, aL, cS, cL, S, L, rfl, hS, hL, iS, iL⟩ := spell_of hs
  have EE := ext_al (Ext.refl W) (Obj.cells #[.slice aS S.length cS, .slice aL L.length cL] 40)
  have TB := ht.ext EE
  have HWA := Lib.hid (word_any _ _ S L _ (hS.ext EE) (hL.ext EE) iS iL)
  have WOK := Lib.hid (word_ok S L)
  replace o0 := ops_ext o0 EE
  have M0 := Lib.hid (show ∀ w, Ops w v0 raw0 → Calls Tryd.prog 16 #[v0, .int .i64 3, .int .i64 3] w (fun e w' => ∃ v', e = .returned v' ∧ w'.ownsRow w.heap.size 51 2 v' (forO raw0 3 3).flat.length ((forO raw0 3 3).flat.flatMap opc) ∧ Ext w w') from fun w h => mkFormula v0 raw0 3 3 w h hraw0 (by omega) (by omega) (by omega))
  have F0 := Lib.hid (fm_for raw0 3)
  generalize forO raw0 3 3 = t0 at *
  have hs0 := F0.out.size
  have hSl : S.length = S.length := rfl
  generalize letsL S = Sm at *
  generalize loopW L = Lp at *
  obtain ⟨z1, zs, e0, hz, hzi⟩ := Cells.ints Tryd.underlying25 Tryd.underlying3 (by kernel_rfl) g0
  simp only [List.cons.injEq, and_true] at e0
  subst e0
  clear g0
  replace hz := hz.ext EE
  obtain ⟨az, cz, rfl, hzr⟩ := hz
  have hzl : zs.length ≤ maxLen := Nat.le_trans hzr.le hzr.max
  unfold maxLen at hzl
  have HZR := Lib.hid hzr
  have HZI := Lib.hid hzi
  clear hzr hzi
  obtain ⟨n, hn⟩ : ∃ n, (Sm ++ Lp).length = n := ⟨_, rfl⟩
  have hsum : (Sm.length : Int) + (Lp.length : Int) = (n : Int) := by rw [← hn, List.length_append]; push_cast; rfl
  have hbk : Sm.length < n := by have := WOK.out.l1; rw [← hn, List.length_append]; omega
  have hn24 : n ≤ 24 := by have := WOK.out.s12; have := WOK.out.l12; rw [← hn, List.length_append]; omega
  have HN := Lib.hid hn
  clear hn
  obtain ⟨N, hNN⟩ : ∃ N, cntA t0.flat = N := ⟨_, rfl⟩
  have hN6 : N ≤ 6 := by have := F0.out.cnt; omega
  have HCN := Lib.hid hNN
  have HPL := Lib.hid (show (plL t0.flat).length = N by rw [plL_len]; exact hNN)
  have HFL := Lib.hid t0.flat_len
  have HNS := Lib.hid (show Sm.length + Lp.length = n by omega)
  clear hNN

  clear ht hs hS hL iS iL hSl h0 hraw0
  go_enter Tryd.func13, Tryd.ntmps13
  go_wp2_with fail
  generalize W.alloc (Obj.cells #[.slice aS S.length cS, .slice aL L.length cL] 40) = w0 at *
  have EX := Ext.refl w0
  refine HWA.out.mono ?_
  rintro e wn ⟨sv, lv, rfl, WW, hE⟩
  clear HWA
  replace o0 := ops_ext o0 hE
  replace TB := TB.ext hE
  replace EE := EE.trans hE
  replace EX := EX.trans hE
  clear hE
  obtain ⟨xsS, xeS, axS, cxS, rfl, xrS⟩ := WW.st
  obtain ⟨xsL, xeL, axL, cxL, rfl, xrL⟩ := WW.lp
  clear xeS xrS xeL xrL
  go_wp2_with fail
  have hE := ext_al (Ext.refl wn) (Obj.cells #[.slice axS Sm.length cxS, .slice axL Lp.length cxL] 43)
  have hbk := blk_new wn (Obj.cells #[.slice axS Sm.length cxS, .slice axL Lp.length cxL] 43)
  have c0 := blk_cell hbk (i := 0) (v := .slice axS Sm.length cxS) rfl
  have c1 := blk_cell hbk (i := 1) (v := .slice axL Lp.length cxL) rfl
  clear hbk
  generalize hwB : wn.heap.size = wB at *
  clear hwB
  generalize hwn : wn.alloc (Obj.cells #[.slice axS Sm.length cxS, .slice axL Lp.length cxL] 43) = wn2 at *
  clear hwn
  have cur := And.intro c0 c1
  clear c0 c1
  replace o0 := ops_ext o0 hE
  replace WW := WW.ext hE
  replace TB := TB.ext hE
  replace EE := EE.trans hE
  replace EX := EX.trans hE
  clear hE
  refine (M0.out _ o0).mono ?_
  rintro e wn ⟨u0, rfl, hown, hE⟩
  have A0 := isT_own hown
  obtain ⟨a0, m0, c0, rfl⟩ := A0.val
  clear hown o0 M0
  replace WW := WW.ext hE
  replace TB := TB.ext hE
  replace cur := two_later hE cur
  replace EE := EE.trans hE
  replace EX := EX.trans hE
  clear hE
  have hm0 : m0 = t0.flat.length := by
    obtain ⟨_, _, e, _⟩ := A0
    injection e
  subst hm0
  have q0 := cur.1
  have q1 := cur.2
  go_wp2_with fail
  clear q0 q1
  refine (claims_any _ _ _ _ Sm Lp 3 _ A0 TB (F0.out.isF (by omega) (by omega)) WW WOK.out n HN.out N HCN.out).mono ?_
  rintro e wn ⟨DC, rfl, RC, hE⟩
  replace WW := WW.ext hE
  replace A0 := A0.ext hE
  replace EX := EX.trans hE
  replace TB := TB.ext hE
  replace cur := two_later hE cur
  replace EE := EE.trans hE
  clear hE
  go_wp2_with fail
  refine (places_any _ _ 3 _ _ A0 TB (F0.out.isF (by omega) (by omega))).mono ?_
  rintro e wn ⟨aP, cP, rfl, RP, hE⟩
  rw [HPL.out]
  replace WW := WW.ext hE
  replace A0 := A0.ext hE
  replace EX := EX.trans hE
  replace RC := own_ext RC hE
  replace TB := TB.ext hE
  replace cur := two_later hE cur
  replace EE := EE.trans hE
  clear hE
  have q0 := cur.1
  have q1 := cur.2
  go_upto_region 8 with fail
  obtain ⟨xS, eS, aS1, cS1, e, rS⟩ := WW.st
  simp only [Value.slice.injEq] at e
  obtain ⟨rfl, _, rfl⟩ := e
  obtain ⟨xL, eL, aL1, cL1, e, rL⟩ := WW.lp
  simp only [Value.slice.injEq] at e
  obtain ⟨rfl, _, rfl⟩ := e
  have HRS := Lib.hid rS
  have HRL := Lib.hid rL
  have HES := Lib.hid eS
  have HEL := Lib.hid eL
  have hs12 := WOK.out.s12
  have hl12 := WOK.out.l12
  have c0 := cur.1
  have c1 := cur.2
  have HS : Hid (∀ w', Ext wn w' → w'.cell? ⟨wB, 0, none⟩ = some (.slice axS Sm.length cxS) ∧ w'.cell? ⟨wB, 1, none⟩ = some (.slice axL Lp.length cxL)) := Lib.hid fun w' hE => two_later hE cur
  clear rS rL eS eL
  go_cut [14] (fun s wx => ∃ (a : Option Addr) (c : Nat), s = .slice a n c ∧ Ext wn wx ∧ Row wx 1 a n c (xS ++ xL))
  case first =>
    go_region_law (first
      | ((refine step_append rfl rfl Tryd.slBoolss wn.heap.size (by rfl) HO5.out (by rfl) (HRL.out.ext (by first | exact HE5.out | exact Below.drew (Ext.refl _))) HEL.out.one (by unfold maxLen; omega) (by omega) (Below.size HE5.out) ?_
          intro v6 w6 hown6 hg6 hb6 _
          have HE6 := Lib.hid (show Ext wn w6 from Below.grown HE5.out hg6 (Below.size HE5.out) (fun b hb => (HO5.out.lt b hb).1))
          obtain ⟨a6, c6, rfl, h6⟩ := hown6.row
          have HO6 := Lib.hid h6
          clear hown6 hg6 hb6 h6))
      | ((refine step_append rfl rfl Tryd.slBoolss wn.heap.size (by rfl) (World.ownsRow_nil _ _ _ _) (by rfl) (HRS.out.ext (by exact Below.drew (Ext.refl _))) HES.out.one (by unfold maxLen; omega) (by omega) (Below.size (show Ext wn _ by exact Below.drew (Ext.refl _))) ?_
          intro v5 w5 hown5 hg5 hb5 _
          simp only [Nat.zero_add, List.nil_append] at hown5
          have hx5 := (Ext.refl _).grown hg5 (Nat.le_refl _) (by simp [Value.ownBlock])
          have hE5 : Ext wn w5 := Ext.trans (Below.drew (Ext.refl _)) hx5
          have HE5 := Lib.hid hE5
          obtain ⟨a5, c5, rfl, _⟩ := hown5.row
          have HO5 := Lib.hid hown5
          obtain ⟨cS5, cL5⟩ := HS.out w5 hE5
          clear hown5 hg5 hb5 hx5 hE5)))
    all_goals
      go_wp2_with fail
      go_meet
      exact ⟨_, _, by rw [HNS.out], HE6.out, by rw [← HNS.out]; exact HO6.out⟩
  case rest =>
    obtain ⟨aA, cA, rfl, hE, hRA⟩ := hcut
    have eB := (HES.out.app HEL.out).ext hE
    clear c0 c1
    obtain ⟨vs, hvs⟩ : ∃ vs, xS ++ xL = vs := ⟨_, rfl⟩
    rw [hvs] at hRA eB
    clear hvs HS HES HEL HRS HRL
    obtain ⟨wL, rfl⟩ : ∃ wL, wL = wc := ⟨_, rfl⟩
    replace WW := WW.ext hE
    replace A0 := A0.ext hE
    replace EX := EX.trans hE
    replace RC := own_ext RC hE
    replace TB := TB.ext hE
    replace cur := two_later hE cur
    replace EE := EE.trans hE
    clear hE
    have HWW := Lib.hid WW
    have HA0 := Lib.hid A0
    have HEX := Lib.hid EX
    have HRC := Lib.hid RC
    have HTB := Lib.hid TB
    have HEE := Lib.hid EE
    have HRA := Lib.hid hRA
    have HEB := Lib.hid eB
    have HCU := Lib.hid cur
    clear WW A0 EX RC TB EE cur hRA eB
    clear q0 q1
    obtain ⟨cO, hcO⟩ : ∃ cO, cO = clU (ahB ⟨Sm ++ Lp, Sm.length⟩ t0) N := ⟨_, rfl⟩
    rw [← hcO] at HRC
    obtain ⟨p, hp⟩ : ∃ p, p = min n zs.length := ⟨_, rfl⟩
    have hpn : p ≤ n := by omega
    have hpz : p ≤ zs.length := by omega
    have hp1 := Nat.two_pow_pos N
    have hp6 : 2 ^ N ≤ 2 ^ 6 := Nat.pow_le_pow_right (by omega) hN6
    have hpc : ((2 ^ N : Nat) : Int) = (2 : Int) ^ N := by push_cast; rfl
    obtain ⟨PM, hPM⟩ : ∃ PM, (2 : Int) ^ N = PM := ⟨_, rfl⟩
    have HW0 := Lib.hid (show IntKind.i64.wrap ((2 : Int) ^ N) = PM by rw [hPM, ← hPM, ← hpc]; exact IntWalk.i64_in _ (by omega))
    have hPM1 : 1 ≤ PM := by omega
    have hPM2 : PM ≤ 64 := by omega
    have HPMN := Lib.hid (show PM = ((2 ^ N : Nat) : Int) by rw [← hPM]; push_cast; rfl)
    obtain ⟨c, hc⟩ : ∃ c : Nat → Nat, c = fun j => if j < p then (pk (zs.getD j 0) PM).toNat else cO j := ⟨_, rfl⟩
    have hbW : (Wd.mk (Sm ++ Lp) Sm.length).back < (Wd.mk (Sm ++ Lp) Sm.length).n := by show Sm.length < (Sm ++ Lp).length; rw [HN.out]; exact hbk
    have hWn : (Wd.mk (Sm ++ Lp) Sm.length).n = n := HN.out
    have hlO : ∀ i, cO i < 2 ^ N := fun i => by rw [hcO]; exact clU_lt _ i N
    have hlt : ∀ i, i < n → c i < 2 ^ N := fun i _ => by
      rw [hc]
      show (if i < p then (pk (zs.getD i 0) PM).toNat else cO i) < 2 ^ N
      split
      · have := pk_bd (zs.getD i 0) PM (by omega); omega
      · exact hlO i
    have HPI := Lib.hid (show ∀ i, i < p → pk (zs.getD i 0) PM = (c i : Int) from fun i hi => by
      rw [hc]
      show _ = ((if i < p then (pk (zs.getD i 0) PM).toNat else cO i : Nat) : Int)
      rw [if_pos hi]
      have := pk_bd (zs.getD i 0) PM (by omega); omega)
    have hup : (fun j => if j < p then c j else cO j) = c := by
      funext j
      by_cases h : j < p
      · rw [if_pos h]
      · rw [if_neg h, hc]; simp [h]
    have hend : (allU (folN ⟨Sm ++ Lp, Sm.length⟩ t0 c) n && decide (macc (metN ⟨Sm ++ Lp, Sm.length⟩ t0 c) Sm.length n = 2 ^ N - 1)) = !difU c cO p := by
      rw [Bool.eq_iff_iff, Bool.and_eq_true, allU_iff, decide_eq_true_eq, Bool.not_eq_true', difU_iff]
      have hline := line_iff hbW F0.out.ok F0.out.fit HCN.out (c := c) (fun i hi => hlt i (by omega))
      rw [hWn] at hline
      rw [show (Wd.mk (Sm ++ Lp) Sm.length).back = Sm.length from rfl] at hline
      rw [hline]
      constructor
      · intro h j hj
        rw [h j (by omega), hcO]
      · intro h j hj
        by_cases hjp : j < p
        · rw [h j hjp, hcO]
        · rw [← hcO, hc]; simp [hjp]
    have HEND := Lib.hid hend
    have HUP := Lib.hid hup
    have HLT := Lib.hid hlt
    have HP := Lib.hid hp
    have FISF := Lib.hid (F0.out.isF (by omega) (by omega))
    clear hc hcO hbW hWn hlO hlt hpc hPM hup hend hp hp1 hp6
    obtain ⟨aC, cC, hC, hrC⟩ := HRC.out.row
    simp only [Value.slice.injEq] at hC
    obtain ⟨rfl, _, rfl⟩ := hC
    have HRW := Lib.hid hrC
    clear hrC
    go_wp2_with (at_builtin; go_must (refine wpl_append rfl rfl Tryd.slInts wL.heap.size rfl (World.ownsRow_nil _ _ _ _) rfl HRW.out (rowI_one _ _) (by unfold maxLen; omega) (by omega) (Nat.le_refl _) ?_))
    intro vM wM hownM hgM _ _
    try simp only [Nat.zero_add, List.nil_append] at hownM
    have hEM : Ext wL wM := (Ext.refl _).grown hgM (Nat.le_refl _) (by simp [Value.ownBlock])
    obtain ⟨gM, cM, rfl, hgMb⟩ := own_slice hownM (by omega)
    have HOM := Lib.hid hownM
    have HEM := Lib.hid hEM
    clear hownM hgM hEM HRW
    go_upto_block 0 with fail
    go_cut [16] (fun s16 wx => s16 = .bool (difU c cO p) ∧ wx.ownsRow wL.heap.size 3 1 (.slice (some ⟨gM, 0, none⟩) n cM) n (rowI n c) ∧ Ext wL wx)
    case first =>
     go_wp2_with fail
     go_loopg [16, 17] p (fun m s16 s17 wr => ∃ i : Nat, m + i = p ∧ s16 = .bool (difU c cO i) ∧ s17 = .int .i64 (i : Int) ∧ wr.ownsRow wL.heap.size 3 1 (.slice (some ⟨gM, 0, none⟩) n cM) n (rowI n fun j => if j < i then c j else cO j) ∧ Ext wL wr)
     case atStart => exact ⟨0, by omega, rfl, by go_num, by simpa using HOM.out, HEM.out⟩
     case round =>
       obtain ⟨i, hmi, rfl, rfl, hM, hE⟩ := hrel
       have HMI := Lib.hid hmi
       have HM := Lib.hid hM
       have HE := Lib.hid hE
       clear HOM HEM
       by_cases hi : i < p
       · have hin : i < n := by omega
         have hiz : i < zs.length := by omega
         obtain ⟨bz, oz, hzr1, hzr2⟩ := ints_at (HZR.out.ext (HEX.out.trans hE))
         obtain rfl := hzr1 (by omega)
         have cz := hzr2 i hiz
         have hzg : zs.getD i 0 = zs[i] := by simp [List.getD, List.getElem?_eq_getElem hiz]
         have hzb := HZI.out zs[i] (by simp)
         unfold I64 at hzb
         have HPK := Lib.hid fun wx => (show Calls Tryd.prog 18 #[.int .i64 zs[i], .int .i64 PM] wx (fun e w' => e = .returned (.int .i64 (c i : Int)) ∧ wx = w') by
           rw [← HPI.out i hi, hzg]; exact picked_any zs[i] PM wx hzb.1 hzb.2 (by omega) (by omega))
         have cM := rowC_cell hM hin
         rw [if_neg (by omega)] at cM
         have fM := own_freeAt hM i
         have hiI : (i : Int) < (n : Int) := by omega
         have hiZ : (i : Int) < (zs.length : Int) := by omega
         have hi0 : (0 : Int) ≤ (i : Int) := by omega
         have hw0 := HW0.out
         have HIC := Lib.hid hin
         clear hzr1 hzr2 hzg hM hE hmi
         generalize zs[i] = zi at *
         go_wp2_with fail
         refine region_tail 11 (by kernel_rfl) (by kernel_rfl) ?_
         replace cz : wr.drew.cell? ⟨bz, oz + i, none⟩ = some (.int .i64 zi) := cz
         replace cM : wr.drew.cell? ⟨gM, i, none⟩ = some (.int .i64 (cO i : Int)) := cM
         replace fM : wr.drew.frozen? ⟨gM, i, none⟩ = false := fM
         have HM' := Lib.hid (own_ext HM.out (Below.drew (Ext.refl _)))
         have HE' := Lib.hid (Below.drew HE.out)
         clear HM HE
         generalize wr.drew = Wd at *
         simp only [List.take_succ_cons, List.take_zero, List.drop_succ_cons, List.drop_zero]
         iterate 9 still_step
         still_call (still_of (HPK.out Wd))
         still_step
         refine wpStill_nil ?_
         have hM2 := own_setAt HM'.out (i := i) (.int .i64 (c i : Int))
         rw [rowI_upto] at hM2
         have hE2 := ext_st HE'.out (p := ⟨gM, i, none⟩) hgMb (.int .i64 (c i : Int))
         have HM2 := Lib.hid hM2
         have HE2 := Lib.hid hE2
         have HCC := Lib.hid (cell_later (show Ext wL wL from Ext.refl _) (rowI_cell HRC.out HIC.out))
         clear hM2 hE2 cz
         go_upto_region 15 with fail
         clear cM fM
         generalize Wd.setCell ⟨gM, i, none⟩ (.int .i64 (c i : Int)) = We at *
         have cM := rowC_cell HM2.out HIC.out
         rw [if_pos (by omega)] at cM
         have cO' := cell_later HE2.out HCC.out
         have hdu := show difU c cO (i + 1) = (difU c cO i || c i != cO i) from rfl
         have hcc : ((c i : Int) != (cO i : Int)) = (c i != cO i) := by
           rw [Bool.eq_iff_iff, bne_iff_ne, bne_iff_ne]; omega
         have HDU := Lib.hid hdu
         clear hdu
         generalize difU c cO i = d0 at *
         generalize hcb : (c i != cO i) = d1 at *
         clear hcb
         cases d0
         all_goals
           go_wp2_with fail
           refine wp_region_quiet_lit (by kernel_rfl) (by kernel_rfl) (Shut.out ?_)
           repeat (refine hq_step (fun K hK => ?_); go_simp; refine hK _ ?_; clear hK K)
           refine hq_nil ?_
           rintro _ ⟨nq, rfl⟩
           have HE3 := Lib.hid (below_drewN HE2.out nq)
           have HM3 := Lib.hid (own_ext HM2.out (below_drewN (Ext.refl _) nq))
           clear cM cO' hcc HE2 HM2
           go_wp2_with fail
           go_roundg (gk - 1)
           case measure => have := HMI.out; omega
           case rel => exact ⟨i + 1, by have := HMI.out; omega, by rw [HDU.out]; simp, by go_num, HM3.out, HE3.out⟩
       · have hip : i = p := by omega
         have hM3 := hM
         rw [hip, HUP.out] at hM3
         have HRM := Lib.hid hM3
         have HDI := Lib.hid (show difU c cO i = difU c cO p by rw [hip])
         have HEW0 := Lib.hid hE
         clear hM hM3 hE HM HE hmi HMI HRC
         have hor0 : ¬ ((i : Int) < (n : Int)) ∨ ((i : Int) < (n : Int) ∧ ¬ (i : Int) < (zs.length : Int)) := by have := HP.out; omega
         clear hi hip
         generalize difU c cO i = dE at *
         rcases hor0 with hiI | ⟨hiI, hiZ⟩
         all_goals
           go_wp2_with fail
           go_meet
           exact ⟨by rw [HDI.out], HRM.out, HEW0.out⟩
    case rest =>
      obtain ⟨rfl, hM, hE⟩ := hcut
      have HRM := Lib.hid hM
      have HEW0 := Lib.hid hE
      clear hM hE HRC HOM HEM
      obtain ⟨dE, hdE⟩ : ∃ dE, dE = difU c cO p := ⟨_, rfl⟩
      rw [← hdE]
      have HDI := Lib.hid hdE
      clear hdE
      go_wp2_with fail
      go_loopg [18, 19, 20] n (fun m s18 s19 s20 wr => ∃ i : Nat, m + i = n ∧ s18 = .int .i64 (macc (metN ⟨Sm ++ Lp, Sm.length⟩ t0 c) Sm.length i : Int) ∧ s19 = .bool (allU (folN ⟨Sm ++ Lp, Sm.length⟩ t0 c) i) ∧ s20 = .int .i64 (i : Int) ∧ Ext wL wr ∧ wr.ownsRow wL.heap.size 3 1 (.slice (some ⟨gM, 0, none⟩) n cM) n (rowI n c))
      case atStart => exact ⟨0, by omega, rfl, rfl, by go_num, HEW0.out, HRM.out⟩
      case round =>
        obtain ⟨i, hmi, rfl, rfl, rfl, hE, RMM⟩ := hrel
        clear HEW0 HRM
        have HMI := Lib.hid hmi
        by_cases hi : i < n
        · obtain ⟨b0, hb0⟩ : ∃ b0, folN ⟨Sm ++ Lp, Sm.length⟩ t0 c i = b0 := ⟨_, rfl⟩
          have HB0 := Lib.hid hb0
          clear hb0
          obtain ⟨k, hk⟩ : ∃ k, nxt n Sm.length i = k := ⟨_, rfl⟩
          have hkn : k < n := by rw [← hk]; exact nxt_lt hbk
          have hvl : vs.length = n := by rw [HEB.out.1]; exact HN.out
          have hvi := List.getElem?_eq_getElem (show i < vs.length by omega)
          have hvk := List.getElem?_eq_getElem (show k < vs.length by omega)
          generalize vs[i] = x at hvi
          generalize vs[k] = y at hvk
          have HFOL := Lib.hid fun wx (hx : Ext wL wx) => fol_atb (c := c) (HA0.out.ext hx) (HTB.out.ext hx) FISF.out (HEB.out.ext hx) WOK.out HN.out HCN.out hi hvi (HLT.out i hi) hk hkn hvk (HLT.out k hkn) HB0.out
          have HMET := Lib.hid fun wx (hx : Ext wL wx) => met_at (c := c) (HA0.out.ext hx) (HTB.out.ext hx) FISF.out (HEB.out.ext hx) WOK.out HN.out HCN.out hi hvi (HLT.out i hi)
          have hk2 : (i + 1 < n ∧ k = i + 1) ∨ (i + 1 = n ∧ k = Sm.length) := by
            rw [← hk]; unfold nxt; split <;> omega
          obtain ⟨bA, oA, -, hra2, hra3⟩ := (HRA.out.ext hE).lie
          obtain rfl := hra2 (by omega)
          have EW := hE
          have cur4 := And.intro (hra3 i x hvi) (And.intro (hra3 k y hvk) (And.intro (rowC_cell RMM hi) (rowC_cell RMM hkn)))
          have c0 := (two_later hE HCU.out).1
          have hiI : (i : Int) < (n : Int) := by omega
          have hi0 : (0 : Int) ≤ (i : Int) := by omega
          clear hra2 hra3 hvi hvk hvl hk hmi hE
          rcases hk2 with ⟨h1, hke⟩ | ⟨h1, rfl⟩
          · have h1I : ((i : Int) + 1 == (n : Int)) = false := by rw [beq_eq_false_iff_ne]; omega
            have h2I : (i : Int) + 1 < (n : Int) := by omega
            have hto : ((i : Int) + 1).toNat = k := by omega
            have hi10 : (0 : Int) ≤ (i : Int) + 1 := by omega
            clear hke
            have HOR := Lib.hid (show bits .or .i64 (macc (metN ⟨Sm ++ Lp, Sm.length⟩ t0 c) Sm.length i : Int) (metN ⟨Sm ++ Lp, Sm.length⟩ t0 c i : Int) = ((macc (metN ⟨Sm ++ Lp, Sm.length⟩ t0 c) Sm.length i ||| metN ⟨Sm ++ Lp, Sm.length⟩ t0 c i : Nat) : Int) by
              have h6 : 2 ^ cntA t0.flat ≤ 2 ^ 6 := Nat.pow_le_pow_right (by omega) (by rw [HCN.out]; exact hN6)
              have h1 := metN_lt ⟨Sm ++ Lp, Sm.length⟩ t0 c i
              have h2 := macc_lt (metN_lt ⟨Sm ++ Lp, Sm.length⟩ t0 c) Sm.length i
              exact i64_or_nat _ _ (by omega) (by omega))
            have HMC := Lib.hid (show macc (metN ⟨Sm ++ Lp, Sm.length⟩ t0 c) Sm.length (i + 1) = if Sm.length ≤ i then macc (metN ⟨Sm ++ Lp, Sm.length⟩ t0 c) Sm.length i ||| metN ⟨Sm ++ Lp, Sm.length⟩ t0 c i else macc (metN ⟨Sm ++ Lp, Sm.length⟩ t0 c) Sm.length i from rfl)
            generalize macc (metN ⟨Sm ++ Lp, Sm.length⟩ t0 c) Sm.length i = ma at *
            generalize metN ⟨Sm ++ Lp, Sm.length⟩ t0 c i = mi at *
            have HAU := Lib.hid (show allU (folN ⟨Sm ++ Lp, Sm.length⟩ t0 c) (i + 1) = (allU (folN ⟨Sm ++ Lp, Sm.length⟩ t0 c) i && b0) by rw [← HB0.out]; rfl)
            generalize allU (folN ⟨Sm ++ Lp, Sm.length⟩ t0 c) i = au at *
            go_wp2_with fail
            go_region_held3 (fun w' => w'.cell? ⟨bA, oA + i, none⟩ = some x ∧ w'.cell? ⟨bA, oA + k, none⟩ = some y ∧ w'.cell? ⟨gM, i, none⟩ = some (.int .i64 (c i : Int)) ∧ w'.cell? ⟨gM, k, none⟩ = some (.int .i64 (c (k) : Int)))
              (first | exact cur4 | exact four_later (Below.drew (Ext.refl _)) cur4 | go_keep)
              (first
                | (go_at_call 28
                   refine (HFOL.out _ (by first | exact EW | exact Below.drew EW)).mono ?_
                   rintro e wn ⟨rfl, hE⟩
                   replace cur4 := four_later hE (four_later (Below.drew (Ext.refl _)) cur4)
                   have hEE : Ext wL wn := Ext.trans (Below.drew EW) hE
                   replace EW := hEE
                   clear hEE
                   replace RMM := own_ext RMM (Ext.trans (Below.drew (Ext.refl _)) hE)))
            go_wp2_with fail
            go_region_held3 (fun w' => w'.cell? ⟨bA, oA + i, none⟩ = some x ∧ w'.cell? ⟨bA, oA + k, none⟩ = some y ∧ w'.cell? ⟨gM, i, none⟩ = some (.int .i64 (c i : Int)) ∧ w'.cell? ⟨gM, k, none⟩ = some (.int .i64 (c (k) : Int)))
              (first | exact cur4 | exact four_later (Below.drew (Ext.refl _)) cur4 | go_keep)
              (first
                | (go_at_call 22
                   refine (HMET.out _ (by first | exact EW | exact Below.drew EW)).mono ?_
                   rintro e wn ⟨rfl, hE⟩
                   replace cur4 := four_later hE (four_later (Below.drew (Ext.refl _)) cur4)
                   have hEE : Ext wL wn := Ext.trans (Below.drew EW) hE
                   replace EW := hEE
                   clear hEE
                   replace RMM := own_ext RMM (Ext.trans (Below.drew (Ext.refl _)) hE)))
            have HEW := Lib.hid EW
            have c0 := (two_later EW HCU.out).1
            have HROW := Lib.hid RMM
            clear cur4 EW RMM
            go_upto_region 28 with fail
            obtain ⟨wF, rfl⟩ : ∃ wF : World, wF = wn := ⟨_, rfl⟩
            go_cut [19] (fun s19 wx => s19 = .bool (au && b0) ∧ wx = wF)
            case first =>
              cases au <;> cases b0
              all_goals
                go_wp2_with fail
                go_meet
                exact ⟨rfl, rfl⟩
            case rest =>
              obtain ⟨rfl, rfl⟩ := hcut
              have HA2 := Lib.hid (show Value.bool (au && b0) = .bool (allU (folN ⟨Sm ++ Lp, Sm.length⟩ t0 c) (i + 1)) by rw [HAU.out])
              generalize (au && b0) = ab at *
              by_cases hbi : Sm.length ≤ i
              · have hbI : (Sm.length : Int) ≤ (i : Int) := by omega
                have HM2 := Lib.hid (show macc (metN ⟨Sm ++ Lp, Sm.length⟩ t0 c) Sm.length (i + 1) = ma ||| mi by rw [HMC.out, if_pos hbi])
                have hor := HOR.out
                clear hbi
                go_wp2_with fail
                go_roundg (gk - 1)
                case measure => have := HMI.out; omega
                case rel => exact ⟨i + 1, by have := HMI.out; omega, by rw [HM2.out], HA2.out, by go_num, HEW.out, HROW.out⟩
              · have hbI : ¬ (Sm.length : Int) ≤ (i : Int) := by omega
                have HM2 := Lib.hid (show macc (metN ⟨Sm ++ Lp, Sm.length⟩ t0 c) Sm.length (i + 1) = ma by rw [HMC.out, if_neg hbi])
                clear hbi
                go_wp2_with fail
                go_roundg (gk - 1)
                case measure => have := HMI.out; omega
                case rel => exact ⟨i + 1, by have := HMI.out; omega, by rw [HM2.out], HA2.out, by go_num, HEW.out, HROW.out⟩
          · have h1I : ((i : Int) + 1 == (n : Int)) = true := by rw [beq_iff_eq]; omega
            have h2I : (Sm.length : Int) < (n : Int) := by omega
            have HOR := Lib.hid (show bits .or .i64 (macc (metN ⟨Sm ++ Lp, Sm.length⟩ t0 c) Sm.length i : Int) (metN ⟨Sm ++ Lp, Sm.length⟩ t0 c i : Int) = ((macc (metN ⟨Sm ++ Lp, Sm.length⟩ t0 c) Sm.length i ||| metN ⟨Sm ++ Lp, Sm.length⟩ t0 c i : Nat) : Int) by
              have h6 : 2 ^ cntA t0.flat ≤ 2 ^ 6 := Nat.pow_le_pow_right (by omega) (by rw [HCN.out]; exact hN6)
              have h1 := metN_lt ⟨Sm ++ Lp, Sm.length⟩ t0 c i
              have h2 := macc_lt (metN_lt ⟨Sm ++ Lp, Sm.length⟩ t0 c) Sm.length i
              exact i64_or_nat _ _ (by omega) (by omega))
            have HMC := Lib.hid (show macc (metN ⟨Sm ++ Lp, Sm.length⟩ t0 c) Sm.length (i + 1) = if Sm.length ≤ i then macc (metN ⟨Sm ++ Lp, Sm.length⟩ t0 c) Sm.length i ||| metN ⟨Sm ++ Lp, Sm.length⟩ t0 c i else macc (metN ⟨Sm ++ Lp, Sm.length⟩ t0 c) Sm.length i from rfl)
            generalize macc (metN ⟨Sm ++ Lp, Sm.length⟩ t0 c) Sm.length i = ma at *
            generalize metN ⟨Sm ++ Lp, Sm.length⟩ t0 c i = mi at *
            have HAU := Lib.hid (show allU (folN ⟨Sm ++ Lp, Sm.length⟩ t0 c) (i + 1) = (allU (folN ⟨Sm ++ Lp, Sm.length⟩ t0 c) i && b0) by rw [← HB0.out]; rfl)
            generalize allU (folN ⟨Sm ++ Lp, Sm.length⟩ t0 c) i = au at *
            go_wp2_with fail
            go_region_held3 (fun w' => w'.cell? ⟨bA, oA + i, none⟩ = some x ∧ w'.cell? ⟨bA, oA + Sm.length, none⟩ = some y ∧ w'.cell? ⟨gM, i, none⟩ = some (.int .i64 (c i : Int)) ∧ w'.cell? ⟨gM, Sm.length, none⟩ = some (.int .i64 (c (Sm.length) : Int)))
              (first | exact cur4 | exact four_later (Below.drew (Ext.refl _)) cur4 | go_keep)
              (first
                | (go_at_call 28
                   refine (HFOL.out _ (by first | exact EW | exact Below.drew EW)).mono ?_
                   rintro e wn ⟨rfl, hE⟩
                   replace cur4 := four_later hE (four_later (Below.drew (Ext.refl _)) cur4)
                   have hEE : Ext wL wn := Ext.trans (Below.drew EW) hE
                   replace EW := hEE
                   clear hEE
                   replace RMM := own_ext RMM (Ext.trans (Below.drew (Ext.refl _)) hE)))
            go_wp2_with fail
            go_region_held3 (fun w' => w'.cell? ⟨bA, oA + i, none⟩ = some x ∧ w'.cell? ⟨bA, oA + Sm.length, none⟩ = some y ∧ w'.cell? ⟨gM, i, none⟩ = some (.int .i64 (c i : Int)) ∧ w'.cell? ⟨gM, Sm.length, none⟩ = some (.int .i64 (c (Sm.length) : Int)))
              (first | exact cur4 | exact four_later (Below.drew (Ext.refl _)) cur4 | go_keep)
              (first
                | (go_at_call 22
                   refine (HMET.out _ (by first | exact EW | exact Below.drew EW)).mono ?_
                   rintro e wn ⟨rfl, hE⟩
                   replace cur4 := four_later hE (four_later (Below.drew (Ext.refl _)) cur4)
                   have hEE : Ext wL wn := Ext.trans (Below.drew EW) hE
                   replace EW := hEE
                   clear hEE
                   replace RMM := own_ext RMM (Ext.trans (Below.drew (Ext.refl _)) hE)))
            have HEW := Lib.hid EW
            have c0 := (two_later EW HCU.out).1
            have HROW := Lib.hid RMM
            clear cur4 EW RMM
            go_upto_region 28 with fail
            obtain ⟨wF, rfl⟩ : ∃ wF : World, wF = wn := ⟨_, rfl⟩
            go_cut [19] (fun s19 wx => s19 = .bool (au && b0) ∧ wx = wF)
            case first =>
              cases au <;> cases b0
              all_goals
                go_wp2_with fail
                go_meet
                exact ⟨rfl, rfl⟩
            case rest =>
              obtain ⟨rfl, rfl⟩ := hcut
              have HA2 := Lib.hid (show Value.bool (au && b0) = .bool (allU (folN ⟨Sm ++ Lp, Sm.length⟩ t0 c) (i + 1)) by rw [HAU.out])
              generalize (au && b0) = ab at *
              by_cases hbi : Sm.length ≤ i
              · have hbI : (Sm.length : Int) ≤ (i : Int) := by omega
                have HM2 := Lib.hid (show macc (metN ⟨Sm ++ Lp, Sm.length⟩ t0 c) Sm.length (i + 1) = ma ||| mi by rw [HMC.out, if_pos hbi])
                have hor := HOR.out
                clear hbi
                go_wp2_with fail
                go_roundg (gk - 1)
                case measure => have := HMI.out; omega
                case rel => exact ⟨i + 1, by have := HMI.out; omega, by rw [HM2.out], HA2.out, by go_num, HEW.out, HROW.out⟩
              · exfalso
                omega
        · have hiI : ¬ (i : Int) < (n : Int) := by omega
          have hin : i = n := by omega
          have hfin := HEND.out
          rw [← hin, ← HDI.out] at hfin
          have HEX2 := Lib.hid (HEE.out.trans hE)
          have hpc : ((2 ^ N : Nat) : Int) = (2 : Int) ^ N := by push_cast; rfl
          have hPN : PM = ((2 ^ N : Nat) : Int) := HPMN.out
          have hp1 := Nat.two_pow_pos N
          have hPP : ((macc (metN ⟨Sm ++ Lp, Sm.length⟩ t0 c) Sm.length i : Int) == PM - 1) = decide (macc (metN ⟨Sm ++ Lp, Sm.length⟩ t0 c) Sm.length i = 2 ^ N - 1) := by
            rw [Bool.eq_iff_iff, beq_iff_eq, decide_eq_true_eq, hPN]; omega
          have hw0 := HW0.out
          generalize decide (macc (metN ⟨Sm ++ Lp, Sm.length⟩ t0 c) Sm.length i = 2 ^ N - 1) = eqb at *
          generalize macc (metN ⟨Sm ++ Lp, Sm.length⟩ t0 c) Sm.length i = ma at *
          generalize allU (folN ⟨Sm ++ Lp, Sm.length⟩ t0 c) i = au at *
          clear hmi hE hin hpc hPN hp1 RMM HEND HDI
          cases au <;> cases eqb <;> cases dE
          all_goals first
            | exact absurd hfin (by decide)
            | (clear hfin
               go_wp2
               go_ret
               exact ⟨rfl, HEX2.out⟩)


end Go.Proofs.YtffjhhpikgodiaaDoor
