/- The law WordLoop. -/
import Derived.Test.YtffjhhpikgodiaaDoorWordL
import Derived.Test.YtffjhhpikgodiaaDoorShut
namespace Go.Proofs.YtffjhhpikgodiaaDoor
open Go.RowKit

def orF (f : Nat → Bool) (lo : Nat) : Nat → Bool
  | 0 => false
  | m + 1 => orF f lo m || f (lo + m)
def andF (f : Nat → Bool) (lo : Nat) : Nat → Bool
  | 0 => true
  | m + 1 => andF f lo m && f (lo + m)
theorem orF_iff (f : Nat → Bool) (lo : Nat) : ∀ m, orF f lo m = true ↔ ∃ j, lo ≤ j ∧ j < lo + m ∧ f j = true
  | 0 => by simp [orF]; intro j h1 h2; omega
  | m + 1 => by
    rw [orF, Bool.or_eq_true, orF_iff f lo m]
    constructor
    · rintro (⟨j, h1, h2, h3⟩ | h)
      · exact ⟨j, h1, by omega, h3⟩
      · exact ⟨lo + m, by omega, by omega, h⟩
    · rintro ⟨j, h1, h2, h3⟩
      by_cases e : j = lo + m
      · subst e; exact .inr h3
      · exact .inl ⟨j, h1, by omega, h3⟩
theorem andF_iff (f : Nat → Bool) (lo : Nat) : ∀ m, andF f lo m = true ↔ ∀ j, lo ≤ j → j < lo + m → f j = true
  | 0 => by simp [andF]; intro j h1 h2; omega
  | m + 1 => by
    rw [andF, Bool.and_eq_true, andF_iff f lo m]
    constructor
    · rintro ⟨h, h3⟩ j h1 h2
      by_cases e : j = lo + m
      · subst e; exact h3
      · exact h j h1 (by omega)
    · intro h
      exact ⟨fun j h1 h2 => h j h1 (by omega), h _ (by omega) (by omega)⟩
theorem fin_or (W : Wd) (v : Int) (f : Tm) (i : Nat) (hi : i < W.n) (hb : W.back < W.n) : satB W (.n1 17 v f) i = orF (satB W f) (min i W.back) (W.n - min i W.back) := by
  rw [Bool.eq_iff_iff, fin_loop W v f i hi hb, orF_iff]
  exact ⟨fun ⟨k, h1, h2, h⟩ => ⟨k, h1, by omega, h⟩, fun ⟨k, h1, h2, h⟩ => ⟨k, h1, by omega, h⟩⟩
theorem glo_and (W : Wd) (v : Int) (f : Tm) (i : Nat) (hi : i < W.n) (hb : W.back < W.n) : satB W (.n1 18 v f) i = andF (satB W f) (min i W.back) (W.n - min i W.back) := by
  rw [Bool.eq_iff_iff, glo_loop W v f i hi hb, andF_iff]
  exact ⟨fun h j h1 h2 => h j h1 (by omega), fun h j h1 h2 => h j h1 (by omega)⟩

set_option maxRecDepth 100000 in
set_option maxHeartbeats 8000000 in
theorem wordLoop_law (v0 : Value) (cs : Array Value) (W : World) (ht : Tab W) (h0 : Cells Tryd.prog W 22 [v0]) (hs : Cells Tryd.prog W 40 cs.toList) :
    Calls Tryd.prog 6 #[v0, .agg cs] W fun e w' => e = .returned (.bool true) ∧ Ext W w' := by
  obtain ⟨raw0, o0, hraw0⟩ := raw_for h0
  obtain ⟨aS, aL, cS, cL, S, L, rfl, hS, hL, iS, iL⟩ := spell_of hs
  have EE := ext_al (Ext.refl W) (Obj.cells #[.slice aS S.length cS, .slice aL L.length cL] 40)
  have TB := ht.ext EE
  have HWA := Lib.hid (word_any _ _ S L _ (hS.ext EE) (hL.ext EE) iS iL)
  have WOK := Lib.hid (word_ok S L)
  replace o0 := ops_ext o0 EE
  have M0 := Lib.hid (show ∀ w, Ops w v0 raw0 → Calls Tryd.prog 16 #[v0, .int .i64 3, .int .i64 2] w (fun e w' => ∃ v', e = .returned v' ∧ w'.ownsRow w.heap.size 51 2 v' (forO raw0 3 2).flat.length ((forO raw0 3 2).flat.flatMap opc) ∧ Ext w w') from fun w h => mkFormula v0 raw0 3 2 w h hraw0 (by omega) (by omega) (by omega))
  have F0 := Lib.hid (fm_for raw0 2)
  generalize forO raw0 3 2 = t0 at *
  have hs0 := F0.out.size
  have hSl : S.length = S.length := rfl
  generalize letsL S = Sm at *
  generalize loopW L = Lp at *
  obtain ⟨n, hn⟩ : ∃ n, (Sm ++ Lp).length = n := ⟨_, rfl⟩
  have hsum : (Sm.length : Int) + (Lp.length : Int) = (n : Int) := by rw [← hn, List.length_append]; push_cast; rfl
  have hbk : Sm.length < n := by have := WOK.out.l1; rw [← hn, List.length_append]; omega
  have hn24 : n ≤ 24 := by have := WOK.out.s12; have := WOK.out.l12; rw [← hn, List.length_append]; omega
  have HN := Lib.hid hn
  clear hn
  have HO := Lib.hid fun i (hi : i < n) => by have h := fin_or ⟨Sm ++ Lp, Sm.length⟩ 0 t0 i (by show i < (Sm ++ Lp).length; rw [HN.out]; exact hi) (by show Sm.length < (Sm ++ Lp).length; rw [HN.out]; exact hbk); rw [show (Wd.mk (Sm ++ Lp) Sm.length).n = n from HN.out] at h; exact h
  have HG := Lib.hid fun i (hi : i < n) => by have h := glo_and ⟨Sm ++ Lp, Sm.length⟩ 0 t0 i (by show i < (Sm ++ Lp).length; rw [HN.out]; exact hi) (by show Sm.length < (Sm ++ Lp).length; rw [HN.out]; exact hbk); rw [show (Wd.mk (Sm ++ Lp) Sm.length).n = n from HN.out] at h; exact h
  clear ht hs hS hL iS iL hSl h0 hraw0
  go_enter Tryd.func6, Tryd.ntmps6
  go_wp2_with fail
  generalize W.alloc (Obj.cells #[.slice aS S.length cS, .slice aL L.length cL] 40) = w0 at *
  refine HWA.out.mono ?_
  rintro e wn ⟨sv, lv, rfl, WW, hE⟩
  clear HWA
  replace o0 := ops_ext o0 hE
  replace TB := TB.ext hE
  replace EE := EE.trans hE
  clear hE
  obtain ⟨xsS, xeS, axS, cxS, rfl, xrS⟩ := WW.st
  obtain ⟨xsL, xeL, axL, cxL, rfl, xrL⟩ := WW.lp
  clear xeS xrS xeL xrL
  go_wp2_with fail
  have hE := ext_al (Ext.refl wn) (Obj.cells #[.slice axS Sm.length cxS, .slice axL Lp.length cxL] 43)
  have hbk := blk_new wn (Obj.cells #[.slice axS Sm.length cxS, .slice axL Lp.length cxL] 43)
  have c0 := blk_cell hbk (i := 0) (v := .slice axS Sm.length cxS) rfl
  have c1 := blk_cell hbk (i := 1) (v := .slice axL Lp.length cxL) rfl
  clear hbk
  generalize hwB : wn.heap.size = wB at *
  clear hwB
  generalize hwn : wn.alloc (Obj.cells #[.slice axS Sm.length cxS, .slice axL Lp.length cxL] 43) = wn2 at *
  clear hwn
  have cur := And.intro c0 c1
  clear c0 c1
  replace o0 := ops_ext o0 hE
  replace WW := WW.ext hE
  replace TB := TB.ext hE
  replace EE := EE.trans hE
  clear hE
  refine (M0.out _ o0).mono ?_
  rintro e wn ⟨u0, rfl, hown, hE⟩
  have A0 := isT_own hown
  obtain ⟨a0, m0, c0, rfl⟩ := A0.val
  clear hown o0 M0
  replace WW := WW.ext hE
  replace TB := TB.ext hE
  replace cur := two_later hE cur
  replace EE := EE.trans hE
  clear hE
  have q0 := cur.1
  have q1 := cur.2
  go_wp2_with fail
  clear q0 q1
  refine (moments_any _ _ _ _ Sm Lp 3 _ A0 TB ((F0.out).isF (by omega) (by omega)) WW WOK.out n HN.out).mono ?_
  rintro e wn ⟨R, rfl, Ra, hE⟩
  replace WW := WW.ext hE
  replace A0 := A0.ext hE
  replace TB := TB.ext hE
  replace cur := two_later hE cur
  replace EE := EE.trans hE
  clear hE
  obtain ⟨Ba, rfl⟩ : ∃ z, z = R := ⟨_, rfl⟩
  go_wp2_with fail
  go_region_held3 (fun w' => w'.cell? ⟨wB, 0, none⟩ = some (.slice axS Sm.length cxS) ∧ w'.cell? ⟨wB, 1, none⟩ = some (.slice axL Lp.length cxL))
    (first | exact cur | exact two_drew cur | exact two_alloc cur | exact two_drew (two_alloc cur) | exact two_drew (two_alloc (two_alloc cur)) | go_keep)
    (first
      | (go_at_call 21
         refine (joinD1 17 _ _ _ _ A0 (by first | omega | (simp only [Tm.size]; omega))).mono ?_
         rintro e wn ⟨vj, rfl, J1, hE⟩
         obtain ⟨ajJ1, mjJ1, cjJ1, rfl⟩ := J1.val
         replace WW := WW.ext hE
         replace A0 := A0.ext hE
         replace Ra := own_ext Ra hE
         replace TB := TB.ext hE
         replace cur := two_later hE cur
         replace EE := EE.trans hE
         clear hE)
      | (go_at_call 24
         refine (moments_any _ _ _ _ Sm Lp 3 _ J1 TB ((F0.out.one 17 18 3 (.inr ⟨by omega, by omega⟩) (by omega)).isF (by omega) (by omega)) WW WOK.out n HN.out).mono ?_
         rintro e wn ⟨R, rfl, Ro, hE⟩
         replace WW := WW.ext hE
         replace A0 := A0.ext hE
         replace Ra := own_ext Ra hE
         replace TB := TB.ext hE
         replace cur := two_later hE cur
         replace EE := EE.trans hE
         clear hE
         obtain ⟨Bo, rfl⟩ : ∃ z, z = R := ⟨_, rfl⟩
         clear J1))
  go_wp2_with fail
  go_region_held3 (fun w' => w'.cell? ⟨wB, 0, none⟩ = some (.slice axS Sm.length cxS) ∧ w'.cell? ⟨wB, 1, none⟩ = some (.slice axL Lp.length cxL))
    (first | exact cur | exact two_drew cur | exact two_alloc cur | exact two_drew (two_alloc cur) | exact two_drew (two_alloc (two_alloc cur)) | go_keep)
    (first
      | (go_at_call 21
         refine (joinD1 18 _ _ _ _ A0 (by first | omega | (simp only [Tm.size]; omega))).mono ?_
         rintro e wn ⟨vj, rfl, J1, hE⟩
         obtain ⟨ajJ1, mjJ1, cjJ1, rfl⟩ := J1.val
         replace WW := WW.ext hE
         replace A0 := A0.ext hE
         replace Ra := own_ext Ra hE
         replace Ro := own_ext Ro hE
         replace TB := TB.ext hE
         replace cur := two_later hE cur
         replace EE := EE.trans hE
         clear hE)
      | (go_at_call 24
         refine (moments_any _ _ _ _ Sm Lp 3 _ J1 TB ((F0.out.one 18 18 3 (.inr ⟨by omega, by omega⟩) (by omega)).isF (by omega) (by omega)) WW WOK.out n HN.out).mono ?_
         rintro e wn ⟨R, rfl, Rl, hE⟩
         replace WW := WW.ext hE
         replace A0 := A0.ext hE
         replace Ra := own_ext Ra hE
         replace Ro := own_ext Ro hE
         replace TB := TB.ext hE
         replace cur := two_later hE cur
         replace EE := EE.trans hE
         clear hE
         obtain ⟨Bl, rfl⟩ : ∃ z, z = R := ⟨_, rfl⟩
         clear J1))
  have HRa := Lib.hid Ra
  have HRo := Lib.hid Ro
  have HRl := Lib.hid Rl
  have HEE := Lib.hid EE
  have HCU := Lib.hid cur
  have c0 := cur.1
  have c1 := cur.2
  clear EE cur TB WW A0 Ra Ro Rl
  go_wp2_with fail
  obtain ⟨wL, rfl⟩ : ∃ wL, wL = wn := ⟨_, rfl⟩
  clear hsum c1
  go_loopg [13] n (fun m x wr => ∃ i : Nat, m + i = n ∧ x = .int .i64 (i : Int) ∧ wr = wL)
  case atStart => exact ⟨0, by omega, by go_num, rfl⟩
  case round =>
    obtain ⟨i, hmi, rfl, rfl⟩ := hrel
    have HMI := Lib.hid hmi
    obtain ⟨G0, rfl⟩ : ∃ G0 : Nat, G0 = gk := ⟨_, rfl⟩
    by_cases hi : i < n
    · have ho := HO.out i hi
      have hg := HG.out i hi
      have co := rowF_cell HRo.out hi
      have cl := rowF_cell HRl.out hi
      rw [ho] at co
      rw [hg] at cl
      have hiI : (i : Int) < (n : Int) := by omega
      have hi0 : (0 : Int) ≤ (i : Int) := by omega
      obtain ⟨lo, hlo⟩ : ∃ lo, min i Sm.length = lo := ⟨_, rfl⟩
      rw [show min i (Wd.mk (Sm ++ Lp) Sm.length).back = lo from hlo] at co cl
      have hlon : lo ≤ n := by omega
      have HCO := Lib.hid co
      have HCL := Lib.hid cl
      have hcase : (lo = i ∧ (i : Int) ≤ (Sm.length : Int)) ∨ (lo = Sm.length ∧ ¬ (i : Int) ≤ (Sm.length : Int)) := by omega
      clear ho hg hmi co cl hlo
      rcases hcase with ⟨rfl, hle⟩ | ⟨rfl, hle⟩
      · go_wp2_with fail
        generalize satB ⟨Sm ++ Lp, Sm.length⟩ t0 = f at *
        obtain ⟨wo, rfl⟩ : ∃ wo : World, wo = wr := ⟨_, rfl⟩
        go_loopg [14, 15, 16] (n - lo) (fun m s14 s15 s16 wx => ∃ c : Nat, m + c = n - lo ∧ s14 = .bool (orF f (lo) c) ∧ s15 = .bool (andF f (lo) c) ∧ s16 = .int .i64 ((lo + c : Nat) : Int) ∧ wx = wo)
        case atStart => exact ⟨0, by omega, rfl, rfl, by rw [Nat.add_zero], rfl⟩
        case round =>
          obtain ⟨c, hmc, rfl, rfl, rfl, rfl⟩ := hrel
          have HMC := Lib.hid hmc
          by_cases hc : lo + c < n
          · have ca := rowF_cell HRa.out hc
            have HX := Lib.hid (show orF f (lo) (c + 1) = (orF f (lo) c || f (lo + c)) from rfl)
            have HY := Lib.hid (show andF f (lo) (c + 1) = (andF f (lo) c && f (lo + c)) from rfl)
            have hcI : ((lo + c : Nat) : Int) < (n : Int) := by omega
            have hc0 : (0 : Int) ≤ ((lo + c : Nat) : Int) := by omega
            have HNX := Lib.hid (show ((lo + c : Nat) : Int) + 1 = ((lo + (c + 1) : Nat) : Int) by omega)
            have HC1 := Lib.hid (show gk - 1 + (c + 1) = n - lo by omega)
            have HG1 := Lib.hid (show gk - 1 < gk by omega)
            generalize f (lo + c) = z at *
            generalize orF f (lo) c = x at *
            generalize andF f (lo) c = y at *
            clear hmc HMC hc
            generalize lo + c = lc at *
            cases x
            all_goals cases y
            all_goals
              go_wp2_with fail
              go_roundg (gk - 1)
              case measure => exact HG1.out
              case rel => exact ⟨c + 1, HC1.out, by rw [HX.out]; simp, by rw [HY.out]; simp, by rw [← HNX.out], rfl⟩
          · have hcI : ¬ ((lo + c : Nat) : Int) < (n : Int) := by omega
            obtain rfl : c = n - lo := by omega
            have co := HCO.out
            have cl := HCL.out
            generalize orF f (lo) (n - lo) = x at *
            generalize andF f (lo) (n - lo) = y at *
            clear hmc HMC hc
            go_wp2_with fail
            go_roundg (G0 - 1)
            case measure => have := HMI.out; omega
            case rel => exact ⟨lo + 1, by have := HMI.out; omega, by go_num, rfl⟩
      · go_wp2_with fail
        generalize satB ⟨Sm ++ Lp, Sm.length⟩ t0 = f at *
        obtain ⟨wo, rfl⟩ : ∃ wo : World, wo = wr := ⟨_, rfl⟩
        go_loopg [14, 15, 16] (n - Sm.length) (fun m s14 s15 s16 wx => ∃ c : Nat, m + c = n - Sm.length ∧ s14 = .bool (orF f (Sm.length) c) ∧ s15 = .bool (andF f (Sm.length) c) ∧ s16 = .int .i64 ((Sm.length + c : Nat) : Int) ∧ wx = wo)
        case atStart => exact ⟨0, by omega, rfl, rfl, by rw [Nat.add_zero], rfl⟩
        case round =>
          obtain ⟨c, hmc, rfl, rfl, rfl, rfl⟩ := hrel
          have HMC := Lib.hid hmc
          by_cases hc : Sm.length + c < n
          · have ca := rowF_cell HRa.out hc
            have HX := Lib.hid (show orF f (Sm.length) (c + 1) = (orF f (Sm.length) c || f (Sm.length + c)) from rfl)
            have HY := Lib.hid (show andF f (Sm.length) (c + 1) = (andF f (Sm.length) c && f (Sm.length + c)) from rfl)
            have hcI : ((Sm.length + c : Nat) : Int) < (n : Int) := by omega
            have hc0 : (0 : Int) ≤ ((Sm.length + c : Nat) : Int) := by omega
            have HNX := Lib.hid (show ((Sm.length + c : Nat) : Int) + 1 = ((Sm.length + (c + 1) : Nat) : Int) by omega)
            have HC1 := Lib.hid (show gk - 1 + (c + 1) = n - Sm.length by omega)
            have HG1 := Lib.hid (show gk - 1 < gk by omega)
            generalize f (Sm.length + c) = z at *
            generalize orF f (Sm.length) c = x at *
            generalize andF f (Sm.length) c = y at *
            clear hmc HMC hc
            generalize Sm.length + c = lc at *
            cases x
            all_goals cases y
            all_goals
              go_wp2_with fail
              go_roundg (gk - 1)
              case measure => exact HG1.out
              case rel => exact ⟨c + 1, HC1.out, by rw [HX.out]; simp, by rw [HY.out]; simp, by rw [← HNX.out], rfl⟩
          · have hcI : ¬ ((Sm.length + c : Nat) : Int) < (n : Int) := by omega
            obtain rfl : c = n - Sm.length := by omega
            have co := HCO.out
            have cl := HCL.out
            generalize orF f (Sm.length) (n - Sm.length) = x at *
            generalize andF f (Sm.length) (n - Sm.length) = y at *
            clear hmc HMC hc
            go_wp2_with fail
            go_roundg (G0 - 1)
            case measure => have := HMI.out; omega
            case rel => exact ⟨i + 1, by have := HMI.out; omega, by go_num, rfl⟩
    · have hiI : ¬ (i : Int) < (n : Int) := by omega
      clear hmi
      go_wp2
      go_ret
      exact ⟨rfl, HEE.out⟩


end Go.Proofs.YtffjhhpikgodiaaDoor
