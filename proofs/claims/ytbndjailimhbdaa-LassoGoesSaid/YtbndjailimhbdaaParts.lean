/- The contract of scc.Parts. -/
import Derived.Test.YtbndjailimhbdaaGoOn
import Derived.Deep.DeepCutAuto
namespace Go.Proofs.Ytbndjailimhbdaa
open Go.RowKit

def zeros (n : Nat) : Obj := .cells (madeCells #[Value.int .i64 0] (n * 1)) 3 (0, 0)
theorem made_zero (n : Nat) : (madeCells #[Value.int .i64 0] (n * 1)).toList = (lst n fun _ => 0).map (.int .i64) := by
  rw [Nat.mul_one, toList_madeCells_one]
  simp [lst, List.map_const']
theorem lstI_zero (n : Nat) : lst n (fun _ => 0) = lstI n fun _ => 0 := rfl

/-- Behind the three makes, in whatever order they came. -/
theorem sm_made (w : World) (n i j k : Nat) (g0 g1 g2 g3 g4 : Value) (hn : n ≤ 20000) (hi : i < 3) (hj : j < 3) (hk : k < 3) (h1 : i ≠ j) (h2 : i ≠ k) (h3 : j ≠ k) :
    ∃ τ, SM τ w.heap.size (w.heap.size + 3) n (w.heap.size + i) (w.heap.size + j) (w.heap.size + k) g0 g1 g2 g3 g4
      ((((w.alloc (zeros n)).alloc (zeros n)).alloc (zeros n)).alloc (.cells #[g0, g1, g2, g3, g4, .slice (some ⟨w.heap.size + i, 0, none⟩) n n, .slice (some ⟨w.heap.size + j, 0, none⟩) n n, .slice (some ⟨w.heap.size + k, 0, none⟩) n n, .slice none 0 0, .slice none 0 0, .int .i64 0] 57)) (.slice none 0 0) (.slice none 0 0) (lst n fun _ => 0) (lst n fun _ => 0) (lstI n fun _ => 0) [] [] 0 := by
  have hmax : n ≤ maxLen := by unfold maxLen; omega
  have ho : ∀ (d : Nat), d < 3 → ∀ o : Obj, ((((w.alloc (zeros n)).alloc (zeros n)).alloc (zeros n)).alloc o).ownsRow w.heap.size 3 1 (.slice (some ⟨w.heap.size + d, 0, none⟩) n n) n ((lst n fun _ => 0).map (.int .i64)) := by
    intro d hd o
    rw [← made_zero]
    have hs := size_madeCells #[Value.int .i64 0] (n * 1)
    rcases (by omega : d = 0 ∨ d = 1 ∨ d = 2) with rfl | rfl | rfl
    · exact (((World.ownsRow_lit (base := w.heap.size) (e := 3) w _ n (Nat.le_refl _) hmax hs).alloc _).alloc _).alloc _
    · have := World.ownsRow_lit (base := w.heap.size) (e := 3) (w.alloc (zeros n)) _ n (by simp) hmax hs
      rw [show (w.alloc (zeros n)).heap.size = w.heap.size + 1 by simp] at this
      exact (this.alloc _).alloc _
    · have := World.ownsRow_lit (base := w.heap.size) (e := 3) ((w.alloc (zeros n)).alloc (zeros n)) _ n (by simp; omega) hmax hs
      rw [show ((w.alloc (zeros n)).alloc (zeros n)).heap.size = w.heap.size + 2 by simp] at this
      exact this.alloc _
  have hb := blk_new (((w.alloc (zeros n)).alloc (zeros n)).alloc (zeros n)) (.cells #[g0, g1, g2, g3, g4, .slice (some ⟨w.heap.size + i, 0, none⟩) n n, .slice (some ⟨w.heap.size + j, 0, none⟩) n n, .slice (some ⟨w.heap.size + k, 0, none⟩) n n, .slice none 0 0, .slice none 0 0, .int .i64 0] 57)
  rw [show (((w.alloc (zeros n)).alloc (zeros n)).alloc (zeros n)).heap.size = w.heap.size + 3 by simp] at hb
  refine ⟨fun b => if b = w.heap.size + i then 1 else if b = w.heap.size + j then 2 else if b = w.heap.size + k then 3 else 0, hb, ⟨ho i hi _, fun b hb => ?_⟩, ⟨ho j hj _, fun b hb => ?_⟩, ⟨ho k hk _, fun b hb => ?_⟩, OwnT.nil _ _ _ _ _ _, OwnT.nil _ _ _ _ _ _, ?_, by omega⟩
  · simp only [Value.ownBlock, Option.some.injEq] at hb
    rw [if_pos hb.symm]
  · simp only [Value.ownBlock, Option.some.injEq] at hb
    rw [if_neg (by omega), if_pos hb.symm]
  · simp only [Value.ownBlock, Option.some.injEq] at hb
    rw [if_neg (by omega), if_neg (by omega), if_pos hb.symm]
  · show (if w.heap.size + 3 = _ then 1 else _) = 0
    rw [if_neg (by omega), if_neg (by omega), if_neg (by omega)]

theorem Parts_first (w : World) (n i j k : Nat) (g0 g1 g2 g3 g4 : Value) (hn : n ≤ 20000) (hi : i < 3) (hj : j < 3) (hk : k < 3) (h1 : i ≠ j) (h2 : i ≠ k) (h3 : j ≠ k) :
    ∃ (τ : Nat → Nat) (Do Dl Dp : Nat), Value.pointer (some ⟨w.heap.size + 1 + 1 + 1, 0, none⟩) = .pointer (some ⟨w.heap.size + 3, 0, none⟩) ∧ SM τ w.heap.size (w.heap.size + 3) n Do Dl Dp g0 g1 g2 g3 g4
      ((((w.alloc (zeros n)).alloc (zeros n)).alloc (zeros n)).alloc (.cells #[g0, g1, g2, g3, g4, .slice (some ⟨w.heap.size + i, 0, none⟩) n n, .slice (some ⟨w.heap.size + j, 0, none⟩) n n, .slice (some ⟨w.heap.size + k, 0, none⟩) n n, .slice none 0 0, .slice none 0 0, .int .i64 0] 57)).drew (.slice none 0 0) (.slice none 0 0) (lst n fun _ => 0) (lst n fun _ => 0) (lstI n fun _ => 0) [] [] 0 ∧
      Ext w ((((w.alloc (zeros n)).alloc (zeros n)).alloc (zeros n)).alloc (.cells #[g0, g1, g2, g3, g4, .slice (some ⟨w.heap.size + i, 0, none⟩) n n, .slice (some ⟨w.heap.size + j, 0, none⟩) n n, .slice (some ⟨w.heap.size + k, 0, none⟩) n n, .slice none 0 0, .slice none 0 0, .int .i64 0] 57)).drew := by
  obtain ⟨τ, h⟩ := sm_made w n i j k g0 g1 g2 g3 g4 hn hi hj hk h1 h2 h3
  exact ⟨τ, _, _, _, rfl, h.ext (Below.drew (Ext.refl _)), Below.drew (ext_al (ext_al (ext_al (ext_al (Ext.refl _) _) _) _) _)⟩

theorem minus_upd (i : Nat) : upd (fun a => if a < i then (-1 : Int) else 0) i (-1) = fun a => if a < i + 1 then (-1 : Int) else 0 := by
  funext a
  unfold upd
  by_cases e : a = i
  · subst e; rw [if_pos rfl, if_pos (by omega)]
  · rw [if_neg e]
    by_cases h : a < i
    · simp only; rw [if_pos h, if_pos (by omega)]
    · simp only; rw [if_neg h, if_neg (by omega)]
theorem lstI_minus (n : Nat) : lstI n (fun a => if a < n then (-1 : Int) else 0) = lstI n fun _ => -1 := by
  unfold lstI
  exact List.map_congr_left fun a ha => by rw [if_pos (List.mem_range.1 ha)]

/-- What Parts leaves. -/
def PartsPost (n : Nat) (next : List (List Int)) (w : World) (e : Ending) (w' : World) : Prop :=
  ∃ (D : Nat) (part : Nat → Int), e = .returned (.tuple #[.slice (some ⟨D, 0, none⟩) n n, .int .i64 0]) ∧ w'.ownsRow w.heap.size 3 1 (.slice (some ⟨D, 0, none⟩) n n) n ((lstI n part).map (.int .i64)) ∧ (∀ a, a < n → PartOk next part a) ∧ Ext w w'

set_option maxRecDepth 100000 in
set_option maxHeartbeats 8000000 in
theorem parts_any (sp nx st : Value) (init : Nat) (M : Nat) (S : List Sp2) (next : List (List Int)) (sets : List Int) (w : World) (hS : Spots w sp S) (hN : Lists w nx next) (hT : Ints w st sets) (hk : GOk S.length next sets init M) :
    Calls Try.prog 9 #[.agg #[sp, .int .i64 (init : Int), nx, st, .int .i64 (M : Int)]] w (PartsPost S.length next w) := by
  have HCK := Lib.hid fun wx (hx : Ext w wx) => gcheck_ok sp nx st init M S next sets wx (hS.ext hx) (hN.ext hx) (hT.ext hx) hk
  obtain ⟨asp, csp, rfl, _⟩ := hS
  obtain ⟨ax, cx, rfl⟩ : ∃ a c, nx = .slice a next.length c := by
    obtain ⟨vs, he, a, c, rfl, _⟩ := hN
    exact ⟨a, c, rfl⟩
  obtain ⟨at', ct, rfl, hrt⟩ := hT
  have HLN := Lib.hid fun wx (hx : Ext w wx) => hN.ext hx
  have HI := Lib.hid hk.ins
  have HN := Lib.hid hk.nx
  have h20 := hk.max
  generalize S.length = n at *
  obtain ⟨i0, hi1, hi2, hi3, hi4⟩ := Try.slIntsG.inf
  have hmk : ∀ wx : World, (Instr.makeSlice 23 (.int .i64 (n : Int)) (.int .i64 (n : Int))).run Try.prog wx = .ok (.slice (some ⟨wx.heap.size, 0, none⟩) n n) (wx.alloc (zeros n)) := by
    intro wx
    have h := run_make (P := Try.prog) wx 23 3 i0 (.int .i64 0) Try.slIntsG.und hi1 hi2 .i64 .i64 n n (by omega) (Int.le_refl _) (by rw [hi4]; omega) (by omega)
    rw [hi3] at h
    simpa [zeros, Value.cells] using h
  clear hN hk hrt hi1 hi2 hi3 hi4
  go_enter Try.func9, Try.ntmps9
  go_wp2_with fail
  refine (HCK.out _ (ext_al (Ext.refl w) _)).mono ?_
  rintro e w1 ⟨rfl, hE1⟩
  have hA : Ext w (w.alloc (Obj.cells #[.slice asp n csp, .int .i64 (init : Int), .slice ax next.length cx, .slice at' sets.length ct, .int .i64 (M : Int)] 28)) := ext_al (Ext.refl w) _
  have bA := blk_ext (blk_new w (Obj.cells #[.slice asp n csp, .int .i64 (init : Int), .slice ax next.length cx, .slice at' sets.length ct, .int .i64 (M : Int)] 28)) hE1
  have cA0 := blk_cell bA (i := 0) rfl
  have cA1 := blk_cell bA (i := 1) rfl
  have cA2 := blk_cell bA (i := 2) rfl
  have cA3 := blk_cell bA (i := 3) rfl
  have cA4 := blk_cell bA (i := 4) rfl
  have HE1 := Lib.hid (hA.trans hE1)
  have hs1 : w.heap.size < w1.heap.size := blk_lt bA
  clear hA bA hE1 HCK
  go_wp2_with fail
  have hce : ∀ wx, Ext w1 wx → ∀ i, wx.cell? ⟨w.heap.size, i, none⟩ = w1.cell? ⟨w.heap.size, i, none⟩ := fun wx h i => by simp only [World.cell?]; rw [h.block _ hs1]
  have he1 := hce (w1.alloc (zeros n)) (ext_al (Ext.refl _) _)
  have he2 := hce ((w1.alloc (zeros n)).alloc (zeros n)) (ext_al (ext_al (Ext.refl _) _) _)
  have he3 := hce (((w1.alloc (zeros n)).alloc (zeros n)).alloc (zeros n)) (ext_al (ext_al (ext_al (Ext.refl _) _) _) _)
  clear hce
  go_cut [6] (fun s6 wx => ∃ (τ : Nat → Nat) (Do Dl Dp : Nat), s6 = .pointer (some ⟨w1.heap.size + 3, 0, none⟩) ∧ SM τ w1.heap.size (w1.heap.size + 3) n Do Dl Dp (.slice asp n csp) (.int .i64 (init : Int)) (.slice ax next.length cx) (.slice at' sets.length ct) (.int .i64 (M : Int)) wx (.slice none 0 0) (.slice none 0 0) (lst n fun _ => 0) (lst n fun _ => 0) (lstI n fun _ => 0) [] [] 0 ∧ Ext w1 wx)
  case first =>
    go_region
    all_goals
      go_wp2_with fail
      go_meet
      first
        | exact Parts_first w1 n 0 1 2 _ _ _ _ _ h20 (by omega) (by omega) (by omega) (by omega) (by omega) (by omega)
        | exact Parts_first w1 n 0 2 1 _ _ _ _ _ h20 (by omega) (by omega) (by omega) (by omega) (by omega) (by omega)
        | exact Parts_first w1 n 1 0 2 _ _ _ _ _ h20 (by omega) (by omega) (by omega) (by omega) (by omega) (by omega)
        | exact Parts_first w1 n 1 2 0 _ _ _ _ _ h20 (by omega) (by omega) (by omega) (by omega) (by omega) (by omega)
        | exact Parts_first w1 n 2 0 1 _ _ _ _ _ h20 (by omega) (by omega) (by omega) (by omega) (by omega) (by omega)
        | exact Parts_first w1 n 2 1 0 _ _ _ _ _ h20 (by omega) (by omega) (by omega) (by omega) (by omega) (by omega)
  case rest =>
    obtain ⟨τ, Do, Dl, Dp, rfl, hm, hE⟩ := hcut
    clear cA0 cA1 cA2 cA3 cA4 he1 he2 he3 hmk
    have c7 := blk_cell hm.blk (i := 7) rfl
    have HB := Lib.hid (show w.heap.size ≤ w1.heap.size by omega)
    generalize w1.heap.size + 3 = P at *
    have HE := Lib.hid (hE.mono HB.out)
    have HM := Lib.hid hm
    clear hm hE hs1
    go_wp2_with fail
    clear c7
    generalize w1.heap.size = B at *
    generalize Value.slice asp n csp = g0 at *
    generalize Value.slice at' sets.length ct = g3 at *
    have HEW := Lib.hid (Below.trans HE1.out HE.out)
    go_loopg [31] n (fun m x wr => ∃ (i : Nat) (τ : Nat → Nat), m + i = n ∧ x = .int .i64 (i : Int) ∧ SM τ B P n Do Dl Dp g0 (.int .i64 (init : Int)) (.slice ax next.length cx) g3 (.int .i64 (M : Int)) wr (.slice none 0 0) (.slice none 0 0) (lst n fun _ => 0) (lst n fun _ => 0) (lstI n fun a => if a < i then -1 else 0) [] [] 0 ∧ Ext w wr)
    case atStart => exact ⟨0, τ, by omega, by go_num, by simpa using HM.out, HEW.out⟩
    case round =>
      obtain ⟨i, τ, hmi, rfl, hm, hE⟩ := hrel
      clear HM HEW
      have c7 := blk_cell hm.blk (i := 7) rfl
      have HE := Lib.hid hE
      have HMI := Lib.hid hmi
      by_cases hi : i < n
      · have hil : i < (lstI n fun a => if a < i then -1 else 0).length := by rw [lstI_len]; exact hi
        obtain ⟨y, cp⟩ : ∃ y, wr.cell? ⟨Dp, i, none⟩ = some (.int .i64 y) := ⟨_, (own_cellAt hm.prt.own (i := i) (by simpa using hil)).trans (by rw [List.getElem_map])⟩
        have fp := own_freeAt hm.prt.own i
        have hiI : (i : Int) < (n : Int) := by omega
        have hi0 : (0 : Int) ≤ (i : Int) := by omega
        have HM2 := Lib.hid (hm.setPrt i (-1))
        have HE2 := Lib.hid (ext_st hE (p := ⟨Dp, i, none⟩) (by have := hm.bases.2.2; have := HB.out; show w.heap.size ≤ Dp; omega) (.int .i64 (-1)))
        clear hm hE hmi
        go_wp2_with fail
        go_roundg (gk - 1)
        case measure => have := HMI.out; omega
        case rel => exact ⟨i + 1, τ, by have := HMI.out; omega, by go_num, by have h := HM2.out; rw [lstI_upd n _ _ hi, minus_upd] at h; exact h, HE2.out⟩
      · have hiI : ¬ (i : Int) < (n : Int) := by omega
        have hin : i = n := by have := HMI.out; omega
        have hm2 : TSM τ B P n Do Dl Dp g0 (.int .i64 (init : Int)) (.slice ax next.length cx) g3 (.int .i64 (M : Int)) wr ⟨fun _ => 0, fun _ => 0, fun _ => -1, [], [], 0⟩ := ⟨_, _, by have h := hm; rw [hin, lstI_minus] at h; exact h⟩
        have HM2 := Lib.hid hm2
        clear hm hE hmi hm2 hin
        go_wp2_with fail
        clear c7 hiI hi HMI
        obtain ⟨wo, rfl⟩ : ∃ wo : World, wo = wr := ⟨_, rfl⟩
        go_loopg [42] n (fun m x wr => ∃ (i : Nat) (τ : Nat → Nat) (s : TS), m + i = n ∧ x = .int .i64 (i : Int) ∧ TSM τ B P n Do Dl Dp g0 (.int .i64 (init : Int)) (.slice ax next.length cx) g3 (.int .i64 (M : Int)) wr s ∧
          TInv n next s none ∧ s.cs = [] ∧ s.met + unm n s.ord = n ∧ (∀ a, a < i → s.ord a ≠ 0) ∧ Ext w wr)
        case atStart => exact ⟨0, τ, _, by omega, by go_num, HM2.out, TInv.init n next, rfl, by rw [unm_init]; simp, fun a ha => by omega, HE.out⟩
        case round =>
          obtain ⟨i, τ, s, hmi, rfl, hm, hti, hcs, hcnt, hal, hE⟩ := hrel
          clear HM2 HE
          obtain ⟨vo, vc, hs⟩ := hm.mem
          have c5 := blk_cell hs.blk (i := 5) rfl
          have c7 := blk_cell hs.blk (i := 7) rfl
          have HE := Lib.hid hE
          have HMI := Lib.hid hmi
          have HM := Lib.hid hm
          have HS := Lib.hid hs
          have HTI := Lib.hid hti
          have HCS := Lib.hid hcs
          have HCNT := Lib.hid hcnt
          have HAL := Lib.hid hal
          by_cases hi : i < n
          · have hil : i < (lst n s.ord).length := by rw [lst_len]; exact hi
            have co : wr.cell? ⟨Do, i, none⟩ = some (.int .i64 (s.ord i : Int)) := (own_cellAt hs.ord.own (i := i) (by simpa using hil)).trans (by
              have e := lst_get n s.ord hi
              rw [List.getElem?_eq_getElem hil] at e
              rw [List.getElem_map, Option.some.inj e])
            have hiI : (i : Int) < (n : Int) := by omega
            have hi0 : (0 : Int) ≤ (i : Int) := by omega
            clear hs hm hti hcs hcnt hal hE hmi c7
            by_cases hz : s.ord i = 0
            case' pos =>
              have hzb : ((s.ord i : Int) == 0) = true := by simp [hz]
              have HZ := Lib.hid hz
              clear hz
              have hlen : (osL s.os).length ≤ 20000 := by
                rw [osL_len]
                have := pairwise_len HTI.out.bnd HTI.out.oso
                omega
              have hrlen : (csL s.cs).length ≤ 20000 := by rw [HCS.out]; simp [csL]
              have HEN := Lib.hid (enter_any τ B P n Do Dl Dp g0 _ _ g3 _ _ vo vc _ _ _ _ _ _ HS.out i hi hlen hrlen (by omega) (by have := HCNT.out; omega))
              clear hlen hrlen
              go_wp2_with fail
              refine HEN.out.mono ?_
              rintro e w' ⟨rfl, ⟨τ', vo', vc', hS⟩, hB⟩
              have HS2 := Lib.hid hS
              have HE2 := Lib.hid (Below.trans HE.out (hB.mono HB.out))
              have hz := HZ.out
              have HTI2 := Lib.hid ((TInv.weak HTI.out).enter hz hi (fun p hp => by rw [HCS.out] at hp; simp at hp))
              have HM2 := Lib.hid (show TSM τ' B P n Do Dl Dp g0 (.int .i64 (init : Int)) (.slice ax next.length cx) g3 (.int .i64 (M : Int)) w' ⟨upd s.ord i (s.met + 1), upd s.low i (s.met + 1), s.part, i :: s.os, (i, 0) :: s.cs, s.met + 1⟩ from ⟨vo', vc', by
                have h := HS2.out
                rw [show ((s.met : Int) + 1) = ((s.met + 1 : Nat) : Int) by omega, lst_upd n s.ord _ hi, lst_upd n s.low _ hi, ← osL_cons] at h
                have e : csL ((i, 0) :: s.cs) = csL s.cs ++ [((i : Int), 0)] := by rw [csL_cons]; simp
                rw [← e] at h
                exact h⟩)
              have HCNT2 := Lib.hid (show s.met + 1 + unm n (upd s.ord i (s.met + 1)) = n by
                have := unm_enter (m := s.met) hz hi
                have := HCNT.out
                omega)
              have HAL2 := Lib.hid (show ∀ a, a < i + 1 → upd s.ord i (s.met + 1) a ≠ 0 from fun a ha => by
                by_cases e : a = i
                · subst e; rw [upd_at]; omega
                · rw [upd_ne _ _ e]; exact HAL.out a (by omega))
              obtain ⟨s2, HTI2, HM2, HCNT2, HAL2⟩ : ∃ s2 : TS, Hid (TInv n next s2 none) ∧ Hid (TSM τ' B P n Do Dl Dp g0 (.int .i64 (init : Int)) (.slice ax next.length cx) g3 (.int .i64 (M : Int)) w' s2) ∧ Hid (s2.met + unm n s2.ord = n) ∧ Hid (∀ a, a < i + 1 → s2.ord a ≠ 0) := ⟨_, HTI2, HM2, HCNT2, HAL2⟩
              clear HE HM HS HTI HCS HCNT HAL HS2 hS hB hz HZ HEN c5 co
              go_wp2_with fail
            case' neg =>
              have hzb : ((s.ord i : Int) == 0) = false := by simp [hz]
              have HAL2 := Lib.hid (show ∀ a, a < i + 1 → s.ord a ≠ 0 from fun a ha => by
                by_cases e : a = i
                · subst e; exact hz
                · exact HAL.out a (by omega))
              have HM2 := HM
              have HE2 := HE
              have HTI2 := HTI
              have HCNT2 := HCNT
              clear HE HM HS HTI HCS HCNT HAL hz
              go_wp2_with fail
              clear c5 co
              obtain ⟨s2, rfl⟩ : ∃ s2 : TS, s2 = s := ⟨_, rfl⟩
            all_goals
              obtain ⟨wi, rfl⟩ : ∃ wi : World, wi = wr := ⟨_, rfl⟩
              obtain ⟨G0, rfl⟩ : ∃ G0 : Nat, G0 = gk := ⟨_, rfl⟩
              go_loopg [] (mu n next s2) (fun m wr => ∃ (τ : Nat → Nat) (s : TS), m = mu n next s ∧ TSM τ B P n Do Dl Dp g0 (.int .i64 (init : Int)) (.slice ax next.length cx) g3 (.int .i64 (M : Int)) wr s ∧
                TInv n next s none ∧ s.met + unm n s.ord = n ∧ (∀ a, a < i + 1 → s.ord a ≠ 0) ∧ Ext w wr)
              case atStart => exact ⟨_, _, rfl, HM2.out, HTI2.out, HCNT2.out, HAL2.out, HE2.out⟩
              case round =>
                obtain ⟨τ, s, hgk, hm, hti, hcnt, hal, hE⟩ := hrel
                clear HM2 HE2 HTI2 HCNT2 HAL2
                obtain ⟨vo, vc, hs⟩ := hm.mem
                obtain ⟨ac, cc, rfl, _⟩ := hs.cls.own.row
                have c9 := blk_cell hs.blk (i := 9) rfl
                rw [csL_len] at c9
                have HM := Lib.hid hm
                have HE := Lib.hid hE
                have HTI := Lib.hid hti
                have HCNT := Lib.hid hcnt
                have HAL := Lib.hid hal
                have HGK := Lib.hid hgk
                have hGO := Lib.hid fun hne => goOn_any τ B P n Do Dl Dp g0 (.int .i64 (init : Int)) g3 (.int .i64 (M : Int)) ax cx next wr s hm hti hne (HLN.out _ hE) HN.out HI.out h20 (by omega)
                clear hm hti hcnt hal hE hgk hs
                by_cases hne : s.cs = []
                · have hl : s.cs.length = 0 := by rw [hne]; rfl
                  rw [hl] at c9
                  clear hGO
                  go_wp2_with fail
                  go_roundg (G0 - 1)
                  case measure => have := HMI.out; omega
                  case rel => exact ⟨i + 1, τ, s, by have := HMI.out; omega, by go_num, HM.out, HTI.out, hne, HCNT.out, HAL.out, HE.out⟩
                · have hl : 0 < s.cs.length := List.length_pos_iff.2 hne
                  have hlI : (0 : Int) < (s.cs.length : Int) := by omega
                  go_wp2_with fail
                  refine (hGO.out hne).mono ?_
                  rintro e w' ⟨rfl, hB, τ', s', h1, h2, h3, h4, h5⟩
                  have H1 := Lib.hid h1
                  have H2 := Lib.hid h2
                  have H3 := Lib.hid h3
                  have H4 := Lib.hid h4
                  have H5 := Lib.hid h5
                  have HB2 := Lib.hid hB
                  clear h1 h2 h3 h4 h5 hB
                  go_wp2_with fail
                  go_roundg (mu n next s')
                  case measure => have := HGK.out; have := H3.out; omega
                  case rel => exact ⟨τ', s', rfl, H1.out, H2.out, H4.out.trans HCNT.out, fun a ha => H5.out a (HAL.out a ha), Below.trans HE.out (HB2.out.mono HB.out)⟩
          · have hiI : ¬ (i : Int) < (n : Int) := by omega
            have HO := Lib.hid hs.prt.own
            clear hs hm hti hcs hcnt hal hE hmi c5
            go_wp2
            go_ret2
            exact ⟨Dp, s.part, rfl, own_down HO.out HB.out, fun a ha => (HTI.out.whole HCS.out).2 a (HAL.out a (by omega)), HE.out⟩

end Go.Proofs.Ytbndjailimhbdaa
