/- The law PartsLine. -/
import Derived.Test.YtknomfdeefakbaaFairAny
import Derived.Test.YtknomfdeefakbaaGrSet
import Derived.Test.YtknomfdeefakbaaGraph2
namespace Go.Proofs.Ytknomfdeefakbaa
open Go.RowKit

theorem up_reach {L : List (List Int)} (h : ∀ a b, Edge L a b → a < b) {a b : Nat} (r : Reach L a b) : a ≤ b := by
  induction r with
  | refl => exact Nat.le_refl _
  | step _ e ih => have := h _ _ e; omega

theorem up_part {L : List (List Int)} (h : ∀ a b, Edge L a b → a < b) {part : Nat → Int} {a : Nat} (hp : PartOk L part a) : part a = a := by
  obtain ⟨m, h1, h2, h3, _⟩ := hp
  have := up_reach h h2
  have := up_reach h h3
  omega

theorem up_none {L : List (List Int)} (h : ∀ a b, Edge L a b → a < b) {bits : Nat → Nat} {M n init m : Nat} (hf : FairR L bits M n init m) : False := by
  obtain ⟨_, hf, _⟩ := hf
  obtain ⟨i, k, _, s1, e, s2⟩ := hf.loop
  have h1 := h _ _ e
  have h2 := up_reach h (s2.2.trans s1.1)
  omega

theorem edge_at {L : List (List Int)} {a b : Nat} (e : Edge L a b) : ∃ h : a < L.length, (b : Int) ∈ L[a] := by
  obtain ⟨l, h1, h2⟩ := e
  obtain ⟨hl, e⟩ := List.getElem?_eq_some_iff.1 h1
  exact ⟨hl, by rw [e]; exact h2⟩

theorem up_set {L : List (List Int)} {i : Nat} {l : List Int} (hl : ∀ x ∈ l, (i : Int) < x) (h : ∀ a b, a < i → Edge L a b → a < b) : ∀ a b, a < i + 1 → Edge (L.set i l) a b → a < b := by
  intro a b ha e
  obtain ⟨h1, h2⟩ := edge_at e
  rw [List.getElem_set] at h2
  split at h2
  · rename_i e
    have := hl _ h2
    omega
  · rename_i hne
    have h1' : a < L.length := by simpa using h1
    exact h a b (by omega) ⟨L[a], List.getElem?_eq_getElem h1', h2⟩

set_option maxRecDepth 100000 in
set_option maxHeartbeats 8000000 in
theorem partsLine_walk (vn vs : Value) (ll : List (List Int)) (sets : List Int) (init many : Int) (w : World) (hN : Lists w vn ll) (hS : Ints w vs sets) (hI : ∀ l ∈ ll, ∀ n ∈ l, I64 n) (hT : ∀ n ∈ sets, I64 n) (h1 : I64 init) (h2 : I64 many) :
    Calls Try.prog 7 #[.agg #[vn, vs, .int .i64 init, .int .i64 many]] w fun e w' => e = .returned (.bool true) ∧ Ext w w' := by
  obtain ⟨n, next, bits, spots, ini, M, hn20, hM3, hsl, hok, _, hl6, hg⟩ := graph_two vn vs ll sets init many w hN hS hI hT h1 h2
  obtain ⟨an, cn, rfl⟩ : ∃ a c, vn = .slice a ll.length c := by
    obtain ⟨vs, he, a, c, rfl, _⟩ := hN
    exact ⟨a, c, rfl⟩
  obtain ⟨asv, cs, rfl, _⟩ := hS
  have HG := Lib.hid hg
  have HOK := Lib.hid hok
  have HSL := Lib.hid hsl
  have HL6 := Lib.hid hl6
  clear hN hI hT h1 h2 hok hsl hg hl6 hM3
  go_enter Try.func7, Try.ntmps7
  have HA := Lib.hid (ext_al (Ext.refl w) (Obj.cells #[.slice an ll.length cn, .slice asv sets.length cs, .int .i64 init, .int .i64 many] 25))
  go_wp2_with fail
  generalize w.alloc (Obj.cells #[.slice an ll.length cn, .slice asv sets.length cs, .int .i64 init, .int .i64 many] 25) = W1 at *
  refine (HG.out _ HA.out).mono ?_
  rintro e w1 ⟨τ, asp, ax, at', csp, cx, ct, rfl, hm, hE1⟩
  have hx1 := ext_al (Ext.refl w1) (Obj.cells #[.slice asp n csp, .int .i64 (ini : Int), .slice ax n cx, .slice at' n ct, .int .i64 (M : Int)] 28)
  have BG := Lib.hid (blk_new w1 (Obj.cells #[.slice asp n csp, .int .i64 (ini : Int), .slice ax n cx, .slice at' n ct, .int .i64 (M : Int)] 28))
  have HM := Lib.hid (hm.ext hx1)
  have HE1 := Lib.hid ((HA.out.trans hE1).trans hx1)
  have HWB := Lib.hid HA.out.size
  have HW1 := Lib.hid hE1.size
  have hDG0 : Hid (∀ D, ax = some ⟨D, 0, none⟩ → 0 < n → D < w1.heap.size) := Lib.hid fun D e h0 => by
    obtain ⟨D', u, e', _, _, _, _, _, h⟩ := hm.nxAt (x := 0) (by have := HOK.out.nx; omega)
    rw [e'] at e
    injection e with e
    injection e with e
    omega
  clear hm hE1 hx1 HG HA
  go_wp2_with fail
  generalize w1.alloc (Obj.cells #[.slice asp n csp, .int .i64 (ini : Int), .slice ax n cx, .slice at' n ct, .int .i64 (M : Int)] 28) = W2 at *
  generalize w1.heap.size = G at *
  generalize W1.heap.size = B at *
  go_loopg [4] n (fun m x wr => ∃ (i : Nat) (τ : Nat → Nat) (L : List (List Int)), m + i = n ∧ x = .int .i64 (i : Int) ∧ wr.heap[G]? = some (.cells #[.slice asp n csp, .int .i64 (ini : Int), .slice ax n cx, .slice at' n ct, .int .i64 (M : Int)] 28 (0, 0)) ∧
    GMem τ B wr (.slice asp n csp) (.slice ax n cx) (.slice at' n ct) spots L bits ∧ GOk n L bits ini M ∧ (∀ l ∈ L, l.length ≤ 6) ∧ (∀ a b, a < i → Edge L a b → a < b) ∧ Ext w wr)
  case atStart => exact ⟨0, τ, next, by omega, by go_num, BG.out, HM.out, HOK.out, HL6.out, fun a b h => by omega, HE1.out⟩
  case round =>
    obtain ⟨i, τ, L, hmi, rfl, bG, hm, hok, hl6, hup, hE⟩ := hrel
    clear BG HM HOK HL6 HE1
    have HMI := Lib.hid hmi
    have BG := Lib.hid bG
    have HM := Lib.hid hm
    have HOK := Lib.hid hok
    have HL6 := Lib.hid hl6
    have HUP := Lib.hid hup
    have HE := Lib.hid hE
    have cG2 := blk_cell bG (i := 2) rfl
    by_cases hi : i < n
    · have hiL : i < L.length := by have := hok.nx; omega
      obtain ⟨D, u, rfl, -, cD, fD, hu, hBD, hDW⟩ := hm.nxAt hiL
      obtain ⟨ar, cr, rfl, hru⟩ := hu
      have hmx : L[i].length ≤ 6 := hl6 L[i] (by simp)
      have HLI := Lib.hid (hok.ins L[i] (by simp))
      have HRU := Lib.hid hru
      have HDG := Lib.hid (hDG0.out D rfl (by omega))
      have HCD := Lib.hid cD
      have HCG := Lib.hid cG2
      have HFD := Lib.hid fD
      have hiI : (i : Int) < (n : Int) := by omega
      have hi0 : (0 : Int) ≤ (i : Int) := by omega
      clear bG hm hok hl6 hup hE hmi hru cD fD
      generalize L[i] = lx at *
      go_wp2_with fail
      clear cG2
      obtain ⟨wo, rfl⟩ : ∃ wo : World, wo = wr := ⟨_, rfl⟩
      obtain ⟨G0, rfl⟩ : ∃ G0 : Nat, G0 = gk := ⟨_, rfl⟩
      go_loopg [5, 6] lx.length (fun m y x wi => ∃ (k : Nat) (l : List Int) (al : Option Addr) (cl : Nat), m + k = lx.length ∧ x = .int .i64 (k : Int) ∧ y = .slice al l.length cl ∧ l.length ≤ k ∧ (∀ z ∈ l, (i : Int) < z ∧ 0 ≤ z ∧ z < n) ∧
        wi.ownsRow wo.heap.size 3 1 (.slice al l.length cl) l.length (l.map (.int .i64)) ∧ Ext wo wi)
      case atStart => exact ⟨0, [], none, 0, by omega, by go_num, rfl, by simp, by simp, World.ownsRow_nil _ _ _ _, Ext.refl _⟩
      case round =>
        obtain ⟨k, l, al, cl, hmk, rfl, rfl, hlk, hlz, hol, hEi⟩ := hrel
        have HMK := Lib.hid hmk
        have HLZ := Lib.hid hlz
        have HOL := Lib.hid hol
        have HEI := Lib.hid hEi
        have cG2 := cell_later hEi HCG.out
        have cDi := cell_later hEi HCD.out
        by_cases hk : k < lx.length
        · obtain ⟨bi, oi, hri1, hri2⟩ := ints_cells (HRU.out.ext hEi)
          obtain rfl := hri1 (by omega)
          have ck := hri2 k hk
          obtain ⟨hz0, hz1⟩ := HLI.out lx[k] (by simp)
          have hkI : (k : Int) < (lx.length : Int) := by omega
          have hk0 : (0 : Int) ≤ (k : Int) := by omega
          clear hmk hlz hol hri1 hri2 hEi
          generalize lx[k] = z at *
          by_cases hzi : (i : Int) < z
          · have ho2 := HOL.out.alloc (Obj.cells #[.int .i64 z] 3)
            have hE2 := ext_al HEI.out (Obj.cells #[.int .i64 z] 3)
            go_wp2_with (at_builtin; go_must (refine wpl_append rfl rfl Try.slInts wo.heap.size rfl ho2 rfl (Row.oneAt _ _ _ _ rfl) (one_int _) (by unfold maxLen; omega) (by omega) hE2.size ?_))
            intro v3 w3 hown3 hg3 hb3 _
            have HE3 := Lib.hid (Below.grown hE2 hg3 hE2.size (fun b hb => (ho2.lt b hb).1))
            obtain ⟨a3, c3, rfl, _⟩ := hown3.row
            have HO3 := Lib.hid hown3
            clear hown3 hg3 hb3 ho2 hE2 cG2 cDi ck
            go_wp2_with fail
            go_roundg (gk - 1)
            case measure => have := HMK.out; omega
            case rel => exact ⟨k + 1, l ++ [z], a3, c3, by have := HMK.out; omega, by go_num, by rw [List.length_append]; rfl, by rw [List.length_append, List.length_singleton]; omega, fun y hy => by
              rcases List.mem_append.1 hy with hy | hy
              · exact HLZ.out y hy
              · simp only [List.mem_singleton] at hy; subst hy; exact ⟨hzi, hz0, hz1⟩, by rw [List.length_append, List.map_append]; exact HO3.out, HE3.out⟩
          · go_wp2_with fail
            go_roundg (gk - 1)
            case measure => have := HMK.out; omega
            case rel => exact ⟨k + 1, l, al, cl, by have := HMK.out; omega, by go_num, rfl, by omega, HLZ.out, HOL.out, HEI.out⟩
        · have hkI : ¬ (k : Int) < (lx.length : Int) := by omega
          have fD := (hEi.frozen (p := ⟨D, i, none⟩) hDW).trans HFD.out
          have hs := (HM.out.setNx hEi hol i).1
          have hbg := blk_far (blk_ext BG.out hEi) (p := ⟨D, i, none⟩) (by have := HDG.out; show D ≠ G; omega) (.slice al l.length cl)
          have hex := ext_st (HE.out.trans hEi) (p := ⟨D, i, none⟩) (by have := HWB.out; show w.heap.size ≤ D; omega) (.slice al l.length cl)
          have HM2 := Lib.hid hs
          have BG2 := Lib.hid hbg
          have HE2 := Lib.hid hex
          clear hmk hlz hol hs hbg hex
          go_wp2_with fail
          go_roundg (G0 - 1)
          case measure => have := HMI.out; omega
          case rel => exact ⟨i + 1, _, L.set i l, by have := HMI.out; omega, by go_num, BG2.out, HM2.out, ⟨by rw [List.length_set]; exact HOK.out.nx, HOK.out.st, HOK.out.max, HOK.out.i0, HOK.out.i1, HOK.out.m6, fun l' hl' x hx => by
              rcases List.mem_or_eq_of_mem_set hl' with h | rfl
              · exact HOK.out.ins l' h x hx
              · exact (HLZ.out x hx).2, HOK.out.bits⟩, fun l' hl' => by
              rcases List.mem_or_eq_of_mem_set hl' with h | rfl
              · exact HL6.out l' h
              · have := HMK.out; omega, up_set (fun x hx => (HLZ.out x hx).1) HUP.out, HE2.out⟩
    · have hiI : ¬ (i : Int) < (n : Int) := by omega
      have hup2 : ∀ a b, Edge L a b → a < b := fun a b e => hup a b (by have := (edge_at e).1; have := hok.nx; omega) e
      have HU2 := Lib.hid hup2
      have cG0 := blk_cell bG (i := 0) rfl
      have cG1 := blk_cell bG (i := 1) rfl
      have cG3 := blk_cell bG (i := 3) rfl
      have cG4 := blk_cell bG (i := 4) rfl
      have hpa := parts_any (.slice asp n csp) (.slice ax n cx) (.slice at' n ct) ini M spots L bits wr hm.spots hm.lists hm.ints (by rw [HSL.out]; exact hok)
      have HFA := Lib.hid fun wx (hx : Ext wr wx) => fairR_any (.slice asp n csp) (.slice ax n cx) (.slice at' n ct) ini M spots L bits wx (hm.spots.ext hx) (hm.lists.ext hx) (hm.ints.ext hx) (by rw [HSL.out]; exact hok)
      rw [HSL.out] at hpa HFA
      have HPA := Lib.hid hpa
      clear hpa hup2 bG hm hok hl6 hup hE hmi
      go_wp2_with fail
      refine HPA.out.mono ?_
      rintro e w2 ⟨P, part, rfl, hop, hpk, hE2⟩
      have bG2 := blk_ext BG.out hE2
      have cG0 := blk_cell bG2 (i := 0) rfl
      have cG1 := blk_cell bG2 (i := 1) rfl
      have cG2 := blk_cell bG2 (i := 2) rfl
      have cG3 := blk_cell bG2 (i := 3) rfl
      have cG4 := blk_cell bG2 (i := 4) rfl
      have HF := Lib.hid (HFA.out _ hE2)
      have HOP := Lib.hid hop
      have HPK := Lib.hid hpk
      have HE2 := Lib.hid hE2
      clear bG2 hop hpk hE2 HPA HFA
      go_wp2_with fail
      refine HF.out.mono ?_
      rintro e w3 ⟨hc, hE3⟩
      obtain ⟨m, rfl, hm, -⟩ | ⟨rfl, -⟩ := hc
      · exact (up_none HU2.out hm).elim
      · have bG3 := blk_ext (blk_ext BG.out HE2.out) hE3
        have cG0 := blk_cell bG3 (i := 0) rfl
        have HOP3 := Lib.hid (own_ext HOP.out hE3)
        have HE3 := Lib.hid ((HE.out.trans HE2.out).trans hE3)
        clear hE3 bG3 HF
        go_wp2_with fail
        clear cG0 cG1 cG2 cG3 cG4
        go_loopg [11] n (fun m x wi => ∃ k : Nat, m + k = n ∧ x = .int .i64 (k : Int) ∧ wi = w3)
        case atStart => exact ⟨0, by omega, by go_num, rfl⟩
        case round =>
          obtain ⟨k, hmk, rfl, rfl⟩ := hrel
          have HMK := Lib.hid hmk
          clear hmk
          by_cases hk : k < n
          · have hpk := up_part HU2.out (HPK.out k hk)
            have ck := hd_at HOP3.out (lstI_get n part hk)
            rw [hpk] at ck
            have hkI : (k : Int) < (n : Int) := by omega
            have hk0 : (0 : Int) ≤ (k : Int) := by omega
            clear hpk
            go_wp2_with fail
            go_roundg (gk - 1)
            case measure => have := HMK.out; omega
            case rel => exact ⟨k + 1, by have := HMK.out; omega, by go_num, rfl⟩
          · have hkI : ¬ (k : Int) < (n : Int) := by omega
            go_wp2
            go_ret
            exact ⟨rfl, HE3.out⟩

theorem partsLine_law (cs : Array Value) (W : World) (h0 : Cells Try.prog W 25 cs.toList) :
    Calls Try.prog 7 #[.agg cs] W fun e w' => e = .returned (.bool true) ∧ Ext W w' := by
  obtain ⟨vn, vs, ll, sets, init, many, rfl, hN, hS, hI, hT, h1, h2⟩ := h0.wires
  exact partsLine_walk vn vs ll sets init many W hN hS hI hT h1 h2

end Go.Proofs.Ytknomfdeefakbaa
