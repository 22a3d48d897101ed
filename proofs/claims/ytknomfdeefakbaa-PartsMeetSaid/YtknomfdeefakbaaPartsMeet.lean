/- The law PartsMeet. -/
import Derived.Test.YtknomfdeefakbaaReachedAll
import Derived.Test.YtknomfdeefakbaaParts
namespace Go.Proofs.Ytknomfdeefakbaa
open Go.RowKit

/-- A spot's part is the least spot of those that reach it and that it reaches. -/
theorem part_least {next : List (List Int)} {n : Nat} {part : Nat → Int} (h : ∀ a, a < n → PartOk next part a) {i : Nat} (hi : i < n) : ∃ m : Nat, part i = m ∧ m ≤ i ∧ part m = m := by
  obtain ⟨m, h1, h2, h3, h4⟩ := h i hi
  have hm := h4 i (Reach.refl _) (Reach.refl _)
  exact ⟨m, h1, hm, ((part_iff (h i hi) (h m (by omega))).2 ⟨h2, h3⟩).symm.trans h1⟩

theorem meet_bool {next : List (List Int)} {n : Nat} {part : Nat → Int} (h : ∀ a, a < n → PartOk next part a) {x y : Nat} (hx : x < n) (hy : y < n) {p q : List Bool}
    (hp : ∀ a : Nat, p[a]? = some true ↔ ∃ s, s = x ∧ Reach next s a) (hq : ∀ a : Nat, q[a]? = some true ↔ ∃ s, s = y ∧ Reach next s a) {b c : Bool} (hb : p[y]? = some b) (hc : q[x]? = some c) :
    (part x == part y) = (b && c) := by
  have h1 := hp y
  have h2 := hq x
  rw [hb] at h1
  rw [hc] at h2
  have h3 := part_iff (h x hx) (h y hy)
  rw [Bool.eq_iff_iff]
  simp only [beq_iff_eq, Bool.and_eq_true, h3]
  constructor
  · rintro ⟨r1, r2⟩
    exact ⟨Option.some.inj (h1.2 ⟨x, rfl, r1⟩), Option.some.inj (h2.2 ⟨y, rfl, r2⟩)⟩
  · rintro ⟨rfl, rfl⟩
    obtain ⟨_, rfl, r1⟩ := h1.1 rfl
    obtain ⟨_, rfl, r2⟩ := h2.1 rfl
    exact ⟨r1, r2⟩

set_option maxRecDepth 100000 in
set_option maxHeartbeats 4000000 in
theorem partsMeet_walk (vn vs : Value) (ll : List (List Int)) (sets : List Int) (init many : Int) (a b : Int) (w : World) (hN : Lists w vn ll) (hS : Ints w vs sets) (hI : ∀ l ∈ ll, ∀ n ∈ l, I64 n) (hT : ∀ n ∈ sets, I64 n) (h1 : I64 init) (h2 : I64 many) (ha : I64 a) (hb : I64 b) :
    Calls Try.prog 4 #[.agg #[vn, vs, .int .i64 init, .int .i64 many], .int .i64 a, .int .i64 b] w fun e w' => e = .returned (.bool true) ∧ Ext w w' := by
  obtain ⟨M, hM, hM3⟩ := pow_small many
  have HG := Lib.hid fun wx (hx : Ext w wx) => graph_any vn vs ll sets init many wx (hN.ext hx) (hS.ext hx) hI hT h1 h2 M hM
  obtain ⟨n, hn⟩ : ∃ n, n = min ll.length 20 := ⟨_, rfl⟩
  rw [← hn] at HG
  have hok := graph_ok init ll sets M hM3 n hn
  have hie := gInit_eq init n
  have hsl := gSpots_len n
  have hn20 : n ≤ 20 := by omega
  obtain ⟨an, cn, rfl⟩ : ∃ a c, vn = .slice a ll.length c := by
    obtain ⟨vs, he, a, c, rfl, _⟩ := hN
    exact ⟨a, c, rfl⟩
  obtain ⟨asv, cs, rfl, _⟩ := hS
  unfold I64 at ha hb
  clear hN hI hT h1 h2 hM hM3 hn
  have HOK := Lib.hid hok
  have HIE := Lib.hid hie
  have HSL := Lib.hid hsl
  clear hok hie hsl
  go_enter Try.func4, Try.ntmps4
  go_wp2_with fail
  refine (HG.out _ (ext_al (Ext.refl w) _)).mono ?_
  rintro e w1 ⟨τ, sp, nx, st, rfl, hm, hE1⟩
  rw [HIE.out]
  have HE1 := Lib.hid ((ext_al (Ext.refl w) _).trans hE1)
  have hSp := hm.spots
  have hLi := hm.lists
  have hIn := hm.ints
  generalize gNext (n : Int) ll n = next at *
  generalize gSets ((2 ^ M : Nat) : Int) sets n = bits at *
  generalize hspe : gSpots n = spots at *
  generalize gInit init n = ini at *
  have HSP := Lib.hid hSp
  have HLI := Lib.hid hLi
  have HIN := Lib.hid hIn
  obtain ⟨asp, csp, rfl, _⟩ := hSp
  obtain ⟨ax, cx, rfl⟩ : ∃ a c, nx = .slice a next.length c := by
    obtain ⟨vs, he, a, c, rfl, _⟩ := hLi
    exact ⟨a, c, rfl⟩
  obtain ⟨at', ct, rfl, _⟩ := hIn
  clear hE1 hm hLi HG hspe
  generalize hn2 : spots.length = n2 at *
  obtain rfl : n = n2 := HSL.out.symm
  have HN2 := Lib.hid hn2
  clear hn2 HSL
  have HA1 := Lib.hid (ext_al (Ext.refl w1) (Obj.cells #[.slice asp n csp, .int .i64 (ini : Int), .slice ax next.length cx, .slice at' bits.length ct, .int .i64 (M : Int)] 28))
  have BG := Lib.hid (blk_new w1 (Obj.cells #[.slice asp n csp, .int .i64 (ini : Int), .slice ax next.length cx, .slice at' bits.length ct, .int .i64 (M : Int)] 28))
  have HPA := Lib.hid (parts_any (.slice asp n csp) (.slice ax next.length cx) (.slice at' bits.length ct) ini M spots next bits (w1.alloc (Obj.cells #[.slice asp n csp, .int .i64 (ini : Int), .slice ax next.length cx, .slice at' bits.length ct, .int .i64 (M : Int)] 28)) (HSP.out.ext HA1.out) (HLI.out.ext HA1.out) (HIN.out.ext HA1.out) (by rw [HN2.out]; exact HOK.out))
  rw [HN2.out] at HPA
  go_wp2_with fail
  generalize w1.alloc (Obj.cells #[.slice asp n csp, .int .i64 (ini : Int), .slice ax next.length cx, .slice at' bits.length ct, .int .i64 (M : Int)] 28) = W1 at *
  generalize w1.heap.size = G at *
  refine HPA.out.mono ?_
  rintro e w2 ⟨D, part, rfl, hop, hpk, hE2⟩
  have HE2 := Lib.hid (HE1.out.trans (HA1.out.trans hE2))
  have bG := blk_ext BG.out hE2
  have BG2 := Lib.hid bG
  have HSP2 := Lib.hid ((HSP.out.ext HA1.out).ext hE2)
  have HLI2 := Lib.hid ((HLI.out.ext HA1.out).ext hE2)
  have HOP := Lib.hid hop
  have HPK := Lib.hid hpk
  have cG0 := blk_cell bG (i := 0) rfl
  have cG1 := blk_cell bG (i := 1) rfl
  have cG2 := blk_cell bG (i := 2) rfl
  have cG3 := blk_cell bG (i := 3) rfl
  have cG4 := blk_cell bG (i := 4) rfl
  clear hop hpk hE2 bG HPA HSP HLI HIN BG HA1
  by_cases h0 : n = 0
  · have h0I : ((n : Int) == 0) = true := by simp [h0]
    go_wp2_with fail
    refine (check_bad _).mono ?_
    rintro e w6 ⟨rfl, hE6⟩
    have HE6 := Lib.hid (HE2.out.trans hE6)
    clear hE6
    go_wp2
    go_ret
    exact ⟨rfl, HE6.out⟩
  · have h0I : ((n : Int) == 0) = false := by simp [h0]
    go_wp2_with fail
    refine (picked_any a n w2 ha.1 ha.2 (by omega) (by omega)).mono ?_
    rintro e w3 ⟨rfl, rfl⟩
    obtain ⟨hx0, hx1⟩ := pk_bd a n (by omega)
    obtain ⟨x, hx⟩ : ∃ x : Nat, pk a n = (x : Int) := ⟨(pk a n).toNat, by omega⟩
    rw [hx] at hx0 hx1 ⊢
    clear hx
    go_wp2_with fail
    refine (picked_any b n w2 hb.1 hb.2 (by omega) (by omega)).mono ?_
    rintro e w3 ⟨rfl, rfl⟩
    obtain ⟨hy0, hy1⟩ := pk_bd b n (by omega)
    obtain ⟨y, hy⟩ : ∃ y : Nat, pk b n = (y : Int) := ⟨(pk b n).toNat, by omega⟩
    rw [hy] at hy0 hy1 ⊢
    clear hy
    have hxn : x < n := by omega
    have hyn : y < n := by omega
    have HRE := Lib.hid fun (s : Nat) (hs : s < n) (wx : World) (hE : Ext w2 wx) => reaches_any (.slice asp n csp) (.slice ax next.length cx) (.slice at' bits.length ct) (ini : Int) (M : Int) spots next s wx (HSP2.out.ext hE) (HLI2.out.ext hE) ⟨_, _, _, rfl⟩ (by rw [HN2.out]; exact HOK.out.nx) (by rw [HN2.out]; exact HOK.out.ins) (by rw [HN2.out]; exact HOK.out.max) (by rw [HN2.out]; omega)
    rw [HN2.out] at HRE
    go_wp2_with fail
    refine (HRE.out x hxn _ (Ext.refl _)).mono ?_
    rintro e w3 ⟨v3, rfl, p, hop3, hpl, hpr, hE3⟩
    obtain ⟨a3, c3, rfl, hrow3⟩ := hop3.row
    have bG3 := blk_ext BG2.out hE3
    have cG0 := blk_cell bG3 (i := 0) rfl
    have cG1 := blk_cell bG3 (i := 1) rfl
    have cG2 := blk_cell bG3 (i := 2) rfl
    have cG3 := blk_cell bG3 (i := 3) rfl
    have cG4 := blk_cell bG3 (i := 4) rfl
    have HR3 := Lib.hid hrow3
    have HE3 := Lib.hid hE3
    have HPL := Lib.hid hpl
    have HPR := Lib.hid hpr
    clear hop3 hpl hpr hE3 hrow3 bG3
    go_wp2_with fail
    refine (HRE.out y hyn _ HE3.out).mono ?_
    rintro e w4 ⟨v4, rfl, q, hop4, hql, hqr, hE4⟩
    obtain ⟨a4, c4, rfl, hrow4⟩ := hop4.row
    obtain ⟨b3, o3, h31, h32⟩ := row_cells (HR3.out.ext hE4)
    obtain ⟨b4, o4, h41, h42⟩ := row_cells hrow4
    obtain rfl := h31 (by have := HPL.out; omega)
    obtain rfl := h41 (by omega)
    have hyp : y < p.length := by have := HPL.out; omega
    have hxq : x < q.length := by omega
    have cp := h32 y hyp
    have cq := h42 x hxq
    have HMB := Lib.hid (meet_bool HPK.out hxn hyn HPR.out hqr (List.getElem?_eq_getElem hyp) (List.getElem?_eq_getElem hxq))
    have HOP4 := Lib.hid (own_ext (own_ext HOP.out HE3.out) hE4)
    have HE4 := Lib.hid ((HE2.out.trans HE3.out).trans hE4)
    clear hop4 hql hqr hE4 hrow4 h31 h32 h41 h42 HRE HR3
    generalize p[y] = bp at *
    generalize q[x] = bq at *
    go_wp2_with fail
    clear cG0 cG1 cG2 cG3 cG4
    go_loopg [14] n (fun m x wr => ∃ (i q : Nat), m + i = n ∧ x = .int .i64 (i : Int) ∧ wr = w4.drewN q)
    case atStart => exact ⟨0, 0, by omega, by go_num, rfl⟩
    case round =>
      obtain ⟨i, z, hmi, rfl, rfl⟩ := hrel
      have HMI := Lib.hid hmi
      clear hmi
      have hcell : ∀ j : Nat, j < n → w4.cell? ⟨D, j, none⟩ = some (.int .i64 (part j)) := fun j hj => by
        have hjl : j < (lstI n part).length := by rw [lstI_len]; exact hj
        refine (own_cellAt HOP4.out (i := j) (by simpa using hjl)).trans ?_
        have e := lstI_get n part hj
        rw [List.getElem?_eq_getElem hjl] at e
        rw [List.getElem_map, Option.some.inj e]
      by_cases hi : i < n
      · obtain ⟨m, hpm, hmi, hmm⟩ := part_least HPK.out hi
        have ci := hcell i hi
        have cm := hcell m (by omega)
        rw [hpm] at ci
        rw [hmm] at cm
        have hiI : (i : Int) < (n : Int) := by omega
        have hmI : (m : Int) < (n : Int) := by omega
        have hi0 : (0 : Int) ≤ (i : Int) := by omega
        have hm0 : (0 : Int) ≤ (m : Int) := by omega
        have hm1 : ¬ (m : Int) < 0 := by omega
        have hm2 : ¬ (i : Int) < (m : Int) := by omega
        clear hcell hpm hmm
        go_wp2_with fail
        go_quiet (fail)
        go_wp2_with fail
        go_roundg (gk - 1)
        case measure => have := HMI.out; omega
        case rel => exact ⟨i + 1, _, by have := HMI.out; omega, by go_num, rfl⟩
      · have hiI : ¬ (i : Int) < (n : Int) := by omega
        have cx := hcell x hxn
        have cy := hcell y hyn
        generalize part x = px at *
        generalize part y = py at *
        have hmb := HMB.out
        have HEQ := Lib.hid (below_drewN HE4.out z)
        clear hcell HMB HOP4 HPK
        cases bp <;> cases bq <;> first | (replace hmb : (px == py) = true := hmb) | (replace hmb : (px == py) = false := hmb)
        all_goals
          go_wp2_with fail
          go_quiet (fail)
          go_wp2
          go_ret
          exact ⟨by first | rfl | simp [hmb], below_drewN HEQ.out _⟩


theorem partsMeet_law (cs : Array Value) (v1 v2 : Value) (W : World) (h0 : Cells Try.prog W 25 cs.toList) (g1 : Cells Try.prog W 3 [v1]) (g2 : Cells Try.prog W 3 [v2]) :
    Calls Try.prog 4 #[.agg cs, v1, v2] W fun e w' => e = .returned (.bool true) ∧ Ext W w' := by
  obtain ⟨vn, vs, ll, sets, init, many, rfl, hN, hS, hI, hT, h1, h2⟩ := h0.wires
  obtain ⟨a, ha, ha2⟩ := g1.i64 Try.underlying3
  obtain ⟨b, hb, hb2⟩ := g2.i64 Try.underlying3
  cases ha; cases hb
  exact partsMeet_walk vn vs ll sets init many a b W hN hS hI hT h1 h2 ha2 hb2

end Go.Proofs.Ytknomfdeefakbaa
