/- The law ReachedAll. -/
import Derived.Test.YtknomfdeefakbaaReached
import Derived.Test.YtknomfdeefakbaaGraph
namespace Go.Proofs.Ytknomfdeefakbaa
open Go.RowKit

theorem gInside (n : Nat) (ll : List (List Int)) (h : 0 < n ∨ ll = []) (k : Nat) : Inside n (gNext n ll k) := by
  intro l hl x hx
  unfold gNext at hl
  obtain ⟨l', hl', rfl⟩ := List.mem_map.1 hl
  rcases h with h | h
  · unfold gL at hx
    obtain ⟨y, _, rfl⟩ := List.mem_map.1 hx
    exact pk_bd y n (by omega)
  · subst h; simp at hl'

theorem gSets_bd (M : Nat) (sets : List Int) (k : Nat) : ∀ s ∈ gSets ((2 ^ M : Nat) : Int) sets k, (0 : Int) ≤ s ∧ s < (2 : Int) ^ M := by
  intro s hs
  unfold gSets at hs
  obtain ⟨i, _, rfl⟩ := List.mem_map.1 hs
  have hp : (0 : Int) < ((2 ^ M : Nat) : Int) := by have := Nat.two_pow_pos M; omega
  have e : ((2 ^ M : Nat) : Int) = (2 : Int) ^ M := by push_cast; rfl
  unfold gSet
  split
  · have := pk_bd (sets.getD i 0) _ hp
    omega
  · omega

/-- Where a graph of raw numbers begins. -/
def gInit (init : Int) (n : Nat) : Nat := if 0 < n then (pk init n + 1).toNat else 0

theorem gInit_eq (init : Int) (n : Nat) : (if 0 < n then pk init n + 1 else 0) = (gInit init n : Int) := by
  unfold gInit
  split
  · have := pk_bd init n (by omega); omega
  · rfl

theorem graph_ok (init : Int) (ll : List (List Int)) (sets : List Int) (M : Nat) (hM : M ≤ 3) (n : Nat) (hn : n = min ll.length 20) : GOk (gSpots n).length (gNext n ll n) (gSets ((2 ^ M : Nat) : Int) sets n) (gInit init n) M := by
  rw [gSpots_len]
  refine ⟨gNext_len _ _ _ (by omega), gSets_len _ _ _, by omega, by omega, ?_, by omega, gInside n ll ?_ n, gSets_bd M sets n⟩
  · rw [← gInit_eq]
    split
    · have := pk_bd init n (by omega); omega
    · omega
  · by_cases h : 0 < n
    · exact .inl h
    · exact .inr (List.eq_nil_of_length_eq_zero (by omega))

theorem pow_small (many : Int) : ∃ M : Nat, pk many 4 = M ∧ M ≤ 3 := by
  have := pk_bd many 4 (by omega)
  exact ⟨(pk many 4).toNat, by omega, by omega⟩

theorem marks_eq {a b : List Bool} {n : Nat} (ha : a.length = n) (hb : b.length = n) (h : ∀ i : Nat, a[i]? = some true ↔ b[i]? = some true) : a = b := by
  apply List.ext_getElem (by omega)
  intro i h1 h2
  have := h i
  rw [List.getElem?_eq_getElem h1, List.getElem?_eq_getElem h2] at this
  simp only [Option.some.injEq] at this
  cases hx : a[i] <;> cases hy : b[i] <;> simp_all

theorem row_cells {α : Type} {f : α → Value} {w : World} {a : Option Addr} {n c : Nat} {l : List α} (h : Row w 1 a n c (l.map f)) : ∃ b off, (0 < l.length → a = some ⟨b, off, none⟩) ∧ ∀ (i : Nat) (hi : i < l.length), w.cell? ⟨b, off + i, none⟩ = some (f l[i]) := by
  obtain ⟨b, off, _, h2, h3⟩ := h.lie
  exact ⟨b, off, fun hl => h2 (by simpa using hl), fun i hi => h3 i _ (by rw [List.getElem?_map, List.getElem?_eq_getElem hi]; rfl)⟩

theorem or_set {wk want r : List Bool} {k n : Nat} (hk : k < n) (h1 : wk.length = n) (h2 : r.length = n) (h : ∀ a : Nat, wk[a]? = some true ↔ want[a]? = some true ∨ (a < k ∧ r[a]? = some true)) (b : Bool) (hb : b = (wk[k]'(by omega) || r[k]'(by omega))) :
    ∀ a : Nat, (wk.set k b)[a]? = some true ↔ want[a]? = some true ∨ (a < k + 1 ∧ r[a]? = some true) := by
  intro a
  rw [List.getElem?_set]
  by_cases ha : k = a
  · subst ha
    have hw := h k
    rw [List.getElem?_eq_getElem (by omega)] at hw
    rw [if_pos rfl, if_pos (by omega), List.getElem?_eq_getElem (show k < r.length by omega), hb]
    simp only [Option.some.injEq, Bool.or_eq_true] at *
    constructor
    · rintro (h | h)
      · rcases hw.1 h with h | h
        · exact .inl h
        · omega
      · exact .inr ⟨by omega, h⟩
    · rintro (h | h)
      · exact .inl (hw.2 (.inl h))
      · exact .inr h.2
  · rw [if_neg ha, h a]
    constructor
    · rintro (h | ⟨h, h'⟩)
      · exact .inl h
      · exact .inr ⟨by omega, h'⟩
    · rintro (h | ⟨h, h'⟩)
      · exact .inl h
      · exact .inr ⟨by omega, h'⟩

set_option maxRecDepth 100000 in
set_option maxHeartbeats 4000000 in
theorem reachedAll_walk (vn vs : Value) (ll : List (List Int)) (sets : List Int) (init many : Int) (w : World) (hN : Lists w vn ll) (hS : Ints w vs sets) (hI : ∀ l ∈ ll, ∀ n ∈ l, I64 n) (hT : ∀ n ∈ sets, I64 n) (h1 : I64 init) (h2 : I64 many) :
    Calls Try.prog 3 #[.agg #[vn, vs, .int .i64 init, .int .i64 many]] w fun e w' => e = .returned (.bool true) ∧ Ext w w' := by
  obtain ⟨M, hM, hM3⟩ := pow_small many
  have HG := Lib.hid fun wx (hx : Ext w wx) => graph_any vn vs ll sets init many wx (hN.ext hx) (hS.ext hx) hI hT h1 h2 M hM
  obtain ⟨n, hn⟩ : ∃ n, n = min ll.length 20 := ⟨_, rfl⟩
  rw [← hn] at HG
  have hok := graph_ok init ll sets M hM3 n hn
  have hie := gInit_eq init n
  have hsl := gSpots_len n
  obtain ⟨an, cn, rfl⟩ : ∃ a c, vn = .slice a ll.length c := by
    obtain ⟨vs, he, a, c, rfl, _⟩ := hN
    exact ⟨a, c, rfl⟩
  have hll : ll.length ≤ 9223372036854775807 := by obtain ⟨_, hle, hmx, _⟩ := hN.cells; unfold maxLen at hmx; omega
  obtain ⟨asv, cs, rfl, _⟩ := hS
  have hn20 : n ≤ 20 := by omega
  have hnl : ll.length = 0 ∨ 0 < ll.length := by omega
  clear hN hI hT h1 h2 hM hM3 hn
  have HOK := Lib.hid hok
  have HIE := Lib.hid hie
  have HSL := Lib.hid hsl
  clear hok hie hsl
  go_enter Try.func3, Try.ntmps3
  go_wp2_with fail
  refine (HG.out _ (ext_al (Ext.refl w) _)).mono ?_
  rintro e w1 ⟨τ, sp, nx, st, rfl, hm, hE1⟩
  rw [HIE.out]
  have hA : Ext w (w.alloc (Obj.cells #[.slice an ll.length cn, .slice asv sets.length cs, .int .i64 init, .int .i64 many] 25)) := ext_al (Ext.refl w) _
  have BA := Lib.hid (blk_ext (blk_new w (Obj.cells #[.slice an ll.length cn, .slice asv sets.length cs, .int .i64 init, .int .i64 many] 25)) hE1)
  have HE1 := Lib.hid (hA.trans hE1)
  have hSp := hm.spots
  have hLi := hm.lists
  have hIn := hm.ints
  generalize gNext (n : Int) ll n = next at *
  generalize gSets ((2 ^ M : Nat) : Int) sets n = bits at *
  generalize hspe : gSpots n = spots at *
  generalize gInit init n = ini at *
  have HSP := Lib.hid hSp
  have HLI := Lib.hid hLi
  have HIN := Lib.hid hIn
  obtain ⟨asp, csp, rfl, _⟩ := hSp
  obtain ⟨ax, cx, rfl⟩ : ∃ a c, nx = .slice a next.length c := by
    obtain ⟨vs, he, a, c, rfl, _⟩ := hLi
    exact ⟨a, c, rfl⟩
  obtain ⟨at', ct, rfl, _⟩ := hIn
  clear hA hE1 hm hLi HG hspe
  generalize hn2 : spots.length = n2 at *
  obtain rfl : n = n2 := HSL.out.symm
  have HN2 := Lib.hid hn2
  clear hn2 HSL
  have hok := HOK.out
  have hin := hok.i1
  have HA1 := Lib.hid (ext_al (Ext.refl w1) (Obj.cells #[.slice asp n csp, .int .i64 (ini : Int), .slice ax next.length cx, .slice at' bits.length ct, .int .i64 (M : Int)] 28))
  have BG := Lib.hid (blk_new w1 (Obj.cells #[.slice asp n csp, .int .i64 (ini : Int), .slice ax next.length cx, .slice at' bits.length ct, .int .i64 (M : Int)] 28))
  have HRD := Lib.hid (reached_any (.slice asp n csp) (.slice ax next.length cx) (.slice at' bits.length ct) ini M spots next bits (w1.alloc (Obj.cells #[.slice asp n csp, .int .i64 (ini : Int), .slice ax next.length cx, .slice at' bits.length ct, .int .i64 (M : Int)] 28)) (HSP.out.ext HA1.out) (HLI.out.ext HA1.out) (HIN.out.ext HA1.out) (by rw [HN2.out]; exact hok))
  rw [HN2.out] at HRD
  clear hok
  go_wp2_with fail
  generalize w1.alloc (Obj.cells #[.slice asp n csp, .int .i64 (ini : Int), .slice ax next.length cx, .slice at' bits.length ct, .int .i64 (M : Int)] 28) = W1 at *
  generalize w1.heap.size = G at *
  refine HRD.out.mono ?_
  rintro e w2 ⟨v, rfl, got, hog, hgl, hgr, hE2⟩
  obtain ⟨ag, cg, rfl, hrg⟩ := hog.row
  have HGB := Lib.hid (show Bools w2 (.slice ag n cg) got from by
    refine ⟨ag, cg, ?_, ?_⟩
    · rw [hgl]
    · rw [hgl]; exact hrg)
  have HGL := Lib.hid hgl
  have HGR := Lib.hid hgr
  have HE2 := Lib.hid (HE1.out.trans (HA1.out.trans hE2))
  have BA2 := Lib.hid (blk_ext BA.out (HA1.out.trans hE2))
  have BG2 := Lib.hid (blk_ext BG.out hE2)
  have HSP2 := Lib.hid ((HSP.out.ext HA1.out).ext hE2)
  have HLI2 := Lib.hid ((HLI.out.ext HA1.out).ext hE2)
  have cG0 := blk_cell BG2.out (i := 0) rfl
  clear hog hrg hgl hgr hE2 HRD HSP HLI HIN BA BG HA1
  go_wp2_with (at_make; go_must (refine wpList_make_full _ rfl _ _ 30 rfl w2.heap.size 4 (Try.slBools.inf.choose) (.bool false) 1 Try.underlying30 Try.slBools.inf.choose_spec.1 Try.slBools.inf.choose_spec.2.1 Try.slBools.inf.choose_spec.2.2.1 .i64 .i64 n n n rfl rfl rfl rfl (by rw [Try.slBools.inf.choose_spec.2.2.2]; omega) (by unfold maxLen; omega) (Nat.le_refl _) ?_))
  intro w3 hown3 hg3
  rw [made_false] at hown3
  have HO3 := Lib.hid hown3
  have HE3 := Lib.hid ((Ext.refl w2).grown hg3 (Nat.le_refl _) (by simp))
  clear hown3 hg3 cG0
  go_wp2_with fail
  go_loopg [7] ini (fun m x wr => ∃ (i : Nat) (want : List Bool), m + i = ini ∧ x = .int .i64 (i : Int) ∧ Ext w2 wr ∧ wr.ownsRow w2.heap.size 4 1 (.slice (some ⟨w2.heap.size, 0, none⟩) n n) n (want.map .bool) ∧ want.length = n ∧
    (∀ a : Nat, want[a]? = some true ↔ ∃ s, s < i ∧ Reach next s a))
  case atStart => exact ⟨0, List.replicate n false, by omega, by go_num, HE3.out, HO3.out, by simp, fun a => by
    constructor
    · intro h
      rw [List.getElem?_replicate] at h
      split at h <;> simp at h
    · rintro ⟨s, h, _⟩; omega⟩
  case round =>
    obtain ⟨i, want, hm, rfl, hE, ho, hwl, hwr⟩ := hrel
    clear HE3 HO3
    have HM := Lib.hid hm
    have HE := Lib.hid hE
    have HO := Lib.hid ho
    have HWL := Lib.hid hwl
    have HWR := Lib.hid hwr
    have bG := blk_ext BG2.out hE
    have cG0 := blk_cell bG (i := 0) rfl
    have cG1 := blk_cell bG (i := 1) rfl
    have cG2 := blk_cell bG (i := 2) rfl
    have cG3 := blk_cell bG (i := 3) rfl
    have cG4 := blk_cell bG (i := 4) rfl
    clear bG hE ho hwl hwr hm
    by_cases hi : i < ini
    · have HRS := Lib.hid (reaches_any (.slice asp n csp) (.slice ax next.length cx) (.slice at' bits.length ct) (ini : Int) (M : Int) spots next i wr (HSP2.out.ext HE.out) (HLI2.out.ext HE.out) ⟨_, _, _, rfl⟩ (by rw [HN2.out]; exact HOK.out.nx) (by rw [HN2.out]; exact HOK.out.ins) (by rw [HN2.out]; exact HOK.out.max) (by rw [HN2.out]; omega))
      rw [HN2.out] at HRS
      have hiI : (i : Int) < (ini : Int) := by omega
      go_wp2_with fail
      refine HRS.out.mono ?_
      rintro e w4 ⟨v, rfl, r, hor, hrl, hrr, hE4⟩
      obtain ⟨ar, cr, rfl, _⟩ := hor.row
      have HR4 := Lib.hid hor
      have HRL := Lib.hid hrl
      have HRR := Lib.hid hrr
      have HE4 := Lib.hid (HE.out.trans hE4)
      have HO4 := Lib.hid (own_ext HO.out hE4)
      have hs2 : w2.heap.size < wr.heap.size := (HO.out.lt _ rfl).2
      clear hor hrl hrr hE4 HRS cG0 cG1 cG2 cG3 cG4
      go_wp2_with fail
      obtain ⟨wo, rfl⟩ : ∃ wo : World, wo = wr := ⟨_, rfl⟩
      go_loopg [9] n (fun m x wi => ∃ (k : Nat) (wk : List Bool), m + k = n ∧ x = .int .i64 (k : Int) ∧ Ext w2 wi ∧ wi.ownsRow w2.heap.size 4 1 (.slice (some ⟨w2.heap.size, 0, none⟩) n n) n (wk.map .bool) ∧ wk.length = n ∧
        (∀ a : Nat, wk[a]? = some true ↔ want[a]? = some true ∨ (a < k ∧ r[a]? = some true)) ∧ wi.ownsRow wo.heap.size 4 1 (.slice ar n cr) n (r.map .bool))
      case atStart => exact ⟨0, want, by omega, by go_num, HE4.out, HO4.out, HWL.out, fun a => by constructor; exact .inl; rintro (h | ⟨h, _⟩); exact h; omega, HR4.out⟩
      case round =>
        clear HE4 HO4 HR4
        obtain ⟨k, wk, hmk, rfl, hE4, ho4, hwkl, hwkr, hr4⟩ := hrel
        have HMK := Lib.hid hmk
        have HE4 := Lib.hid hE4
        have HO4 := Lib.hid ho4
        have HR4 := Lib.hid hr4
        have HKR := Lib.hid hwkr
        have HKL := Lib.hid hwkl
        by_cases hk : k < n
        · have hrl := HRL.out
          have hkw : k < wk.length := by omega
          have hkr : k < r.length := by omega
          have ck := own_cellAt ho4 (i := k) (by simpa using hkw)
          have fk := own_freeAt ho4 k
          rw [List.getElem_map] at ck
          obtain ⟨_, _, e, hrow⟩ := hr4.row
          simp only [Value.slice.injEq] at e
          obtain ⟨rfl, _, rfl⟩ := e
          obtain ⟨br, or', hr1, hr2⟩ := row_cells hrow
          obtain rfl := hr1 (by omega)
          have crk := hr2 k hkr
          have hkI : (k : Int) < (n : Int) := by omega
          have hnb : (Value.slice (some ⟨br, or', none⟩) n cr).ownBlock ≠ some w2.heap.size := fun e => by have := (hr4.lt _ e).1; omega
          have HRB := Lib.hid (fun u => own_setCell hr4 (p := ⟨w2.heap.size, k, none⟩) u hnb)
          have HOS := Lib.hid (fun b => own_setAt ho4 (i := k) (.bool b))
          have HES := Lib.hid (fun u => ext_st hE4 (p := ⟨w2.heap.size, k, none⟩) (Nat.le_refl _) u)
          have HST := Lib.hid (fun b hb => or_set hk hwkl hrl hwkr b hb)
          clear hrow hr1 hr2 hnb hr4 ho4 hE4 hwkr hmk
          cases hwk : wk[k] with
          | true =>
            rw [hwk] at ck HST
            clear hwk
            go_wp2_with fail
            go_roundg (gk - 1)
            case measure => have := HMK.out; omega
            case rel => exact ⟨k + 1, wk.set k true, by have := HMK.out; omega, by go_num, HES.out _, by rw [← set_map_bool]; exact HOS.out _, by rw [List.length_set]; exact HKL.out, HST.out true (by simp), HRB.out _⟩
          | false =>
            rw [hwk] at ck HST
            clear hwk
            go_wp2_with fail
            go_roundg (gk - 1)
            case measure => have := HMK.out; omega
            case rel => exact ⟨k + 1, wk.set k r[k], by have := HMK.out; omega, by go_num, HES.out _, by rw [← set_map_bool]; exact HOS.out _, by rw [List.length_set]; exact HKL.out, HST.out r[k] (by simp), HRB.out _⟩
        · have hwk2 : ∀ a : Nat, wk[a]? = some true ↔ ∃ s, s < i + 1 ∧ Reach next s a := fun a => by
            rw [hwkr a, HWR.out a]
            have hra := HRR.out a
            constructor
            · rintro (⟨s, h1, h2⟩ | ⟨_, h⟩)
              · exact ⟨s, by omega, h2⟩
              · obtain ⟨s, rfl, h2⟩ := hra.1 h
                exact ⟨s, by omega, h2⟩
            · rintro ⟨s, h1, h2⟩
              by_cases e : s = i
              · subst e
                have h := hra.2 ⟨s, rfl, h2⟩
                exact .inr ⟨by have := (List.getElem?_eq_some_iff.1 h).1; have := HRL.out; omega, h⟩
              · exact .inl ⟨s, by omega, h2⟩
          have HW2 := Lib.hid hwk2
          have hkI : ¬ (k : Int) < (n : Int) := by omega
          clear hwk2 hwkr hwkl hmk hE4 ho4 hr4
          go_wp2_with fail
          go_roundg (ini - (i + 1))
          case measure => have := HM.out; omega
          case rel => exact ⟨i + 1, wk, by omega, by go_num, HE4.out, HO4.out, HKL.out, HW2.out⟩
    · obtain rfl : i = ini := by have := HM.out; omega
      obtain rfl : want = got := marks_eq HWL.out HGL.out fun a => by rw [HWR.out a, HGR.out a]
      obtain ⟨ag', cg', e, hrg⟩ := HGB.out
      simp only [Value.slice.injEq] at e
      obtain ⟨rfl, _, rfl⟩ := e
      obtain ⟨bg, og, hg1, hg2⟩ := row_cells (hrg.ext HE.out)
      have HG1 := Lib.hid hg1
      have HG2 := Lib.hid hg2
      have bA := blk_ext BA2.out HE.out
      have BA := Lib.hid bA
      have hiI : ¬ (i : Int) < (i : Int) := by omega
      have HEW := Lib.hid (HE2.out.trans HE.out)
      clear hrg hg1 hg2 bA hi
      go_wp2_with fail
      clear cG0 cG1 cG2 cG3 cG4
      obtain ⟨wo, rfl⟩ : ∃ wo : World, wo = wr := ⟨_, rfl⟩
      go_loopg [10] n (fun m x wi => ∃ (k q : Nat), m + k = n ∧ x = .int .i64 (k : Int) ∧ wi = wo.drewN q)
      case atStart => exact ⟨0, 0, by omega, by go_num, rfl⟩
      case round =>
        obtain ⟨k, q, hmk, rfl, rfl⟩ := hrel
        have HMK := Lib.hid hmk
        clear hmk
        by_cases hk : k < n
        · have hkw : k < want.length := by have := HWL.out; omega
          have ck := own_cellAt HO.out (i := k) (by simpa using hkw)
          rw [List.getElem_map] at ck
          obtain rfl := HG1.out (by omega)
          have cgk := HG2.out k hkw
          have hkI : (k : Int) < (n : Int) := by omega
          generalize want[k] = b at *
          go_wp2_with fail
          go_quiet (fail)
          go_wp2_with fail
          go_roundg (gk - 1)
          case measure => have := HMK.out; omega
          case rel => exact ⟨k + 1, _, by have := HMK.out; omega, by go_num, rfl⟩
        · have hkI : ¬ (k : Int) < (n : Int) := by omega
          have cA0 := blk_cell BA.out (i := 0) rfl
          have HEQ := Lib.hid (below_drewN HEW.out q)
          rcases hnl with h0 | h0
          · have hl0 : (ll.length : Int) = 0 := by omega
            go_wp2_with fail
            refine (check_bad _).mono ?_
            rintro e w6 ⟨rfl, hE6⟩
            have HE6 := Lib.hid (Ext.trans (show Ext w (wo.drewN q) from HEQ.out) hE6)
            clear hE6
            go_wp2
            go_ret
            exact ⟨rfl, HE6.out⟩
          · have hl0 : (0 : Int) < (ll.length : Int) := by omega
            go_wp2_with fail
            go_ret
            exact ⟨rfl, HEQ.out⟩

/-- What a 'Wires' reads as. -/
theorem Cells.wires {W : World} {cs : Array Value} (h : Cells Try.prog W 25 cs.toList) :
    ∃ vn vs ll sets init many, cs = #[vn, vs, .int .i64 init, .int .i64 many] ∧ Lists W vn ll ∧ Ints W vs sets ∧ (∀ l ∈ ll, ∀ n ∈ l, I64 n) ∧ (∀ n ∈ sets, I64 n) ∧ I64 init ∧ I64 many := by
  obtain ⟨hl, hf⟩ := h.field Try.underlying25
  obtain ⟨c0, c1, c2, c3, e⟩ : ∃ c0 c1 c2 c3, cs.toList = [c0, c1, c2, c3] := by
    have : cs.toList.length = 4 := hl
    match hcs : cs.toList, this with
    | [c0, c1, c2, c3], _ => exact ⟨c0, c1, c2, c3, rfl⟩
  rw [e] at hf
  have f0 : Cells Try.prog W 22 [c0] := hf 0 _ rfl
  have f1 : Cells Try.prog W 23 [c1] := hf 1 _ rfl
  have f2 : Cells Try.prog W 3 [c2] := hf 2 _ rfl
  have f3 : Cells Try.prog W 3 [c3] := hf 3 _ rfl
  obtain ⟨v, ll, hv, hL, hI⟩ := f0.lists Try.underlying22 Try.underlying23 Try.underlying3 (by kernel_rfl) (by kernel_rfl)
  obtain ⟨vs, sets, hvs, hS, hSI⟩ := f1.ints Try.underlying23 Try.underlying3 (by kernel_rfl)
  obtain ⟨i, hi, i64⟩ := f2.i64 Try.underlying3
  obtain ⟨m, hm, m64⟩ := f3.i64 Try.underlying3
  cases hv; cases hvs; cases hi; cases hm
  exact ⟨_, _, ll, sets, i, m, by rw [← Array.toList_inj, e], hL, hS, hI, hSI, i64, m64⟩

theorem reachedAll_law (cs : Array Value) (W : World) (h0 : Cells Try.prog W 25 cs.toList) :
    Calls Try.prog 3 #[.agg cs] W fun e w' => e = .returned (.bool true) ∧ Ext W w' := by
  obtain ⟨vn, vs, ll, sets, init, many, rfl, hN, hS, hI, hT, h1, h2⟩ := h0.wires
  exact reachedAll_walk vn vs ll sets init many W hN hS hI hT h1 h2

end Go.Proofs.Ytknomfdeefakbaa
