/- The contract of foretellkeep.taped. -/
import Derived.Test.YtngcbfefhlheoaaRead
namespace Go.Proofs.Ytngcbfefhlheoaa
open Go.RowKit

/-- The records that the laws write. -/
def recs (ll : List (List Int)) (k : Nat) : List (List Int) := (ll.take k).map recL

theorem recs_succ (ll : List (List Int)) (k : Nat) (h : k < ll.length) : recs ll (k + 1) = recs ll k ++ [recL ll[k]] := by
  unfold recs
  rw [List.take_succ_eq_append_getElem h, List.map_append]
  rfl

theorem recs_len (ll : List (List Int)) (k : Nat) : (recs ll k).length = min k ll.length := by simp [recs]

theorem good_rec (l : List Int) : Good (recL l) := ⟨by rw [recL_len]; omega, recL_bd l⟩

theorem recs_good (ll : List (List Int)) (k : Nat) : ∀ zs ∈ recs ll k, Good zs := by
  intro zs hz
  obtain ⟨l, _, rfl⟩ := List.mem_map.1 hz
  exact good_rec l

theorem tapeB_snoc (zss : List (List Int)) (zs : List Int) : tapeB (zss ++ [zs]) = tapeB zss ++ recB zs := by simp [tapeB]

theorem tapeB_le (zss : List (List Int)) (h : ∀ zs ∈ zss, zs.length ≤ 12) : (tapeB zss).length ≤ 56 * zss.length ∧ 8 * zss.length ≤ (tapeB zss).length := by
  induction zss with
  | nil => simp [tapeB]
  | cons z zss ih =>
    have h1 := h z (by simp)
    have h2 := ih (fun y hy => h y (by simp [hy]))
    have : (tapeB (z :: zss)).length = (recB z).length + (tapeB zss).length := by simp [tapeB]
    rw [this, recB_len, List.length_cons]
    omega

theorem recs_12 (ll : List (List Int)) (k : Nat) : ∀ zs ∈ recs ll k, zs.length ≤ 12 := by
  intro zs hz
  obtain ⟨l, _, rfl⟩ := List.mem_map.1 hz
  rw [recL_len]; omega

theorem each_set {w : World} {base : Nat} {vs : List Value} {ll : List (List Int)} (h : Each w vs ll) (hl : ∀ u ∈ vs, ∀ b, u.ownBlock = some b → base ≤ b) (p : Addr) (hp : p.block < base) (v : Value) : Each (w.setCell p v) vs ll := by
  refine ⟨h.1, fun i x l hx hl' => ?_⟩
  have hg : w.grownBy (w.setCell p v) (some p.block) := ⟨rfl, rfl, rfl, by simp, fun i hi hn => Below.heap_setCell _ _ _ _ (fun e => hn (by rw [e]))⟩
  refine ints_grown (h.2 i x l hx hl') hg (.inr fun b hb e => ?_)
  injection hb with hb
  have := hl x (List.mem_of_getElem? hx) b e
  omega

theorem Row.oneAt (w : World) (t : TypeId) (x : Value) (k : Nat) (hk : k = w.heap.size) : Row (w.alloc (.cells #[x] t)) 1 (some ⟨k, 0, none⟩) 1 1 [x] := by subst hk; exact Row.one w t x

theorem cellS {w : World} {k i : Nat} {v u : Value} (h : w.cell? ⟨k, i, none⟩ = some u) : (w.setCell ⟨k, i, none⟩ v).cell? ⟨k, i, none⟩ = some v := World.cell?_setCell_same _ _ _ h
theorem cellN {w : World} {k i j : Nat} {v u : Value} (h : w.cell? ⟨k, i, none⟩ = some u) (hn : i ≠ j) : (w.setCell ⟨k, j, none⟩ v).cell? ⟨k, i, none⟩ = some u := by
  rw [World.cell?_setCell_other _ _ _ _ (by intro e; simp only [Addr.mk.injEq] at e; exact hn e.2.1.symm)]; exact h

set_option maxRecDepth 100000 in
set_option maxHeartbeats 4000000 in
theorem taped_any (v : Value) (ll : List (List Int)) (w : World) (h : Lists w v ll) (hI : ∀ l ∈ ll, ∀ n ∈ l, I64 n) :
    Calls Try.prog 14 #[v] w fun e w' => ∃ vd vr, e = .returned (.tuple #[.agg #[vd, .int .i64 0], vr, .bool true]) ∧ w'.ownsRow w.heap.size 5 1 vd (tapeB (recs ll 10)).length ((tapeB (recs ll 10)).map bv) ∧ OwnL w' w.heap.size vr (recs ll 10) ∧ Ext w w' := by
  obtain ⟨a, c, rfl⟩ : ∃ a c, v = .slice a ll.length c := by
    obtain ⟨vs, he, a, c, rfl, _⟩ := h
    exact ⟨a, c, rfl⟩
  obtain ⟨_, hle, hmx, b1, o1, ha1, hc1⟩ := h.cells
  unfold maxLen at hmx
  have hml : ll.length ≤ 9223372036854775807 := by omega
  have HA := Lib.hid ha1
  have HC := Lib.hid hc1
  have HI := Lib.hid hI
  clear ha1 hc1 h hI hle hmx
  go_enter Try.func14, Try.ntmps14
  go_wp2
  have hE0 : Ext w ((w.alloc (Obj.cells #[.slice none 0 0, .int .i64 0] 30)).alloc (Obj.cells #[.slice none 0 0, .int .i64 0] 30)) := ((Ext.refl w).alloc (Nat.le_refl _) _).alloc (by simp) _
  have r0 : ((w.alloc (Obj.cells #[.slice none 0 0, .int .i64 0] 30)).alloc (Obj.cells #[.slice none 0 0, .int .i64 0] 30)).cell? ⟨w.heap.size, 0, none⟩ = some (.slice none 0 0) := by simp [go_sem]
  have r1 : ((w.alloc (Obj.cells #[.slice none 0 0, .int .i64 0] 30)).alloc (Obj.cells #[.slice none 0 0, .int .i64 0] 30)).cell? ⟨w.heap.size, 1, none⟩ = some (.int .i64 0) := by simp [go_sem]
  have rz : ∀ i, ((w.alloc (Obj.cells #[.slice none 0 0, .int .i64 0] 30)).alloc (Obj.cells #[.slice none 0 0, .int .i64 0] 30)).frozen? ⟨w.heap.size, i, none⟩ = false := by intro i; simp [go_sem]
  have t0 : ((w.alloc (Obj.cells #[.slice none 0 0, .int .i64 0] 30)).alloc (Obj.cells #[.slice none 0 0, .int .i64 0] 30)).cell? ⟨w.heap.size + 1, 0, none⟩ = some (.slice none 0 0) := by simp [go_sem]
  have t1 : ((w.alloc (Obj.cells #[.slice none 0 0, .int .i64 0] 30)).alloc (Obj.cells #[.slice none 0 0, .int .i64 0] 30)).cell? ⟨w.heap.size + 1, 1, none⟩ = some (.int .i64 0) := by simp [go_sem]
  have tz : ∀ i, ((w.alloc (Obj.cells #[.slice none 0 0, .int .i64 0] 30)).alloc (Obj.cells #[.slice none 0 0, .int .i64 0] 30)).frozen? ⟨w.heap.size + 1, i, none⟩ = false := by intro i; simp [go_sem]
  have hs0 : ((w.alloc (Obj.cells #[.slice none 0 0, .int .i64 0] 30)).alloc (Obj.cells #[.slice none 0 0, .int .i64 0] 30)).heap.size = w.heap.size + 2 := by simp
  generalize (w.alloc (Obj.cells #[.slice none 0 0, .int .i64 0] 30)).alloc (Obj.cells #[.slice none 0 0, .int .i64 0] 30) = W0 at *
  have HE0 := Lib.hid hE0
  have HR0 := Lib.hid r0
  have HR1 := Lib.hid r1
  have HRZ := Lib.hid rz
  go_loopw [6, 7] (fun x y wr => ∃ (k : Nat) (vd : Value), y = .int .i64 (k : Int) ∧ k ≤ 10 ∧ k ≤ ll.length ∧ wr.cell? ⟨w.heap.size + 1, 0, none⟩ = some vd ∧ wr.cell? ⟨w.heap.size + 1, 1, none⟩ = some (.int .i64 0) ∧ (∀ i, wr.frozen? ⟨w.heap.size + 1, i, none⟩ = false) ∧
    wr.ownsRow (w.heap.size + 2) 5 1 vd (tapeB (recs ll k)).length ((tapeB (recs ll k)).map bv) ∧ LowL wr (w.heap.size + 2) x (recs ll k) ∧ Below (w.heap.size + 1) W0 wr ∧ w.heap.size + 2 ≤ wr.heap.size) (fun _ y _ => 11 - (intOf y).toNat)
  case atStart => exact ⟨0, .slice none 0 0, by go_num, by omega, by omega, t0, t1, tz, World.ownsRow_nil _ _ _ _, LowL.nil _ _, Below.refl _ _, by omega⟩
  case round =>
    clear t0 t1 tz r0 r1 rz hE0
    obtain ⟨k, vd, rfl, hk10, hkl, t0, t1, tz, hown, hL, hB, hws⟩ := hrel
    obtain ⟨ad, cd, rfl, hrd⟩ := hown.row
    by_cases hlt : k < ll.length ∧ k < 10
    · obtain ⟨hlt1, hlt2⟩ := hlt
      obtain ⟨ai, ci, hx, hx2⟩ := HC.out k hlt1
      obtain rfl := HA.out (by omega)
      have hEw : Ext w wr := Below.trans (HE0.out.mono (Nat.le_refl _)) (hB.mono (by omega))
      replace hx := cell_later hEw hx
      have hIi := HI.out ll[k] (by simp)
      have hRS := recs_succ ll k hlt1
      have hTS : tapeB (recs ll (k + 1)) = tapeB (recs ll k) ++ recB (recL ll[k]) := by rw [hRS, tapeB_snoc]
      have hb1 := (tapeB_le (recs ll k) (recs_12 ll k)).1
      have hb2 := recs_len ll k
      have hb : (tapeB (recs ll k)).length ≤ 600 := by omega
      have hrsl : (recs ll k).length ≤ 1000 := by omega
      have HREC := Lib.hid (record_any _ ll[k] wr (hx2.ext hEw) hIi)
      have hz12 : (recL ll[k]).length ≤ 12 := by rw [recL_len]; omega
      have hzI := recL_bd ll[k]
      have HZI := Lib.hid hzI
      have HRS := Lib.hid hRS
      have HTS := Lib.hid hTS
      have HEW := Lib.hid hEw
      clear hx2 hIi hRS hTS hb1 hb2 hEw hzI
      generalize recL ll[k] = z at *
      generalize ll[k] = lk at *
      generalize tapeB (recs ll k) = bs at *
      generalize recs ll k = rs at *
      have HB := Lib.hid hB
      have HLL := Lib.hid hL
      have HOW := Lib.hid hown
      clear hB hL hown hrd
      go_wp2_with fail
      refine HREC.out.mono ?_
      rintro e w2 ⟨v2, rfl, hown2, hE2⟩
      obtain ⟨a2, c2, rfl, hr2⟩ := hown2.row
      have t02 := cell_later hE2 t0
      have t12 := cell_later hE2 t1
      have hT2 : w.heap.size + 1 < w2.heap.size := World.block_lt_of_cell? _ _ t02
      have tz2 : ∀ i, w2.frozen? ⟨w.heap.size + 1, i, none⟩ = false := fun i => (World.frozen?_of_block (hE2.block (w.heap.size + 1) (by omega))).trans (tz i)
      have hI2 : Ints w2 (.slice a2 z.length c2) z := ⟨_, _, rfl, hr2⟩
      have HWR := Lib.hid (write_own (.slice ad bs.length cd) (.slice a2 z.length c2) bs 0 z w2 (own_ext HOW.out hE2).reads hI2 (by omega) (by omega) (by omega) (by omega) HZI.out)
      have HI2 := Lib.hid hI2
      have HL2 := Lib.hid (HLL.out.ext hE2)
      have HE2 := Lib.hid hE2
      have hs2 := hE2.size
      have h2lt : ∀ b, (Value.slice a2 z.length c2).ownBlock = some b → wr.heap.size ≤ b := fun b hb => (hown2.lt b hb).1
      have H2LT := Lib.hid h2lt
      clear t0 t1 tz hown2 hr2 hI2 hE2 HREC h2lt hx
      go_wp2_with fail
      refine HWR.out.mono ?_
      rintro e w3 ⟨v3, rfl, hown3, hE3⟩
      obtain ⟨a3, c3, rfl, hr3⟩ := hown3.row
      have t03 := cell_later hE3 t02
      have t13 := cell_later hE3 t12
      have hs3 := hE3.size
      have tz3 : ∀ i, w3.frozen? ⟨w.heap.size + 1, i, none⟩ = false := fun i => (World.frozen?_of_block (hE3.block (w.heap.size + 1) (by omega))).trans (tz2 i)
      have hl3 : (bs ++ recB z).length = bs.length + 8 + 4 * z.length := by rw [List.length_append, recB_len]; omega
      have HOW3 := Lib.hid hown3
      have HE3 := Lib.hid hE3
      obtain ⟨vs, hEa, hownx, hAp, hLow⟩ := HL2.out.ext hE3
      have HLow := Lib.hid hLow
      have HEa := Lib.hid hEa
      have HX := Lib.hid hownx
      have HAp := Lib.hid hAp
      have hxlt : ∀ b, u6.ownBlock = some b → w.heap.size + 2 ≤ b ∧ b < wr.heap.size := fun b hb => by
        obtain ⟨_, _, ho, _, _⟩ := HLL.out
        exact ho.lt b hb
      have HXLT := Lib.hid hxlt
      have z0 := tz3 0
      have z1 := tz3 1
      have HTZ := Lib.hid tz3
      have hne1 : ¬ w3.heap.size = w.heap.size + 1 := by omega
      have hne2 : ¬ w.heap.size + 1 = w3.heap.size := by omega
      generalize hbl : (bs ++ recB z).length = L3 at *
      have HL3 := Lib.hid hl3
      have HBL := Lib.hid hbl
      have t04 : (w3.alloc (Obj.cells #[.slice a3 L3 c3, .int .i64 0] 30)).cell? ⟨w.heap.size + 1, 0, none⟩ = some (.slice ad bs.length cd) := by rw [World.cell?_alloc_past _ _ _ (by show w.heap.size + 1 < _; omega)]; exact t03
      have t14 : (w3.alloc (Obj.cells #[.slice a3 L3 c3, .int .i64 0] 30)).cell? ⟨w.heap.size + 1, 1, none⟩ = some (.int .i64 0) := by rw [World.cell?_alloc_past _ _ _ (by show w.heap.size + 1 < _; omega)]; exact t13
      have z04 : (w3.alloc (Obj.cells #[.slice a3 L3 c3, .int .i64 0] 30)).frozen? ⟨w.heap.size + 1, 0, none⟩ = false := by rw [World.frozen?_alloc_past _ _ _ (by show w.heap.size + 1 < _; omega)]; exact z0
      have z14 : (w3.alloc (Obj.cells #[.slice a3 L3 c3, .int .i64 0] 30)).frozen? ⟨w.heap.size + 1, 1, none⟩ = false := by rw [World.frozen?_alloc_past _ _ _ (by show w.heap.size + 1 < _; omega)]; exact z1
      have hlen4 : ((L3 : Int) != (bs.length : Int) + 8 + 4 * (z.length : Int)) = false := by rw [bne_eq_false_iff_eq]; omega
      have hnb : ∀ b, u6.ownBlock = some b → b ≠ w.heap.size + 1 := fun b hb => by have := hxlt b hb; omega
      have hown4 := (own_setCell (own_setCell (hownx.alloc (Obj.cells #[.slice a3 L3 c3, .int .i64 0] 30)) (p := ⟨w.heap.size + 1, 0, none⟩) (.slice a3 L3 c3) (fun e => hnb _ e rfl)) (p := ⟨w.heap.size + 1, 1, none⟩) (.int .i64 0) (fun e => hnb _ e rfl)).alloc (Obj.cells #[.slice a2 z.length c2] 27)
      obtain ⟨ax, cx, rfl, _⟩ := hownx.row
      clear hLow t02 t12 tz2 hr3 hEa hownx hAp hxlt hown3 hE3 HWR hnb tz3 hl3 hbl z0 z1 t03 t13
      go_wp2_with (at_builtin; go_must (refine wpl_append rfl rfl Try.slLists (w.heap.size + 2) rfl hown4 rfl (Row.oneAt _ _ _ _ (by simp)) (by simp [Value.oneCell']) (by unfold maxLen; omega) (by omega) (by simp; omega) ?_))
      intro v5 w5 hown5 hg5 hb5 _
      have HT04 := Lib.hid t04
      have HT14 := Lib.hid t14
      have HB5 := Lib.hid hb5
      have HG5 := Lib.hid hg5
      have HO5 := Lib.hid hown5
      have hT3 : w.heap.size + 1 < w3.heap.size := by omega
      clear t04 t14 z04 z14 hown4 hown5 hg5 hb5
      go_wp2_with fail
      go_roundw
      case rel =>
        have hEa3 := HEa.out
        have hA1 : Ext w3 (w3.alloc (Obj.cells #[.slice a3 L3 c3, .int .i64 0] 30)) := (Ext.refl w3).alloc (Nat.le_refl _) _
        have e2 := each_set (each_set (hEa3.ext hA1) HLow.out ⟨w.heap.size + 1, 0, none⟩ (by show w.heap.size + 1 < _; omega) (.slice a3 L3 c3)) HLow.out ⟨w.heap.size + 1, 1, none⟩ (by show w.heap.size + 1 < _; omega) (.int .i64 0)
        have h2b : ∀ b, (Value.slice a2 z.length c2).ownBlock = some b → w.heap.size + 2 ≤ b := fun b hb => by have := H2LT.out b hb; omega
        have gS : ∀ (wq : World) (p : Addr) (v : Value), wq.grownBy (wq.setCell p v) (some p.block) := fun wq p v => ⟨rfl, rfl, rfl, by simp, fun i hi hn => Below.heap_setCell _ _ _ _ (fun e => hn (by rw [e]))⟩
        have i1 := (HI2.out.ext HE3.out).ext hA1
        have i2 := ints_grown i1 (gS _ ⟨w.heap.size + 1, 0, none⟩ (.slice a3 L3 c3)) (.inr fun b hb e => by injection hb with hb; have := h2b b e; simp at hb; omega)
        have i3 := ints_grown i2 (gS _ ⟨w.heap.size + 1, 1, none⟩ (.int .i64 0)) (.inr fun b hb e => by injection hb with hb; have := h2b b e; simp at hb; omega)
        generalize hW4 : ((w3.alloc (Obj.cells #[.slice a3 L3 c3, .int .i64 0] 30)).setCell ⟨w.heap.size + 1, 0, none⟩ (.slice a3 L3 c3)).setCell ⟨w.heap.size + 1, 1, none⟩ (.int .i64 0) = W4 at *
        have hA2 : Ext W4 (W4.alloc (Obj.cells #[.slice a2 z.length c2] 27)) := (Ext.refl W4).alloc (Nat.le_refl _) _
        have hs4 : W4.heap.size = w3.heap.size + 1 := by rw [← hW4]; simp
        have hb5' : v5.ownBlock = (Value.slice ax rs.length cx).ownBlock ∨ v5.ownBlock = some (W4.alloc (Obj.cells #[.slice a2 z.length c2] 27)).heap.size := by
          rcases HB5.out with h | h
          · exact .inl h
          · right; rw [h]; simp [hs4]
        have hparts := snoc_parts (e2.ext hA2) HAp.out (i3.ext hA2) (.inr fun b h1 h2 => by have := HXLT.out b h1; have := H2LT.out b h2; omega) HO5.out HG5.out hb5'
        have u0 : W4.cell? ⟨w.heap.size + 1, 0, none⟩ = some (.slice a3 L3 c3) := by rw [← hW4]; exact cellN (cellS HT04.out) (by omega)
        have u1 : W4.cell? ⟨w.heap.size + 1, 1, none⟩ = some (.int .i64 0) := by rw [← hW4]; exact cellS (cellN HT14.out (by omega))
        have uz : ∀ i, W4.frozen? ⟨w.heap.size + 1, i, none⟩ = false := fun i => by
          rw [← hW4, World.frozen?_setCell, World.frozen?_setCell, World.frozen?_alloc_past _ _ _ (by show w.heap.size + 1 < _; omega)]
          exact HTZ.out i
        have hnx : some (w.heap.size + 1) ≠ (Value.slice ax rs.length cx).ownBlock := fun e => by have := HXLT.out _ e.symm; omega
        have x0 := HG5.out.cell (cell_later hA2 u0) hnx
        have x1 := HG5.out.cell (cell_later hA2 u1) hnx
        have xz : ∀ i, w5.frozen? ⟨w.heap.size + 1, i, none⟩ = false := fun i => by
          rw [World.frozen?_of_block (HG5.out.block (w.heap.size + 1) (by simp; omega) hnx), World.frozen?_alloc_past _ _ _ (by show w.heap.size + 1 < _; omega)]
          exact uz i
        have hnv : ∀ b, (Value.slice a3 L3 c3).ownBlock = some b → w2.heap.size ≤ b := fun b hb => (HOW3.out.lt b hb).1
        have o4 : W4.ownsRow w2.heap.size 5 1 (.slice a3 L3 c3) L3 ((bs ++ recB z).map bv) := by
          rw [← hW4]
          exact own_setCell (own_setCell (HOW3.out.alloc _) (p := ⟨w.heap.size + 1, 0, none⟩) _ (fun e => by have := hnv _ e; simp at this; omega)) (p := ⟨w.heap.size + 1, 1, none⟩) _ (fun e => by have := hnv _ e; simp at this; omega)
        have o5 := own_grown (o4.alloc (Obj.cells #[.slice a2 z.length c2] 27)) HG5.out (by
          cases hq : (Value.slice a3 L3 c3).ownBlock with
          | none => exact .inl rfl
          | some b => exact .inr (fun e => by have := HXLT.out b e.symm; have := hnv b hq; omega))
        have bl : Below (w.heap.size + 1) W0 w5 := by
          have b1 : Below (w.heap.size + 1) W0 w3 := (HB.out.trans (HE2.out.mono (by omega))).trans (HE3.out.mono (by omega))
          have b2 : Below (w.heap.size + 1) W0 W4 := by
            rw [← hW4]
            exact ((b1.alloc (by omega) _).setCell (p := ⟨w.heap.size + 1, 0, none⟩) (by simp) _).setCell (p := ⟨w.heap.size + 1, 1, none⟩) (by simp) _
          exact (b2.alloc (by omega) _).grown HG5.out (by simp; omega) (fun b hb => by have := HXLT.out b hb; omega)
        have hw5 : w.heap.size + 2 ≤ w5.heap.size := by have := HG5.out.size; simp at this; omega
        refine ⟨k + 1, .slice a3 L3 c3, by go_num, by omega, by omega, x0, x1, xz, ?_, ?_, bl, hw5⟩
        · rw [HTS.out, HBL.out]
          exact own_down o5 (by omega)
        · rw [HRS.out]
          refine ⟨vs ++ [.slice a2 z.length c2], hparts.1, hparts.2.1, hparts.2.2, fun u hu b hb => ?_⟩
          rcases List.mem_append.1 hu with hu | hu
          · exact HLow.out u hu b hb
          · simp only [List.mem_singleton] at hu
            subst hu
            exact h2b b hb
      case measure => simp [intOf]; omega
    · have hfin : recs ll k = recs ll 10 := by
        unfold recs
        congr 1
        by_cases h : k = 10
        · rw [h]
        · rw [List.take_of_length_le (by omega), List.take_of_length_le (by omega)]
      rw [hfin] at hown hL t0
      have hb1 := tapeB_le (recs ll 10) (recs_12 ll 10)
      have hb2 := recs_len ll 10
      have r0 := (hB.cell (p := ⟨w.heap.size, 0, none⟩) (by show w.heap.size < _; omega)).trans HR0.out
      have r1 := (hB.cell (p := ⟨w.heap.size, 1, none⟩) (by show w.heap.size < _; omega)).trans HR1.out
      have rz : ∀ i, wr.frozen? ⟨w.heap.size, i, none⟩ = false := fun i => (World.frozen?_of_block (hB.block w.heap.size (by omega))).trans (HRZ.out i)
      have rz0 := rz 0
      have rz1 := rz 1
      have HOW := Lib.hid hown
      have HL := Lib.hid hL
      have HB := Lib.hid (Below.trans (HE0.out.mono (Nat.le_refl _)) (hB.mono (by omega)))
      have hn1 : ¬ w.heap.size = w.heap.size + 1 := by omega
      clear hrd hfin rz hown hL hB tz
      generalize hbs : tapeB (recs ll 10) = bs at *
      have HBS := Lib.hid hbs
      clear hbs
      have hcnd : k = ll.length ∨ k = 10 := by omega
      clear hlt
      rcases hcnd with rfl | rfl
      all_goals
        go_wp2
        all_goals
          have hown := HOW.out
          obtain ⟨vs, hEa, hownx, hAp, hLow⟩ := HL.out
          refine bodyPost_ret (v := .tuple #[.agg #[.slice ad bs.length cd, .int .i64 0], u6, .bool true]) (by simp [results, Try.results14, go_sem, r0, r1]) rfl ⟨_, _, rfl, ?_, ?_, ?_⟩
          · rw [HBS.out]
            exact own_down (own_setCell (own_setCell hown (p := ⟨w.heap.size, 0, none⟩) _ (fun e => by have := (hown.lt _ e).1; simp at this; omega)) (p := ⟨w.heap.size, 1, none⟩) _ (fun e => by have := (hown.lt _ e).1; simp at this; omega)) (by omega)
          · exact OwnL.down ⟨vs, each_set (each_set hEa hLow ⟨w.heap.size, 0, none⟩ (by show w.heap.size < _; omega) _) hLow ⟨w.heap.size, 1, none⟩ (by show w.heap.size < _; omega) _, own_setCell (own_setCell hownx (p := ⟨w.heap.size, 0, none⟩) _ (fun e => by have := (hownx.lt _ e).1; simp at this; omega)) (p := ⟨w.heap.size, 1, none⟩) _ (fun e => by have := (hownx.lt _ e).1; simp at this; omega), hAp⟩ (by omega)
          · exact (HB.out.setCell (p := ⟨w.heap.size, 0, none⟩) (by simp) _).setCell (p := ⟨w.heap.size, 1, none⟩) (by simp) _
end Go.Proofs.Ytngcbfefhlheoaa
