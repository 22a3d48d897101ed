/- The contract of foretelltop.ring. -/
import Derived.Test.YtbmimdnpchldlaaDoorKd33
import Derived.Test.YtbmimdnpchldlaaDoorKd31
namespace Go.Proofs.YtbmimdnpchldlaaDoor
open Go.RowKit

theorem row_blk {w : World} {b n sz : Nat} {cs : Array Value} {T : TypeId} (h : w.heap[b]? = some (.cells cs T (0, 0))) (hl : cs.size = n * sz) (hm : n ≤ maxLen) : Row w sz (some ⟨b, 0, none⟩) n n cs.toList :=
  ⟨by simpa using hl, Nat.le_refl _, hm, b, 0, (by intro h; cases h), fun _ => rfl, fun j u hu => by
    rw [Nat.zero_add]
    exact blk_cell h (by simpa using hu)⟩
theorem isT_blk {w : World} {b : Nat} {k v : Int} {T : TypeId} (h : w.heap[b]? = some (.cells #[.int .i64 k, .int .i64 v] T (0, 0))) : IsT w (.slice (some ⟨b, 0, none⟩) 1 1) (.n0 k v) :=
  ⟨_, _, rfl, row_blk (n := 1) (sz := 2) h rfl (by unfold maxLen; omega)⟩
/-- A term does not lie in a block of slices. -/
theorem isT_F {w w' : World} {Q : Nat} {T : TypeId} {v : Value} {t : Tm} {x : Array Value} (h : IsT w v t) (hx : ∀ (i : Nat) (u : Value), x[i]? = some u → ∃ a n c, u = .slice a n c) (hQ : w.heap[Q]? = some (.cells x T (0, 0))) (hg : w.grownBy w' (some Q)) : IsT w' v t := by
  obtain ⟨a, c, rfl, hr⟩ := h
  obtain ⟨b, off, _, h2, h3⟩ := hr.lie
  have hp : 0 < t.flat.length := by rw [Tm.flat_len]; exact t.size_pos
  obtain ⟨o, r, hf⟩ : ∃ o r, t.flat = o :: r := by
    cases hf : t.flat with
    | nil => rw [hf] at hp; simp at hp
    | cons o r => exact ⟨o, r, rfl⟩
  have h0 : (t.flat.flatMap opc)[0]? = some (.int .i64 o.1) := by rw [hf]; simp [opc]
  have h4 := h3 0 _ h0
  obtain rfl := h2 (getElem?_pos h0)
  refine Reads.grown (show Reads w 2 _ t.flat.length (t.flat.flatMap opc) from ⟨_, _, rfl, hr⟩) hg (.inr (.inr fun e => ?_))
  simp [Value.ownBlock] at e
  subst e
  simp only [World.cell?, hQ] at h4
  cases hc : x[off + 0]? with
  | none => rw [hc] at h4; simp at h4
  | some u =>
    obtain ⟨_, _, _, rfl⟩ := hx _ _ hc
    rw [hc] at h4
    simp at h4

theorem ring_md {w wF : World} {R vB s1 s2 rB M : Nat} {T T1 T2 T3 T4 : TypeId} {j1 j2 j3 a4 : Value} (hR : w.heap[R]? = some (.cells #[nilV, nilV] T (0, 0))) (hg : w.grownBy wF (some R))
    (hv : w.heap[vB]? = some (.cells #[.string nmX, .int .i64 0, .int .i64 ((M : Int) - 1), .int .i64 0] T1 (0, 0))) (hs1 : w.heap[s1]? = some (.cells #[.int .i64 0, j2] T2 (0, 0))) (hs2 : w.heap[s2]? = some (.cells #[.int .i64 0, a4] T3 (0, 0)))
    (hr : w.heap[rB]? = some (.cells #[j1, .slice (some ⟨s1, 0, none⟩) 1 1, j3, .slice (some ⟨s2, 0, none⟩) 1 1] T4 (0, 0)))
    (J1 : IsT w j1 (ringR1 M).guard) (J2 : IsT w j2 (.n2 3 0 (.n0 2 0) (.n0 1 1))) (J3 : IsT w j3 (ringR2 M).guard) (A4 : IsT w a4 (.n0 1 0)) : IsMd wF (.slice (some ⟨vB, 0, none⟩) 1 1) (.slice (some ⟨rB, 0, none⟩) 2 2) (ringM M) := by
  have hx : ∀ (i : Nat) (u : Value), (#[nilV, nilV] : Array Value)[i]? = some u → ∃ a n c, u = .slice a n c := fun i u h => by
    match i with
    | 0 => simp at h; exact ⟨_, _, _, h.symm⟩
    | 1 => simp at h; exact ⟨_, _, _, h.symm⟩
    | i + 2 => simp at h
  have K1 := isT_F J1 hx hR hg
  have K2 := isT_F J2 hx hR hg
  have K3 := isT_F J3 hx hR hg
  have K4 := isT_F A4 hx hR hg
  have nv : vB ≠ R := by rintro rfl; rw [hR] at hv; simp at hv
  have n1 : s1 ≠ R := by rintro rfl; rw [hR] at hs1; simp at hs1
  have n2 : s2 ≠ R := by rintro rfl; rw [hR] at hs2; simp at hs2
  have nr : rB ≠ R := by rintro rfl; rw [hR] at hr; simp at hr
  have gv := blk_grown hv hg (fun e => nv (Option.some.inj e))
  have g1 := blk_grown hs1 hg (fun e => n1 (Option.some.inj e))
  have g2 := blk_grown hs2 hg (fun e => n2 (Option.some.inj e))
  have gr := blk_grown hr hg (fun e => nr (Option.some.inj e))
  have S1 : IsSets wF (.slice (some ⟨s1, 0, none⟩) 1 1) (ringR1 M).sets :=
    ⟨[[.int .i64 0, j2]], rfl, by simp, ⟨_, _, rfl, row_blk (n := 1) (sz := 2) g1 rfl (by unfold maxLen; omega)⟩, fun i cs x h1 h2 => by
      match i with
      | 0 => simp [ringR1] at h1 h2; subst h1; subst h2; exact ⟨_, rfl, K2⟩
      | i + 1 => simp at h1⟩
  have S2 : IsSets wF (.slice (some ⟨s2, 0, none⟩) 1 1) (ringR2 M).sets :=
    ⟨[[.int .i64 0, a4]], rfl, by simp, ⟨_, _, rfl, row_blk (n := 1) (sz := 2) g2 rfl (by unfold maxLen; omega)⟩, fun i cs x h1 h2 => by
      match i with
      | 0 => simp [ringR2] at h1 h2; subst h1; subst h2; exact ⟨_, rfl, K4⟩
      | i + 1 => simp at h1⟩
  refine ⟨⟨[vrc (ringV M)], rfl, by simp [vrc], ⟨_, _, rfl, row_blk (n := 1) (sz := 4) gv rfl (by unfold maxLen; omega)⟩, fun i cs x h1 h2 => ?_⟩, ⟨[[j1, .slice (some ⟨s1, 0, none⟩) 1 1], [j3, .slice (some ⟨s2, 0, none⟩) 1 1]], rfl, by simp, ⟨_, _, rfl, row_blk (n := 2) (sz := 2) gr rfl (by unfold maxLen; omega)⟩, fun i cs x h1 h2 => ?_⟩⟩
  · match i with
    | 0 => simp [ringM] at h1 h2; subst h1; subst h2; rfl
    | i + 1 => simp at h1
  · match i with
    | 0 => simp [ringM] at h1 h2; subst h1; subst h2; exact ⟨_, _, rfl, K1, S1⟩
    | 1 => simp [ringM] at h1 h2; subst h1; subst h2; exact ⟨_, _, rfl, K3, S2⟩
    | i + 2 => simp at h1

set_option maxHeartbeats 4000000 in
theorem num_any (k : Int) (w : World) : Calls Tryd.prog 26 #[.int .i64 k] w fun e w' => ∃ v, e = .returned v ∧ IsT w' v (.n0 1 k) ∧ Ext w w' := by
  have HT := Lib.hid (isT_lit w 47 1 k _ rfl)
  have HE := Lib.hid (ext_al (Ext.refl w) (Obj.cells #[.int .i64 1, .int .i64 k] 47))
  go_enter Tryd.func26, Tryd.ntmps26
  go_wp2
  go_ret
  exact ⟨.slice (some ⟨w.heap.size, 0, none⟩) 1 1, rfl, HT.out, HE.out⟩

set_option maxRecDepth 100000 in
set_option maxHeartbeats 8000000 in
theorem ring_any (M : Nat) (w : World) (h2 : 2 ≤ M) (h9 : M ≤ 9) :
    Calls Tryd.prog 10 #[.int .i64 (M : Int)] w fun e w' => ∃ (av : Option Addr) (cv : Nat) (ar : Option Addr), e = .returned (.agg #[.slice av 1 cv, .slice ar 2 2]) ∧ IsMd w' (.slice av 1 cv) (.slice ar 2 2) (ringM M) ∧ Ext w w' := by
  have h0 := ext_al (Ext.refl w) (Obj.cells #[.slice none 0 0, .slice none 0 0] 30)
  have g0 := blk_new w (Obj.cells #[.slice none 0 0, .slice none 0 0] 30)
  go_enter Tryd.func10, Tryd.ntmps10
  go_upto_region 1 with fail
  obtain ⟨R, hR⟩ : ∃ x, w.heap.size = x := ⟨_, rfl⟩
  have HRw := Lib.hid hR
  rw [hR] at g0 ⊢
  clear hR
  generalize w.alloc (Obj.cells #[.slice none 0 0, .slice none 0 0] 30) = W1 at *
  have HW1 := Lib.hid h0
  have h1 := ext_al (Ext.refl W1) (Obj.cells #[.int .i64 2, .int .i64 0] 47)
  have g1 := blk_new W1 (Obj.cells #[.int .i64 2, .int .i64 0] 47)
  have HB2 := Lib.hid (blk_ext g0 h1)
  have HW2 := Lib.hid (HW1.out.trans h1)
  clear g0 h0 h1
  go_upto_region 2 with fail
  obtain ⟨xB, hxB⟩ : ∃ x, W1.heap.size = x := ⟨_, rfl⟩
  rw [hxB] at g1 ⊢
  clear hxB
  generalize W1.alloc (Obj.cells #[.int .i64 2, .int .i64 0] 47) = W2 at *
  have h2' := ext_al (Ext.refl W2) (Obj.cells #[.string nmX, .int .i64 0, .int .i64 ((M : Int) - 1), .int .i64 0] 90)
  have HVb0 := blk_new W2 (Obj.cells #[.string nmX, .int .i64 0, .int .i64 ((M : Int) - 1), .int .i64 0] 90)
  have HXb := Lib.hid (blk_ext g1 h2')
  have HRb := Lib.hid (blk_ext HB2.out h2')
  have HW3 := Lib.hid (HW2.out.trans h2')
  clear g1 h2' HB2
  go_wp2_with fail
  obtain ⟨vB, hvB⟩ : ∃ x, W2.heap.size = x := ⟨_, rfl⟩
  rw [hvB] at HVb0 ⊢
  clear hvB
  have HVb := Lib.hid HVb0
  clear HVb0
  generalize W2.alloc (Obj.cells #[.string nmX, .int .i64 0, .int .i64 ((M : Int) - 1), .int .i64 0] 90) = W3 at *
  have E := Ext.refl W3
  refine (num_any ((M : Int) - 1) _).mono ?_
  rintro e wz ⟨vA1, rfl, A1, hE⟩
  obtain ⟨aA1, nA1, cA1, rfl⟩ := A1.val
  replace E := E.trans hE
  clear hE
  obtain ⟨wn, rfl⟩ : ∃ x, x = wz := ⟨_, rfl⟩
  go_wp2_with fail
  refine (kT2 7 _ _ _ _ wn _ (isT_blk (blk_ext HXb.out E)) A1 (by simp [Tm.size])).mono ?_
  rintro e wz ⟨vJ1, rfl, J1, hE⟩
  obtain ⟨aJ1, nJ1, cJ1, rfl⟩ := J1.val
  replace E := E.trans hE
  replace A1 := A1.ext hE
  clear hE
  obtain ⟨wn, rfl⟩ : ∃ x, x = wz := ⟨_, rfl⟩
  go_wp2_with fail
  refine (num_any 1 _).mono ?_
  rintro e wz ⟨vA2, rfl, A2, hE⟩
  obtain ⟨aA2, nA2, cA2, rfl⟩ := A2.val
  replace E := E.trans hE
  replace A1 := A1.ext hE
  replace J1 := J1.ext hE
  clear hE
  obtain ⟨wn, rfl⟩ : ∃ x, x = wz := ⟨_, rfl⟩
  go_wp2_with fail
  refine (kT2 3 _ _ _ _ wn _ (isT_blk (blk_ext HXb.out E)) A2 (by simp [Tm.size])).mono ?_
  rintro e wz ⟨vJ2, rfl, J2, hE⟩
  obtain ⟨aJ2, nJ2, cJ2, rfl⟩ := J2.val
  replace E := E.trans hE
  replace A1 := A1.ext hE
  replace J1 := J1.ext hE
  replace A2 := A2.ext hE
  clear hE
  obtain ⟨wn, rfl⟩ : ∃ x, x = wz := ⟨_, rfl⟩
  have gs1 := blk_new wn (Obj.cells #[.int .i64 0, .slice aJ2 nJ2 cJ2] 92)
  have hE := ext_al (Ext.refl wn) (Obj.cells #[.int .i64 0, .slice aJ2 nJ2 cJ2] 92)
  go_wp2_with fail
  obtain ⟨s1, hs1⟩ : ∃ x, wn.heap.size = x := ⟨_, rfl⟩
  rw [hs1] at gs1 ⊢
  clear hs1
  replace E := E.trans hE
  replace J1 := J1.ext hE
  replace J2 := J2.ext hE
  have GS1 := Lib.hid gs1
  clear gs1 hE A1 A2
  generalize wn.alloc (Obj.cells #[.int .i64 0, .slice aJ2 nJ2 cJ2] 92) = W4 at *
  refine (num_any ((M : Int) - 1) _).mono ?_
  rintro e wz ⟨vA3, rfl, A3, hE⟩
  obtain ⟨aA3, nA3, cA3, rfl⟩ := A3.val
  replace E := E.trans hE
  replace J1 := J1.ext hE
  replace J2 := J2.ext hE
  replace GS1 := Lib.hid (blk_ext GS1.out hE)
  clear hE
  obtain ⟨wn, rfl⟩ : ∃ x, x = wz := ⟨_, rfl⟩
  go_wp2_with fail
  refine (kT2 6 _ _ _ _ wn _ (isT_blk (blk_ext HXb.out E)) A3 (by simp [Tm.size])).mono ?_
  rintro e wz ⟨vJ3, rfl, J3, hE⟩
  obtain ⟨aJ3, nJ3, cJ3, rfl⟩ := J3.val
  replace E := E.trans hE
  replace J1 := J1.ext hE
  replace J2 := J2.ext hE
  replace GS1 := Lib.hid (blk_ext GS1.out hE)
  clear hE A3
  obtain ⟨wn, rfl⟩ : ∃ x, x = wz := ⟨_, rfl⟩
  go_wp2_with fail
  refine (num_any 0 _).mono ?_
  rintro e wz ⟨vA4, rfl, A4, hE⟩
  obtain ⟨aA4, nA4, cA4, rfl⟩ := A4.val
  replace E := E.trans hE
  replace J1 := J1.ext hE
  replace J2 := J2.ext hE
  replace J3 := J3.ext hE
  replace GS1 := Lib.hid (blk_ext GS1.out hE)
  clear hE
  obtain ⟨wn, rfl⟩ : ∃ x, x = wz := ⟨_, rfl⟩
  have hEa := ext_al (Ext.refl wn) (Obj.cells #[.int .i64 0, .slice aA4 nA4 cA4] 92)
  have hEb := ext_al (Ext.refl (wn.alloc (Obj.cells #[.int .i64 0, .slice aA4 nA4 cA4] 92))) (Obj.cells #[.slice aJ1 nJ1 cJ1, .slice (some ⟨s1, 0, none⟩) 1 1, .slice aJ3 nJ3 cJ3, .slice (some ⟨wn.heap.size, 0, none⟩) 1 1] 63)
  have GS2 := Lib.hid (blk_ext (blk_new wn (Obj.cells #[.int .i64 0, .slice aA4 nA4 cA4] 92)) hEb)
  have GRB := Lib.hid (blk_new (wn.alloc (Obj.cells #[.int .i64 0, .slice aA4 nA4 cA4] 92)) (Obj.cells #[.slice aJ1 nJ1 cJ1, .slice (some ⟨s1, 0, none⟩) 1 1, .slice aJ3 nJ3 cJ3, .slice (some ⟨wn.heap.size, 0, none⟩) 1 1] 63))
  replace GRB := GRB.out
  rw [World.size_alloc] at GRB
  replace GRB := Lib.hid GRB
  have hE := hEa.trans hEb
  replace E := E.trans hE
  replace J1 := J1.ext hE
  replace J2 := J2.ext hE
  replace J3 := J3.ext hE
  replace A4 := A4.ext hE
  replace GS1 := Lib.hid (blk_ext GS1.out hE)
  have HRE := Lib.hid (blk_ext HRb.out E)
  have HVE := Lib.hid (blk_ext HVb.out E)
  have HEE := Lib.hid (HW3.out.trans E)
  clear hE hEa hEb
  have r0 := blk_cell HRE.out (i := 0) rfl
  have f0 := blk_free HRE.out 0
  have h1 := blk_set (i := 0) HRE.out (.slice (some ⟨vB, 0, none⟩) 1 1)
  rw [show (#[nilV, nilV].setIfInBounds 0 (Value.slice (some ⟨vB, 0, none⟩) 1 1) : Array Value) = #[.slice (some ⟨vB, 0, none⟩) 1 1, nilV] from rfl] at h1
  have r1 := blk_cell h1 (i := 1) rfl
  have f1 := blk_free h1 1
  have H2 := Lib.hid (blk_set (i := 1) h1 (.slice (some ⟨wn.heap.size + 1, 0, none⟩) 2 2))
  clear h1
  go_wp2
  have z0 := blk_cell H2.out (i := 0) rfl
  have z1 := blk_cell H2.out (i := 1) rfl
  have hg := (grown_setP ((wn.alloc (Obj.cells #[.int .i64 0, .slice aA4 nA4 cA4] 92)).alloc (Obj.cells #[.slice aJ1 nJ1 cJ1, .slice (some ⟨s1, 0, none⟩) 1 1, .slice aJ3 nJ3 cJ3, .slice (some ⟨wn.heap.size, 0, none⟩) 1 1] 63)) ⟨R, 0, none⟩ (.slice (some ⟨vB, 0, none⟩) 1 1)).trans' (grown_setP _ ⟨R, 1, none⟩ (.slice (some ⟨wn.heap.size + 1, 0, none⟩) 2 2))
  have hlo : w.heap.size ≤ R := by rw [HRw.out]; exact Nat.le_refl _
  refine bodyPost_ret (v := .agg #[.slice (some ⟨vB, 0, none⟩) 1 1, .slice (some ⟨wn.heap.size + 1, 0, none⟩) 2 2]) (by simp [results, Tryd.results10, go_sem, z0, z1]) rfl ⟨_, _, _, rfl, ring_md HRE.out hg HVE.out GS1.out GS2.out GRB.out J1 J2 J3 A4, ext_st (ext_st HEE.out hlo _) hlo _⟩

end Go.Proofs.YtbmimdnpchldlaaDoor
