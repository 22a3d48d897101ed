/- The contract of scc's (*search).leave. -/
import Derived.Test.YtbndjailimhbdaaEnter
import Derived.WalkSmall
namespace Go.Proofs.Ytbndjailimhbdaa
open Go.RowKit

theorem flat_opc_len (l : List Sp2) : (l.flatMap spc).length = l.length * 2 := by
  induction l with
  | nil => rfl
  | cons o l ih => rw [List.flatMap_cons, List.length_append, ih]; simp [spc]; omega

/-- The last frame's cells, and what is left of the row without it. -/
theorem frames_pop {w : World} {B : Nat} {a : Option Addr} {cc : Nat} {cl : List Sp2} {x : Sp2} (h : w.ownsRow B 62 2 (.slice a (cl.length + 1) cc) (cl.length + 1) (cl.flatMap spc ++ spc x)) :
    ∃ g, a = some ⟨g, 0, none⟩ ∧ cl.length + 1 ≤ cc ∧ cc ≤ maxLen ∧ w.cell? ⟨g, cl.length * 2, none⟩ = some (.int .i64 x.1) ∧ w.cell? ⟨g, cl.length * 2 + 1, none⟩ = some (.int .i64 x.2) ∧ w.frozen? ⟨g, cl.length * 2 + 1, none⟩ = false ∧
      w.ownsRow B 62 2 (.slice (some ⟨g, 0, none⟩) cl.length cc) cl.length (cl.flatMap spc) := by
  rcases h.2 with ⟨hn, _⟩ | ⟨g, cap, cur, hv, hb, hgg, hnc, hcm, hcs, ht⟩
  · cases hn
  · simp only [Value.slice.injEq] at hv
    obtain ⟨rfl, _, rfl⟩ := hv
    have hl := flat_opc_len cl
    refine ⟨g, rfl, hnc, hcm, ?_, ?_, ?_, ownsRow_pop (size := 2) hl h⟩
    · have := h.cells (g := g) rfl (cl.length * 2) (.int .i64 x.1) (by rw [List.getElem?_append_right (by omega), hl]; simp [spc])
      simpa [Addr.add_lit] using this
    · have := h.cells (g := g) rfl (cl.length * 2 + 1) (.int .i64 x.2) (by rw [List.getElem?_append_right (by omega), hl]; simp [spc])
      simpa [Addr.add_lit] using this
    · exact blk_free hgg _

theorem SM.popCls {τ : Nat → Nat} {B P n Do Dl Dp : Nat} {g0 g1 g2 g3 g4 : Value} {w : World} {vo : Value} {ow lw pw : List Int} {ol : List Int} {cl : List Sp2} {x : Sp2} {met : Int} {a : Option Addr} {cc : Nat}
    (h : SM τ B P n Do Dl Dp g0 g1 g2 g3 g4 w vo (.slice a (cl.length + 1) cc) ow lw pw ol (cl ++ [x]) met) :
    ∃ g, a = some ⟨g, 0, none⟩ ∧ cl.length + 1 ≤ cc ∧ cc ≤ maxLen ∧ w.cell? ⟨g, cl.length * 2, none⟩ = some (.int .i64 x.1) ∧ w.cell? ⟨g, cl.length * 2 + 1, none⟩ = some (.int .i64 x.2) ∧ w.frozen? ⟨g, cl.length * 2 + 1, none⟩ = false ∧
      SM τ B P n Do Dl Dp g0 g1 g2 g3 g4 (w.setCell ⟨P, 9, none⟩ (.slice (some ⟨g, 0, none⟩) cl.length cc)) vo (.slice (some ⟨g, 0, none⟩) cl.length cc) ow lw pw ol cl met := by
  have hc := h.cls.own
  simp only [List.length_append, List.length_singleton, List.flatMap_append, List.flatMap_cons, List.flatMap_nil, List.append_nil] at hc
  obtain ⟨g, rfl, h1, h2, h3, h4, h5, h6⟩ := frames_pop hc
  exact ⟨g, rfl, h1, h2, h3, h4, h5, h.setCls ⟨h6, fun b hb => h.cls.tag b hb⟩⟩

/-- How low the one that comes next reaches. -/
def lowL (lw : List Int) (cl : List Sp2) (c : Nat) : List Int :=
  match cl.getLast? with
  | none => lw
  | some x => lw.set x.1.toNat (min (lw.getD x.1.toNat 0) (lw.getD c 0))
theorem min_if (a b : Int) : (if b < a then b else a) = min a b := by split <;> omega
theorem Ext.below {w w' : World} {B : Nat} (h : Ext w w') (hb : B ≤ w.heap.size) : Below B w w' := Below.mono h hb
def setAll (pw : List Int) (D : List Int) (m : Int) : List Int := D.foldl (fun p d => p.set d.toNat m) pw
def leastOf' (c : Int) (D : List Int) : Int := D.foldl min c

def LeavePost (B P n Do Dl Dp : Nat) (g0 g1 g2 g3 g4 : Value) (w : World) (ow lw pw pre post : List Int) (cl : List Sp2) (met : Int) (c : Nat) (e : Ending) (w' : World) : Prop :=
  e = .returned (.tuple #[]) ∧ Below B w w' ∧ ∃ τ' vo' vc' pw' ol', SM τ' B P n Do Dl Dp g0 g1 g2 g3 g4 w' vo' vc' ow (lowL lw cl c) pw' ol' cl met ∧
    (((lowL lw cl c).getD c 0 ≠ ow.getD c 0 ∧ pw' = pw ∧ ol' = pre ++ (c : Int) :: post) ∨ ((lowL lw cl c).getD c 0 = ow.getD c 0 ∧ pw' = setAll pw ((c : Int) :: post) (leastOf' c ((c : Int) :: post)) ∧ ol' = pre))

theorem own_take1 {w : World} {base : Nat} {e : TypeId} {a : Option Addr} {n c k : Nat} {xs : List Value} (h : w.ownsRow base e 1 (.slice a n c) n xs) (hk : k ≤ n) : w.ownsRow base e 1 (.slice a k c) k (xs.take k) := by
  have hl := h.1
  rw [Nat.mul_one] at hl
  refine ⟨by rw [List.length_take]; omega, ?_⟩
  rcases h.2 with ⟨hv, hx⟩ | ⟨g, cap, cur, hv, h1, h2, h3, h4, h5, h6⟩
  · simp only [Value.slice.injEq] at hv
    obtain ⟨rfl, rfl, rfl⟩ := hv
    obtain rfl : k = 0 := by omega
    exact .inl ⟨rfl, rfl⟩
  · simp only [Value.slice.injEq] at hv
    obtain ⟨rfl, _, rfl⟩ := hv
    refine .inr ⟨g, c, cur, rfl, h1, h2, by omega, h4, h5, ?_⟩
    rw [← h6, List.take_take]
    congr 1
    omega
theorem own_ints_at {w : World} {base : Nat} {e : TypeId} {b o n c : Nat} {l : List Int} (h : w.ownsRow base e 1 (.slice (some ⟨b, o, none⟩) n c) n (l.map (.int .i64))) (i : Nat) (hi : i < l.length) : w.cell? ⟨b, o + i, none⟩ = some (.int .i64 l[i]) := by
  obtain ⟨a', c', e, hr⟩ := h.row
  simp only [Value.slice.injEq] at e
  obtain ⟨rfl, _, rfl⟩ := e
  exact hr.cells i _ (by rw [List.getElem?_map, List.getElem?_eq_getElem hi]; rfl)
theorem fold_min_succ (c : Int) (D : List Int) (k : Nat) (h : k < D.length) : (D.take (k + 1)).foldl min c = min ((D.take k).foldl min c) D[k] := by
  rw [List.take_succ_eq_append_getElem h, List.foldl_append]; rfl
theorem setAll_succ (pw : List Int) (D : List Int) (m : Int) (k : Nat) (h : k < D.length) : setAll pw (D.take (k + 1)) m = (setAll pw (D.take k) m).set D[k].toNat m := by
  unfold setAll
  rw [List.take_succ_eq_append_getElem h, List.foldl_append]; rfl

theorem getD_get {l : List Int} {i : Nat} (h : i < l.length) : l.getD i 0 = l[i] := by simp [List.getD, h]

set_option maxRecDepth 100000 in
set_option maxHeartbeats 8000000 in
theorem leave_any (τ : Nat → Nat) (B P n Do Dl Dp : Nat) (g0 g1 g2 g3 g4 : Value) (w : World) (vo vc : Value) (ow lw pw : List Int) (pre post : List Int) (cl : List Sp2) (met : Int) (c : Nat) (k : Int)
    (h : SM τ B P n Do Dl Dp g0 g1 g2 g3 g4 w vo vc ow lw pw (pre ++ (c : Int) :: post) (cl ++ [((c : Int), k)]) met) (hc : c < n) (h1 : (pre ++ (c : Int) :: post).length ≤ 20000) (h2 : cl.length ≤ 20000) (hpost : (c : Int) ∉ post)
    (hD : ∀ x ∈ (c : Int) :: post, ∃ a : Nat, x = a ∧ a < n) (hcl : ∀ p ∈ cl, ∃ a : Nat, p.1 = a ∧ a < n) :
    Calls Try.prog 23 #[.pointer (some ⟨P, 0, none⟩), .int .i64 (c : Int)] w (LeavePost B P n Do Dl Dp g0 g1 g2 g3 g4 w ow lw pw pre post cl met c) := by
  obtain ⟨ao, co, rfl, _⟩ := h.opn.own.row
  obtain ⟨ac, cc, e, _⟩ := h.cls.own.row
  rw [List.length_append, List.length_singleton] at e
  subst e
  obtain ⟨g, rfl, hcc, hcm, _, _, _, hm⟩ := h.popCls
  have hnew := h.new
  have c9 := blk_cell h.blk (i := 9) rfl
  have f9 := blk_free h.blk 9
  have hb1 : Below B w (w.setCell ⟨P, 9, none⟩ (.slice (some ⟨g, 0, none⟩) cl.length cc)) := (Below.refl B w).setCell (p := ⟨P, 9, none⟩) hnew _
  have HM := Lib.hid (hm.ext (Below.drew (Ext.refl _)))
  have HB1 := Lib.hid (Below.drew hb1)
  have HD := Lib.hid hD
  have HCL := Lib.hid hcl
  have HPOST := Lib.hid hpost
  unfold maxLen at hcm
  have hccI : (cl.length : Int) + 1 ≤ (cc : Int) := by omega
  have hcl0 : (0 : Int) ≤ (cl.length : Int) := by omega
  have hcI : (c : Int) < (n : Int) := by omega
  have hcI0 : (0 : Int) ≤ (c : Int) := by omega
  obtain ⟨n1, n2, n3, n4, n5, n6⟩ := h.nes
  have n1' := Ne.symm n1
  have n2' := Ne.symm n2
  have n4' := Ne.symm n4
  clear h hm hb1 hD hcl hpost
  go_enter Try.func23, Try.ntmps23
  go_wp2_with fail
  go_region
  generalize (w.setCell ⟨P, 9, none⟩ (.slice (some ⟨g, 0, none⟩) cl.length cc)).drew = W1 at *
  clear c9 f9
  have c9 := blk_cell HM.out.blk (i := 9) rfl
  rcases List.eq_nil_or_concat cl with hcle | ⟨cl1, x, hcle⟩
  case' inl =>
    subst hcle
    have HLW := Lib.hid (show lowL lw [] c = lw from rfl)
    go_wp2_with fail
    obtain ⟨lwx, hlwx⟩ : ∃ l, l = lw := ⟨_, rfl⟩
    have HLX := Lib.hid (hlwx.trans HLW.out.symm)
    rw [← hlwx] at HM
    have HM2 := HM
    have HB2 := HB1
    obtain ⟨W2, rfl⟩ : ∃ W2 : World, W2 = W1 := ⟨_, rfl⟩
    clear hlwx HLW HM HB1
  case' inr =>
    rw [List.concat_eq_append] at hcle
    subst hcle
    obtain ⟨u, hu, hun⟩ := HCL.out x (by simp)
    obtain ⟨xu, ku⟩ := x
    simp only at hu
    subst hu
    obtain ⟨y1, hy1, cc1⟩ : ∃ y, lw.getD u 0 = y ∧ W1.cell? ⟨Dl, u, none⟩ = some (.int .i64 y) := by
      have hl := HM.out.lens.2.1
      refine ⟨_, rfl, (own_cellAt HM.out.low.own (i := u) (by simpa using (by omega : u < lw.length))).trans ?_⟩
      rw [List.getElem_map, getD_get (by omega)]
    obtain ⟨y2, hy2, cc2⟩ : ∃ y, lw.getD c 0 = y ∧ W1.cell? ⟨Dl, c, none⟩ = some (.int .i64 y) := by
      have hl := HM.out.lens.2.1
      refine ⟨_, rfl, (own_cellAt HM.out.low.own (i := c) (by simpa using (by omega : c < lw.length))).trans ?_⟩
      rw [List.getElem_map, getD_get (by omega)]
    have ff1 := own_freeAt HM.out.low.own u
    have hco := HM.out.cls.own
    simp only [List.length_append, List.length_singleton, List.flatMap_append, List.flatMap_cons, List.flatMap_nil, List.append_nil] at hco c9 hccI hcl0 h2
    obtain ⟨g', hg', hcc', _, cu1, _, _, _⟩ := frames_pop hco
    injection hg' with hg'
    injection hg' with hg' _ _
    subst hg'
    have c6 := blk_cell HM.out.blk (i := 6) rfl
    have HLW := Lib.hid (show lowL lw (cl1 ++ [((u : Int), ku)]) c = lw.set u (min y1 y2) by rw [← hy1, ← hy2]; simp [lowL])
    have huI : (u : Int) < (n : Int) := by omega
    have huI0 : (0 : Int) ≤ (u : Int) := by omega
    clear hy1 hy2 hco
    go_wp2_with fail
    go_quiet (fail)
    go_wp2_with fail
    clear cu1 c9
    obtain ⟨W1', hW1'⟩ : ∃ W, W = W1.drewN nq := ⟨_, rfl⟩
    have hEq : Ext W1 W1' := by rw [hW1']; exact below_drewN (Ext.refl W1) nq
    have HM1 := Lib.hid (HM.out.ext hEq)
    have HBq := Lib.hid (HB1.out.trans (Ext.below hEq (by have := blk_lt HM.out.blk; omega)))
    replace cc1 := cell_later hEq cc1
    replace cc2 := cell_later hEq cc2
    replace c6 := cell_later hEq c6
    replace ff1 : W1'.frozen? ⟨Dl, u, none⟩ = false := own_freeAt HM1.out.low.own u
    rw [← hW1']
    clear hW1' hEq HM HB1
    go_region
    have HM2 := Lib.hid ((HM1.out.setLow u (if y2 < y1 then y2 else y1)).ext (Below.drew (Ext.refl _)))
    have HB2 := Lib.hid (Below.drew (HBq.out.setCell (p := ⟨Dl, u, none⟩) (HM1.out.bases.2.1) (.int .i64 (if y2 < y1 then y2 else y1))))
    obtain ⟨lwx, hlwx⟩ : ∃ l, l = lw.set u (if y2 < y1 then y2 else y1) := ⟨_, rfl⟩
    have HLX := Lib.hid (hlwx.trans ((by rw [min_if]) : lw.set u (if y2 < y1 then y2 else y1) = lw.set u (min y1 y2)) |>.trans HLW.out.symm)
    rw [← hlwx] at HM2
    clear HM1 HBq cc1 cc2 c6 ff1 hlwx HLW
    generalize (W1'.setCell ⟨Dl, u, none⟩ (.int .i64 (if y2 < y1 then y2 else y1))).drew = W2 at *
    generalize (if y2 < y1 then y2 else y1) = ym at *
    generalize cl1 ++ [((u : Int), ku)] = cl at *
  all_goals
    have hl2 := HM2.out.lens
    obtain ⟨xl, hxl, cl2⟩ : ∃ y, lwx.getD c 0 = y ∧ W2.cell? ⟨Dl, c, none⟩ = some (.int .i64 y) := by
      refine ⟨_, rfl, (own_cellAt HM2.out.low.own (i := c) (by simpa using (by omega : c < lwx.length))).trans ?_⟩
      rw [List.getElem_map, getD_get (by omega)]
    obtain ⟨xo, hxo, co2⟩ : ∃ y, ow.getD c 0 = y ∧ W2.cell? ⟨Do, c, none⟩ = some (.int .i64 y) := by
      refine ⟨_, rfl, (own_cellAt HM2.out.ord.own (i := c) (by simpa using (by omega : c < ow.length))).trans ?_⟩
      rw [List.getElem_map, getD_get (by omega)]
    have c6 := blk_cell HM2.out.blk (i := 6) rfl
    have c5 := blk_cell HM2.out.blk (i := 5) rfl
    have HXL := Lib.hid hxl
    have HXO := Lib.hid hxo
    clear hl2 hxl hxo
    by_cases hne : xl = xo
    · have hneb : ((xl : Int) != xo) = false := by simp [hne]
      have HNE := Lib.hid hne
      have hfl : (pre ++ (c : Int) :: post).length = pre.length + 1 + post.length := by simp; omega
      have HFL := Lib.hid hfl
      obtain ⟨ao', co', e, hro⟩ := HM2.out.opn.own.row
      simp only [Value.slice.injEq] at e
      obtain ⟨rfl, _, rfl⟩ := e
      have hcoL := hro.le
      have hcoM := hro.max
      unfold maxLen at hcoM
      obtain ⟨bo, oo, ho1, ho2⟩ := ints_cells hro
      obtain rfl := ho1 (by omega)
      have HO2 := Lib.hid ho2
      have HRO := Lib.hid hro
      have c8 := blk_cell HM2.out.blk (i := 8) rfl
      generalize hfle : pre ++ (c : Int) :: post = full at *
      have HFLE := Lib.hid hfle
      have hp1 : pre.length < full.length := by omega
      clear hne hro ho1 ho2 hfl hfle
      go_wp2_with fail
      go_quiet (fail)
      go_wp2_with fail
      have hflI : (full.length : Int) ≤ 20000 := by omega
      have HMq := Lib.hid (HM2.out.ext (below_drewN (Ext.refl W2) nq))
      have HBq := Lib.hid (show Below B w (W2.drewN nq) from below_drewN HB2.out nq)
      have HOq := Lib.hid (fun i hi => cell_later (below_drewN (Ext.refl W2) nq) (HO2.out i hi))
      clear HM2 HB2 HO2 HRO c5 c6 cl2 co2
      replace c8 := blk_cell HMq.out.blk (i := 8) rfl
      generalize W2.drewN nq = W3 at *
      go_loopg [5] (full.length - 1) (fun m x wr => ∃ i : Nat, m = i ∧ x = .int .i64 (i : Int) ∧ pre.length ≤ i ∧ i < full.length ∧ wr = W3)
      case atStart => exact ⟨full.length - 1, rfl, by congr 1; omega, by omega, by omega, rfl⟩
      case round =>
        obtain ⟨i, hgi, rfl, hi1, hi2, rfl⟩ := hrel
        have ci := HOq.out i hi2
        have hiI : (i : Int) < (full.length : Int) := by omega
        have hiI0 : (0 : Int) ≤ (i : Int) := by omega
        have HGI := Lib.hid hgi
        clear hgi
        by_cases hie : i = pre.length
        · have hfi : full[i] = (c : Int) := by have := HFLE.out; subst this; subst hie; simp
          rw [hfi] at ci
          subst hie
          have hco9 : ¬ co = pre.length := by omega
          have hcoI : (pre.length : Int) ≤ (co : Int) := by omega
          go_wp2_with fail
          have hql : full.length - pre.length = post.length + 1 := by have := HFL.out; omega
          generalize hqe : full.length - pre.length = q at *
          have HQ := Lib.hid hqe
          generalize co - pre.length = coq at *
          have HDq := Lib.hid (show ∀ k (hk : k < ((c : Int) :: post).length), ∃ h : pre.length + k < full.length, full[pre.length + k] = ((c : Int) :: post)[k] from fun k hk => by
            have := HFLE.out
            subst this
            have hk' : k < ((c : Int) :: post).length := hk
            refine ⟨by rw [List.length_append]; omega, ?_⟩
            rw [List.getElem_append_right (by omega)]
            congr 1
            omega)
          have HDL := Lib.hid (show ((c : Int) :: post).length = q by rw [List.length_cons]; omega)
          clear hqe hql
          generalize hDe : (c : Int) :: post = D at *
          have HDE := Lib.hid hDe
          clear hDe
          obtain ⟨wo, rfl⟩ : ∃ wo : World, wo = wr := ⟨_, rfl⟩
          go_loopg [6, 105] q (fun m x y wi => ∃ j : Nat, m + j = q ∧ y = .int .i64 (j : Int) ∧ x = .int .i64 ((D.take j).foldl min (c : Int)) ∧ wi = wo)
          case atStart => exact ⟨0, by omega, by go_num, rfl, rfl⟩
          case round =>
            obtain ⟨j, hmj, rfl, rfl, rfl⟩ := hrel
            have HMJ := Lib.hid hmj
            clear hmj
            by_cases hj : j < q
            · have hjD : j < D.length := by have := HDL.out; omega
              obtain ⟨hk1, hk2⟩ := HDq.out j hjD
              have cj := HOq.out (pre.length + j) hk1
              rw [hk2, ← Nat.add_assoc] at cj
              have HFS := Lib.hid (fold_min_succ (c : Int) D j hjD)
              have hjI : (j : Int) < (q : Int) := by omega
              generalize D[j] = y at *
              generalize (D.take j).foldl min (c : Int) = acc at *
              clear hk2
              by_cases hya : y < acc
              all_goals
                go_wp2_with fail
                go_roundg (gk - 1)
                case measure => have := HMJ.out; omega
                case rel => exact ⟨j + 1, by have := HMJ.out; omega, by go_num, by rw [HFS.out]; congr 1; omega, rfl⟩
            · have hjI : ¬ (j : Int) < (q : Int) := by omega
              have hfold : (D.take j).foldl min (c : Int) = leastOf' c D := by rw [List.take_of_length_le (by have := HDL.out; omega)]; rfl
              rw [hfold]
              clear hfold hj
              generalize hMe : leastOf' c D = M at *
              have HME := Lib.hid hMe
              clear hMe
              clear c8 ci
              have c8 := blk_cell HMq.out.blk (i := 8) rfl
              have hq3 := HQ.out
              go_wp2_with fail
              clear hq3
              go_loopg [120] q (fun m x wi => ∃ j : Nat, m + j = q ∧ x = .int .i64 (j : Int) ∧ SM τ B P n Do Dl Dp g0 g1 g2 g3 g4 wi (.slice (some ⟨bo, oo, none⟩) full.length co) (.slice (some ⟨g, 0, none⟩) _ cc) ow lwx (setAll pw (D.take j) M) full _ met ∧ Below B w wi)
              case atStart => exact ⟨0, by omega, by go_num, HMq.out, HBq.out⟩
              case round =>
                clear c8
                obtain ⟨j, hmj, rfl, hM, hB⟩ := hrel
                have HMJ := Lib.hid hmj
                have HM5 := Lib.hid hM
                have HB5 := Lib.hid hB
                by_cases hj : j < q
                · have hjD : j < D.length := by have := HDL.out; omega
                  obtain ⟨hk1, hk2⟩ := HDq.out j hjD
                  have cj := own_ints_at hM.opn.own (pre.length + j) hk1
                  rw [hk2, ← Nat.add_assoc] at cj
                  obtain ⟨d, hd, hdn⟩ := HD.out D[j] (by simp)
                  have HSS := Lib.hid (setAll_succ pw D M j hjD)
                  rw [hd] at cj HSS
                  have hlp := hM.lens.2.2
                  obtain ⟨y, cd⟩ : ∃ y, wr.cell? ⟨Dp, d, none⟩ = some (.int .i64 y) := ⟨_, (own_cellAt hM.prt.own (i := d) (by simpa using (by omega : d < (setAll pw (D.take j) M).length))).trans (by rw [List.getElem_map])⟩
                  have fd := own_freeAt hM.prt.own d
                  have c7 := blk_cell hM.blk (i := 7) rfl
                  have hjI : (j : Int) < (q : Int) := by omega
                  have hdI : (d : Int) < (n : Int) := by omega
                  clear hk2 hlp hM hB hmj hd
                  go_wp2_with fail
                  go_roundg (gk - 1)
                  case measure => have := HMJ.out; omega
                  case rel => exact ⟨j + 1, by have := HMJ.out; omega, by go_num, by rw [HSS.out]; exact HM5.out.setPrt d M, HB5.out.setCell (p := ⟨Dp, d, none⟩) HM5.out.bases.2.2 _⟩
                · have hjI : ¬ (j : Int) < (q : Int) := by omega
                  have hall : setAll pw (D.take j) M = setAll pw D M := by rw [List.take_of_length_le (by have := HDL.out; omega)]
                  rw [hall] at HM5
                  have c8 := blk_cell HM5.out.blk (i := 8) rfl
                  have f8 := blk_free HM5.out.blk 8
                  have hot := own_take1 HM5.out.opn.own (k := pre.length) (by omega)
                  have hpl : (full.map (Value.int .i64)).take pre.length = pre.map (.int .i64) := by
                    rw [← List.map_take, ← HFLE.out, List.take_left']
                    rfl
                  rw [hpl] at hot
                  have HSO := Lib.hid (HM5.out.setOpn (vo' := .slice (some ⟨bo, oo, none⟩) pre.length co) (ol' := pre) ⟨hot, fun b hb => HM5.out.opn.tag b hb⟩)
                  have HSB := Lib.hid (HB5.out.setCell (p := ⟨P, 8, none⟩) hnew (.slice (some ⟨bo, oo, none⟩) pre.length co))
                  clear hall hpl hot hM hB hmj hj
                  go_wp2
                  go_end0
                  have h := HSO.out
                  have hx := HLX.out
                  rw [hx] at h
                  refine ⟨rfl, HSB.out, τ, _, _, _, _, h, .inr ⟨?_, ?_, rfl⟩⟩
                  · rw [← hx, HXL.out, HXO.out]; exact HNE.out
                  · rw [HDE.out, HME.out]
        · have hfi : full[i] ≠ (c : Int) := by
            intro e
            have h := HFLE.out
            subst h
            rw [List.getElem_append_right (by omega)] at e
            have h2 : i - pre.length = (i - pre.length - 1) + 1 := by omega
            rw [List.getElem_cons] at e
            rw [dif_neg (by omega)] at e
            exact HPOST.out (e ▸ List.getElem_mem _)
          have hb : ((full[i] : Int) != (c : Int)) = true := by simp [hfi]
          generalize full[i] = y at *
          have hi1I : (1 : Int) ≤ (i : Int) := by omega
          clear hfi
          go_wp2_with fail
          go_roundg (i - 1)
          case measure => have := HGI.out; omega
          case rel => exact ⟨i - 1, rfl, by congr 1; omega, by omega, by omega, rfl⟩
    · have hneb : ((xl : Int) != xo) = true := by simp [hne]
      have HNE := Lib.hid hne
      clear hne
      go_wp2_with fail
      go_quiet (fail)
      go_wp2_with fail
      go_end0
      have h := HM2.out.ext (below_drewN (Ext.refl W2) nq)
      rw [HLX.out] at h
      have hx := HLX.out
      refine ⟨rfl, below_drewN HB2.out _, τ, _, _, _, _, h, .inl ⟨?_, rfl, rfl⟩⟩
      rw [← hx, HXL.out, HXO.out]
      exact HNE.out

end Go.Proofs.Ytbndjailimhbdaa
