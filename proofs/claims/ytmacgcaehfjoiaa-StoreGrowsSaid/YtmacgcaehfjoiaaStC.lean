/- The contract of store.merge. -/
import Derived.Test.YtmacgcaehfjoiaaStB
import Derived.Test.YtmacgcaehfjoiaaStP
import Derived.Deep.DeepCutAuto
import Derived.Deep.RegionLaw
namespace Go.Proofs.Ytmacgcaehfjoiaa
open Go.RowKit

theorem own_cast {w : World} {base : Nat} {e : TypeId} {size : Nat} {v : Value} {n m : Nat} {xs ys : List Value} (h : w.ownsRow base e size v n xs) (hn : n = m) (hx : xs = ys) : w.ownsRow base e size v m ys := by
  subst hn; subst hx; exact h

theorem ints_end {w : World} {p : Addr} {n : Nat} {l : List Int} (h0 : n = 0) (hl : l.length = n) : Ints w (.slice (some p) n 0) l := by
  subst h0
  obtain rfl : l = [] := List.eq_nil_of_length_eq_zero hl
  exact ⟨some p, 0, rfl, by simp, by simp, by simp, p.block, p.off, (by intro h; cases h), (by intro h; simp at h), by intro j u h; simp at h⟩

set_option maxRecDepth 100000 in
set_option maxHeartbeats 8000000 in
theorem merge_any (va vb : Value) (A B : List Int) (w : World) (hA : Ints w va A) (hB : Ints w vb B) (hl : A.length + B.length ≤ 1048576) (ha : A.Pairwise (· ≤ ·)) (hb : B.Pairwise (· ≤ ·)) :
    Calls Try.prog 23 #[va, vb] w fun e w' => ∃ v, e = .returned v ∧ w'.ownsRow w.heap.size 3 1 v (A ++ B).length ((sortL (A ++ B)).map (.int .i64)) ∧ Ext w w' := by
  have HAB := Lib.hid (show ∃ o a b : List Int, o = [] ∧ a = A ∧ b = B ∧ a.Pairwise (· ≤ ·) ∧ b.Pairwise (· ≤ ·) from ⟨_, _, _, rfl, rfl, rfl, ha, hb⟩)
  obtain ⟨aA, cA, rfl, hrA⟩ := id hA
  obtain ⟨aB, cB, rfl, hrB⟩ := id hB
  have HA := Lib.hid hA
  have HB := Lib.hid hB
  have HUA := Lib.hid ha
  have HUB := Lib.hid hb
  clear hA hB hrA hrB ha hb
  have hmx := @run_makeMap Try.prog
  go_enter Try.func23, Try.ntmps23
  go_wp2_with (at_make; go_must (refine wpList_make_own _ rfl _ _ 22 rfl w.heap.size 3 (Try.slInts.inf.choose) (.int .i64 0) 1 Try.underlying22 Try.slInts.inf.choose_spec.1 Try.slInts.inf.choose_spec.2.1 Try.slInts.inf.choose_spec.2.2.1 .i64 .i64 _ (A.length + B.length) rfl rfl (by omega) (by rw [Try.slInts.inf.choose_spec.2.2.2]; omega) (by unfold maxLen; omega) (Nat.le_refl _) ?_))
  intro w1 hown hg
  have HO := Lib.hid hown
  have HE := Lib.hid ((Ext.refl w).grown hg (Nat.le_refl _) (by simp))
  clear hown hg
  have HL := Lib.hid hl
  have HNN := Lib.hid (show sortL (A ++ B) = [] ++ sortL (A ++ B) from rfl)
  go_wp2_with fail
  go_loopg [0, 1, 5] (A.length + B.length) (fun k x y z wr => ∃ (a b o : List Int) (va vb vo : Option Addr) (ca cb co : Nat), a.length + b.length = k ∧ o.length + k = A.length + B.length ∧ x = .slice va a.length ca ∧ y = .slice vb b.length cb ∧ z = .slice vo o.length co ∧ Ints w (.slice va a.length ca) a ∧ Ints w (.slice vb b.length cb) b ∧ wr.ownsRow w.heap.size 3 1 (.slice vo o.length co) o.length (o.map (.int .i64)) ∧ sortL (A ++ B) = o ++ sortL (a ++ b) ∧ a.Pairwise (· ≤ ·) ∧ b.Pairwise (· ≤ ·) ∧ Ext w wr)
  case atStart => exact ⟨A, B, [], aA, aB, _, cA, cB, _, rfl, by simp, rfl, rfl, rfl, HA.out, HB.out, HO.out, HNN.out, HUA.out, HUB.out, HE.out⟩
  case round =>
    obtain ⟨a, b, o, va, vb, vo, ca, cb, co, hab, hok, rfl, rfl, rfl, ia, ib, oo, hs, ua, ub, hE⟩ := hrel
    have HIB0 := Lib.hid (ib.ext hE)
    cases a with
    | nil =>
      have hfin : sortL (A ++ B) = o ++ ([] : List Int) ++ b := by rw [hs, List.nil_append, sortL_of ub, List.append_nil]
      have HF := Lib.hid hfin
      have HOO := Lib.hid oo
      have HEE := Lib.hid hE
      have HIA := Lib.hid (ia.ext hE)
      have HIB := Lib.hid ib
      obtain ⟨_, _, e1, hra⟩ := id HIA.out
      simp only [Value.slice.injEq] at e1
      obtain ⟨rfl, -, rfl⟩ := e1
      have HRA := Lib.hid hra
      have hab3 : o.length + 0 + b.length = A.length + B.length := by
        have h1 : ([] : List Int).length = 0 := rfl
        have h2 : b.length = b.length := rfl
        omega
      have hab2 : o.length + ([] : List Int).length + b.length = A.length + B.length := hab3
      have HSZ := Lib.hid hE.size
      clear hfin hs ia ib oo hE hra ua ub hab hok
      go_wp2_with (at_builtin; go_must (refine wpl_append rfl rfl Try.slInts w.heap.size rfl HOO.out rfl HRA.out (by intro u hu; obtain ⟨x, _, rfl⟩ := List.mem_map.1 hu; rfl) (by unfold maxLen; omega) (by omega) HEE.out.size ?_))
      intro v4 w4 hown4 hg4 hb4 _
      have HE4 := Lib.hid (show Ext w w4 from Below.grown HEE.out hg4 HEE.out.size (fun b hb => (HOO.out.lt b hb).1))
      have HO4 := Lib.hid hown4
      have HIB4 := Lib.hid (show Ints w4 _ _ from HIB.out.ext HE4.out)
      obtain ⟨_, _, e1, hrb⟩ := id HIB4.out
      simp only [Value.slice.injEq] at e1
      obtain ⟨rfl, -, rfl⟩ := e1
      have HRB := Lib.hid hrb
      clear hown4 hg4 hb4 hrb
      go_wp2_with (at_builtin; go_must (refine wpl_append rfl rfl Try.slInts w.heap.size rfl HO4.out rfl HRB.out (by intro u hu; obtain ⟨x, _, rfl⟩ := List.mem_map.1 hu; rfl) (by unfold maxLen; omega) (by omega) HE4.out.size ?_))
      intro v5 w5 hown5 hg5 hb5 _
      have HE5 := Lib.hid (show Ext w w5 from Below.grown HE4.out hg5 HE4.out.size (fun b hb => (HO4.out.lt b hb).1))
      have HO5 := Lib.hid (show w5.ownsRow w.heap.size 3 1 v5 (A ++ B).length ((sortL (A ++ B)).map (.int .i64)) by
        have e2 : (A ++ B).length = o.length + ([] : List Int).length + b.length := by rw [List.length_append, hab2]
        exact own_cast hown5 (by first | (rw [e2]; done) | (rw [e2]; simp; done) | exact List.length_append.symm) (by rw [HF.out]; simp))
      clear hown5 hg5 hb5
      go_wp2_with fail
      go_ret
      exact ⟨_, rfl, HO5.out, HE5.out⟩
    | cons x a' =>
      cases b with
      | nil =>
        have hfin : sortL (A ++ B) = o ++ (x :: a') ++ ([] : List Int) := by rw [hs, List.append_nil, sortL_of ua, List.append_nil]
        have HF := Lib.hid hfin
        have HOO := Lib.hid oo
        have HEE := Lib.hid hE
        have HIA := Lib.hid (ia.ext hE)
        have HIB := Lib.hid ib
        obtain ⟨_, _, e1, hra⟩ := id HIA.out
        simp only [Value.slice.injEq] at e1
        obtain ⟨rfl, -, rfl⟩ := e1
        have HRA := Lib.hid hra
        have hab3 : o.length + (a'.length + 1) + 0 = A.length + B.length := by
          have h1 : (x :: a').length = (a'.length + 1) := rfl
          have h2 : ([] : List Int).length = 0 := rfl
          omega
        have hab2 : o.length + (x :: a').length + ([] : List Int).length = A.length + B.length := hab3
        have HSZ := Lib.hid hE.size
        clear hfin hs ia ib oo hE hra ua ub hab hok
        go_wp2_with (at_builtin; go_must (refine wpl_append rfl rfl Try.slInts w.heap.size rfl HOO.out rfl HRA.out (by intro u hu; obtain ⟨x, _, rfl⟩ := List.mem_map.1 hu; rfl) (by unfold maxLen; omega) (by omega) HEE.out.size ?_))
        intro v4 w4 hown4 hg4 hb4 _
        have HE4 := Lib.hid (show Ext w w4 from Below.grown HEE.out hg4 HEE.out.size (fun b hb => (HOO.out.lt b hb).1))
        have HO4 := Lib.hid hown4
        have HIB4 := Lib.hid (show Ints w4 _ _ from HIB.out.ext HE4.out)
        obtain ⟨_, _, e1, hrb⟩ := id HIB4.out
        simp only [Value.slice.injEq] at e1
        obtain ⟨rfl, -, rfl⟩ := e1
        have HRB := Lib.hid hrb
        clear hown4 hg4 hb4 hrb
        go_wp2_with (at_builtin; go_must (refine wpl_append rfl rfl Try.slInts w.heap.size rfl HO4.out rfl HRB.out (by intro u hu; obtain ⟨x, _, rfl⟩ := List.mem_map.1 hu; rfl) (by unfold maxLen; omega) (by omega) HE4.out.size ?_))
        intro v5 w5 hown5 hg5 hb5 _
        have HE5 := Lib.hid (show Ext w w5 from Below.grown HE4.out hg5 HE4.out.size (fun b hb => (HO4.out.lt b hb).1))
        have HO5 := Lib.hid (show w5.ownsRow w.heap.size 3 1 v5 (A ++ B).length ((sortL (A ++ B)).map (.int .i64)) by
          have e2 : (A ++ B).length = o.length + (x :: a').length + ([] : List Int).length := by rw [List.length_append, hab2]
          exact own_cast hown5 (by first | (rw [e2]; done) | (rw [e2]; simp; done) | exact List.length_append.symm) (by rw [HF.out]; simp))
        clear hown5 hg5 hb5
        go_wp2_with fail
        go_ret
        exact ⟨_, rfl, HO5.out, HE5.out⟩
      | cons y b' =>
        obtain ⟨b1, o1, hA1, hA2⟩ := ints_at' (show Row w 1 va (x :: a').length ca ((x :: a').map (.int .i64)) from by
          obtain ⟨_, _, e1, hra⟩ := ia
          simp only [Value.slice.injEq] at e1
          obtain ⟨rfl, -, rfl⟩ := e1
          exact hra)
        obtain ⟨b2, o2, hB1, hB2⟩ := ints_at' (show Row w 1 vb (y :: b').length cb ((y :: b').map (.int .i64)) from by
          obtain ⟨_, _, e1, hra⟩ := ib
          simp only [Value.slice.injEq] at e1
          obtain ⟨rfl, -, rfl⟩ := e1
          exact hra)
        obtain rfl := hA1 (by simp)
        obtain rfl := hB1 (by simp)
        have cx : wr.cell? ⟨b1, o1, none⟩ = some (.int .i64 x) := cell_later hE (hA2 0 (by simp))
        have cy : wr.cell? ⟨b2, o2, none⟩ = some (.int .i64 y) := cell_later hE (hB2 0 (by simp))
        have da := ints_drop ia 1 (by simp)
        have db := ints_drop ib 1 (by simp)
        have hla : (x :: a').length - 1 = a'.length := by simp
        have hlb : (y :: b').length - 1 = b'.length := by simp
        rw [hla, List.drop_one, List.tail_cons] at da
        rw [hlb, List.drop_one, List.tail_cons] at db
        have HDA := Lib.hid da
        have HDB := Lib.hid db
        have HIA := Lib.hid ia
        have HIB := Lib.hid ib
        have HOO := Lib.hid oo
        have HEE := Lib.hid hE
        have HUA' := Lib.hid ua
        have HUB' := Lib.hid ub
        have HUA2 := Lib.hid (List.pairwise_cons.1 ua).2
        have HUB2 := Lib.hid (List.pairwise_cons.1 ub).2
        have HS := Lib.hid hs
        have HAB2 := Lib.hid hab
        have HOK := Lib.hid hok
        have hoo : o.length + (x :: a').length + (y :: b').length = A.length + B.length := by omega
        have hca : (x :: a').length ≤ ca := by
          obtain ⟨_, _, e1, hra⟩ := ia
          simp only [Value.slice.injEq] at e1
          obtain ⟨rfl, -, rfl⟩ := e1
          exact hra.le
        have hcb : (y :: b').length ≤ cb := by
          obtain ⟨_, _, e1, hra⟩ := ib
          simp only [Value.slice.injEq] at e1
          obtain ⟨rfl, -, rfl⟩ := e1
          exact hra.le
        simp only [List.length_cons] at hca hcb hoo
        clear hA1 hA2 hB1 hB2 da db hla hlb ia ib oo hE ua ub hs hab hok
        simp only [List.length_cons]
        generalize hna : a'.length = na at *
        generalize hnb : b'.length = nb at *
        have HNA := Lib.hid hna
        have HNB := Lib.hid hnb
        clear hna hnb
        by_cases hxy : x ≤ y
        · have q1 : ¬ y < x := by omega
          have HST := Lib.hid (show sortL (A ++ B) = (o ++ [x]) ++ sortL (a' ++ y :: b') by rw [HS.out, merge_step HUA'.out HUB'.out hxy]; simp)
          clear hxy
          go_upto_region 3 with fail
          go_quiet (fail)
          rename_i nq
          have HEQ := Lib.hid (below_drewN HEE.out nq)
          go_wp2_with (at_builtin; go_must (refine wpl_append rfl rfl Try.slInts w.heap.size rfl (own_ext HOO.out (ext_al (below_drewN (Ext.refl wr) nq) _)) rfl (Row.one _ _ _) (one_int _) (by unfold maxLen; omega) (by omega) (by have := HEE.out.size; simp; omega) ?_))
          intro v4 w4 hown4 hg4 hb4 _
          obtain ⟨a4, c4, rfl, _⟩ := id hown4.row
          have HE4 := Lib.hid (show Ext w w4 from Below.grown (ext_al HEQ.out _) hg4 (ext_al HEQ.out _).size (fun b hb => (HOO.out.lt b hb).1))
          have HO4 := Lib.hid hown4
          clear hown4 hg4 hb4
          go_wp2_with fail
          case inl hc1 =>
            have hz := HDA.out
            have hz0 : na = 0 := by omega
            have HZ := Lib.hid (ints_end (w := w) (p := ⟨b1, o1, none⟩) (n := na) (l := a') hz0 HNA.out)
            clear hz hz0
            go_roundg (na + (nb + 1))
            case measure => have := HOK.out; have := HAB2.out; simp only [List.length_cons] at *; omega
            case rel => exact ⟨a', (y :: b'), o ++ [x], some ⟨b1, o1, none⟩, _, a4, 0, _, c4, by have := HNA.out; have := HNB.out; simp only [List.length_cons] at *; omega, by have := HOK.out; have := HAB2.out; have := HNA.out; have := HNB.out; simp only [List.length_cons, List.length_append, List.length_nil] at *; omega, by rw [HNA.out], by rw [List.length_cons, HNB.out], by simp, by rw [HNA.out]; exact HZ.out, by rw [List.length_cons, HNB.out]; rw [List.length_cons, HNB.out] at HIB; exact HIB.out, by simpa using HO4.out, HST.out, HUA2.out, HUB'.out, HE4.out⟩
          case inr hc1 =>
            go_roundg (na + (nb + 1))
            case measure => have := HOK.out; have := HAB2.out; simp only [List.length_cons] at *; omega
            case rel => exact ⟨a', (y :: b'), o ++ [x], some ⟨b1, o1 + 1, none⟩, _, a4, (ca - 1), _, c4, by have := HNA.out; have := HNB.out; simp only [List.length_cons] at *; omega, by have := HOK.out; have := HAB2.out; have := HNA.out; have := HNB.out; simp only [List.length_cons, List.length_append, List.length_nil] at *; omega, by rw [HNA.out], by rw [List.length_cons, HNB.out], by simp, by rw [HNA.out]; exact HDA.out, by rw [List.length_cons, HNB.out]; rw [List.length_cons, HNB.out] at HIB; exact HIB.out, by simpa using HO4.out, HST.out, HUA2.out, HUB'.out, HE4.out⟩
        · have q1 : y < x := by omega
          have HST := Lib.hid (show sortL (A ++ B) = (o ++ [y]) ++ sortL (b' ++ x :: a') by rw [HS.out, merge_swap HUA'.out HUB'.out (by omega)]; simp)
          clear hxy
          go_upto_region 3 with fail
          go_quiet (fail)
          rename_i nq
          have HEQ := Lib.hid (below_drewN HEE.out nq)
          go_wp2_with (at_builtin; go_must (refine wpl_append rfl rfl Try.slInts w.heap.size rfl (own_ext HOO.out (ext_al (below_drewN (Ext.refl wr) nq) _)) rfl (Row.one _ _ _) (one_int _) (by unfold maxLen; omega) (by omega) (by have := HEE.out.size; simp; omega) ?_))
          intro v4 w4 hown4 hg4 hb4 _
          obtain ⟨a4, c4, rfl, _⟩ := id hown4.row
          have HE4 := Lib.hid (show Ext w w4 from Below.grown (ext_al HEQ.out _) hg4 (ext_al HEQ.out _).size (fun b hb => (HOO.out.lt b hb).1))
          have HO4 := Lib.hid hown4
          clear hown4 hg4 hb4
          go_wp2_with fail
          case inl hc1 =>
            have hz := HDB.out
            have hz0 : nb = 0 := by omega
            have HZ := Lib.hid (ints_end (w := w) (p := ⟨b2, o2, none⟩) (n := nb) (l := b') hz0 HNB.out)
            clear hz hz0
            go_roundg (nb + (na + 1))
            case measure => have := HOK.out; have := HAB2.out; simp only [List.length_cons] at *; omega
            case rel => exact ⟨b', (x :: a'), o ++ [y], some ⟨b2, o2, none⟩, _, a4, 0, _, c4, by have := HNA.out; have := HNB.out; simp only [List.length_cons] at *; omega, by have := HOK.out; have := HAB2.out; have := HNA.out; have := HNB.out; simp only [List.length_cons, List.length_append, List.length_nil] at *; omega, by rw [HNB.out], by rw [List.length_cons, HNA.out], by simp, by rw [HNB.out]; exact HZ.out, by rw [List.length_cons, HNA.out]; rw [List.length_cons, HNA.out] at HIA; exact HIA.out, by simpa using HO4.out, HST.out, HUB2.out, HUA'.out, HE4.out⟩
          case inr hc1 =>
            go_roundg (nb + (na + 1))
            case measure => have := HOK.out; have := HAB2.out; simp only [List.length_cons] at *; omega
            case rel => exact ⟨b', (x :: a'), o ++ [y], some ⟨b2, o2 + 1, none⟩, _, a4, (cb - 1), _, c4, by have := HNA.out; have := HNB.out; simp only [List.length_cons] at *; omega, by have := HOK.out; have := HAB2.out; have := HNA.out; have := HNB.out; simp only [List.length_cons, List.length_append, List.length_nil] at *; omega, by rw [HNB.out], by rw [List.length_cons, HNA.out], by simp, by rw [HNB.out]; exact HDB.out, by rw [List.length_cons, HNA.out]; rw [List.length_cons, HNA.out] at HIA; exact HIA.out, by simpa using HO4.out, HST.out, HUB2.out, HUA'.out, HE4.out⟩

end Go.Proofs.Ytmacgcaehfjoiaa
