/- Several texts in one: Typ; Check; TypB; JoinT; FitC; Mach; Clo. No condition. -/
import Derived.Test.YtfcaomejbcjfgaaDoorKz2
import Derived.Test.YtfcaomejbcjfgaaDoorKz6
import Derived.WalkSmall
namespace Go.Proofs.YtfcaomejbcjfgaaDoor
theorem partsOf_le (k : Int) : partsOf k = 0 ∨ partsOf k = 1 ∨ partsOf k = 2 := by
  unfold partsOf
  split
  · simp
  · split <;> simp
theorem take_drop_cons (l : List Op2) (i n : Nat) (h : i < l.length) : (l.drop i).take (n + 1) = l[i] :: (l.drop (i + 1)).take n := by
  rw [List.drop_eq_getElem_cons h, List.take_succ_cons]
theorem take_drop_add (l : List Op2) (i m n : Nat) : (l.drop i).take (m + n) = (l.drop i).take m ++ (l.drop (i + m)).take n := by
  rw [List.take_add, List.drop_drop]
theorem skip_parse (l : List Op2) : ∀ (f i : Nat) (es : List Int) (n : Nat) (es' : List Int), skipL l f i es = (.ok n, es') → ∃ t : Tm, t.ok ∧ i + t.size = n ∧ (l.drop i).take t.size = t.flat := by
  intro f
  induction f with
  | zero => intro i es n es' h; simp [skipL] at h
  | succ f ih =>
    intro i es n es' h
    unfold skipL at h
    split at h
    · rename_i hi
      split at h
      · rename_i hk
        rcases hlo : loopL (skipL l f) (partsOf l[i].1) (i + 1) es with ⟨r, es1⟩
        rw [hlo] at h
        cases r with
        | error c => simp [closeL] at h
        | ok m =>
          simp only [closeL, Prod.mk.injEq, Except.ok.injEq] at h
          obtain ⟨rfl, _⟩ := h
          rcases partsOf_le l[i].1 with hp | hp | hp
          · rw [hp] at hlo
            simp only [loopL, Prod.mk.injEq, Except.ok.injEq] at hlo
            refine ⟨.n0 l[i].1 l[i].2, ⟨hk.1, hk.2, hp⟩, by simp [Tm.size]; omega, ?_⟩
            rw [show (Tm.n0 l[i].1 l[i].2).size = 0 + 1 from rfl, take_drop_cons l i 0 hi]
            simp [Tm.flat]
          · rw [hp] at hlo
            simp only [loopL] at hlo
            rcases h1 : skipL l f (i + 1) es with ⟨r1, es2⟩
            rw [h1] at hlo
            cases r1 with
            | error c => simp at hlo
            | ok m1 =>
              simp only [Prod.mk.injEq, Except.ok.injEq] at hlo
              obtain ⟨a, ha, hs, ht⟩ := ih _ _ _ _ h1
              refine ⟨.n1 l[i].1 l[i].2 a, ⟨hk.1, hk.2, hp, ha⟩, by simp [Tm.size]; omega, ?_⟩
              rw [show (Tm.n1 l[i].1 l[i].2 a).size = a.size + 1 from rfl, take_drop_cons l i _ hi, ht]
              simp [Tm.flat]
          · rw [hp] at hlo
            simp only [loopL] at hlo
            rcases h1 : skipL l f (i + 1) es with ⟨r1, es2⟩
            rw [h1] at hlo
            cases r1 with
            | error c => simp at hlo
            | ok m1 =>
              simp only at hlo
              rcases h2 : skipL l f m1 es2 with ⟨r2, es3⟩
              rw [h2] at hlo
              cases r2 with
              | error c => simp at hlo
              | ok m2 =>
                simp only [Prod.mk.injEq, Except.ok.injEq] at hlo
                obtain ⟨a, ha, hs, ht⟩ := ih _ _ _ _ h1
                obtain ⟨b, hb, hs2, ht2⟩ := ih _ _ _ _ h2
                refine ⟨.n2 l[i].1 l[i].2 a b, ⟨hk.1, hk.2, hp, ha, hb⟩, by simp [Tm.size]; omega, ?_⟩
                rw [show (Tm.n2 l[i].1 l[i].2 a b).size = (a.size + b.size) + 1 from rfl, take_drop_cons l i _ hi, take_drop_add, ht, hs, ht2]
                simp [Tm.flat]
      · simp at h
    · simp at h
theorem ends_parse (l : List Op2) (es : List Int) (h : endsL l = .ok es) : ∃ t : Tm, t.ok ∧ t.flat = l ∧ t.size ≤ 60 ∧ es = t.ends 0 := by
  unfold endsL at h
  split at h
  · cases h
  · rename_i hl
    rcases hr : skipL l (l.length + 1) 0 (List.replicate l.length 0) with ⟨r, es1⟩
    rw [hr] at h
    cases r with
    | error c => simp at h
    | ok n =>
      simp only at h
      split at h
      · rename_i hn
        obtain ⟨t, ht, hs, hf⟩ := skip_parse _ _ _ _ _ _ hr
        have hsz : t.size = l.length := by omega
        rw [List.drop_zero, hsz, List.take_length] at hf
        have h2 := ends_term t ht (by omega)
        rw [← hf] at h2
        unfold endsL at h2
        rw [if_neg hl, hr] at h2
        simp only [hn, if_true] at h2
        injection h with h
        injection h2 with h2
        exact ⟨t, ht, hf.symm, by omega, by rw [← h, ← h2]⟩
      · cases h
def opAt (l : List Op2) (k : Nat) : Op2 := l.getD k (0, 0)
def endAt (es : List Int) (k : Nat) : Int := es.getD k 0
def chainL (l : List Op2) (es : List Int) (tk : Bool) (lim : Int) : Nat → Nat → Bool
  | 0, _ => true
  | f + 1, k => if (k : Int) < lim then (mkK (opAt l k).1 == tk) && chainL l es tk lim f (endAt es k).toNat else true
def partsB (l : List Op2) (es : List Int) (i : Nat) : Bool := chainL l es (tkK (opAt l i).1) (endAt es i) (l.length + 1) (i + 1)
def checkE (l : List Op2) (es : List Int) (vars : Int) : Except Int Bool :=
  match l.find? (fun o => opE o vars != 0) with
  | some o => .error (opE o vars)
  | none => if (List.range l.length).all (partsB l es) then .ok (mkK (opAt l 0).1) else .error 5
def checkL (l : List Op2) (vars : Int) : Except Int Bool :=
  if vars < 0 ∨ 6 < vars then .error 2
  else match endsL l with
    | .error c => .error c
    | .ok es => checkE l es vars
def Tm.kind : Tm → Int
  | .n0 k _ => k
  | .n1 k _ _ => k
  | .n2 k _ _ _ => k
end Go.Proofs.YtfcaomejbcjfgaaDoor

namespace Go.Proofs.YtfcaomejbcjfgaaDoor
open Go.RowKit
def CheckPost (w : World) (r : Except Int Bool) (e : Ending) (w' : World) : Prop :=
  Ext w w' ∧ match r with
    | .ok b => e = .returned (.tuple #[.bool b, .int .i64 0])
    | .error c => e = .returned (.tuple #[.bool false, .int .i64 c])
theorem checkE_op {l : List Op2} {es : List Int} {vars : Int} {i : Nat} (hi : i < l.length) (h1 : ∀ j (h : j < l.length), j < i → opE l[j] vars = 0) (h2 : opE l[i] vars ≠ 0) : checkE l es vars = .error (opE l[i] vars) := by
  have : l.find? (fun o => opE o vars != 0) = some l[i] := by
    rw [List.find?_eq_some_iff_getElem]
    refine ⟨by simpa using h2, i, hi, rfl, fun j hj => by simpa using h1 j (by omega) hj⟩
  unfold checkE
  rw [this]
theorem checkE_ok {l : List Op2} {es : List Int} {vars : Int} (h1 : ∀ j (h : j < l.length), opE l[j] vars = 0) : checkE l es vars = if (List.range l.length).all (partsB l es) then .ok (mkK (opAt l 0).1) else .error 5 := by
  have : l.find? (fun o => opE o vars != 0) = none := by
    rw [List.find?_eq_none]
    intro o ho
    obtain ⟨j, hj, rfl⟩ := List.mem_iff_getElem.1 ho
    simpa using h1 j hj
  unfold checkE
  rw [this]
theorem checkE_parts {l : List Op2} {es : List Int} {vars : Int} {i : Nat} (hi : i < l.length) (h1 : ∀ j (h : j < l.length), opE l[j] vars = 0) (h2 : partsB l es i = false) : checkE l es vars = .error 5 := by
  rw [checkE_ok h1, if_neg]
  intro h
  have := List.all_eq_true.1 h i (by simpa using hi)
  rw [h2] at this
  cases this
theorem checkE_all {l : List Op2} {es : List Int} {vars : Int} (h1 : ∀ j (h : j < l.length), opE l[j] vars = 0) (h2 : ∀ j, j < l.length → partsB l es j = true) : checkE l es vars = .ok (mkK (opAt l 0).1) := by
  rw [checkE_ok h1, if_pos]
  rw [List.all_eq_true]
  intro j hj
  exact h2 j (by simpa using hj)
theorem opAt_get {l : List Op2} {k : Nat} (h : k < l.length) : opAt l k = l[k] := by simp [opAt, h]
theorem endAt_get {l : List Int} {k : Nat} (h : k < l.length) : endAt l k = l[k] := by simp [endAt, h]
set_option maxRecDepth 100000 in
set_option maxHeartbeats 1000000 in
theorem check_ends (v : Value) (l : List Op2) (vars c : Int) (w : World) (h : Ops w v l) (ht : Tab w) (h1 : 0 ≤ vars) (h2 : vars ≤ 6) (hc : endsL l = .error c) (hc0 : c ≠ 0) :
    Calls Tryd.prog 69 #[v, .int .i64 vars] w fun e w' => e = .returned (.tuple #[.bool false, .int .i64 c]) ∧ Ext w w' := by
  have H := ends_any v l w h ht
  rw [hc] at H
  have HH := Lib.hid H
  have hne : (c != 0) = true := by rw [bne_iff_ne]; exact hc0
  clear H hc hc0 h ht
  go_enter Tryd.func69, Tryd.ntmps69
  go_wp2_with fail
  refine HH.out.mono ?_
  rintro e w1 ⟨hE, rfl⟩
  go_wp2
  go_ret2
  exact ⟨rfl, hE⟩
set_option maxRecDepth 100000 in
set_option maxHeartbeats 4000000 in
theorem check_ok (v : Value) (l : List Op2) (vars : Int) (w : World) (es : List Int) (h : Ops w v l) (ht : Tab w) (h1 : 0 ≤ vars) (h2 : vars ≤ 6) (hen : endsL l = .ok es) :
    Calls Tryd.prog 69 #[v, .int .i64 vars] w (CheckPost w (checkE l es vars)) := by
  obtain ⟨t, hok, hfl, hsz, hes⟩ := ends_parse l es hen
  have hel : es.length = l.length := by rw [hes, Tm.ends_len, ← hfl, Tm.flat_len]
  have hnest : ∀ i (hi : i < es.length), (i : Int) < es[i] ∧ es[i] ≤ (l.length : Int) := by
    subst hes
    intro i hi
    have := (ends_nest t 0).1 i hi
    rw [← hfl, Tm.flat_len]
    omega
  have hpos : 0 < l.length := by rw [← hfl, Tm.flat_len]; exact t.size_pos
  have hl60 : l.length ≤ 60 := by rw [← hfl, Tm.flat_len]; exact hsz
  have H := ends_any v l w h ht
  rw [hen] at H
  have HH := Lib.hid H
  obtain ⟨a, cap, rfl, hr⟩ := h
  have HR := Lib.hid hr
  have HN := Lib.hid hnest
  have HL := Lib.hid hel
  clear H hen hok hfl hsz hes ht hr hnest hel
  go_enter Tryd.func69, Tryd.ntmps69
  go_wp2_with fail
  refine HH.out.mono ?_
  rintro e w1 ⟨hE1, v1, rfl, hown⟩
  obtain ⟨a1, c1, rfl, hr1⟩ := hown.row
  rcases hown.2 with ⟨_, hz0⟩ | ⟨g, cg, cur, hv, hgb, hg, hnc, hcm, hcs, htake⟩
  · have := HL.out; omega
  cases hv
  have hec : ∀ k (hk : k < es.length), w1.cell? ⟨g, k, none⟩ = some (.int .i64 es[k]) := by
    intro k hk
    have := hr1.cells k (.int .i64 es[k]) (by simp [hk])
    simpa using this
  obtain ⟨b, off, ha, hc⟩ := (HR.out.ext hE1).ops
  obtain rfl := ha hpos
  have HEC := Lib.hid hec
  have HOC := Lib.hid hc
  have HE1 := Lib.hid hE1
  have hw1 := hE1.size
  have HLes : Hid (es.length = l.length) := HL.out
  have hfin : ∀ r, Hid (checkE l es vars = r) → ∀ (x : Value) (w' : World), Ext w1 w' → (match r with | .ok b => x = .tuple #[.bool b, .int .i64 0] | .error c => x = .tuple #[.bool false, .int .i64 c]) → CheckPost w (checkE l es vars) (.returned x) w' := by
    intro r hr x w' hx hm
    rw [hr.out]
    refine ⟨HE1.out.trans hx, ?_⟩
    cases r <;> simp_all
  have HFIN := Lib.hid hfin
  generalize CheckPost w (checkE l es vars) = POST at *
  clear hown hr1 hg htake hcs hec hc ha hE1 hfin HH hgb
  go_wp2_with fail
  go_loopw [39] (fun i wr => ∃ ii : Nat, ii ≤ l.length ∧ i = .int .i64 ii ∧ (∀ j (h : j < l.length), j < ii → opE l[j] vars = 0) ∧ Ext w1 wr) (fun i _ => l.length - (intOf i).toNat)
  case atStart => exact ⟨0, by omega, rfl, fun j _ h => absurd h (by omega), Ext.refl _⟩
  case round =>
    obtain ⟨ii, hii, rfl, hops, hext⟩ := hrel
    by_cases hlt : ii < l.length
    · have hc1 := cell_later hext (HOC.out ii hlt).1
      have hc2 := cell_later hext (HOC.out ii hlt).2
      have hst : ∀ (h0 : opE l[ii] vars = 0) (j : Nat) (h : j < l.length), j < ii + 1 → opE l[j] vars = 0 := by
        intro h0 j h hj
        by_cases hj2 : j < ii
        · exact hops j h hj2
        · obtain rfl : j = ii := by omega
          exact h0
      have her : ∀ (h0 : opE l[ii] vars ≠ 0), checkE l es vars = .error (opE l[ii] vars) := fun h0 => checkE_op hlt hops h0
      have HST := Lib.hid hst
      have HER := Lib.hid her
      have HOPS := Lib.hid hops
      clear hst her hops
      generalize l[ii] = o at *
      go_wp2_with fail
      refine (op_fn o vars _ h1 h2).mono ?_
      rintro e w2 ⟨rfl, hE2⟩
      have hE2' : Ext w1 w2 := Ext.trans (hext.alloc hext.size _) hE2
      by_cases h0 : opE o vars = 0
      · have hs := HST.out h0
        rw [h0]
        have HS := Lib.hid hs
        clear hs h0
        go_wp2_with fail
        go_roundw
        case rel => exact ⟨ii + 1, by omega, by go_num, HS.out, hE2'⟩
        case measure => simp [intOf]; omega
      · have he := HER.out h0
        generalize opE o vars = q at *
        have HE := Lib.hid he
        have hq : (q != 0) = true := by rw [bne_iff_ne]; exact h0
        clear he h0
        go_wp2
        exact HFIN.out _ HE _ _ hE2' rfl
    · obtain rfl : ii = l.length := by omega
      have hops' : ∀ (j : Nat) (h : j < l.length), opE l[j] vars = 0 := fun j h => hops j h h
      have HOPS := Lib.hid hops'
      clear hops hops'
      go_wp2_with fail
      have HX := Lib.hid hext
      go_loopw [52] (fun i wr' => ∃ ii : Nat, ii ≤ l.length ∧ i = .int .i64 ii ∧ (∀ j, j < ii → partsB l es j = true) ∧ Ext w1 wr') (fun i _ => l.length - (intOf i).toNat)
      case atStart => exact ⟨0, by omega, rfl, fun j h => absurd h (by omega), hext⟩
      case round =>
        clear hext hii
        obtain ⟨ii, hii, rfl, hpar, hext⟩ := hrel
        by_cases hlt : ii < l.length
        · have hc1 := cell_later hext (HOC.out ii hlt).1
          have hc2 := cell_later hext (HOC.out ii hlt).2
          have hiie : ii < es.length := by have := HL.out; omega
          have hnx := HN.out ii hiie
          have hsz := hext.size
          have hpd : ∃ p : Bool × Int, p = (tkK l[ii].1, es[ii]) ∧ partsB l es ii = chainL l es p.1 p.2 (l.length + 1) (ii + 1) := ⟨_, rfl, by unfold partsB; rw [opAt_get hlt, endAt_get hiie]⟩
          have hst : ∀ (h0 : partsB l es ii = true) (j : Nat), j < ii + 1 → partsB l es j = true := by
            intro h0 j hj
            by_cases hj2 : j < ii
            · exact hpar j hj2
            · obtain rfl : j = ii := by omega
              exact h0
          have her : ∀ (h0 : partsB l es ii = false), checkE l es vars = .error 5 := fun h0 => checkE_parts hlt HOPS.out h0
          obtain ⟨⟨tk, lim⟩, hp, hch⟩ := hpd
          injection hp with hp1 hp2
          have HCH := Lib.hid hch
          have HST := Lib.hid hst
          have HER := Lib.hid her
          have hext2 : Ext w1 (wr.alloc (Obj.cells #[.int .i64 l[ii].1, .int .i64 l[ii].2] 87)) := hext.alloc hext.size _
          have hce := cell_later hext2 (HEC.out ii hiie)
          rw [← hp2] at hce hnx
          have HT := Lib.hid (truth_fn l[ii].1 (wr.alloc (Obj.cells #[.int .i64 l[ii].1, .int .i64 l[ii].2] 87)))
          rw [← hp1] at HT
          clear hst her hpar hch hp1 hp2
          generalize mkK l[ii].1 = b1 at *
          generalize okK l[ii].1 = b2 at *
          generalize l[ii] = o at *
          generalize hPB : partsB l es ii = PB at *
          clear hPB
          go_wp2_with fail
          generalize hw2 : wr.alloc (Obj.cells #[.int .i64 o.1, .int .i64 o.2] 87) = w2 at *
          clear hext
          refine HT.out.mono ?_
          rintro e _ ⟨rfl, rfl⟩
          have HO := Lib.hid hext2
          go_wp2_with fail
          clear HT hc1 hc2 hw2
          go_loopw [16] (fun x wr' => ∃ (kk f : Nat), x = .int .i64 kk ∧ kk ≤ l.length ∧ l.length + 2 ≤ f + kk ∧ Hid (PB = chainL l es tk lim f kk) ∧ wr' = w2) (fun x _ => l.length + 1 - (intOf x).toNat)
          case atStart => exact ⟨ii + 1, l.length + 1, by go_num, by omega, by omega, HCH, rfl⟩
          case round =>
            obtain ⟨kk, f, rfl, hkl, hfk, hch, rfl⟩ := hrel
            by_cases hkm : (kk : Int) < lim
            · have hkL : kk < l.length := by omega
              have hkE : kk < es.length := by have := HL.out; omega
              obtain ⟨f, rfl⟩ : ∃ f', f = f' + 1 := ⟨f - 1, by omega⟩
              have hk1 := cell_later hext2 (HOC.out kk hkL).1
              have hk2 := cell_later hext2 (HEC.out kk hkE)
              have hkn := HN.out kk hkE
              have hst2 : PB = ((mkK l[kk].1 == tk) && chainL l es tk lim f es[kk].toNat) := by
                rw [hch.out, chainL, if_pos hkm, opAt_get hkL, endAt_get hkE]
              have HST2 := Lib.hid hst2
              clear hst2 hch
              have HT := Lib.hid (truth_fn l[kk].1 wr)
              generalize mkK l[kk].1 = b3 at *
              generalize tkK l[kk].1 = b4 at *
              generalize okK l[kk].1 = b5 at *
              generalize l[kk].1 = o3 at *
              obtain ⟨m, hm⟩ : ∃ m : Nat, es[kk] = (m : Int) := ⟨es[kk].toNat, by omega⟩
              rw [hm] at hk2 hkn HST2
              clear hm
              go_wp2_with fail
              refine HT.out.mono ?_
              rintro e _ ⟨rfl, rfl⟩
              have hb : b3 = tk ∨ b3 = !tk := by cases b3 <;> cases tk <;> simp
              rcases hb with hb | hb
              · subst hb
                have hst3 : PB = chainL l es b3 lim f m := by have := HST2.out; simpa using this
                have HST3 := Lib.hid hst3
                clear hst3 HST2
                cases b3
                all_goals
                  go_wp2_with fail
                  go_roundw
                  case rel => exact ⟨m, f, rfl, by omega, by omega, HST3, trivial⟩
                  case measure => simp [intOf]; omega
              · have hpb : PB = false := by have := HST2.out; rw [this, hb]; cases tk <;> simp
                have hce2 := HER.out hpb
                have HCE := Lib.hid hce2
                clear hce2 HST2 HST HER
                subst hb
                cases tk
                all_goals
                  go_wp2
                  exact HFIN.out _ HCE _ _ HO.out rfl
            · have hpb : PB = true := by
                rw [hch.out]
                cases f with
                | zero => rfl
                | succ f => rw [chainL, if_neg hkm]
              have hs := HST.out hpb
              have HS := Lib.hid hs
              clear hs hch
              go_wp2_with fail
              go_roundw
              case rel => exact ⟨ii + 1, by omega, by go_num, HS.out, HO.out⟩
              case measure => simp [intOf]; omega
        · obtain rfl : ii = l.length := by omega
          have hall := checkE_all HOPS.out hpar
          rw [opAt_get hpos] at hall
          have HA := Lib.hid hall
          have hc1 := cell_later hext (HOC.out 0 hpos).1
          simp only [Nat.zero_mul, Nat.add_zero] at hc1
          have HT := Lib.hid (truth_fn l[0].1 wr)
          clear hall hpar
          generalize mkK l[0].1 = b3 at *
          generalize tkK l[0].1 = b4 at *
          generalize okK l[0].1 = b5 at *
          generalize l[0].1 = o3 at *
          go_wp2_with fail
          refine HT.out.mono ?_
          rintro e _ ⟨rfl, rfl⟩
          go_wp2
          exact HFIN.out _ HA _ _ hext rfl
end Go.Proofs.YtfcaomejbcjfgaaDoor

namespace Go.Proofs.YtfcaomejbcjfgaaDoor
end Go.Proofs.YtfcaomejbcjfgaaDoor

namespace Go.Proofs.YtfcaomejbcjfgaaDoor
open Go.RowKit
end Go.Proofs.YtfcaomejbcjfgaaDoor

namespace Go.Proofs.YtfcaomejbcjfgaaDoor
open Go.RowKit
end Go.Proofs.YtfcaomejbcjfgaaDoor

namespace Go.Proofs.YtfcaomejbcjfgaaDoor
open Go.RowKit
end Go.Proofs.YtfcaomejbcjfgaaDoor

namespace Go.Proofs.YtfcaomejbcjfgaaDoor
open Go.RowKit
end Go.Proofs.YtfcaomejbcjfgaaDoor
