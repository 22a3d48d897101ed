/- Several texts in one: Typ; Check; TypB; JoinT; FitC; Mach; Clo; Same. No condition. -/
import Derived.Test.YtfcaomejbcjfgaaGreatDoorKx2
import Derived.Test.YtfcaomejbcjfgaaGreatDoorKx9
import Derived.WalkSmall
namespace Go.Proofs.YtfcaomejbcjfgaaGreatDoor
theorem partsOf_le (k : Int) : partsOf k = 0 ∨ partsOf k = 1 ∨ partsOf k = 2 := by
  unfold partsOf
  split
  · simp
  · split <;> simp
theorem take_drop_cons (l : List Op2) (i n : Nat) (h : i < l.length) : (l.drop i).take (n + 1) = l[i] :: (l.drop (i + 1)).take n := by
  rw [List.drop_eq_getElem_cons h, List.take_succ_cons]
theorem take_drop_add (l : List Op2) (i m n : Nat) : (l.drop i).take (m + n) = (l.drop i).take m ++ (l.drop (i + m)).take n := by
  rw [List.take_add, List.drop_drop]
theorem skip_parse (l : List Op2) : ∀ (f i : Nat) (es : List Int) (n : Nat) (es' : List Int), skipL l f i es = (.ok n, es') → ∃ t : Tm, t.ok ∧ i + t.size = n ∧ (l.drop i).take t.size = t.flat := by
  intro f
  induction f with
  | zero => intro i es n es' h; simp [skipL] at h
  | succ f ih =>
    intro i es n es' h
    unfold skipL at h
    split at h
    · rename_i hi
      split at h
      · rename_i hk
        rcases hlo : loopL (skipL l f) (partsOf l[i].1) (i + 1) es with ⟨r, es1⟩
        rw [hlo] at h
        cases r with
        | error c => simp [closeL] at h
        | ok m =>
          simp only [closeL, Prod.mk.injEq, Except.ok.injEq] at h
          obtain ⟨rfl, _⟩ := h
          rcases partsOf_le l[i].1 with hp | hp | hp
          · rw [hp] at hlo
            simp only [loopL, Prod.mk.injEq, Except.ok.injEq] at hlo
            refine ⟨.n0 l[i].1 l[i].2, ⟨hk.1, hk.2, hp⟩, by simp [Tm.size]; omega, ?_⟩
            rw [show (Tm.n0 l[i].1 l[i].2).size = 0 + 1 from rfl, take_drop_cons l i 0 hi]
            simp [Tm.flat]
          · rw [hp] at hlo
            simp only [loopL] at hlo
            rcases h1 : skipL l f (i + 1) es with ⟨r1, es2⟩
            rw [h1] at hlo
            cases r1 with
            | error c => simp at hlo
            | ok m1 =>
              simp only [Prod.mk.injEq, Except.ok.injEq] at hlo
              obtain ⟨a, ha, hs, ht⟩ := ih _ _ _ _ h1
              refine ⟨.n1 l[i].1 l[i].2 a, ⟨hk.1, hk.2, hp, ha⟩, by simp [Tm.size]; omega, ?_⟩
              rw [show (Tm.n1 l[i].1 l[i].2 a).size = a.size + 1 from rfl, take_drop_cons l i _ hi, ht]
              simp [Tm.flat]
          · rw [hp] at hlo
            simp only [loopL] at hlo
            rcases h1 : skipL l f (i + 1) es with ⟨r1, es2⟩
            rw [h1] at hlo
            cases r1 with
            | error c => simp at hlo
            | ok m1 =>
              simp only at hlo
              rcases h2 : skipL l f m1 es2 with ⟨r2, es3⟩
              rw [h2] at hlo
              cases r2 with
              | error c => simp at hlo
              | ok m2 =>
                simp only [Prod.mk.injEq, Except.ok.injEq] at hlo
                obtain ⟨a, ha, hs, ht⟩ := ih _ _ _ _ h1
                obtain ⟨b, hb, hs2, ht2⟩ := ih _ _ _ _ h2
                refine ⟨.n2 l[i].1 l[i].2 a b, ⟨hk.1, hk.2, hp, ha, hb⟩, by simp [Tm.size]; omega, ?_⟩
                rw [show (Tm.n2 l[i].1 l[i].2 a b).size = (a.size + b.size) + 1 from rfl, take_drop_cons l i _ hi, take_drop_add, ht, hs, ht2]
                simp [Tm.flat]
      · simp at h
    · simp at h
theorem ends_parse (l : List Op2) (es : List Int) (h : endsL l = .ok es) : ∃ t : Tm, t.ok ∧ t.flat = l ∧ t.size ≤ 60 ∧ es = t.ends 0 := by
  unfold endsL at h
  split at h
  · cases h
  · rename_i hl
    rcases hr : skipL l (l.length + 1) 0 (List.replicate l.length 0) with ⟨r, es1⟩
    rw [hr] at h
    cases r with
    | error c => simp at h
    | ok n =>
      simp only at h
      split at h
      · rename_i hn
        obtain ⟨t, ht, hs, hf⟩ := skip_parse _ _ _ _ _ _ hr
        have hsz : t.size = l.length := by omega
        rw [List.drop_zero, hsz, List.take_length] at hf
        have h2 := ends_term t ht (by omega)
        rw [← hf] at h2
        unfold endsL at h2
        rw [if_neg hl, hr] at h2
        simp only [hn, if_true] at h2
        injection h with h
        injection h2 with h2
        exact ⟨t, ht, hf.symm, by omega, by rw [← h, ← h2]⟩
      · cases h
def opAt (l : List Op2) (k : Nat) : Op2 := l.getD k (0, 0)
def endAt (es : List Int) (k : Nat) : Int := es.getD k 0
def chainL (l : List Op2) (es : List Int) (tk : Bool) (lim : Int) : Nat → Nat → Bool
  | 0, _ => true
  | f + 1, k => if (k : Int) < lim then (mkK (opAt l k).1 == tk) && chainL l es tk lim f (endAt es k).toNat else true
def partsB (l : List Op2) (es : List Int) (i : Nat) : Bool := chainL l es (tkK (opAt l i).1) (endAt es i) (l.length + 1) (i + 1)
def checkE (l : List Op2) (es : List Int) (vars : Int) : Except Int Bool :=
  match l.find? (fun o => opE o vars != 0) with
  | some o => .error (opE o vars)
  | none => if (List.range l.length).all (partsB l es) then .ok (mkK (opAt l 0).1) else .error 5
def checkL (l : List Op2) (vars : Int) : Except Int Bool :=
  if vars < 0 ∨ 6 < vars then .error 2
  else match endsL l with
    | .error c => .error c
    | .ok es => checkE l es vars
def Tm.kind : Tm → Int
  | .n0 k _ => k
  | .n1 k _ _ => k
  | .n2 k _ _ _ => k
def Tm.typed : Tm → Bool
  | .n0 _ _ => true
  | .n1 k _ a => (mkK a.kind == tkK k) && a.typed
  | .n2 k _ a b => (mkK a.kind == tkK k) && (mkK b.kind == tkK k) && a.typed && b.typed
theorem flat_head (t : Tm) : ∃ v r, t.flat = (t.kind, v) :: r := by cases t <;> exact ⟨_, _, rfl⟩
end Go.Proofs.YtfcaomejbcjfgaaGreatDoor

namespace Go.Proofs.YtfcaomejbcjfgaaGreatDoor
open Go.RowKit
def CheckPost (w : World) (r : Except Int Bool) (e : Ending) (w' : World) : Prop :=
  Ext w w' ∧ match r with
    | .ok b => e = .returned (.tuple #[.bool b, .int .i64 0])
    | .error c => e = .returned (.tuple #[.bool false, .int .i64 c])
theorem checkE_op {l : List Op2} {es : List Int} {vars : Int} {i : Nat} (hi : i < l.length) (h1 : ∀ j (h : j < l.length), j < i → opE l[j] vars = 0) (h2 : opE l[i] vars ≠ 0) : checkE l es vars = .error (opE l[i] vars) := by
  have : l.find? (fun o => opE o vars != 0) = some l[i] := by
    rw [List.find?_eq_some_iff_getElem]
    refine ⟨by simpa using h2, i, hi, rfl, fun j hj => by simpa using h1 j (by omega) hj⟩
  unfold checkE
  rw [this]
theorem checkE_ok {l : List Op2} {es : List Int} {vars : Int} (h1 : ∀ j (h : j < l.length), opE l[j] vars = 0) : checkE l es vars = if (List.range l.length).all (partsB l es) then .ok (mkK (opAt l 0).1) else .error 5 := by
  have : l.find? (fun o => opE o vars != 0) = none := by
    rw [List.find?_eq_none]
    intro o ho
    obtain ⟨j, hj, rfl⟩ := List.mem_iff_getElem.1 ho
    simpa using h1 j hj
  unfold checkE
  rw [this]
theorem checkE_parts {l : List Op2} {es : List Int} {vars : Int} {i : Nat} (hi : i < l.length) (h1 : ∀ j (h : j < l.length), opE l[j] vars = 0) (h2 : partsB l es i = false) : checkE l es vars = .error 5 := by
  rw [checkE_ok h1, if_neg]
  intro h
  have := List.all_eq_true.1 h i (by simpa using hi)
  rw [h2] at this
  cases this
theorem checkE_all {l : List Op2} {es : List Int} {vars : Int} (h1 : ∀ j (h : j < l.length), opE l[j] vars = 0) (h2 : ∀ j, j < l.length → partsB l es j = true) : checkE l es vars = .ok (mkK (opAt l 0).1) := by
  rw [checkE_ok h1, if_pos]
  rw [List.all_eq_true]
  intro j hj
  exact h2 j (by simpa using hj)
theorem opAt_get {l : List Op2} {k : Nat} (h : k < l.length) : opAt l k = l[k] := by simp [opAt, h]
theorem endAt_get {l : List Int} {k : Nat} (h : k < l.length) : endAt l k = l[k] := by simp [endAt, h]
set_option maxRecDepth 100000 in
set_option maxHeartbeats 1000000 in
theorem check_ends (v : Value) (l : List Op2) (vars c : Int) (w : World) (h : Ops w v l) (ht : Tab w) (h1 : 0 ≤ vars) (h2 : vars ≤ 6) (hc : endsL l = .error c) (hc0 : c ≠ 0) :
    Calls Tryz.prog 59 #[v, .int .i64 vars] w fun e w' => e = .returned (.tuple #[.bool false, .int .i64 c]) ∧ Ext w w' := by
  have H := ends_any v l w h ht
  rw [hc] at H
  have HH := Lib.hid H
  have hne : (c != 0) = true := by rw [bne_iff_ne]; exact hc0
  clear H hc hc0 h ht
  go_enter Tryz.func59, Tryz.ntmps59
  go_wp2_with fail
  refine HH.out.mono ?_
  rintro e w1 ⟨hE, rfl⟩
  go_wp2
  go_ret2
  exact ⟨rfl, hE⟩
set_option maxRecDepth 100000 in
set_option maxHeartbeats 4000000 in
theorem check_ok (v : Value) (l : List Op2) (vars : Int) (w : World) (es : List Int) (h : Ops w v l) (ht : Tab w) (h1 : 0 ≤ vars) (h2 : vars ≤ 6) (hen : endsL l = .ok es) :
    Calls Tryz.prog 59 #[v, .int .i64 vars] w (CheckPost w (checkE l es vars)) := by
  obtain ⟨t, hok, hfl, hsz, hes⟩ := ends_parse l es hen
  have hel : es.length = l.length := by rw [hes, Tm.ends_len, ← hfl, Tm.flat_len]
  have hnest : ∀ i (hi : i < es.length), (i : Int) < es[i] ∧ es[i] ≤ (l.length : Int) := by
    subst hes
    intro i hi
    have := (ends_nest t 0).1 i hi
    rw [← hfl, Tm.flat_len]
    omega
  have hpos : 0 < l.length := by rw [← hfl, Tm.flat_len]; exact t.size_pos
  have hl60 : l.length ≤ 60 := by rw [← hfl, Tm.flat_len]; exact hsz
  have H := ends_any v l w h ht
  rw [hen] at H
  have HH := Lib.hid H
  obtain ⟨a, cap, rfl, hr⟩ := h
  have HR := Lib.hid hr
  have HN := Lib.hid hnest
  have HL := Lib.hid hel
  clear H hen hok hfl hsz hes ht hr hnest hel
  go_enter Tryz.func59, Tryz.ntmps59
  go_wp2_with fail
  refine HH.out.mono ?_
  rintro e w1 ⟨hE1, v1, rfl, hown⟩
  obtain ⟨a1, c1, rfl, hr1⟩ := hown.row
  rcases hown.2 with ⟨_, hz0⟩ | ⟨g, cg, cur, hv, hgb, hg, hnc, hcm, hcs, htake⟩
  · have := HL.out; omega
  cases hv
  have hec : ∀ k (hk : k < es.length), w1.cell? ⟨g, k, none⟩ = some (.int .i64 es[k]) := by
    intro k hk
    have := hr1.cells k (.int .i64 es[k]) (by simp [hk])
    simpa using this
  obtain ⟨b, off, ha, hc⟩ := (HR.out.ext hE1).ops
  obtain rfl := ha hpos
  have HEC := Lib.hid hec
  have HOC := Lib.hid hc
  have HE1 := Lib.hid hE1
  have hw1 := hE1.size
  have HLes : Hid (es.length = l.length) := HL.out
  have hfin : ∀ r, Hid (checkE l es vars = r) → ∀ (x : Value) (w' : World), Ext w1 w' → (match r with | .ok b => x = .tuple #[.bool b, .int .i64 0] | .error c => x = .tuple #[.bool false, .int .i64 c]) → CheckPost w (checkE l es vars) (.returned x) w' := by
    intro r hr x w' hx hm
    rw [hr.out]
    refine ⟨HE1.out.trans hx, ?_⟩
    cases r <;> simp_all
  have HFIN := Lib.hid hfin
  generalize CheckPost w (checkE l es vars) = POST at *
  clear hown hr1 hg htake hcs hec hc ha hE1 hfin HH hgb
  go_wp2_with fail
  go_loopw [39] (fun i wr => ∃ ii : Nat, ii ≤ l.length ∧ i = .int .i64 ii ∧ (∀ j (h : j < l.length), j < ii → opE l[j] vars = 0) ∧ Ext w1 wr) (fun i _ => l.length - (intOf i).toNat)
  case atStart => exact ⟨0, by omega, rfl, fun j _ h => absurd h (by omega), Ext.refl _⟩
  case round =>
    obtain ⟨ii, hii, rfl, hops, hext⟩ := hrel
    by_cases hlt : ii < l.length
    · have hc1 := cell_later hext (HOC.out ii hlt).1
      have hc2 := cell_later hext (HOC.out ii hlt).2
      have hst : ∀ (h0 : opE l[ii] vars = 0) (j : Nat) (h : j < l.length), j < ii + 1 → opE l[j] vars = 0 := by
        intro h0 j h hj
        by_cases hj2 : j < ii
        · exact hops j h hj2
        · obtain rfl : j = ii := by omega
          exact h0
      have her : ∀ (h0 : opE l[ii] vars ≠ 0), checkE l es vars = .error (opE l[ii] vars) := fun h0 => checkE_op hlt hops h0
      have HST := Lib.hid hst
      have HER := Lib.hid her
      have HOPS := Lib.hid hops
      clear hst her hops
      generalize l[ii] = o at *
      go_wp2_with fail
      refine (op_fn o vars _ h1 h2).mono ?_
      rintro e w2 ⟨rfl, hE2⟩
      have hE2' : Ext w1 w2 := Ext.trans (hext.alloc hext.size _) hE2
      by_cases h0 : opE o vars = 0
      · have hs := HST.out h0
        rw [h0]
        have HS := Lib.hid hs
        clear hs h0
        go_wp2_with fail
        go_roundw
        case rel => exact ⟨ii + 1, by omega, by go_num, HS.out, hE2'⟩
        case measure => simp [intOf]; omega
      · have he := HER.out h0
        generalize opE o vars = q at *
        have HE := Lib.hid he
        have hq : (q != 0) = true := by rw [bne_iff_ne]; exact h0
        clear he h0
        go_wp2
        exact HFIN.out _ HE _ _ hE2' rfl
    · obtain rfl : ii = l.length := by omega
      have hops' : ∀ (j : Nat) (h : j < l.length), opE l[j] vars = 0 := fun j h => hops j h h
      have HOPS := Lib.hid hops'
      clear hops hops'
      go_wp2_with fail
      have HX := Lib.hid hext
      go_loopw [52] (fun i wr' => ∃ ii : Nat, ii ≤ l.length ∧ i = .int .i64 ii ∧ (∀ j, j < ii → partsB l es j = true) ∧ Ext w1 wr') (fun i _ => l.length - (intOf i).toNat)
      case atStart => exact ⟨0, by omega, rfl, fun j h => absurd h (by omega), hext⟩
      case round =>
        clear hext hii
        obtain ⟨ii, hii, rfl, hpar, hext⟩ := hrel
        by_cases hlt : ii < l.length
        · have hc1 := cell_later hext (HOC.out ii hlt).1
          have hc2 := cell_later hext (HOC.out ii hlt).2
          have hiie : ii < es.length := by have := HL.out; omega
          have hnx := HN.out ii hiie
          have hsz := hext.size
          have hpd : ∃ p : Bool × Int, p = (tkK l[ii].1, es[ii]) ∧ partsB l es ii = chainL l es p.1 p.2 (l.length + 1) (ii + 1) := ⟨_, rfl, by unfold partsB; rw [opAt_get hlt, endAt_get hiie]⟩
          have hst : ∀ (h0 : partsB l es ii = true) (j : Nat), j < ii + 1 → partsB l es j = true := by
            intro h0 j hj
            by_cases hj2 : j < ii
            · exact hpar j hj2
            · obtain rfl : j = ii := by omega
              exact h0
          have her : ∀ (h0 : partsB l es ii = false), checkE l es vars = .error 5 := fun h0 => checkE_parts hlt HOPS.out h0
          obtain ⟨⟨tk, lim⟩, hp, hch⟩ := hpd
          injection hp with hp1 hp2
          have HCH := Lib.hid hch
          have HST := Lib.hid hst
          have HER := Lib.hid her
          have hext2 : Ext w1 (wr.alloc (Obj.cells #[.int .i64 l[ii].1, .int .i64 l[ii].2] 79)) := hext.alloc hext.size _
          have hce := cell_later hext2 (HEC.out ii hiie)
          rw [← hp2] at hce hnx
          have HT := Lib.hid (truth_fn l[ii].1 (wr.alloc (Obj.cells #[.int .i64 l[ii].1, .int .i64 l[ii].2] 79)))
          rw [← hp1] at HT
          clear hst her hpar hch hp1 hp2
          generalize mkK l[ii].1 = b1 at *
          generalize okK l[ii].1 = b2 at *
          generalize l[ii] = o at *
          generalize hPB : partsB l es ii = PB at *
          clear hPB
          go_wp2_with fail
          generalize hw2 : wr.alloc (Obj.cells #[.int .i64 o.1, .int .i64 o.2] 79) = w2 at *
          clear hext
          refine HT.out.mono ?_
          rintro e _ ⟨rfl, rfl⟩
          have HO := Lib.hid hext2
          go_wp2_with fail
          clear HT hc1 hc2 hw2
          go_loopw [16] (fun x wr' => ∃ (kk f : Nat), x = .int .i64 kk ∧ kk ≤ l.length ∧ l.length + 2 ≤ f + kk ∧ Hid (PB = chainL l es tk lim f kk) ∧ wr' = w2) (fun x _ => l.length + 1 - (intOf x).toNat)
          case atStart => exact ⟨ii + 1, l.length + 1, by go_num, by omega, by omega, HCH, rfl⟩
          case round =>
            obtain ⟨kk, f, rfl, hkl, hfk, hch, rfl⟩ := hrel
            by_cases hkm : (kk : Int) < lim
            · have hkL : kk < l.length := by omega
              have hkE : kk < es.length := by have := HL.out; omega
              obtain ⟨f, rfl⟩ : ∃ f', f = f' + 1 := ⟨f - 1, by omega⟩
              have hk1 := cell_later hext2 (HOC.out kk hkL).1
              have hk2 := cell_later hext2 (HEC.out kk hkE)
              have hkn := HN.out kk hkE
              have hst2 : PB = ((mkK l[kk].1 == tk) && chainL l es tk lim f es[kk].toNat) := by
                rw [hch.out, chainL, if_pos hkm, opAt_get hkL, endAt_get hkE]
              have HST2 := Lib.hid hst2
              clear hst2 hch
              have HT := Lib.hid (truth_fn l[kk].1 wr)
              generalize mkK l[kk].1 = b3 at *
              generalize tkK l[kk].1 = b4 at *
              generalize okK l[kk].1 = b5 at *
              generalize l[kk].1 = o3 at *
              obtain ⟨m, hm⟩ : ∃ m : Nat, es[kk] = (m : Int) := ⟨es[kk].toNat, by omega⟩
              rw [hm] at hk2 hkn HST2
              clear hm
              go_wp2_with fail
              refine HT.out.mono ?_
              rintro e _ ⟨rfl, rfl⟩
              have hb : b3 = tk ∨ b3 = !tk := by cases b3 <;> cases tk <;> simp
              rcases hb with hb | hb
              · subst hb
                have hst3 : PB = chainL l es b3 lim f m := by have := HST2.out; simpa using this
                have HST3 := Lib.hid hst3
                clear hst3 HST2
                cases b3
                all_goals
                  go_wp2_with fail
                  go_roundw
                  case rel => exact ⟨m, f, rfl, by omega, by omega, HST3, trivial⟩
                  case measure => simp [intOf]; omega
              · have hpb : PB = false := by have := HST2.out; rw [this, hb]; cases tk <;> simp
                have hce2 := HER.out hpb
                have HCE := Lib.hid hce2
                clear hce2 HST2 HST HER
                subst hb
                cases tk
                all_goals
                  go_wp2
                  exact HFIN.out _ HCE _ _ HO.out rfl
            · have hpb : PB = true := by
                rw [hch.out]
                cases f with
                | zero => rfl
                | succ f => rw [chainL, if_neg hkm]
              have hs := HST.out hpb
              have HS := Lib.hid hs
              clear hs hch
              go_wp2_with fail
              go_roundw
              case rel => exact ⟨ii + 1, by omega, by go_num, HS.out, HO.out⟩
              case measure => simp [intOf]; omega
        · obtain rfl : ii = l.length := by omega
          have hall := checkE_all HOPS.out hpar
          rw [opAt_get hpos] at hall
          have HA := Lib.hid hall
          have hc1 := cell_later hext (HOC.out 0 hpos).1
          simp only [Nat.zero_mul, Nat.add_zero] at hc1
          have HT := Lib.hid (truth_fn l[0].1 wr)
          clear hall hpar
          generalize mkK l[0].1 = b3 at *
          generalize tkK l[0].1 = b4 at *
          generalize okK l[0].1 = b5 at *
          generalize l[0].1 = o3 at *
          go_wp2_with fail
          refine HT.out.mono ?_
          rintro e _ ⟨rfl, rfl⟩
          go_wp2
          exact HFIN.out _ HA _ _ hext rfl
end Go.Proofs.YtfcaomejbcjfgaaGreatDoor

namespace Go.Proofs.YtfcaomejbcjfgaaGreatDoor
theorem getD_left {α : Type} (a b : List α) (d : α) (n : Nat) (h : n < a.length) : (a ++ b).getD n d = a.getD n d := by
  simp [List.getD_eq_getElem?_getD, List.getElem?_append_left h]
theorem getD_right {α : Type} (a b : List α) (d : α) (n : Nat) (h : a.length ≤ n) : (a ++ b).getD n d = b.getD (n - a.length) d := by
  simp [List.getD_eq_getElem?_getD, List.getElem?_append_right h]
def Lies (l : List Op2) (es : List Int) (t : Tm) (p : Nat) : Prop :=
  ∀ j, j < t.size → opAt l (p + j) = t.flat.getD j (0, 0) ∧ endAt es (p + j) = (t.ends p).getD j 0
theorem Lies.one {l : List Op2} {es : List Int} {k v : Int} {a : Tm} {p : Nat} (h : Lies l es (.n1 k v a) p) : Lies l es a (p + 1) := by
  intro j hj
  have := h (j + 1) (by simp [Tm.size]; omega)
  rw [show p + 1 + j = p + (j + 1) by omega]
  simpa [Tm.flat, Tm.ends] using this
theorem Lies.two {l : List Op2} {es : List Int} {k v : Int} {a b : Tm} {p : Nat} (h : Lies l es (.n2 k v a b) p) : Lies l es a (p + 1) ∧ Lies l es b (p + 1 + a.size) := by
  constructor
  · intro j hj
    have := h (j + 1) (by simp [Tm.size]; omega)
    rw [show p + 1 + j = p + (j + 1) by omega]
    simp only [Tm.flat, Tm.ends, List.getD_cons_succ] at this
    rw [getD_left _ _ _ _ (by rw [Tm.flat_len]; exact hj), getD_left _ _ _ _ (by rw [Tm.ends_len]; exact hj)] at this
    exact this
  · intro j hj
    have := h (a.size + j + 1) (by simp [Tm.size]; omega)
    rw [show p + 1 + a.size + j = p + (a.size + j + 1) by omega]
    simp only [Tm.flat, Tm.ends, List.getD_cons_succ] at this
    rw [getD_right _ _ _ _ (by rw [Tm.flat_len]; omega), getD_right _ _ _ _ (by rw [Tm.ends_len]; omega), Tm.flat_len, Tm.ends_len, Nat.add_sub_cancel_left] at this
    exact this
theorem Lies.head {l : List Op2} {es : List Int} {t : Tm} {p : Nat} (h : Lies l es t p) : (opAt l p).1 = t.kind ∧ endAt es p = ((p + t.size : Nat) : Int) := by
  have := h 0 t.size_pos
  obtain ⟨v, r, hr⟩ := flat_head t
  have hz := ends_zero t p (by rw [Tm.ends_len]; exact t.size_pos)
  refine ⟨by rw [show p = p + 0 from rfl, this.1, hr]; rfl, ?_⟩
  rw [show endAt es p = endAt es (p + 0) from rfl, this.2, ← hz, List.getD_eq_getElem?_getD, List.getElem?_eq_getElem (by rw [Tm.ends_len]; exact t.size_pos)]
  rfl
theorem chain_end (l : List Op2) (es : List Int) (tk : Bool) (lim : Int) (f k : Nat) (h : lim ≤ k) : chainL l es tk lim f k = true := by
  cases f with
  | zero => rfl
  | succ f => rw [chainL, if_neg (by omega)]
theorem chain_step {l : List Op2} {es : List Int} {a : Tm} {k : Nat} (h : Lies l es a k) (tk : Bool) (lim : Int) (f : Nat) (hl : (k : Int) < lim) :
    chainL l es tk lim (f + 1) k = ((mkK a.kind == tk) && chainL l es tk lim f (k + a.size)) := by
  rw [chainL, if_pos hl, h.head.1, h.head.2]
  rfl
theorem all_split {P : Nat → Prop} (p m : Nat) : (∀ j, j < m + 1 → P (p + j)) ↔ (P p ∧ ∀ j, j < m → P (p + 1 + j)) := by
  constructor
  · intro h
    exact ⟨h 0 (by omega), fun j hj => by have := h (j + 1) (by omega); rwa [show p + (j + 1) = p + 1 + j by omega] at this⟩
  · intro ⟨h0, h⟩ j hj
    cases j with
    | zero => exact h0
    | succ j => have := h j (by omega); rwa [show p + 1 + j = p + (j + 1) by omega] at this
theorem all_cut {P : Nat → Prop} (p m n : Nat) : (∀ j, j < m + n → P (p + j)) ↔ ((∀ j, j < m → P (p + j)) ∧ ∀ j, j < n → P (p + m + j)) := by
  constructor
  · intro h
    exact ⟨fun j hj => h j (by omega), fun j hj => by have := h (m + j) (by omega); rwa [show p + (m + j) = p + m + j by omega] at this⟩
  · intro ⟨h0, h⟩ j hj
    by_cases hm : j < m
    · exact h0 j hm
    · have := h (j - m) (by omega)
      rwa [show p + m + (j - m) = p + j by omega] at this
theorem typed_iff (l : List Op2) (es : List Int) (t : Tm) : ∀ p, Lies l es t p → p + t.size ≤ l.length → ((∀ j, j < t.size → partsB l es (p + j) = true) ↔ t.typed = true) := by
  induction t with
  | n0 k v =>
    intro p h hl
    have e : partsB l es p = true := by
      unfold partsB
      rw [h.head.2]
      exact chain_end _ _ _ _ _ _ (by simp [Tm.size])
    simp only [Tm.size, Tm.typed]
    constructor
    · intro _; trivial
    · intro _ j hj
      obtain rfl : j = 0 := by omega
      exact e
  | n1 k v a ih =>
    intro p h hl
    have ha := h.one
    have hp := a.size_pos
    have e : partsB l es p = (mkK a.kind == tkK k) := by
      unfold partsB
      rw [h.head.2, h.head.1, chain_step ha _ _ _ (by simp [Tm.size]; omega), chain_end _ _ _ _ _ _ (by simp [Tm.size]; omega), Bool.and_true]
      rfl
    simp only [Tm.size] at hl
    have := ih (p + 1) ha (by omega)
    simp only [Tm.size, Tm.typed]
    rw [all_split (P := fun j => partsB l es j = true), this, e]
    simp
  | n2 k v a b ih1 ih2 =>
    intro p h hl
    obtain ⟨ha, hb⟩ := h.two
    have hp := a.size_pos
    have hp2 := b.size_pos
    simp only [Tm.size] at hl
    have e : partsB l es p = ((mkK a.kind == tkK k) && (mkK b.kind == tkK k)) := by
      unfold partsB
      rw [h.head.2, h.head.1, chain_step ha _ _ _ (by simp [Tm.size]; omega), show l.length = (l.length - 1) + 1 by omega, chain_step hb _ _ _ (by simp [Tm.size]; omega), chain_end _ _ _ _ _ _ (by simp [Tm.size]; omega), Bool.and_true]
      rfl
    have h1 := ih1 (p + 1) ha (by omega)
    have h2 := ih2 (p + 1 + a.size) hb (by omega)
    simp only [Tm.size, Tm.typed]
    rw [all_split (P := fun j => partsB l es j = true), all_cut (P := fun j => partsB l es j = true), h1, h2, e]
    simp [Bool.and_eq_true, and_assoc]
theorem Lies.self (t : Tm) : Lies t.flat (t.ends 0) t 0 := by
  intro j hj
  simp [opAt, endAt]
def Tm.good (t : Tm) (vars : Int) : Prop := ∀ o ∈ t.flat, opE o vars = 0
theorem check_tree (t : Tm) (vars : Int) (h1 : 0 ≤ vars) (h2 : vars ≤ 6) (hok : t.ok) (hs : t.size ≤ 60) (hg : t.good vars) : checkL t.flat vars = if t.typed then .ok (mkK t.kind) else .error 5 := by
  unfold checkL
  rw [if_neg (by omega), ends_term t hok hs]
  show checkE t.flat (t.ends 0) vars = _
  have : t.flat.find? (fun o => opE o vars != 0) = none := by
    rw [List.find?_eq_none]
    intro o ho
    simpa using hg o ho
  unfold checkE
  rw [this]
  have hh := typed_iff t.flat (t.ends 0) t 0 (Lies.self t) (by rw [Tm.flat_len]; omega)
  have hall : (List.range t.flat.length).all (partsB t.flat (t.ends 0)) = t.typed := by
    rw [Bool.eq_iff_iff, ← hh, List.all_eq_true, Tm.flat_len]
    simp
  simp only [hall, (Lies.self t).head.1]
theorem num_kinds (k : Int) (h1 : 1 ≤ k) (h2 : k ≤ 5) : mkK k = false ∧ tkK k = false := by simp [mkK, tkK]; omega
theorem cmp_kinds (k : Int) (h1 : 6 ≤ k) (h2 : k ≤ 7) : mkK k = true ∧ tkK k = false := by simp [mkK, tkK]; omega
theorem log_kinds (k : Int) (h1 : 8 ≤ k) (h2 : k ≤ 12) : mkK k = true ∧ tkK k = true := by simp [mkK, tkK]; omega
theorem numLeaf_typed (r : Op2) (vars k : Int) (h : vars ≤ 1000) : (numLeaf r vars k).typed = true ∧ mkK (numLeaf r vars k).kind = false ∧ (numLeaf r vars k).good vars := by
  unfold numLeaf
  split
  · rename_i hk
    refine ⟨rfl, rfl, ?_⟩
    intro o ho
    simp only [Tm.flat, List.mem_singleton] at ho
    subst ho
    have := pk_bd r.2 vars (by omega)
    simp [opE, okK]
    omega
  · refine ⟨rfl, rfl, ?_⟩
    intro o ho
    simp only [Tm.flat, List.mem_singleton] at ho
    subst ho
    have := pk_bd r.2 9 (by omega)
    simp [opE, okK]
    omega
theorem good_n2 {k : Int} {a b : Tm} {vars : Int} (hk : 3 ≤ k) (hk2 : k ≤ 12) (ha : a.good vars) (hb : b.good vars) : (Tm.n2 k 0 a b).good vars := by
  intro o ho
  simp only [Tm.flat, List.mem_cons, List.mem_append] at ho
  rcases ho with rfl | ho | ho
  · simp [opE, okK]; omega
  · exact ha o ho
  · exact hb o ho
theorem good_n1 {k : Int} {a : Tm} {vars : Int} (hk : 3 ≤ k) (hk2 : k ≤ 12) (ha : a.good vars) : (Tm.n1 k 0 a).good vars := by
  intro o ho
  simp only [Tm.flat, List.mem_cons] at ho
  rcases ho with rfl | ho
  · simp [opE, okK]; omega
  · exact ha o ho
theorem good_n0 {k : Int} {vars : Int} (hk : 3 ≤ k) (hk2 : k ≤ 12) : (Tm.n0 k 0).good vars := by
  intro o ho
  simp only [Tm.flat, List.mem_singleton] at ho
  subst ho
  simp [opE, okK]; omega
theorem numT_typed (raw : List Op2) (vars : Int) (h : vars ≤ 1000) : ∀ d p, (numT raw vars d p).1.typed = true ∧ mkK (numT raw vars d p).1.kind = false ∧ (numT raw vars d p).1.good vars := by
  intro d
  induction d with
  | zero => intro p; unfold numT; exact numLeaf_typed _ _ _ h
  | succ d ih =>
    intro p
    unfold numT
    split
    · exact numLeaf_typed _ _ _ h
    · have hk := numKind_bd (rawAt raw p) p
      obtain ⟨m1, m2⟩ := num_kinds (numKind (rawAt raw p) p + 1) (by omega) (by omega)
      obtain ⟨a1, a2, a3⟩ := ih (p + 1)
      obtain ⟨b1, b2, b3⟩ := ih (numT raw vars d (p + 1)).2
      exact ⟨by simp only [Tm.typed, a1, a2, b1, b2, m2]; rfl, m1, good_n2 (by omega) (by omega) a3 b3⟩
theorem cmpT_typed (raw : List Op2) (vars k : Int) (p : Nat) (h : vars ≤ 1000) : (cmpT raw vars k p).1.typed = true ∧ mkK (cmpT raw vars k p).1.kind = true ∧ (cmpT raw vars k p).1.good vars := by
  obtain ⟨m1, m2⟩ := cmp_kinds (6 + k % 2) (by omega) (by omega)
  obtain ⟨a1, a2, a3⟩ := numT_typed raw vars h 1 (p + 1)
  obtain ⟨b1, b2, b3⟩ := numT_typed raw vars h 1 (numT raw vars 1 (p + 1)).2
  exact ⟨by simp only [cmpT, Tm.typed, a1, a2, b1, b2, m2]; rfl, m1, good_n2 (by omega) (by omega) a3 b3⟩
theorem truT_typed (raw : List Op2) (vars : Int) (h : vars ≤ 1000) : ∀ d p, (truT raw vars d p).1.typed = true ∧ mkK (truT raw vars d p).1.kind = true ∧ (truT raw vars d p).1.good vars := by
  have leaf : ∀ p, (Tm.n0 (11 + pk (rawAt raw p).2 2) 0).typed = true ∧ mkK (Tm.n0 (11 + pk (rawAt raw p).2 2) 0).kind = true ∧ (Tm.n0 (11 + pk (rawAt raw p).2 2) 0).good vars := by
    intro p
    have := pk_bd (rawAt raw p).2 2 (by omega)
    exact ⟨rfl, (log_kinds (11 + pk (rawAt raw p).2 2) (by omega) (by omega)).1, good_n0 (by omega) (by omega)⟩
  intro d
  induction d with
  | zero => intro p; unfold truT; split; (· exact leaf p); · exact cmpT_typed _ _ _ _ h
  | succ d ih =>
    intro p
    unfold truT
    split
    · exact leaf p
    · split
      · exact cmpT_typed _ _ _ _ h
      · obtain ⟨a1, a2, a3⟩ := ih (p + 1)
        obtain ⟨b1, b2, b3⟩ := ih (truT raw vars d (p + 1)).2
        split
        · obtain ⟨m1, m2⟩ := log_kinds 10 (by omega) (by omega)
          exact ⟨by simp only [Tm.typed, a1, a2, m2]; rfl, m1, good_n1 (by omega) (by omega) a3⟩
        · obtain ⟨m1, m2⟩ := log_kinds (8 + truKind (rawAt raw p) (d + 1) p % 2) (by omega) (by omega)
          exact ⟨by simp only [Tm.typed, a1, a2, b1, b2, m2]; rfl, m1, good_n2 (by omega) (by omega) a3 b3⟩
end Go.Proofs.YtfcaomejbcjfgaaGreatDoor

namespace Go.Proofs.YtfcaomejbcjfgaaGreatDoor
open Go.RowKit
end Go.Proofs.YtfcaomejbcjfgaaGreatDoor

namespace Go.Proofs.YtfcaomejbcjfgaaGreatDoor
open Go.RowKit
structure Fit (t : Tm) (vars : Int) (n : Nat) (truth : Bool) : Prop where
  ok : t.ok
  typed : t.typed = true
  kind : mkK t.kind = truth
  good : t.good vars
  size : t.size ≤ n
theorem fit_num (raw : List Op2) (vars : Int) (h : vars ≤ 1000) : Fit (numO raw vars) vars 7 false := by
  obtain ⟨h1, h2, h3⟩ := numT_typed raw vars h 2 0
  exact ⟨numT_ok raw vars 2 0, h1, h2, h3, numT_two raw vars 0⟩
theorem fit_tru (raw : List Op2) (vars : Int) (h : vars ≤ 1000) : Fit (truO raw vars) vars 26 true := by
  obtain ⟨h1, h2, h3⟩ := truT_typed raw vars h 3 0
  exact ⟨truT_ok raw vars 3 0, h1, h2, h3, truT_small raw vars⟩
theorem ok_n2 {k : Int} {a b : Tm} (hk : 3 ≤ k ∧ k ≤ 9) (ha : a.ok) (hb : b.ok) : (Tm.n2 k 0 a b).ok := by
  refine ⟨by omega, by omega, ?_, ha, hb⟩
  unfold partsOf
  rw [if_pos (by omega)]
end Go.Proofs.YtfcaomejbcjfgaaGreatDoor

namespace Go.Proofs.YtfcaomejbcjfgaaGreatDoor
open Go.RowKit
end Go.Proofs.YtfcaomejbcjfgaaGreatDoor

namespace Go.Proofs.YtfcaomejbcjfgaaGreatDoor
open Go.RowKit
end Go.Proofs.YtfcaomejbcjfgaaGreatDoor

namespace Go.Proofs.YtfcaomejbcjfgaaGreatDoor
open Go.RowKit
theorem Row.drop {w : World} {sz : Nat} {b off n cap : Nat} {xs : List Value} (h : Row w sz (some ⟨b, off, none⟩) n cap xs) (k : Nat) (hk : k ≤ n) : Row w sz (some ⟨b, off + k * sz, none⟩) (n - k) (cap - k) (xs.drop (k * sz)) := by
  refine ⟨?_, by have := h.le; omega, by have := h.max; omega, b, off + k * sz, (by intro h; cases h), fun _ => rfl, fun j u hu => ?_⟩
  · rw [List.length_drop, h.len, Nat.sub_mul]
  · rw [List.getElem?_drop] at hu
    have := h.cells _ _ hu
    rwa [← Nat.add_assoc] at this
set_option maxRecDepth 100000 in
set_option maxHeartbeats 2000000 in
theorem same_ops (v1 v2 : Value) (l : List Op2) (w : World) (h1 : Ops w v1 l) (h2 : Ops w v2 l) :
    Calls Tryz.prog 8 #[v1, v2] w fun e w' => e = .returned (.bool true) ∧ Ext w w' := by
  obtain ⟨a1, c1, rfl, hr1⟩ := h1
  obtain ⟨a2, c2, rfl, hr2⟩ := h2
  have hmax := hr1.le
  have hmax2 := hr1.max
  obtain ⟨b1, o1, ha1, hc1⟩ := hr1.ops
  obtain ⟨b2, o2, ha2, hc2⟩ := hr2.ops
  have HA1 := Lib.hid ha1
  have HA2 := Lib.hid ha2
  have HC1 := Lib.hid hc1
  have HC2 := Lib.hid hc2
  clear ha1 ha2 hc1 hc2 hr1 hr2
  go_enter Tryz.func8, Tryz.ntmps8
  go_wp2
  go_loopw [5] (fun i wr => ∃ ii : Nat, ii ≤ l.length ∧ i = .int .i64 ii ∧ ∃ m, wr = w.drewN m) (fun i _ => l.length - (intOf i).toNat)
  case atStart => exact ⟨0, by omega, rfl, 0, rfl⟩
  case round =>
    obtain ⟨ii, hii, rfl, m, rfl⟩ := hrel
    by_cases hlt : ii < l.length
    · obtain rfl := HA1.out (by omega)
      obtain rfl := HA2.out (by omega)
      have hx := HC1.out ii hlt
      have hy := HC2.out ii hlt
      obtain ⟨hx1, hx2⟩ := hx
      obtain ⟨hy1, hy2⟩ := hy
      generalize l[ii] = o at *
      have hi0 : (0 : Int) ≤ ii := by omega
      have hin : (ii : Int) < l.length := by omega
      go_wp2
      go_quiet (fail)
      go_wp2
      have hml : l.length ≤ 9223372036854775807 := by unfold maxLen at hmax2; omega
      have hw : wrap64 ((ii : Int) + 1) = ((ii + 1 : Nat) : Int) := by
        rw [show ((ii + 1 : Nat) : Int) = (ii : Int) + 1 by omega]
        exact IntWalk.wrap64_in _ (by omega)
      rw [hw]
      exact ⟨⟨ii + 1, by omega, rfl, _, rfl⟩, by simp [intOf]; omega⟩
    · obtain rfl : ii = l.length := by omega
      go_wp2
      go_ret
      exact ⟨rfl, below_drewN (Ext.refl _) _⟩
end Go.Proofs.YtfcaomejbcjfgaaGreatDoor
