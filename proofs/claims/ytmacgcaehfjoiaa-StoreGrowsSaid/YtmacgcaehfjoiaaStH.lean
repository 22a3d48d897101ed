/- The contract of foretellkeep.stocked. -/
import Derived.Test.YtmacgcaehfjoiaaStG
import Derived.Deep.DeepCutAuto
import Derived.Deep.RegionLaw
namespace Go.Proofs.Ytmacgcaehfjoiaa
open Go.RowKit

/-- Ints do not lie where slices do. -/
theorem ints_setS {w : World} {v : Value} {l : List Int} (h : Ints w v l) {T : Nat} {x y : Value} {t : TypeId} (hT : w.heap[T]? = some (.cells #[x, y] t (0, 0))) (hx : ∃ a n c, x = .slice a n c) (hy : ∃ a n c, y = .slice a n c) (i : Nat) (u : Value) : Ints (w.setCell ⟨T, i, none⟩ u) v l := by
  obtain ⟨a, c, rfl, hr⟩ := h
  refine ⟨a, c, rfl, hr.keep fun p hp hl => Below.heap_setCell _ _ _ _ (fun e => ?_)⟩
  simp only at e
  obtain ⟨b, off, h1, h2, h3⟩ := hr.lie
  have hl0 : 0 < l.length := by simpa using hl
  have hp2 := h2 (by simpa using hl0)
  rw [hp] at hp2
  injection hp2 with hp2
  subst hp2
  simp only at e
  subst e
  have h4 := h3 0 (.int .i64 l[0]) (by simp)
  obtain ⟨_, _, _, rfl⟩ := hx
  obtain ⟨_, _, _, rfl⟩ := hy
  simp only [World.cell?, hT] at h4
  match off + 0, h4 with
  | 0, h4 => simp at h4
  | 1, h4 => simp at h4
  | k + 2, h4 => simp at h4

theorem IsSt.setS {w : World} {lv rv : Value} {s : St} (h : IsSt w lv rv s) {T : Nat} {x y : Value} {t : TypeId} (hT : w.heap[T]? = some (.cells #[x, y] t (0, 0))) (hx : ∃ a n c, x = .slice a n c) (hy : ∃ a n c, y = .slice a n c) (hb : ∀ b, rv.ownBlock = some b → b ≠ T) (i : Nat) (u : Value) : IsSt (w.setCell ⟨T, i, none⟩ u) lv rv s := by
  refine ⟨ints_setS h.lo hT hx hy i u, ?_⟩
  obtain ⟨vs, h1, h2⟩ := h.ru
  refine ⟨vs, ⟨h1.1, fun j z l hz hl => ints_setS (h1.2 j z l hz hl) hT hx hy i u⟩, Reads.grown h2 (grown_set w ⟨T, i, none⟩ u) ?_⟩
  cases hv : rv.ownBlock with
  | none => exact .inr (.inl rfl)
  | some b => exact .inr (.inr fun e => hb b hv (by injection e))

theorem IsSt.val {w : World} {lv rv : Value} {s : St} (h : IsSt w lv rv s) : ∃ al cl ar cr, lv = .slice al s.loose.length cl ∧ rv = .slice ar s.runs.length cr := by
  obtain ⟨al, cl, rfl, _⟩ := h.lo
  obtain ⟨ar, cr, rfl⟩ := h.ru.val
  exact ⟨al, cl, ar, cr, rfl, rfl⟩

theorem set2 (x y u : Value) : (#[x, y].setIfInBounds 0 u) = #[u, y] ∧ (#[x, y].setIfInBounds 1 u) = #[x, u] := by simp

/-- What is left to say when stocked answers. -/
structure Fin (w : World) (ks : List Int) (s : St) (lv rv kv : Value) (x : World) : Prop where
  r : x.heap[w.heap.size]? = some (.cells #[lv, rv] 25 (0, 0))
  f : FrSt x (w.heap.size + 2) lv rv s
  k : Ints x kv ks
  e : Ext w x
theorem Fin.ext {w : World} {ks : List Int} {s : St} {lv rv kv : Value} {x y : World} (h : Fin w ks s lv rv kv x) (hE : Ext x y) : Fin w ks s lv rv kv y := ⟨blk_ext h.r hE, h.f.ext hE, h.k.ext hE, h.e.trans hE⟩
theorem Fin.drew {w : World} {ks : List Int} {s : St} {lv rv kv : Value} {x : World} (h : Fin w ks s lv rv kv x) : Fin w ks s lv rv kv x.drew := h.ext (Below.drew (Ext.refl _))
/-- What stocked answers. -/
def StockR (l : List Int) (w : World) (e : Ending) (w' : World) : Prop :=
  ∃ lv rv kv s ks, e = .returned (.tuple #[.agg #[lv, rv], kv, .bool true]) ∧ IsSt w' lv rv s ∧ Ints w' kv ks ∧ Stk s ks ∧ (∀ x ∈ ks, 0 ≤ x ∧ x < 500) ∧ ks.length ≤ 100 ∧ (ks = [] ↔ l = []) ∧ Ext w w'

set_option maxRecDepth 100000 in
set_option maxHeartbeats 16000000 in
theorem stocked_any (v : Value) (l : List Int) (w : World) (h : Ints w v l) (hI : ∀ n ∈ l, I64 n) :
    Calls Try.prog 8 #[v] w (StockR l w) := by
  obtain ⟨a, c, rfl, hr⟩ := h
  obtain ⟨b, off, h1, h2⟩ := ints_at' hr
  have hl : l.length ≤ maxLen := Nat.le_trans hr.le hr.max
  unfold maxLen at hl
  have H1 := Lib.hid h1
  have H2 := Lib.hid h2
  have HI := Lib.hid hI
  clear h1 h2 hr hI
  go_enter Try.func8, Try.ntmps8
  have hx0 := ext_al (Ext.refl w) (Obj.cells #[.slice none 0 0, .slice none 0 0] 25)
  have hb0 := blk_new w (Obj.cells #[.slice none 0 0, .slice none 0 0] 25)
  have hx1 := ext_al (Ext.refl (w.alloc (Obj.cells #[.slice none 0 0, .slice none 0 0] 25))) (Obj.cells #[.slice none 0 0, .slice none 0 0] 25)
  have hb1 := blk_new (w.alloc (Obj.cells #[.slice none 0 0, .slice none 0 0] 25)) (Obj.cells #[.slice none 0 0, .slice none 0 0] 25)
  have eR : (w.alloc (Obj.cells #[.slice none 0 0, .slice none 0 0] 25)).heap.size = w.heap.size + 1 := by simp
  have eS : ((w.alloc (Obj.cells #[.slice none 0 0, .slice none 0 0] 25)).alloc (Obj.cells #[.slice none 0 0, .slice none 0 0] 25)).heap.size = w.heap.size + 2 := by simp
  rw [eR] at hb1
  have HR := Lib.hid (blk_ext hb0 hx1)
  have HT := Lib.hid hb1
  have HX := Lib.hid (hx0.trans hx1)
  have HSZ := Lib.hid eS
  clear hx0 hb0 hx1 hb1 eR eS
  go_wp2_with fail
  generalize (w.alloc (Obj.cells #[.slice none 0 0, .slice none 0 0] 25)).alloc (Obj.cells #[.slice none 0 0, .slice none 0 0] 25) = W1 at *
  have HS0 := Lib.hid (show FrSt W1 (w.heap.size + 2) (.slice none 0 0) (.slice none 0 0) ⟨[], []⟩ from ⟨⟨Reads.nil _ _, .inl rfl⟩, [], ⟨rfl, by intro i x l hx; simp at hx⟩, Reads.nil _ _, by intro b hb; simp [Value.ownBlock] at hb, by intro i x l hx; simp at hx⟩)
  have HN0 := Lib.hid (show W1.ownsRow W1.heap.size 3 1 (.slice none 0 0) ([] : List Int).length (([] : List Int).map (.int .i64)) from World.ownsRow_nil _ _ _ _)
  go_loopg [7, 6] l.length (fun k x y wr => ∃ (i : Nat) (s : St) (ks : List Int) (lv rv : Value) (ak : Option Addr) (ck : Nat), k + i = l.length ∧ i ≤ 100 ∧ x = .int .i64 (i : Int) ∧ y = .slice ak ks.length ck ∧ wr.heap[w.heap.size + 1]? = some (.cells #[lv, rv] 25 (0, 0)) ∧ wr.heap[w.heap.size]? = some (.cells #[.slice none 0 0, .slice none 0 0] 25 (0, 0)) ∧ FrSt wr (w.heap.size + 2) lv rv s ∧ Stk s ks ∧ (∀ x ∈ ks, 0 ≤ x ∧ x < 500) ∧ ks.length ≤ i ∧ (ks = [] → i = 0) ∧ Ext w wr ∧ W1.heap.size ≤ wr.heap.size ∧ wr.ownsRow W1.heap.size 3 1 (.slice ak ks.length ck) ks.length (ks.map (.int .i64)))
  case atStart => exact ⟨0, ⟨[], []⟩, [], _, _, none, 0, by omega, by omega, by go_num, rfl, HT.out, HR.out, HS0.out, Stk.nil, by simp, by simp, by simp, HX.out, Nat.le_refl _, HN0.out⟩
  case round =>
    obtain ⟨i, s, ks, lv, rv, ak, ck, hki, hi100, rfl, rfl, hT, hR, hSf, hK, hKb, hKi, hK0, hE, hsz, hO⟩ := hrel
    obtain ⟨al, cl, ar, cr, rfl, rfl⟩ := hSf.st.val
    have HKI := Lib.hid hki
    have HTT := Lib.hid hT
    have HRR := Lib.hid hR
    have HSF := Lib.hid hSf
    have HSS := Lib.hid hSf.st
    have HKK := Lib.hid hK
    have HKB := Lib.hid hKb
    have HK0 := Lib.hid hK0
    have HEE := Lib.hid hE
    have HOO := Lib.hid hO
    have hskl := hK.len
    have HSK := Lib.hid hskl
    obtain ⟨nl, hnl⟩ : ∃ x, s.loose.length = x := ⟨_, rfl⟩
    obtain ⟨nr, hnr⟩ : ∃ x, s.runs.length = x := ⟨_, rfl⟩
    obtain ⟨nk, hnk⟩ : ∃ x, ks.length = x := ⟨_, rfl⟩
    rw [hnl, hnr] at HTT HSS HSF
    rw [hnk] at hKi HOO ⊢
    have HNK := Lib.hid hnk
    have hs1 := HSZ.out
    have c0 := blk_cell HTT.out (i := 0) rfl
    have c1 := blk_cell HTT.out (i := 1) rfl
    clear hki hT hR hSf hK hKb hK0 hE hO hnl hnr hnk hskl HS0 HN0
    by_cases hgo : i < l.length ∧ i < 100
    · obtain rfl := H1.out (by omega)
      have cx := H2.out i hgo.1
      have hIx := HI.out l[i] (by simp)
      have cx := cell_later HEE.out cx
      have hiI : (i : Int) < (l.length : Int) := by omega
      have hi0 : (0 : Int) ≤ (i : Int) := by omega
      have hi1 : (i : Int) < 100 := by omega
      have hi2 : i < 100 := hgo.2
      have hi3 : i < l.length := hgo.1
      have HPK := Lib.hid fun wx => picked_any l[i] 500 wx hIx.1 hIx.2 (by omega) (by omega)
      have hpk := pk_bd l[i] 500 (by omega)
      generalize l[i] = li at *
      obtain ⟨n, hn⟩ : ∃ n, pk li 500 = n := ⟨_, rfl⟩
      rw [hn] at HPK hpk
      clear hn hgo hIx
      go_wp2_with fail
      refine (HPK.out _).mono ?_
      rintro e w' ⟨rfl, rfl⟩
      clear cx HPK
      go_wp2_with fail
      refine (add_st _ _ s n _ HSS.out HKK.out.ok (by have := HSK.out; have := HNK.out; omega) (by omega)).mono ?_
      rintro e w2 ⟨lv2, rv2, rfl, hS2, hE2⟩
      obtain ⟨al2, cl2, ar2, cr2, rfl, rfl⟩ := hS2.st.val
      have HF2 := Lib.hid hS2
      have hx3 := ext_al (Ext.refl w2) (Obj.cells #[.slice al2 (s.add n).loose.length cl2, .slice ar2 (s.add n).runs.length cr2] 25)
      have HE3 := Lib.hid (hE2.trans hx3)
      have HHS := Lib.hid (has_any _ ks n _ (show Ints _ (.slice ak nk ck) ks from by
        have h := (own_ext HOO.out HE3.out).reads
        unfold Ints
        rw [HNK.out]
        exact h))
      have HD3 := Lib.hid (blk_new w2 (Obj.cells #[.slice al2 (s.add n).loose.length cl2, .slice ar2 (s.add n).runs.length cr2] 25))
      have HFR := Lib.hid (show decide (n ∉ s.keys) = !(decide (n ∈ ks)) by simp [HKK.out.mem])
      rw [HFR.out]
      have HS3 := Lib.hid (hS2.ext hx3)
      have HT3 := Lib.hid (blk_ext HTT.out HE3.out)
      have HR3 := Lib.hid (blk_ext HRR.out HE3.out)
      have HO3 := Lib.hid (own_ext HOO.out HE3.out)
      have HSA := Lib.hid (show s.add n = s.add n from rfl)
      have HOLD := Lib.hid fun (hm : n ∈ ks) => (HKK.out.old hm)
      have HNEW := Lib.hid fun (hm : n ∉ ks) => (HKK.out.fresh hm (by omega))
      generalize hsa : s.add n = sa at *
      clear hsa
      obtain ⟨ml, hml⟩ : ∃ x, sa.loose.length = x := ⟨_, rfl⟩
      obtain ⟨mr, hmr⟩ : ∃ x, sa.runs.length = x := ⟨_, rfl⟩
      rw [hml, hmr] at HS3 HD3
      rw [hml, hmr] at hx3 HHS HE3 HT3 HR3 HO3
      rw [hml, hmr]
      have HW3 := Lib.hid (show wr.heap.size ≤ (w2.alloc (Obj.cells #[.slice al2 ml cl2, .slice ar2 mr cr2] 25)).heap.size from HE3.out.size)
      obtain ⟨D, hD⟩ : ∃ D, w2.heap.size = D := ⟨_, rfl⟩
      rw [hD] at HD3
      have HDW := Lib.hid hD
      clear hS2 hE2 hx3 HF2 c0 c1 HSS HSF HTT HRR hml hmr
      go_upto_region 8 with fail
      generalize w2.alloc (Obj.cells #[.slice al2 ml cl2, .slice ar2 mr cr2] 25) = W3 at *
      clear hD
      go_wp2_with fail
      refine HHS.out.mono ?_
      rintro e w' ⟨rfl, rfl⟩
      have q0 := blk_cell HD3.out (i := 0) rfl
      have q1 := blk_cell HD3.out (i := 1) rfl
      have t0 := blk_cell HT3.out (i := 0) rfl
      have g0 := blk_free HT3.out 0
      have hTa := blk_set (i := 0) HT3.out (.slice al2 ml cl2)
      rw [(set2 _ _ _).1] at hTa
      have t1 := blk_cell hTa (i := 1) rfl
      have g1 := blk_free hTa 1
      have hTb := blk_set (i := 1) hTa (.slice ar2 mr cr2)
      rw [(set2 _ _ _).2] at hTb
      have HTB := Lib.hid hTb
      have HRB := Lib.hid (blk_far (blk_far HR3.out (p := ⟨w.heap.size + 1, 0, none⟩) (by show w.heap.size + 1 ≠ w.heap.size; omega) (.slice al2 ml cl2)) (p := ⟨w.heap.size + 1, 1, none⟩) (by show w.heap.size + 1 ≠ w.heap.size; omega) (.slice ar2 mr cr2))
      have HFB := Lib.hid ((HS3.out.set (p := ⟨w.heap.size + 1, 0, none⟩) (by show w.heap.size + 1 < wr.heap.size; omega) (.slice al2 ml cl2)).set (p := ⟨w.heap.size + 1, 1, none⟩) (by show w.heap.size + 1 < wr.heap.size; omega) (.slice ar2 mr cr2))
      have hno : (Value.slice ak nk ck).ownBlock ≠ some (w.heap.size + 1) := fun e => by have := (HO3.out.lt _ e).1; omega
      have HOB := Lib.hid (own_setCell (own_setCell HO3.out (p := ⟨w.heap.size + 1, 0, none⟩) (.slice al2 ml cl2) hno) (p := ⟨w.heap.size + 1, 1, none⟩) (.slice ar2 mr cr2) hno)
      have HXB := Lib.hid (ext_st (ext_st (HEE.out.trans HE3.out) (p := ⟨w.heap.size + 1, 0, none⟩) (by show w.heap.size ≤ w.heap.size + 1; omega) (.slice al2 ml cl2)) (p := ⟨w.heap.size + 1, 1, none⟩) (by show w.heap.size ≤ w.heap.size + 1; omega) (.slice ar2 mr cr2))
      have hzs : ((W3.setCell ⟨w.heap.size + 1, 0, none⟩ (.slice al2 ml cl2)).setCell ⟨w.heap.size + 1, 1, none⟩ (.slice ar2 mr cr2)).heap.size = W3.heap.size := by simp
      have HZS := Lib.hid hzs
      clear hTa hTb hzs HHS HFR
      by_cases hm : n ∈ ks
      · have hbm : decide (n ∈ ks) = true := decide_eq_true hm
        rw [hbm]
        have HST := Lib.hid (HOLD.out hm)
        have HK2 := Lib.hid (show ks = [] → i + 1 = 0 from fun e => by rw [e] at hm; cases hm)
        clear hm hbm
        go_wp2_with fail
        go_roundg (gk - 1)
        case measure => have := HKI.out; omega
        case rel => exact ⟨i + 1, sa, ks, _, _, ak, ck, by have := HKI.out; omega, by omega, by go_num, by rw [HNK.out], HTB.out, HRB.out, HFB.out.down (by omega), by rw [HST.out]; exact HKK.out, HKB.out, by have := HNK.out; omega, HK2.out, HXB.out, by rw [HZS.out]; have := HW3.out; omega, by rw [HNK.out]; exact HOB.out⟩
      · have hbm : decide (n ∈ ks) = false := decide_eq_false hm
        rw [hbm]
        have HST := Lib.hid (HNEW.out hm)
        have HNM := Lib.hid (show ∀ x ∈ ks ++ [n], 0 ≤ x ∧ x < 500 from fun x hx => by
          rcases List.mem_append.1 hx with hx | hx
          · exact HKB.out x hx
          · simp at hx; subst hx; exact hpk)
        clear hm hbm
        have hsz3 := HW3.out
        have HAX := Lib.hid (own_ext HOB.out (ext_al (Ext.refl _) (Obj.cells #[.int .i64 n] 3)))
        go_upto_region 12 with fail
        generalize (W3.setCell ⟨w.heap.size + 1, 0, none⟩ (.slice al2 ml cl2)).setCell ⟨w.heap.size + 1, 1, none⟩ (.slice ar2 mr cr2) = W4 at *
        clear q0 q1 t0 t1 g0 g1
        go_wp2_with (at_builtin; go_must (refine wpl_append rfl rfl Try.slInts W1.heap.size rfl HAX.out rfl (Row.one _ _ _) (one_int _) (by unfold maxLen; omega) (by omega) (by have := HZS.out; simp; omega) ?_))
        intro v6 w6 hown6 hg6 hb6 _
        obtain ⟨a6, c6, rfl, _⟩ := id hown6.row
        have hA6 := ext_al (Ext.refl W4) (Obj.cells #[.int .i64 n] 3)
        have hrow : ∀ b, (Value.slice ak nk ck).ownBlock = some b → w.heap.size + 2 ≤ b ∧ b < wr.heap.size := fun b hb => by have := HOO.out.lt b hb; omega
        have HT6 := Lib.hid (blk_grown (blk_ext HTB.out hA6) hg6 (fun e => by have := (hrow _ e.symm).1; omega))
        have HR6 := Lib.hid (blk_grown (blk_ext HRB.out hA6) hg6 (fun e => by have := (hrow _ e.symm).1; omega))
        have HF6 := Lib.hid ((HFB.out.ext hA6).grown hg6 (fun b hb => (hrow b hb).2))
        have HX6 := Lib.hid (show Ext w w6 from Below.grown (HXB.out.trans hA6) hg6 (HXB.out.trans hA6).size (fun b hb => by have := (hrow b hb).1; omega))
        have HS6 := Lib.hid (show W4.heap.size ≤ w6.heap.size from Nat.le_trans hA6.size hg6.size)
        have hkl : (ks ++ [n]).length = nk + 1 := by rw [List.length_append, HNK.out]; rfl
        have HO6 := Lib.hid (show w6.ownsRow W1.heap.size 3 1 (.slice a6 (nk + 1) c6) (ks ++ [n]).length ((ks ++ [n]).map (.int .i64)) from own_cast (by rw [HSZ.out]; exact hown6) hkl.symm (by simp))
        have HKL := Lib.hid hkl
        clear hown6 hg6 hb6 hA6 hrow hkl
        go_wp2_with fail
        go_roundg (gk - 1)
        case measure => have := HKI.out; omega
        case rel => exact ⟨i + 1, sa, ks ++ [n], _, _, a6, c6, by have := HKI.out; omega, by omega, by go_num, by rw [HKL.out], HT6.out, HR6.out, HF6.out.down (by omega), HST.out, HNM.out, by rw [HKL.out]; omega, fun e => by simp at e, HX6.out, by have := HS6.out; have := HZS.out; omega, by rw [HKL.out]; rw [HKL.out] at HO6; exact HO6.out⟩
    · have hks : ks = [] ↔ l = [] := by
        constructor
        · intro e
          have := HK0.out e
          have : l.length = 0 := by omega
          exact List.eq_nil_of_length_eq_zero this
        · intro e
          subst e
          have h0 : i = 0 := by have := HKI.out; simp at this; omega
          have := HNK.out
          exact List.eq_nil_of_length_eq_zero (by omega)
      have HKS := Lib.hid hks
      have hg : ¬ (i : Int) < (l.length : Int) ∨ ((i : Int) < (l.length : Int) ∧ ¬ (i : Int) < 100) := by omega
      have HCK := Lib.hid fun wx (hx : FrSt wx (w.heap.size + 2) (.slice al nl cl) (.slice ar nr cr) s) => check_st _ _ s wx hx.st HKK.out.ok (by have := HSK.out; have := HNK.out; omega)
      have r0 := blk_cell HRR.out (i := 0) rfl
      have r1 := blk_cell HRR.out (i := 1) rfl
      have f0 := blk_free HRR.out 0
      have hRa := blk_set (i := 0) HRR.out (.slice al nl cl)
      rw [(set2 _ _ _).1] at hRa
      have r2 := blk_cell hRa (i := 1) rfl
      have f2 := blk_free hRa 1
      have HRA := Lib.hid (blk_set (i := 1) hRa (.slice ar nr cr))
      clear hRa hks hgo
      have hno : (Value.slice ak nk ck).ownBlock ≠ some w.heap.size := fun e => by have := (HOO.out.lt _ e).1; omega
      rcases hg with hg | ⟨hg1, hg2⟩
      · have HGF := Lib.hid fun (x : World) (hx : Ext wr x) => (show Fin w ks s (.slice al nl cl) (.slice ar nr cr) (.slice ak nk ck) ((x.setCell ⟨w.heap.size, 0, none⟩ (.slice al nl cl)).setCell ⟨w.heap.size, 1, none⟩ (.slice ar nr cr)) from
          ⟨by
            have h := blk_set (i := 0) (blk_ext HRR.out hx) (.slice al nl cl)
            rw [(set2 _ _ _).1] at h
            have h := blk_set (i := 1) h (.slice ar nr cr)
            rw [(set2 _ _ _).2] at h
            exact h,
           ((HSF.out.ext hx).set (p := ⟨w.heap.size, 0, none⟩) (by show w.heap.size < w.heap.size + 2; omega) _).set (p := ⟨w.heap.size, 1, none⟩) (by show w.heap.size < w.heap.size + 2; omega) _,
           by
            have h := (own_setCell (own_setCell (own_ext HOO.out hx) (p := ⟨w.heap.size, 0, none⟩) (.slice al nl cl) hno) (p := ⟨w.heap.size, 1, none⟩) (.slice ar nr cr) hno).reads
            unfold Ints
            rw [HNK.out]
            exact h,
           ext_st (ext_st (HEE.out.trans hx) (Nat.le_refl _) _) (Nat.le_refl _) _⟩)
        go_upto_region 13 with fail
        go_region_law (first
          | (go_simp
             go_at_call 16
             refine (HCK.out _ (by first | exact HSF.out.ext (Below.drew (Ext.refl _)) | exact ((HSF.out.ext (Below.drew (Ext.refl _))).set (p := ⟨w.heap.size, 0, none⟩) (by show w.heap.size < w.heap.size + 2; omega) _).set (p := ⟨w.heap.size, 1, none⟩) (by show w.heap.size < w.heap.size + 2; omega) _)).mono ?_
             rintro e w5 ⟨rfl, hE5⟩
             first
               | (have hR5 := blk_ext (show wr.drew.heap[w.heap.size]? = _ from HRR.out) hE5
                  have hT5 := blk_ext (show wr.drew.heap[w.heap.size + 1]? = _ from HTT.out) hE5
                  have c5 := blk_cell hT5 (i := 0) rfl
                  have c6 := blk_cell hT5 (i := 1) rfl
                  have r5 := blk_cell hR5 (i := 0) rfl
                  have g5 := blk_free hR5 0
                  have hRa5 := blk_set (i := 0) hR5 (.slice al nl cl)
                  rw [(set2 _ _ _).1] at hRa5
                  have r6 := blk_cell hRa5 (i := 1) rfl
                  have g6 := blk_free hRa5 1
                  have HFIN := Lib.hid (HGF.out w5 (Ext.trans (Below.drew (Ext.refl _)) hE5))
                  clear hE5 hR5 hT5 hRa5)
               | (have HFIN := Lib.hid (show Fin w ks s (.slice al nl cl) (.slice ar nr cr) (.slice ak nk ck) w5 from by
                    first
                      | exact (HGF.out wr (Ext.refl _)).ext hE5
                      | exact (HGF.out wr (Ext.refl _)).drew.ext hE5
                      | exact (HGF.out wr.drew (Below.drew (Ext.refl _))).ext hE5)
                  clear hE5)))
        all_goals
          have hz := HFIN.out
          have z0 := blk_cell hz.r (i := 0) rfl
          have z1 := blk_cell hz.r (i := 1) rfl
          go_wp2
          refine bodyPost_ret (v := .tuple #[.agg #[.slice al nl cl, .slice ar nr cr], .slice ak nk ck, .bool true]) (by simp [results, Try.results8, go_sem, z0, z1]) rfl ⟨_, _, _, s, ks, rfl, hz.f.st, hz.k, HKK.out, HKB.out, by have := HNK.out; omega, HKS.out, hz.e⟩
      · have HGF := Lib.hid fun (x : World) (hx : Ext wr x) => (show Fin w ks s (.slice al nl cl) (.slice ar nr cr) (.slice ak nk ck) ((x.setCell ⟨w.heap.size, 0, none⟩ (.slice al nl cl)).setCell ⟨w.heap.size, 1, none⟩ (.slice ar nr cr)) from
          ⟨by
            have h := blk_set (i := 0) (blk_ext HRR.out hx) (.slice al nl cl)
            rw [(set2 _ _ _).1] at h
            have h := blk_set (i := 1) h (.slice ar nr cr)
            rw [(set2 _ _ _).2] at h
            exact h,
           ((HSF.out.ext hx).set (p := ⟨w.heap.size, 0, none⟩) (by show w.heap.size < w.heap.size + 2; omega) _).set (p := ⟨w.heap.size, 1, none⟩) (by show w.heap.size < w.heap.size + 2; omega) _,
           by
            have h := (own_setCell (own_setCell (own_ext HOO.out hx) (p := ⟨w.heap.size, 0, none⟩) (.slice al nl cl) hno) (p := ⟨w.heap.size, 1, none⟩) (.slice ar nr cr) hno).reads
            unfold Ints
            rw [HNK.out]
            exact h,
           ext_st (ext_st (HEE.out.trans hx) (Nat.le_refl _) _) (Nat.le_refl _) _⟩)
        go_upto_region 13 with fail
        go_region_law (first
          | (go_simp
             go_at_call 16
             refine (HCK.out _ (by first | exact HSF.out.ext (Below.drew (Ext.refl _)) | exact ((HSF.out.ext (Below.drew (Ext.refl _))).set (p := ⟨w.heap.size, 0, none⟩) (by show w.heap.size < w.heap.size + 2; omega) _).set (p := ⟨w.heap.size, 1, none⟩) (by show w.heap.size < w.heap.size + 2; omega) _)).mono ?_
             rintro e w5 ⟨rfl, hE5⟩
             first
               | (have hR5 := blk_ext (show wr.drew.heap[w.heap.size]? = _ from HRR.out) hE5
                  have hT5 := blk_ext (show wr.drew.heap[w.heap.size + 1]? = _ from HTT.out) hE5
                  have c5 := blk_cell hT5 (i := 0) rfl
                  have c6 := blk_cell hT5 (i := 1) rfl
                  have r5 := blk_cell hR5 (i := 0) rfl
                  have g5 := blk_free hR5 0
                  have hRa5 := blk_set (i := 0) hR5 (.slice al nl cl)
                  rw [(set2 _ _ _).1] at hRa5
                  have r6 := blk_cell hRa5 (i := 1) rfl
                  have g6 := blk_free hRa5 1
                  have HFIN := Lib.hid (HGF.out w5 (Ext.trans (Below.drew (Ext.refl _)) hE5))
                  clear hE5 hR5 hT5 hRa5)
               | (have HFIN := Lib.hid (show Fin w ks s (.slice al nl cl) (.slice ar nr cr) (.slice ak nk ck) w5 from by
                    first
                      | exact (HGF.out wr (Ext.refl _)).ext hE5
                      | exact (HGF.out wr (Ext.refl _)).drew.ext hE5
                      | exact (HGF.out wr.drew (Below.drew (Ext.refl _))).ext hE5)
                  clear hE5)))
        all_goals
          have hz := HFIN.out
          have z0 := blk_cell hz.r (i := 0) rfl
          have z1 := blk_cell hz.r (i := 1) rfl
          go_wp2
          refine bodyPost_ret (v := .tuple #[.agg #[.slice al nl cl, .slice ar nr cr], .slice ak nk ck, .bool true]) (by simp [results, Try.results8, go_sem, z0, z1]) rfl ⟨_, _, _, s, ks, rfl, hz.f.st, hz.k, HKK.out, HKB.out, by have := HNK.out; omega, HKS.out, hz.e⟩

end Go.Proofs.Ytmacgcaehfjoiaa
