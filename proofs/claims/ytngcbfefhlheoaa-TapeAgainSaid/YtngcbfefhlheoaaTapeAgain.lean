/- The law TapeAgain. -/
import Derived.Test.YtngcbfefhlheoaaOff
import Derived.Test.YtngcbfefhlheoaaTaped2
import Derived.Test.YtngcbfefhlheoaaStep
import Derived.Deep.RegionHeld3
import Derived.Deep.RegionLaw
namespace Go.Proofs.Ytngcbfefhlheoaa
open Go.RowKit

theorem ext_alloc {a w : World} (h : Ext a w) (o : Obj) : Ext a (w.alloc o) := Below.alloc h h.size o
theorem ext_set {a w : World} (h : Ext a w) {p : Addr} (hp : a.heap.size ≤ p.block) (v : Value) : Ext a (w.setCell p v) := Below.setCell h hp v

theorem early_tape {w w2 : World} {t : TypeId} (h : Ext (w.alloc (Obj.cells #[.slice none 0 0, .int .i64 0] t)).drew w2) :
    w2.cell? ⟨w.heap.size, 0, none⟩ = some (.slice none 0 0) ∧ w2.cell? ⟨w.heap.size, 1, none⟩ = some (.int .i64 0) ∧ w2.frozen? ⟨w.heap.size, 0, none⟩ = false ∧ w2.frozen? ⟨w.heap.size, 1, none⟩ = false :=
  ⟨cell_later h (by simp [go_sem]), cell_later h (by simp [go_sem]), (World.frozen?_of_block (h.block w.heap.size (by simp))).trans (by simp [go_sem]), (World.frozen?_of_block (h.block w.heap.size (by simp))).trans (by simp [go_sem])⟩

theorem World.size_alloc_drew (w : World) (o : Obj) : (w.alloc o).drew.heap.size = w.heap.size + 1 := by simp [World.drew]
theorem late_end {W w2 : World} {v : Value} {bt : List UInt8} {a : Option Addr} {n c : Nat} {u : Value} {t : TypeId} (hE : Ext W w2) (hB : Bytes w2 v bt) :
    Ext W (w2.alloc (Obj.cells #[.slice a n c, u] t)) ∧ Bytes (w2.alloc (Obj.cells #[.slice a n c, u] t)) v bt ∧ (w2.alloc (Obj.cells #[.slice a n c, u] t)).cell? ⟨w2.heap.size, 0, none⟩ = some (.slice a n c) :=
  ⟨ext_alloc hE _, hB.ext (ext_alloc (Ext.refl w2) _), by simp [go_sem]⟩
theorem early_end {W w2 : World} {v x u y : Value} {bt : List UInt8} (hE : Ext W w2) (hB : Bytes w2 v bt) (d0 : w2.cell? ⟨W.heap.size, 0, none⟩ = some y) (hn : v.ownBlock ≠ some W.heap.size) :
    Ext W ((w2.setCell ⟨W.heap.size, 0, none⟩ x).setCell ⟨W.heap.size, 1, none⟩ u) ∧ Bytes ((w2.setCell ⟨W.heap.size, 0, none⟩ x).setCell ⟨W.heap.size, 1, none⟩ u) v bt ∧
    ((w2.setCell ⟨W.heap.size, 0, none⟩ x).setCell ⟨W.heap.size, 1, none⟩ u).cell? ⟨W.heap.size, 0, none⟩ = some x :=
  ⟨ext_set (ext_set hE (Nat.le_refl _) _) (Nat.le_refl _) _, reads_set (reads_set hB (.inr hn) _ _) (.inr hn) _ _, cellN (cellS d0) (by omega)⟩

theorem LowF.wrote {w w2 w5 : World} {base : Nat} {v vd : Value} {ll : List (List Int)} (h : LowF w base v ll vd) (hE : Ext w w2) (hg : w2.grownBy w5 vd.ownBlock) {T : Nat} (hT : w.heap.size ≤ T) (i : Nat) (u : Value) : Lists (w5.setCell ⟨T, i, none⟩ u) v ll := by
  obtain ⟨vs, h1, h2, _, _, h5⟩ := h
  refine ⟨vs, ⟨h1.1, fun j x l hu hl => reads_set (ints_grown ((h1.2 j x l hu hl).ext hE) hg ?_) ?_ i u⟩, reads_set (Reads.grown (h2.reads.ext hE) hg ?_) ?_ i u⟩
  · by_cases hl0 : l = []
    · exact .inl hl0
    · refine .inr fun b hb => ?_
      rcases (h5 b hb).2 j x l hu hl with h | h
      · exact absurd h hl0
      · exact h
  · by_cases hl0 : l = []
    · exact .inl (by rw [hl0]; rfl)
    · exact .inr fun e => by have := ints_lt (h1.2 j x l hu hl) hl0 T e; omega
  · cases hv : v.ownBlock with
    | none => exact .inr (.inl rfl)
    | some k => exact .inr (.inr fun e => (h5 k e.symm).1 hv)
  · exact .inr fun e => by have := (h2.lt T e).2; omega

set_option maxRecDepth 100000 in
set_option maxHeartbeats 8000000 in
theorem tapeAgain_walk (v vj : Value) (ll : List (List Int)) (junk : List UInt8) (keep : Int) (w : World) (h : Lists w v ll) (hI : ∀ l ∈ ll, ∀ n ∈ l, I64 n) (h2 : Bytes w vj junk)
    (hk1 : -9223372036854775808 ≤ keep) (hk2 : keep ≤ 9223372036854775807) :
    Calls Try.prog 8 #[v, vj, .int .i64 keep] w fun e w' => e = .returned (.bool true) ∧ Ext w w' := by
  obtain ⟨a, c, rfl⟩ : ∃ a c, v = .slice a ll.length c := by
    obtain ⟨vs, he, a, c, rfl, _⟩ := h
    exact ⟨a, c, rfl⟩
  obtain ⟨aj, cj, rfl, hrj⟩ := h2
  have HJ := Lib.hid (show Bytes w (.slice aj junk.length cj) junk from ⟨_, _, rfl, hrj⟩)
  have HT := Lib.hid (taped_far _ ll w h hI)
  have hg := recs_good ll 10
  have hlen := recs_len ll 10
  have h12 := tapeB_le (recs ll 10) (recs_12 ll 10)
  have hbl : (tapeB (recs ll 10)).length ≤ 560 := by omega
  have hbl2 : 8 * (recs ll 10).length ≤ (tapeB (recs ll 10)).length := h12.2
  have hrl10 : (recs ll 10).length ≤ 10 := by omega
  have hra := readL_app (recs ll 10) hg (junk.take 40)
  have hmt := readL_le' (tapeB (recs ll 10) ++ junk.take 40)
  have hrg := readL_again _ (tapeB (recs ll 10) ++ junk.take 40) (Nat.lt_succ_self _) _ (Nat.le_refl _) (.inr trivial)
  have hjl : (junk.take 40).length ≤ 40 := by rw [List.length_take]; omega
  clear h hI hrj hg hlen h12
  generalize recs ll 10 = rs at *
  generalize hbs : tapeB rs = bs at *
  generalize hlk : junk.take 40 = lk at *
  have HLK := Lib.hid hlk
  clear hbs hlk
  -- what is read of all that lies there
  obtain ⟨d, hd⟩ : ∃ d, bs ++ lk = d := ⟨_, rfl⟩
  rw [hd] at hra hmt hrg
  obtain ⟨more, hmore⟩ : ∃ more, (readL lk).1 = more := ⟨_, rfl⟩
  obtain ⟨m2, hm2⟩ : ∃ m2, (readL lk).2 = m2 := ⟨_, rfl⟩
  rw [hmore, hm2] at hra
  obtain ⟨bt, hbt⟩ : ∃ bt, d.take (readL d).2 = bt := ⟨_, rfl⟩
  rw [hbt] at hrg
  have hra2 : (readL d).2 = bs.length + m2 := by rw [hra]
  have hdl : d.length = bs.length + lk.length := by rw [← hd, List.length_append]
  have hbtl : bt.length = bs.length + m2 := by rw [← hbt, List.length_take, hra2]; omega
  have hrb : readL bt = (rs ++ more, bs.length + m2) := by rw [hrg, hra]
  obtain ⟨n, hn⟩ : ∃ n, bs.length + m2 = n := ⟨_, rfl⟩
  rw [hra2, hn] at hbt
  rw [hn] at hrb hra2 hbtl
  have hn8 : 8 * rs.length ≤ n := by omega
  have hn1 : n ≤ 600 := by omega
  have HD := Lib.hid hd
  have HDL := Lib.hid hdl
  have HBT := Lib.hid hbt
  have HBTL := Lib.hid hbtl
  have HRB := Lib.hid hrb
  have HRD := Lib.hid hra2
  have hpb := pk_bd keep 50 (by omega)
  obtain ⟨kp, hkp⟩ : ∃ kp : Nat, pk keep 50 = kp := ⟨(pk keep 50).toNat, by omega⟩
  have HPK := Lib.hid fun wx => still_of (picked_any keep 50 wx hk1 hk2 (by omega) (by omega))
  rw [hkp] at HPK
  have hkp2 : kp ≤ 1000000 := by omega
  clear hra hmt hrg hd hmore hm2 hbt hra2 hdl hbtl hrb hn hbl2 hpb hkp hk1 hk2
  go_enter Try.func8, Try.ntmps8
  go_wp2_with fail
  refine HT.out.mono ?_
  rintro e w1 ⟨vd, vr, rfl, hown, hL, hE1⟩
  obtain ⟨ad, cd, rfl, hr⟩ := hown.row
  obtain ⟨ar, cr, rfl⟩ : ∃ a c, vr = .slice a rs.length c := by
    obtain ⟨vs, he, a, c, rfl, _⟩ := hL.lists
    exact ⟨a, c, rfl⟩
  have HOWN := Lib.hid hown
  have HL := Lib.hid hL
  have HE1 := Lib.hid hE1
  have HR := Lib.hid hr
  clear hown hL hr hE1 HT
  go_wp2_with fail
  have x0 : (w1.alloc (Obj.cells #[.slice ad bs.length cd, .int .i64 0] 30)).cell? ⟨w1.heap.size, 0, none⟩ = some (.slice ad bs.length cd) := by simp [go_sem]
  have x1 : (w1.alloc (Obj.cells #[.slice ad bs.length cd, .int .i64 0] 30)).cell? ⟨w1.heap.size, 1, none⟩ = some (.int .i64 0) := by simp [go_sem]
  have xz : (w1.alloc (Obj.cells #[.slice ad bs.length cd, .int .i64 0] 30)).frozen? ⟨w1.heap.size, 0, none⟩ = false := by simp [go_sem]
  have hA : Ext w1 (w1.alloc (Obj.cells #[.slice ad bs.length cd, .int .i64 0] 30)) := (Ext.refl w1).alloc (Nat.le_refl _) _
  have hsz : w1.heap.size < (w1.alloc (Obj.cells #[.slice ad bs.length cd, .int .i64 0] 30)).heap.size := by simp
  generalize w1.alloc (Obj.cells #[.slice ad bs.length cd, .int .i64 0] 30) = W1 at *
  have HA := Lib.hid hA
  have HSZ := Lib.hid hsz
  have hloT : ∀ b, (Value.slice ad bs.length cd).ownBlock = some b → b < w1.heap.size := fun b hb => (HOWN.out.lt b hb).2
  have HLT := Lib.hid hloT
  generalize hT : w1.heap.size = T at *
  have HTe := Lib.hid hT
  clear hA hsz hloT hT
  go_region_law (first
    | ((refine step_append rfl rfl Try.slBytes w.heap.size (by rfl) HO2.out (by rfl) HR2.out (bv_one _) (by unfold maxLen; omega) (by omega) HB2.out ?_
        intro v5 w5 hown5 hg5 hb5 _
        have hv5 : v5.ownBlock ≠ some T := fun e => by
          rcases hb5 with h | h
          · have := HLT.out T (h ▸ e); omega
          · rw [h] at e; have := HS2.out; injection e with e; omega
        have h5n : (Value.slice ad bs.length cd).ownBlock ≠ some T := fun e => by have := HLT.out T e; omega
        have hblk : w5.heap[T]? = w2.heap[T]? := hg5.block T HS2.out (fun e => h5n e.symm)
        have z0 : w5.cell? ⟨T, 0, none⟩ = some (.slice ad bs.length cd) := (World.cell?_of_block (a := ⟨T, 0, none⟩) hblk).trans y0
        have z1 : w5.cell? ⟨T, 1, none⟩ = some (.int .i64 0) := (World.cell?_of_block (a := ⟨T, 1, none⟩) hblk).trans y1
        have zz : w5.frozen? ⟨T, 0, none⟩ = false := (World.frozen?_of_block (a := ⟨T, 0, none⟩) hblk).trans yz
        obtain ⟨a5, c5, rfl, _⟩ := hown5.row
        have HO5 := Lib.hid hown5
        have HG5 := Lib.hid hg5
        have HV5 := Lib.hid hv5
        clear hown5 hg5 hb5 hv5 h5n hblk y0 y1 yz))
    | ((go_simp
        go_at_call 9
        refine (some_any _ junk 40 _ (by omega) (((HJ.out.ext HE1.out).ext HA.out).ext (Below.drew (Ext.refl _)))).mono ?_
        rintro e w2 ⟨v2, rfl, hown2, hE2⟩
        rw [HLK.out] at hown2
        have hE2' : Ext W1 w2 := Ext.trans (Below.drew (Ext.refl W1)) hE2
        obtain ⟨a2, c2, rfl, hr2⟩ := hown2.row
        have y0 := cell_later hE2' x0
        have y1 := cell_later hE2' x1
        have yz : w2.frozen? ⟨T, 0, none⟩ = false := (World.frozen?_of_block (hE2'.block T HSZ.out)).trans xz
        have HR2 := Lib.hid hr2
        have HE2 := Lib.hid hE2'
        have HO2 := Lib.hid (own_ext (own_ext HOWN.out HA.out) hE2')
        have HS2 := Lib.hid (show T < w2.heap.size by have := hE2'.size; have := HSZ.out; omega)
        have HB2 := Lib.hid (show w.heap.size ≤ w2.heap.size by have := HE1.out.size; have := HA.out.size; have := hE2'.size; omega)
        clear hown2 hr2 hE2 hE2')))
  all_goals
    go_wp2_with fail
    have hlo : ∀ b, (Value.slice ad bs.length cd).ownBlock = some b → w.heap.size ≤ b := fun b hb => (HOWN.out.lt b hb).1
    have hE5 : Ext w (w5.setCell ⟨T, 0, none⟩ (.slice a5 (bs.length + lk.length) c5)) := by
      refine Below.setCell (p := ⟨T, 0, none⟩) ?_ (by show w.heap.size ≤ T; have := HTe.out; have := HE1.out.size; omega) _
      exact Below.grown ((HE1.out.trans HA.out).trans HE2.out) HG5.out (by have := HB2.out; omega) hlo
    have hL5 := HL.out.wrote (HA.out.trans HE2.out) HG5.out (Nat.le_of_eq HTe.out) 0 (.slice a5 (bs.length + lk.length) c5)
    have hB5 : Bytes (w5.setCell ⟨T, 0, none⟩ (.slice a5 (bs.length + lk.length) c5)) (.slice a5 (bs.length + lk.length) c5) d := by
      have h1 := HO5.out.reads
      rw [← List.map_append, HD.out, ← HDL.out] at h1
      rw [← HDL.out]
      exact Reads.grown h1 (grownSet w5 ⟨T, 0, none⟩ _) (.inr (.inr (by rw [HDL.out]; exact HV5.out)))
    have HE5 := Lib.hid hE5
    have HL5 := Lib.hid hL5
    generalize w5.setCell ⟨T, 0, none⟩ (.slice a5 (bs.length + lk.length) c5) = W5 at *
    have hd600 : d.length ≤ 600 := by have := HDL.out; omega
    have hrp := repair_any _ d 0 W5 hB5 (by omega) (by omega) n bt HRD.out HBT.out
    rw [Nat.zero_min] at hrp
    replace hrp : Calls Try.prog 19 #[.agg #[.slice a5 (bs.length + lk.length) c5, .int .i64 0]] W5 fun e w' => ∃ v', e = .returned (.tuple #[.agg #[v', .int .i64 0], .int .i64 0]) ∧ w'.ownsRow W5.heap.size 5 1 v' bt.length (bt.map bv) ∧ Ext W5 w' := hrp
    clear hlo hE5 hL5 hB5 z0 z1 zz HO5 HG5 HV5 HE2 HO2 HS2 HB2 HR2
    refine hrp.mono ?_
    clear hrp
    rintro e w6 ⟨v6, rfl, hown6, hE6⟩
    obtain ⟨a6, c6, rfl, hr6⟩ := hown6.row
    have hb6 : bt.length ≤ 600 := by rw [HBTL.out]; exact hn1
    have hB6 : Bytes w6 (.slice a6 bt.length c6) bt := ⟨_, _, rfl, hr6⟩
    have hE6w := HE5.out.trans hE6
    have hA6 : Ext w6 (w6.alloc (Obj.cells #[.slice a6 bt.length c6, .int .i64 0] 30)) := (Ext.refl w6).alloc (Nat.le_refl _) _
    have p0 : (w6.alloc (Obj.cells #[.slice a6 bt.length c6, .int .i64 0] 30)).cell? ⟨w6.heap.size, 0, none⟩ = some (.slice a6 bt.length c6) := by simp [go_sem]
    have p1 : (w6.alloc (Obj.cells #[.slice a6 bt.length c6, .int .i64 0] 30)).cell? ⟨w6.heap.size, 1, none⟩ = some (.int .i64 0) := by simp [go_sem]
    have HE6 := Lib.hid (hE6w.trans hA6)
    have HL6 := Lib.hid ((HL5.out.ext hE6).ext hA6)
    have HB6 := Lib.hid (hB6.ext hA6)
    clear hown6 hr6 hE6 hB6 hE6w hA6 HL5 HE5
    go_wp2_with fail
    generalize w6.alloc (Obj.cells #[.slice a6 bt.length c6, .int .i64 0] 30) = W6 at *
    generalize w6.heap.size = TA at *
    have hrp := repair_any _ bt 0 W6 HB6.out (by omega) (by omega) n bt (by rw [HRB.out]) (List.take_of_length_le (by rw [HBTL.out]; exact Nat.le_refl _))
    rw [Nat.zero_min] at hrp
    replace hrp : Calls Try.prog 19 #[.agg #[.slice a6 bt.length c6, .int .i64 0]] W6 fun e w' => ∃ v', e = .returned (.tuple #[.agg #[v', .int .i64 0], .int .i64 0]) ∧ w'.ownsRow W6.heap.size 5 1 v' bt.length (bt.map bv) ∧ Ext W6 w' := hrp
    refine hrp.mono ?_
    clear hrp
    rintro e w7 ⟨v7, rfl, hown7, hE7⟩
    obtain ⟨a7, c7, rfl, hr7⟩ := hown7.row
    have hB7 : Bytes w7 (.slice a7 bt.length c7) bt := ⟨_, _, rfl, hr7⟩
    have hA7 : Ext w7 (w7.alloc (Obj.cells #[.slice a7 bt.length c7, .int .i64 0] 30)) := (Ext.refl w7).alloc (Nat.le_refl _) _
    have q0 : (w7.alloc (Obj.cells #[.slice a7 bt.length c7, .int .i64 0] 30)).cell? ⟨w7.heap.size, 0, none⟩ = some (.slice a7 bt.length c7) := by simp [go_sem]
    have hE7a := hE7.trans hA7
    have r0 := cell_later hE7a p0
    have r1 := cell_later hE7a p1
    have HE7 := Lib.hid (HE6.out.trans hE7a)
    have HL7 := Lib.hid (HL6.out.ext hE7a)
    have HA7 := Lib.hid (HB6.out.ext hE7a)
    have HB7 := Lib.hid (hB7.ext hA7)
    clear hown7 hr7 hE7 hB7 hA7 hE7a p0 p1 HE6 HL6 HB6
    go_wp2_with fail
    generalize w7.alloc (Obj.cells #[.slice a7 bt.length c7, .int .i64 0] 30) = W7 at *
    generalize w7.heap.size = TB at *
    have hre := read_any _ bt 0 W7 HA7.out (by omega) (by omega) (by omega)
    rw [HRB.out] at hre
    replace hre : Calls Try.prog 15 #[.agg #[.slice a6 bt.length c6, .int .i64 0]] W7 fun e w' => ∃ v', e = .returned (.tuple #[v', .int .i64 (n : Int), .int .i64 0]) ∧ LowL w' W7.heap.size v' (rs ++ more) ∧ Ext W7 w' := hre
    refine hre.mono ?_
    clear hre
    rintro e w8 ⟨v8, rfl, hL8, hE8⟩
    obtain ⟨a8, c8, rfl⟩ : ∃ a c, v8 = .slice a (rs ++ more).length c := by
      obtain ⟨vs, he, a, c, rfl, _⟩ := hL8.lists
      exact ⟨a, c, rfl⟩
    have r0 := cell_later hE8 r0
    have r1 := cell_later hE8 r1
    have q0 := cell_later hE8 q0
    have HE8 := Lib.hid (HE7.out.trans hE8)
    have HL8 := Lib.hid (HL7.out.ext hE8)
    have HA8 := Lib.hid (HA7.out.ext hE8)
    have HB8 := Lib.hid (HB7.out.ext hE8)
    have HG8 := Lib.hid hL8.lists
    clear hL8 hE8 HE7 HL7 HA7 HB7
    obtain ⟨ml, hml⟩ : ∃ ml, (rs ++ more).length = ml := ⟨_, rfl⟩
    have hml2 : rs.length ≤ ml := by rw [← hml, List.length_append]; omega
    rw [hml] at HG8
    rw [hml]
    have HML := Lib.hid hml
    clear hml
    go_wp2_with fail
    refine (sync_any _ bt 0 _ HA8.out (by omega) (by omega) (by omega)).mono ?_
    rintro e w9 ⟨v9, rfl, hown9, hE9⟩
    obtain ⟨a9, c9, rfl, hr9⟩ := hown9.row
    have hB9 : Bytes w9 (.slice a9 bt.length c9) bt := ⟨_, _, rfl, hr9⟩
    have hA9 : Ext w9 (w9.alloc (Obj.cells #[.slice a9 bt.length c9, .int .i64 (bt.length : Int)] 30)) := (Ext.refl w9).alloc (Nat.le_refl _) _
    have s0 : (w9.alloc (Obj.cells #[.slice a9 bt.length c9, .int .i64 (bt.length : Int)] 30)).cell? ⟨w9.heap.size, 0, none⟩ = some (.slice a9 bt.length c9) := by simp [go_sem]
    have s1 : (w9.alloc (Obj.cells #[.slice a9 bt.length c9, .int .i64 (bt.length : Int)] 30)).cell? ⟨w9.heap.size, 1, none⟩ = some (.int .i64 (bt.length : Int)) := by simp [go_sem]
    have hE9a := hE9.trans hA9
    have r0 := cell_later hE9a r0
    have q0 := cell_later hE9a q0
    have HE9 := Lib.hid (HE8.out.trans hE9a)
    have HL9 := Lib.hid (HL8.out.ext hE9a)
    have HA9 := Lib.hid (HA8.out.ext hE9a)
    have HB9 := Lib.hid (HB8.out.ext hE9a)
    have HG9 := Lib.hid (HG8.out.ext hE9a)
    have HC9 := Lib.hid (hB9.ext hA9)
    clear hown9 hr9 hE9 hB9 hA9 hE9a HE8 HL8 HA8 HB8 HG8
    go_wp2_with fail
    generalize w9.alloc (Obj.cells #[.slice a9 bt.length c9, .int .i64 (bt.length : Int)] 30) = W9 at *
    generalize w9.heap.size = TC at *
    have HS : Hid (∀ w', Ext W9 w' → Ext W9 w' ∧ w'.cell? ⟨TA, 0, none⟩ = some (.slice a6 bt.length c6) ∧ w'.cell? ⟨TB, 0, none⟩ = some (.slice a7 bt.length c7) ∧ w'.cell? ⟨TC, 0, none⟩ = some (.slice a9 bt.length c9) ∧ w'.cell? ⟨TC, 1, none⟩ = some (.int .i64 (bt.length : Int)) ∧
        (convert 22 9 (.slice a6 bt.length c6)).run Try.prog w' = .ok (.string ⟨bt.toArray⟩) w' ∧ (convert 22 9 (.slice a7 bt.length c7)).run Try.prog w' = .ok (.string ⟨bt.toArray⟩) w') :=
      Lib.hid fun w' hE => ⟨hE, cell_later hE r0, cell_later hE q0, cell_later hE s0, cell_later hE s1, conv_str (HA9.out.ext hE) Try.underlying22 Try.underlying5 Try.underlying9, conv_str (HB9.out.ext hE) Try.underlying22 Try.underlying5 Try.underlying9⟩
    have hq1 : ((n : Int) == (bt.length : Int)) = true := by have := HBTL.out; simp; omega
    have hc8 : ml ≤ c8 := by obtain ⟨_, _, a, c, e, hr⟩ := HG9.out; simp only [Value.slice.injEq] at e; obtain ⟨rfl, _, rfl⟩ := e; have := hr.le; have := HML.out; omega
    go_region_held3 (fun w' => Ext W9 w' ∧ w'.cell? ⟨TA, 0, none⟩ = some (.slice a6 bt.length c6) ∧ w'.cell? ⟨TB, 0, none⟩ = some (.slice a7 bt.length c7) ∧ w'.cell? ⟨TC, 0, none⟩ = some (.slice a9 bt.length c9) ∧ w'.cell? ⟨TC, 1, none⟩ = some (.int .i64 (bt.length : Int)) ∧
        (convert 22 9 (.slice a6 bt.length c6)).run Try.prog w' = .ok (.string ⟨bt.toArray⟩) w' ∧ (convert 22 9 (.slice a7 bt.length c7)).run Try.prog w' = .ok (.string ⟨bt.toArray⟩) w')
      ((refine HS.out _ ?_
        repeat (first | exact Ext.refl _ | exact HEC.out | exact And.left ‹Ext W9 _ ∧ _› | refine Below.drew ?_ | refine ext_alloc ?_ _ | refine ext_set ?_ (by first | exact Nat.le_refl _ | exact HEC.out.size) _)))
      (first
        | (go_at_call 11
           refine (HPK.out _).mono ?_
           rintro e wq ⟨rfl, rfl⟩)
        | (go_at_call 18
           (
             refine (crash_any (.slice a9 bt.length c9) bt bt.length kp bt.length _ (HC9.out.ext (And.left ‹Ext W9 _ ∧ _›)) (by omega) (Nat.le_refl _) hkp2 (by omega)).mono ?_
             rintro e w2 ⟨v2, rfl, hB2, hE2, hblk⟩
             rw [List.take_length] at hB2
             obtain ⟨a2, c2, rfl, hr2⟩ := hB2
             have hEC := Ext.trans (And.left ‹Ext W9 _ ∧ _›) hE2
             have HEC := Lib.hid hEC
             have HBC := Lib.hid (show Bytes w2 (.slice a2 bt.length c2) bt from ⟨_, _, rfl, hr2⟩)
             have HBK := Lib.hid hblk
             try (have hd := early_tape hE2; obtain ⟨d0, d1, z0, z1⟩ := hd)
             clear hE2 hblk hr2 hEC))
        | (go_at_call 16
           trace_state
           fail))
    all_goals
      first
        | (have hX := early_end (x := .slice a2 bt.length c2) (u := .int .i64 (bt.length : Int)) HEC.out HBC.out d0 (fun e => Nat.lt_irrefl _ (Nat.lt_of_succ_le (Nat.le_trans (Nat.le_of_eq (Eq.symm (World.size_alloc_drew _ _))) (HBK.out _ e))))
           generalize (w2.setCell ⟨W9.heap.size, 0, none⟩ (.slice a2 bt.length c2)).setCell ⟨W9.heap.size, 1, none⟩ (.int .i64 (bt.length : Int)) = Wn at *
           generalize W9.heap.size = TD at *
           skip)
        | (have hX := late_end (a := a2) (n := bt.length) (c := c2) (u := .int .i64 (bt.length : Int)) (t := 30) HEC.out HBC.out
           generalize w2.alloc (Obj.cells #[.slice a2 bt.length c2, .int .i64 (bt.length : Int)] 30) = Wn at *
           generalize w2.heap.size = TD at *
           skip)
      obtain ⟨hEn, hBn, hd0⟩ := hX
      have hrn := cell_later hEn r0
      have hqn := cell_later hEn q0
      have HLG := Lib.hid ((HG9.out.ext hEn).take rs.length hml2)
      have HLR := Lib.hid (HL9.out.ext hEn)
      have HCA := Lib.hid (fun m => conv_str ((HA9.out.ext hEn).ext (below_drewN (Ext.refl Wn) m)) Try.underlying22 Try.underlying5 Try.underlying9)
      have HCB := Lib.hid (fun m => conv_str ((HB9.out.ext hEn).ext (below_drewN (Ext.refl Wn) m)) Try.underlying22 Try.underlying5 Try.underlying9)
      have HCC := Lib.hid (fun m => conv_str (hBn.ext (below_drewN (Ext.refl Wn) m)) Try.underlying22 Try.underlying5 Try.underlying9)
      have HEN := Lib.hid (HE9.out.trans hEn)
      clear hEn hBn r0 q0 s0 s1 HBK HBC HEC
      try clear d0 d1 z0 z1
      go_wp2_with fail
      refine (sameLists_any _ _ rs _ (by have := HLG.out; rwa [List.take_append_of_le_length (Nat.le_refl _), List.take_length] at this) HLR.out).mono ?_
      rintro e wz ⟨rfl, m, rfl⟩
      have ca := HCA.out m
      have cb := HCB.out m
      have cc := HCC.out m
      have hen := below_drewN HEN.out m
      have HEM := Lib.hid hen
      clear hen
      by_cases hrs : rs.length = 0
      · have h0 : ((rs.length : Int) == 0) = true := by rw [beq_iff_eq]; omega
        clear hrs
        go_wp2
        go_ret
        exact ⟨rfl, HEM.out⟩
      · have h0 : ((rs.length : Int) == 0) = false := by rw [beq_eq_false_iff_ne]; omega
        have h8 : (8 : Int) ≤ (n : Int) := by omega
        go_wp2
        go_ret
        exact ⟨rfl, HEM.out⟩

end Go.Proofs.Ytngcbfefhlheoaa
