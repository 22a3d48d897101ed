/- FormB: what is needed of it. No condition. -/
import Derived.Test.YthkiegaifkkegaaDoorForm
namespace Go.Proofs.YthkiegaifkkegaaDoor
open Go.RowKit
section
variable (w : World) (G B : Nat) (ar : Option Addr) (cr : Nat) (raw : List Op2) (p : Nat) (vars props : Int) (t : Nat) (out : List Op2)
set_option maxRecDepth 100000 in
set_option maxHeartbeats 2000000 in
theorem formula_not (h : Gr w G B ar cr raw p vars props (t : Int) out) (hraw : RawF raw) (d : Nat) (hd : d ≤ 5) (hp12 : p < 12) (ho : out.length + 100 * (d + 1) ≤ 700) (htb : t ≤ 1000) (kk : Int) (hsel : pk (rawAt raw p).1 16 = kk) (hk4 : 4 ≤ kk) (hk6 : kk < 6)
    (ih : ∀ (w : World) (p : Nat) (t : Nat) (out : List Op2), Gr w G B ar cr raw p vars props (t : Int) out → p ≤ 14 + d + 30 → out.length + 100 * d ≤ 700 → t ≤ 1000 → Calls Tryd.prog 12 #[.pointer (some ⟨G, 0, none⟩), .int .i64 d] w (FMade w G B ar cr raw vars props out (fT raw props d p t)))
    : Calls Tryd.prog 12 #[.pointer (some ⟨G, 0, none⟩), .int .i64 ((d + 1 : Nat) : Int)] w (FMade w G B ar cr raw vars props out (.n1 10 0 (fT raw props d (p + 1) t).1, (fT raw props d (p + 1) t).2)) := by
  have TK := Lib.hid (take_any w G B ar cr raw p vars props t out h (by omega))
  have hBw : B ≤ w.heap.size := by have := World.block_lt_of_cell? _ _ h.c0; have := h.new; simp at *; omega
  have hr := hraw p
  have hz1 := fT_end raw props d (p + 1) (t)
  have hz2 := fT_size raw props d (p + 1) (t)
  have hz5 := Tm.flat_len (fT raw props d (p + 1) (t)).1
  have ih1 := fun w' out' g h1 h2 => ih w' (p + 1) (t) out' g h1 h2 (by omega)
  have hz6 := fT_cnt raw props d (p + 1) (t)
  generalize fT raw props d (p + 1) (t) = t1 at *
  obtain ⟨tm1, p1, n1⟩ := t1
  simp only at hz1 hz2 hz5 ih1
  have HZ1 := Lib.hid (show p1 ≤ 14 + d + 30 by omega)
  have HZ5 := Lib.hid (show tm1.flat.length ≤ 20 by omega)
  have IH1 := Lib.hid ih1
  clear ih1 hz1 hz2 hz5 hz6 ih
  generalize rawAt raw p = r at *
  obtain ⟨⟨r1, r2⟩, r3, r4⟩ := hr
  have HPK := Lib.hid (picked_any r.1 16 · r1 r2 (by omega) (by omega))
  have hkb := pk_bd r.1 16 (by omega)
  have e0 : ((d : Int) + 1 == 0) = false := by rw [beq_eq_false_iff_ne]; omega
  have e1 : (0 : Int) ≤ d := by omega
  have hpI : ¬ (12 : Int) < (p : Int) + 1 := by omega
  rw [hsel] at HPK hkb
  obtain ⟨hkb1, hkb2⟩ := hkb
  clear hsel
  have hl4 : ¬ kk < 4 := by omega
  have hl8 : ¬ (8 : Int) < kk := by omega
  go_enter Tryd.func12, Tryd.ntmps12
  go_wp2_with fail
  refine TK.out.mono ?_
  rintro e w1 ⟨rfl, g1, b1⟩
  have hg1 := g1.ext ((Ext.refl w1).alloc (Nat.le_refl _) (Obj.cells #[.int .i64 r.1, .int .i64 r.2] 57))
  have hb2 : Below B w (w1.alloc (Obj.cells #[.int .i64 r.1, .int .i64 r.2] 57)) := b1.alloc (by have := b1.size; omega) _
  have q0 : (w1.alloc (Obj.cells #[.int .i64 r.1, .int .i64 r.2] 57)).cell? ⟨w1.heap.size, 0, none⟩ = some (.int .i64 r.1) := by simp [go_sem]
  have q1 : (w1.alloc (Obj.cells #[.int .i64 r.1, .int .i64 r.2] 57)).cell? ⟨w1.heap.size, 1, none⟩ = some (.int .i64 r.2) := by simp [go_sem]
  have c1 := hg1.c1
  have c3 := hg1.c3
  have c4 := hg1.c4
  have f4 := hg1.fz 4
  have HG1 := Lib.hid hg1
  have HB2 := Lib.hid hb2
  clear TK g1 b1 hg1 hb2
  go_wp2_with fail
  refine (HPK.out _).mono ?_
  rintro e w' ⟨rfl, rfl⟩
  go_wp2_with fail
  refine (put_op _ G B ar cr raw (p + 1) vars props t out _ _ HG1.out (by omega)).mono ?_
  rintro e w2 ⟨rfl, hg2, hb3⟩
  have HG2 := Lib.hid hg2
  have HB3 := Lib.hid (HB2.out.trans hb3)
  clear hg2 hb3
  go_wp2_with fail
  refine (IH1.out w2 _ HG2.out (by omega) (by simp; omega)).mono ?_
  rintro e w3 ⟨rfl, hg3, hb4⟩
  have HG3 := Lib.hid hg3
  have HB4 := Lib.hid (HB3.out.trans hb4)
  clear hg3 hb4 HG2 HB3
  go_wp2
  go_end0
  exact FMade.mk rfl HG3.out HB4.out rfl rfl (by simp [Tm.flat])
set_option maxRecDepth 100000 in
set_option maxHeartbeats 2000000 in
theorem formula_bin (h : Gr w G B ar cr raw p vars props (t : Int) out) (hraw : RawF raw) (d : Nat) (hd : d ≤ 5) (hp12 : p < 12) (ho : out.length + 100 * (d + 1) ≤ 700) (htb : t ≤ 1000) (kk : Int) (hsel : pk (rawAt raw p).1 16 = kk) (hk6 : 6 ≤ kk) (hk9 : kk < 9)
    (ih : ∀ (w : World) (p : Nat) (t : Nat) (out : List Op2), Gr w G B ar cr raw p vars props (t : Int) out → p ≤ 14 + d + 30 → out.length + 100 * d ≤ 700 → t ≤ 1000 → Calls Tryd.prog 12 #[.pointer (some ⟨G, 0, none⟩), .int .i64 d] w (FMade w G B ar cr raw vars props out (fT raw props d p t)))
    : Calls Tryd.prog 12 #[.pointer (some ⟨G, 0, none⟩), .int .i64 ((d + 1 : Nat) : Int)] w (FMade w G B ar cr raw vars props out (.n2 (8 + kk % 2) 0 (fT raw props d (p + 1) t).1 (fT raw props d (fT raw props d (p + 1) t).2.1 (fT raw props d (p + 1) t).2.2).1, (fT raw props d (fT raw props d (p + 1) t).2.1 (fT raw props d (p + 1) t).2.2).2)) := by
  have TK := Lib.hid (take_any w G B ar cr raw p vars props t out h (by omega))
  have hBw : B ≤ w.heap.size := by have := World.block_lt_of_cell? _ _ h.c0; have := h.new; simp at *; omega
  have hr := hraw p
  have hz1 := fT_end raw props d (p + 1) (t)
  have hz2 := fT_size raw props d (p + 1) (t)
  have hz5 := Tm.flat_len (fT raw props d (p + 1) (t)).1
  have ih1 := fun w' out' g h1 h2 => ih w' (p + 1) (t) out' g h1 h2 (by omega)
  have hz6 := fT_cnt raw props d (p + 1) (t)
  have ih2 := fun w' out' g h1 h2 => ih w' (fT raw props d (p + 1) (t)).2.1 (fT raw props d (p + 1) (t)).2.2 out' g h1 h2 (by omega)
  generalize fT raw props d (p + 1) (t) = t1 at *
  generalize fT raw props d t1.2.1 t1.2.2 = t2 at *
  obtain ⟨tm1, p1, n1⟩ := t1
  obtain ⟨tm2, p2, n2⟩ := t2
  simp only at hz1 hz2 hz5 ih1 ih2
  have IH2 := Lib.hid ih2
  clear ih2
  have HZ1 := Lib.hid (show p1 ≤ 14 + d + 30 by omega)
  have HZ5 := Lib.hid (show tm1.flat.length ≤ 20 by omega)
  have IH1 := Lib.hid ih1
  clear ih1 hz1 hz2 hz5 hz6 ih
  generalize rawAt raw p = r at *
  obtain ⟨⟨r1, r2⟩, r3, r4⟩ := hr
  have HPK := Lib.hid (picked_any r.1 16 · r1 r2 (by omega) (by omega))
  have hkb := pk_bd r.1 16 (by omega)
  have e0 : ((d : Int) + 1 == 0) = false := by rw [beq_eq_false_iff_ne]; omega
  have e1 : (0 : Int) ≤ d := by omega
  have hpI : ¬ (12 : Int) < (p : Int) + 1 := by omega
  rw [hsel] at HPK hkb
  obtain ⟨hkb1, hkb2⟩ := hkb
  clear hsel
  have hl4 : ¬ kk < 4 := by omega
  have hl6 : ¬ kk < 6 := by omega
  have hl8 : ¬ (8 : Int) < kk := by omega
  have hm2 : kk.tmod 2 = kk % 2 := Int.tmod_eq_emod_of_nonneg (by omega)
  have hw2 : IntKind.i64.wrap ((8 : Int) + kk % 2) = 8 + kk % 2 := IntWalk.i64_in _ (by omega)
  go_enter Tryd.func12, Tryd.ntmps12
  go_wp2_with fail
  refine TK.out.mono ?_
  rintro e w1 ⟨rfl, g1, b1⟩
  have hg1 := g1.ext ((Ext.refl w1).alloc (Nat.le_refl _) (Obj.cells #[.int .i64 r.1, .int .i64 r.2] 57))
  have hb2 : Below B w (w1.alloc (Obj.cells #[.int .i64 r.1, .int .i64 r.2] 57)) := b1.alloc (by have := b1.size; omega) _
  have q0 : (w1.alloc (Obj.cells #[.int .i64 r.1, .int .i64 r.2] 57)).cell? ⟨w1.heap.size, 0, none⟩ = some (.int .i64 r.1) := by simp [go_sem]
  have q1 : (w1.alloc (Obj.cells #[.int .i64 r.1, .int .i64 r.2] 57)).cell? ⟨w1.heap.size, 1, none⟩ = some (.int .i64 r.2) := by simp [go_sem]
  have c1 := hg1.c1
  have c3 := hg1.c3
  have c4 := hg1.c4
  have f4 := hg1.fz 4
  have HG1 := Lib.hid hg1
  have HB2 := Lib.hid hb2
  clear TK g1 b1 hg1 hb2
  go_wp2_with fail
  refine (HPK.out _).mono ?_
  rintro e w' ⟨rfl, rfl⟩
  go_wp2_with fail
  refine (put_op _ G B ar cr raw (p + 1) vars props t out _ _ HG1.out (by omega)).mono ?_
  rintro e w2 ⟨rfl, hg2, hb3⟩
  have HG2 := Lib.hid hg2
  have HB3 := Lib.hid (HB2.out.trans hb3)
  clear hg2 hb3
  go_wp2_with fail
  refine (IH1.out w2 _ HG2.out (by omega) (by simp; omega)).mono ?_
  rintro e w3 ⟨rfl, hg3, hb4⟩
  have HG3 := Lib.hid hg3
  have HB4 := Lib.hid (HB3.out.trans hb4)
  clear hg3 hb4 HG2 HB3
  go_wp2_with fail
  refine (IH2.out w3 _ HG3.out HZ1.out (by have := HZ5.out; simp at this ⊢; omega)).mono ?_
  rintro e w4 ⟨rfl, hg4, hb5⟩
  have HG4 := Lib.hid hg4
  have HB5 := Lib.hid (HB4.out.trans hb5)
  clear hg4 hb5 HG3 HB4
  go_wp2
  go_end0
  exact FMade.mk rfl HG4.out HB5.out rfl rfl (by simp [Tm.flat])
set_option maxRecDepth 100000 in
set_option maxHeartbeats 2000000 in
theorem formula_nots (h : Gr w G B ar cr raw p vars props (t : Int) out) (hraw : RawF raw) (d : Nat) (hd : d ≤ 5) (hp12 : p < 12) (ho : out.length + 100 * (d + 1) ≤ 700) (htb : t ≤ 1000) (kk : Int) (k0 : Int) (hk0 : pk (rawAt raw p).1 16 = k0) (h8 : 8 < k0) (ht0 : t = 0) (hsel : 4 + k0 % 5 = kk) (hk4 : 4 ≤ kk) (hk6 : kk < 6)
    (ih : ∀ (w : World) (p : Nat) (t : Nat) (out : List Op2), Gr w G B ar cr raw p vars props (t : Int) out → p ≤ 14 + d + 30 → out.length + 100 * d ≤ 700 → t ≤ 1000 → Calls Tryd.prog 12 #[.pointer (some ⟨G, 0, none⟩), .int .i64 d] w (FMade w G B ar cr raw vars props out (fT raw props d p t)))
    : Calls Tryd.prog 12 #[.pointer (some ⟨G, 0, none⟩), .int .i64 ((d + 1 : Nat) : Int)] w (FMade w G B ar cr raw vars props out (.n1 10 0 (fT raw props d (p + 1) t).1, (fT raw props d (p + 1) t).2)) := by
  have TK := Lib.hid (take_any w G B ar cr raw p vars props t out h (by omega))
  have hBw : B ≤ w.heap.size := by have := World.block_lt_of_cell? _ _ h.c0; have := h.new; simp at *; omega
  have hr := hraw p
  have hz1 := fT_end raw props d (p + 1) (t)
  have hz2 := fT_size raw props d (p + 1) (t)
  have hz5 := Tm.flat_len (fT raw props d (p + 1) (t)).1
  have ih1 := fun w' out' g h1 h2 => ih w' (p + 1) (t) out' g h1 h2 (by omega)
  have hz6 := fT_cnt raw props d (p + 1) (t)
  generalize fT raw props d (p + 1) (t) = t1 at *
  obtain ⟨tm1, p1, n1⟩ := t1
  simp only at hz1 hz2 hz5 ih1
  have HZ1 := Lib.hid (show p1 ≤ 14 + d + 30 by omega)
  have HZ5 := Lib.hid (show tm1.flat.length ≤ 20 by omega)
  have IH1 := Lib.hid ih1
  clear ih1 hz1 hz2 hz5 hz6 ih
  generalize rawAt raw p = r at *
  obtain ⟨⟨r1, r2⟩, r3, r4⟩ := hr
  have HPK := Lib.hid (picked_any r.1 16 · r1 r2 (by omega) (by omega))
  have hkb := pk_bd r.1 16 (by omega)
  have e0 : ((d : Int) + 1 == 0) = false := by rw [beq_eq_false_iff_ne]; omega
  have e1 : (0 : Int) ≤ d := by omega
  have hpI : ¬ (12 : Int) < (p : Int) + 1 := by omega
  rw [hk0] at HPK hkb
  obtain ⟨hkb1, hkb2⟩ := hkb
  have hm5 : k0.tmod 5 = k0 % 5 := Int.tmod_eq_emod_of_nonneg hkb1
  have hs5 : (4 : Int) + k0 % 5 = kk := hsel
  have hw5 : IntKind.i64.wrap ((4 : Int) + k0 % 5) = kk := by rw [hs5]; exact IntWalk.i64_in _ (by omega)
  clear hk0 hsel
  have hl4 : ¬ kk < 4 := by omega
  have hl8 : (8 : Int) < k0 := by omega
  have htI : ((t : Int) == 0) = true := by rw [ht0]; rfl
  have HT0 := Lib.hid ht0
  clear ht0
  go_enter Tryd.func12, Tryd.ntmps12
  go_wp2_with fail
  refine TK.out.mono ?_
  rintro e w1 ⟨rfl, g1, b1⟩
  have hg1 := g1.ext ((Ext.refl w1).alloc (Nat.le_refl _) (Obj.cells #[.int .i64 r.1, .int .i64 r.2] 57))
  have hb2 : Below B w (w1.alloc (Obj.cells #[.int .i64 r.1, .int .i64 r.2] 57)) := b1.alloc (by have := b1.size; omega) _
  have q0 : (w1.alloc (Obj.cells #[.int .i64 r.1, .int .i64 r.2] 57)).cell? ⟨w1.heap.size, 0, none⟩ = some (.int .i64 r.1) := by simp [go_sem]
  have q1 : (w1.alloc (Obj.cells #[.int .i64 r.1, .int .i64 r.2] 57)).cell? ⟨w1.heap.size, 1, none⟩ = some (.int .i64 r.2) := by simp [go_sem]
  have c1 := hg1.c1
  have c3 := hg1.c3
  have c4 := hg1.c4
  have f4 := hg1.fz 4
  have HG1 := Lib.hid hg1
  have HB2 := Lib.hid hb2
  clear TK g1 b1 hg1 hb2
  go_wp2_with fail
  refine (HPK.out _).mono ?_
  rintro e w' ⟨rfl, rfl⟩
  go_wp2_with fail
  refine (put_op _ G B ar cr raw (p + 1) vars props t out _ _ HG1.out (by omega)).mono ?_
  rintro e w2 ⟨rfl, hg2, hb3⟩
  have HG2 := Lib.hid hg2
  have HB3 := Lib.hid (HB2.out.trans hb3)
  clear hg2 hb3
  go_wp2_with fail
  refine (IH1.out w2 _ HG2.out (by omega) (by simp; omega)).mono ?_
  rintro e w3 ⟨rfl, hg3, hb4⟩
  have HG3 := Lib.hid hg3
  have HB4 := Lib.hid (HB3.out.trans hb4)
  clear hg3 hb4 HG2 HB3
  go_wp2
  go_end0
  exact FMade.mk rfl HG3.out HB4.out rfl rfl (by simp [Tm.flat])
set_option maxRecDepth 100000 in
set_option maxHeartbeats 2000000 in
theorem formula_bins (h : Gr w G B ar cr raw p vars props (t : Int) out) (hraw : RawF raw) (d : Nat) (hd : d ≤ 5) (hp12 : p < 12) (ho : out.length + 100 * (d + 1) ≤ 700) (htb : t ≤ 1000) (kk : Int) (k0 : Int) (hk0 : pk (rawAt raw p).1 16 = k0) (h8 : 8 < k0) (ht0 : t = 0) (hsel : 4 + k0 % 5 = kk) (hk6 : 6 ≤ kk) (hk9 : kk < 9)
    (ih : ∀ (w : World) (p : Nat) (t : Nat) (out : List Op2), Gr w G B ar cr raw p vars props (t : Int) out → p ≤ 14 + d + 30 → out.length + 100 * d ≤ 700 → t ≤ 1000 → Calls Tryd.prog 12 #[.pointer (some ⟨G, 0, none⟩), .int .i64 d] w (FMade w G B ar cr raw vars props out (fT raw props d p t)))
    : Calls Tryd.prog 12 #[.pointer (some ⟨G, 0, none⟩), .int .i64 ((d + 1 : Nat) : Int)] w (FMade w G B ar cr raw vars props out (.n2 (8 + kk % 2) 0 (fT raw props d (p + 1) t).1 (fT raw props d (fT raw props d (p + 1) t).2.1 (fT raw props d (p + 1) t).2.2).1, (fT raw props d (fT raw props d (p + 1) t).2.1 (fT raw props d (p + 1) t).2.2).2)) := by
  have TK := Lib.hid (take_any w G B ar cr raw p vars props t out h (by omega))
  have hBw : B ≤ w.heap.size := by have := World.block_lt_of_cell? _ _ h.c0; have := h.new; simp at *; omega
  have hr := hraw p
  have hz1 := fT_end raw props d (p + 1) (t)
  have hz2 := fT_size raw props d (p + 1) (t)
  have hz5 := Tm.flat_len (fT raw props d (p + 1) (t)).1
  have ih1 := fun w' out' g h1 h2 => ih w' (p + 1) (t) out' g h1 h2 (by omega)
  have hz6 := fT_cnt raw props d (p + 1) (t)
  have ih2 := fun w' out' g h1 h2 => ih w' (fT raw props d (p + 1) (t)).2.1 (fT raw props d (p + 1) (t)).2.2 out' g h1 h2 (by omega)
  generalize fT raw props d (p + 1) (t) = t1 at *
  generalize fT raw props d t1.2.1 t1.2.2 = t2 at *
  obtain ⟨tm1, p1, n1⟩ := t1
  obtain ⟨tm2, p2, n2⟩ := t2
  simp only at hz1 hz2 hz5 ih1 ih2
  have IH2 := Lib.hid ih2
  clear ih2
  have HZ1 := Lib.hid (show p1 ≤ 14 + d + 30 by omega)
  have HZ5 := Lib.hid (show tm1.flat.length ≤ 20 by omega)
  have IH1 := Lib.hid ih1
  clear ih1 hz1 hz2 hz5 hz6 ih
  generalize rawAt raw p = r at *
  obtain ⟨⟨r1, r2⟩, r3, r4⟩ := hr
  have HPK := Lib.hid (picked_any r.1 16 · r1 r2 (by omega) (by omega))
  have hkb := pk_bd r.1 16 (by omega)
  have e0 : ((d : Int) + 1 == 0) = false := by rw [beq_eq_false_iff_ne]; omega
  have e1 : (0 : Int) ≤ d := by omega
  have hpI : ¬ (12 : Int) < (p : Int) + 1 := by omega
  rw [hk0] at HPK hkb
  obtain ⟨hkb1, hkb2⟩ := hkb
  have hm5 : k0.tmod 5 = k0 % 5 := Int.tmod_eq_emod_of_nonneg hkb1
  have hs5 : (4 : Int) + k0 % 5 = kk := hsel
  have hw5 : IntKind.i64.wrap ((4 : Int) + k0 % 5) = kk := by rw [hs5]; exact IntWalk.i64_in _ (by omega)
  clear hk0 hsel
  have hl4 : ¬ kk < 4 := by omega
  have hl6 : ¬ kk < 6 := by omega
  have hl8 : (8 : Int) < k0 := by omega
  have htI : ((t : Int) == 0) = true := by rw [ht0]; rfl
  have HT0 := Lib.hid ht0
  clear ht0
  have hm2 : kk.tmod 2 = kk % 2 := Int.tmod_eq_emod_of_nonneg (by omega)
  have hw2 : IntKind.i64.wrap ((8 : Int) + kk % 2) = 8 + kk % 2 := IntWalk.i64_in _ (by omega)
  go_enter Tryd.func12, Tryd.ntmps12
  go_wp2_with fail
  refine TK.out.mono ?_
  rintro e w1 ⟨rfl, g1, b1⟩
  have hg1 := g1.ext ((Ext.refl w1).alloc (Nat.le_refl _) (Obj.cells #[.int .i64 r.1, .int .i64 r.2] 57))
  have hb2 : Below B w (w1.alloc (Obj.cells #[.int .i64 r.1, .int .i64 r.2] 57)) := b1.alloc (by have := b1.size; omega) _
  have q0 : (w1.alloc (Obj.cells #[.int .i64 r.1, .int .i64 r.2] 57)).cell? ⟨w1.heap.size, 0, none⟩ = some (.int .i64 r.1) := by simp [go_sem]
  have q1 : (w1.alloc (Obj.cells #[.int .i64 r.1, .int .i64 r.2] 57)).cell? ⟨w1.heap.size, 1, none⟩ = some (.int .i64 r.2) := by simp [go_sem]
  have c1 := hg1.c1
  have c3 := hg1.c3
  have c4 := hg1.c4
  have f4 := hg1.fz 4
  have HG1 := Lib.hid hg1
  have HB2 := Lib.hid hb2
  clear TK g1 b1 hg1 hb2
  go_wp2_with fail
  refine (HPK.out _).mono ?_
  rintro e w' ⟨rfl, rfl⟩
  go_wp2_with fail
  refine (put_op _ G B ar cr raw (p + 1) vars props t out _ _ HG1.out (by omega)).mono ?_
  rintro e w2 ⟨rfl, hg2, hb3⟩
  have HG2 := Lib.hid hg2
  have HB3 := Lib.hid (HB2.out.trans hb3)
  clear hg2 hb3
  go_wp2_with fail
  refine (IH1.out w2 _ HG2.out (by omega) (by simp; omega)).mono ?_
  rintro e w3 ⟨rfl, hg3, hb4⟩
  have HG3 := Lib.hid hg3
  have HB4 := Lib.hid (HB3.out.trans hb4)
  clear hg3 hb4 HG2 HB3
  go_wp2_with fail
  refine (IH2.out w3 _ HG3.out HZ1.out (by have := HZ5.out; simp at this ⊢; omega)).mono ?_
  rintro e w4 ⟨rfl, hg4, hb5⟩
  have HG4 := Lib.hid hg4
  have HB5 := Lib.hid (HB4.out.trans hb5)
  clear hg4 hb5 HG3 HB4
  go_wp2
  go_end0
  exact FMade.mk rfl HG4.out HB5.out rfl rfl (by simp [Tm.flat])
set_option maxRecDepth 100000 in
set_option maxHeartbeats 2000000 in
theorem formula_leafB (h : Gr w G B ar cr raw p vars props (t : Int) out) (hraw : RawF raw) (d : Nat) (hd : d ≤ 5) (hp12 : p < 12) (ho : out.length + 100 * (d + 1) ≤ 700) (hv : 0 < props) (hv2 : props ≤ 1000) (kk : Int) (hsel : pk (rawAt raw p).1 16 = kk) (hk4 : kk < 4)
    : Calls Tryd.prog 12 #[.pointer (some ⟨G, 0, none⟩), .int .i64 ((d + 1 : Nat) : Int)] w (FMade w G B ar cr raw vars props out (fLeaf (rawAt raw p) props, p + 1, t)) := by
  have TK := Lib.hid (take_any w G B ar cr raw p vars props t out h (by omega))
  have hBw : B ≤ w.heap.size := by have := World.block_lt_of_cell? _ _ h.c0; have := h.new; simp at *; omega
  have hr := hraw p
  generalize rawAt raw p = r at *
  obtain ⟨⟨r1, r2⟩, r3, r4⟩ := hr
  have HPK := Lib.hid (picked_any r.1 16 · r1 r2 (by omega) (by omega))
  have hkb := pk_bd r.1 16 (by omega)
  have e0 : ((d : Int) + 1 == 0) = false := by rw [beq_eq_false_iff_ne]; omega
  have e1 : (0 : Int) ≤ d := by omega
  have hpI : ¬ (12 : Int) < (p : Int) + 1 := by omega
  rw [hsel] at HPK hkb
  obtain ⟨hkb1, hkb2⟩ := hkb
  clear hsel
  have hl8 : ¬ (8 : Int) < kk := by omega
  have hfl : (fLeaf r props).flat = [(13, pk r.2 props)] := by unfold fLeaf; rw [if_pos hv]; rfl
  have HFL := Lib.hid hfl
  have HS := Lib.hid (fun wx : World => still_of (picked_any r.2 props wx r3 r4 hv (by omega)))
  clear hfl
  go_enter Tryd.func12, Tryd.ntmps12
  go_wp2_with fail
  refine TK.out.mono ?_
  rintro e w1 ⟨rfl, g1, b1⟩
  have hg1 := g1.ext ((Ext.refl w1).alloc (Nat.le_refl _) (Obj.cells #[.int .i64 r.1, .int .i64 r.2] 57))
  have hb2 : Below B w (w1.alloc (Obj.cells #[.int .i64 r.1, .int .i64 r.2] 57)) := b1.alloc (by have := b1.size; omega) _
  have q0 : (w1.alloc (Obj.cells #[.int .i64 r.1, .int .i64 r.2] 57)).cell? ⟨w1.heap.size, 0, none⟩ = some (.int .i64 r.1) := by simp [go_sem]
  have q1 : (w1.alloc (Obj.cells #[.int .i64 r.1, .int .i64 r.2] 57)).cell? ⟨w1.heap.size, 1, none⟩ = some (.int .i64 r.2) := by simp [go_sem]
  have c1 := hg1.c1
  have c3 := hg1.c3
  have c4 := hg1.c4
  have f4 := hg1.fz 4
  have HG1 := Lib.hid hg1
  have HB2 := Lib.hid hb2
  clear TK g1 b1 hg1 hb2
  go_wp2_with fail
  refine (HPK.out _).mono ?_
  rintro e w' ⟨rfl, rfl⟩
  go_wp2_with fail
  refine region_tail 8 (by kernel_rfl) (by kernel_rfl) ?_
  generalize (w1.alloc (Obj.cells #[.int .i64 r.1, .int .i64 r.2] 57)) = W at *
  have hg1' := HG1.out.ext (Below.drew (Ext.refl W))
  have hb1' := HB2.out.drew
  have q1' : W.drew.cell? ⟨w1.heap.size, 1, none⟩ = some (.int .i64 r.2) := q1
  have c3' : W.drew.cell? ⟨G, 3, none⟩ = some (.int .i64 props) := c3
  have HG1' := Lib.hid hg1'
  have HB1' := Lib.hid hb1'
  clear HG1 HB2 q0 q1 c1 c3 c4 f4 hg1' hb1'
  generalize W.drew = Wd at *
  simp only [List.take_succ_cons, List.take_zero, List.drop_succ_cons, List.drop_zero]
  iterate 7 still_step
  still_call (HS.out Wd)
  refine wpStill_nil ?_
  go_wp2_with fail
  refine (put_op _ G B ar cr raw (p + 1) vars props t out _ _ HG1'.out (by omega)).mono ?_
  rintro e w2 ⟨rfl, hg2, hb3⟩
  have HG2 := Lib.hid hg2
  have HB3 := Lib.hid (HB1'.out.trans hb3)
  clear hg2 hb3
  go_wp2
  go_end0
  exact FMade.mk rfl HG2.out HB3.out rfl rfl (by rw [HFL.out])
set_option maxRecDepth 100000 in
set_option maxHeartbeats 2000000 in
theorem formula_ah2 (h : Gr w G B ar cr raw p vars props (t : Int) out) (hraw : RawF raw) (d : Nat) (hd : d ≤ 5) (hp12 : p < 12) (ho : out.length + 100 * (d + 1) ≤ 700) (htb : t ≤ 1000) (kk : Int) (hsel : pk (rawAt raw p).1 16 = kk) (hk13 : 13 ≤ kk) (ht : t ≠ 0)
    (ih : ∀ (w : World) (p : Nat) (t : Nat) (out : List Op2), Gr w G B ar cr raw p vars props (t : Int) out → p ≤ 14 + d + 30 → out.length + 100 * d ≤ 700 → t ≤ 1000 → Calls Tryd.prog 12 #[.pointer (some ⟨G, 0, none⟩), .int .i64 d] w (FMade w G B ar cr raw vars props out (fT raw props d p t)))
    : Calls Tryd.prog 12 #[.pointer (some ⟨G, 0, none⟩), .int .i64 ((d + 1 : Nat) : Int)] w (FMade w G B ar cr raw vars props out (.n2 (15 + kk % 2) 0 (fT raw props d (p + 1) (t - 1)).1 (fT raw props d (fT raw props d (p + 1) (t - 1)).2.1 (fT raw props d (p + 1) (t - 1)).2.2).1, (fT raw props d (fT raw props d (p + 1) (t - 1)).2.1 (fT raw props d (p + 1) (t - 1)).2.2).2)) := by
  have TK := Lib.hid (take_any w G B ar cr raw p vars props t out h (by omega))
  have hBw : B ≤ w.heap.size := by have := World.block_lt_of_cell? _ _ h.c0; have := h.new; simp at *; omega
  have hr := hraw p
  have hz1 := fT_end raw props d (p + 1) (t - 1)
  have hz2 := fT_size raw props d (p + 1) (t - 1)
  have hz5 := Tm.flat_len (fT raw props d (p + 1) (t - 1)).1
  have ih1 := fun w' out' g h1 h2 => ih w' (p + 1) (t - 1) out' g h1 h2 (by omega)
  have hz6 := fT_cnt raw props d (p + 1) (t - 1)
  have ih2 := fun w' out' g h1 h2 => ih w' (fT raw props d (p + 1) (t - 1)).2.1 (fT raw props d (p + 1) (t - 1)).2.2 out' g h1 h2 (by omega)
  generalize fT raw props d (p + 1) (t - 1) = t1 at *
  generalize fT raw props d t1.2.1 t1.2.2 = t2 at *
  obtain ⟨tm1, p1, n1⟩ := t1
  obtain ⟨tm2, p2, n2⟩ := t2
  simp only at hz1 hz2 hz5 ih1 ih2
  have IH2 := Lib.hid ih2
  clear ih2
  have HZ1 := Lib.hid (show p1 ≤ 14 + d + 30 by omega)
  have HZ5 := Lib.hid (show tm1.flat.length ≤ 20 by omega)
  have IH1 := Lib.hid ih1
  clear ih1 hz1 hz2 hz5 hz6 ih
  generalize rawAt raw p = r at *
  obtain ⟨⟨r1, r2⟩, r3, r4⟩ := hr
  have HPK := Lib.hid (picked_any r.1 16 · r1 r2 (by omega) (by omega))
  have hkb := pk_bd r.1 16 (by omega)
  have e0 : ((d : Int) + 1 == 0) = false := by rw [beq_eq_false_iff_ne]; omega
  have e1 : (0 : Int) ≤ d := by omega
  have hpI : ¬ (12 : Int) < (p : Int) + 1 := by omega
  rw [hsel] at HPK hkb
  obtain ⟨hkb1, hkb2⟩ := hkb
  clear hsel
  have hl4 : ¬ kk < 4 := by omega
  have hl6 : ¬ kk < 6 := by omega
  have hl9 : ¬ kk < 9 := by omega
  have hl8 : (8 : Int) < kk := by omega
  have htI : ((t : Int) == 0) = false := by rw [beq_eq_false_iff_ne]; omega
  have htm : (t : Int) - 1 = ((t - 1 : Nat) : Int) := by omega
  have hwt : IntKind.i64.wrap ((t : Int) - 1) = ((t - 1 : Nat) : Int) := by rw [htm]; exact IntWalk.i64_in _ (by omega)
  have hl13 : ¬ kk < 13 := by omega
  have hm2 : kk.tmod 2 = kk % 2 := Int.tmod_eq_emod_of_nonneg (by omega)
  have hw2 : IntKind.i64.wrap ((15 : Int) + kk % 2) = 15 + kk % 2 := IntWalk.i64_in _ (by omega)
  go_enter Tryd.func12, Tryd.ntmps12
  go_wp2_with fail
  refine TK.out.mono ?_
  rintro e w1 ⟨rfl, g1, b1⟩
  have hg1 := g1.ext ((Ext.refl w1).alloc (Nat.le_refl _) (Obj.cells #[.int .i64 r.1, .int .i64 r.2] 57))
  have hb2 : Below B w (w1.alloc (Obj.cells #[.int .i64 r.1, .int .i64 r.2] 57)) := b1.alloc (by have := b1.size; omega) _
  have q0 : (w1.alloc (Obj.cells #[.int .i64 r.1, .int .i64 r.2] 57)).cell? ⟨w1.heap.size, 0, none⟩ = some (.int .i64 r.1) := by simp [go_sem]
  have q1 : (w1.alloc (Obj.cells #[.int .i64 r.1, .int .i64 r.2] 57)).cell? ⟨w1.heap.size, 1, none⟩ = some (.int .i64 r.2) := by simp [go_sem]
  have c1 := hg1.c1
  have c3 := hg1.c3
  have c4 := hg1.c4
  have f4 := hg1.fz 4
  have HG1 := Lib.hid hg1
  have HB2 := Lib.hid hb2
  clear TK g1 b1 hg1 hb2
  go_wp2_with fail
  refine (HPK.out _).mono ?_
  rintro e w' ⟨rfl, rfl⟩
  have hgt := HG1.out.tempo' ((t - 1 : Nat) : Int)
  have hbt := HB2.out.setCell (p := ⟨G, 4, none⟩) HG1.out.new (.int .i64 ((t - 1 : Nat) : Int))
  have HGT := Lib.hid hgt
  have HBT := Lib.hid hbt
  clear hgt hbt
  go_wp2_with fail
  refine (put_op _ G B ar cr raw (p + 1) vars props ((t - 1 : Nat) : Int) out _ _ HGT.out (by omega)).mono ?_
  rintro e w2 ⟨rfl, hg2, hb3⟩
  have HG2 := Lib.hid hg2
  have HB3 := Lib.hid (HBT.out.trans hb3)
  clear hg2 hb3
  go_wp2_with fail
  refine (IH1.out w2 _ HG2.out (by omega) (by simp; omega)).mono ?_
  rintro e w3 ⟨rfl, hg3, hb4⟩
  have HG3 := Lib.hid hg3
  have HB4 := Lib.hid (HB3.out.trans hb4)
  clear hg3 hb4 HG2 HB3
  go_wp2_with fail
  refine (IH2.out w3 _ HG3.out HZ1.out (by have := HZ5.out; simp at this ⊢; omega)).mono ?_
  rintro e w4 ⟨rfl, hg4, hb5⟩
  have HG4 := Lib.hid hg4
  have HB5 := Lib.hid (HB4.out.trans hb5)
  clear hg4 hb5 HG3 HB4
  go_wp2
  go_end0
  exact FMade.mk rfl HG4.out HB5.out rfl rfl (by simp [Tm.flat])
set_option maxRecDepth 100000 in
set_option maxHeartbeats 2000000 in
theorem formula_ah1 (h : Gr w G B ar cr raw p vars props (t : Int) out) (hraw : RawF raw) (d : Nat) (hd : d ≤ 5) (hp12 : p < 12) (ho : out.length + 100 * (d + 1) ≤ 700) (htb : t ≤ 1000) (kk : Int) (hsel : pk (rawAt raw p).1 16 = kk) (hk9 : 9 ≤ kk) (hk13 : kk < 13) (ht : t ≠ 0)
    (ih : ∀ (w : World) (p : Nat) (t : Nat) (out : List Op2), Gr w G B ar cr raw p vars props (t : Int) out → p ≤ 14 + d + 30 → out.length + 100 * d ≤ 700 → t ≤ 1000 → Calls Tryd.prog 12 #[.pointer (some ⟨G, 0, none⟩), .int .i64 d] w (FMade w G B ar cr raw vars props out (fT raw props d p t)))
    : Calls Tryd.prog 12 #[.pointer (some ⟨G, 0, none⟩), .int .i64 ((d + 1 : Nat) : Int)] w (FMade w G B ar cr raw vars props out (.n1 (aheadK kk) 0 (fT raw props d (p + 1) (t - 1)).1, (fT raw props d (p + 1) (t - 1)).2)) := by
  have TK := Lib.hid (take_any w G B ar cr raw p vars props t out h (by omega))
  have hBw : B ≤ w.heap.size := by have := World.block_lt_of_cell? _ _ h.c0; have := h.new; simp at *; omega
  have hr := hraw p
  have hz1 := fT_end raw props d (p + 1) (t - 1)
  have hz2 := fT_size raw props d (p + 1) (t - 1)
  have hz5 := Tm.flat_len (fT raw props d (p + 1) (t - 1)).1
  have ih1 := fun w' out' g h1 h2 => ih w' (p + 1) (t - 1) out' g h1 h2 (by omega)
  have hz6 := fT_cnt raw props d (p + 1) (t - 1)
  generalize fT raw props d (p + 1) (t - 1) = t1 at *
  obtain ⟨tm1, p1, n1⟩ := t1
  simp only at hz1 hz2 hz5 ih1
  have HZ1 := Lib.hid (show p1 ≤ 14 + d + 30 by omega)
  have HZ5 := Lib.hid (show tm1.flat.length ≤ 20 by omega)
  have IH1 := Lib.hid ih1
  clear ih1 hz1 hz2 hz5 hz6 ih
  generalize rawAt raw p = r at *
  obtain ⟨⟨r1, r2⟩, r3, r4⟩ := hr
  have HPK := Lib.hid (picked_any r.1 16 · r1 r2 (by omega) (by omega))
  have hkb := pk_bd r.1 16 (by omega)
  have e0 : ((d : Int) + 1 == 0) = false := by rw [beq_eq_false_iff_ne]; omega
  have e1 : (0 : Int) ≤ d := by omega
  have hpI : ¬ (12 : Int) < (p : Int) + 1 := by omega
  rw [hsel] at HPK hkb
  obtain ⟨hkb1, hkb2⟩ := hkb
  clear hsel
  have htI : ((t : Int) == 0) = false := by rw [beq_eq_false_iff_ne]; omega
  have htm : (t : Int) - 1 = ((t - 1 : Nat) : Int) := by omega
  have hwt : IntKind.i64.wrap ((t : Int) - 1) = ((t - 1 : Nat) : Int) := by rw [htm]; exact IntWalk.i64_in _ (by omega)
  have hkv : kk = 9 ∨ kk = 10 ∨ kk = 11 ∨ kk = 12 := by omega
  clear hk9 hk13 hkb1 hkb2
  rcases hkv with rfl | rfl | rfl | rfl
  all_goals
    go_enter Tryd.func12, Tryd.ntmps12
    go_wp2_with fail
    refine TK.out.mono ?_
    rintro e w1 ⟨rfl, g1, b1⟩
    have hg1 := g1.ext ((Ext.refl w1).alloc (Nat.le_refl _) (Obj.cells #[.int .i64 r.1, .int .i64 r.2] 57))
    have hb2 : Below B w (w1.alloc (Obj.cells #[.int .i64 r.1, .int .i64 r.2] 57)) := b1.alloc (by have := b1.size; omega) _
    have q0 : (w1.alloc (Obj.cells #[.int .i64 r.1, .int .i64 r.2] 57)).cell? ⟨w1.heap.size, 0, none⟩ = some (.int .i64 r.1) := by simp [go_sem]
    have q1 : (w1.alloc (Obj.cells #[.int .i64 r.1, .int .i64 r.2] 57)).cell? ⟨w1.heap.size, 1, none⟩ = some (.int .i64 r.2) := by simp [go_sem]
    have c1 := hg1.c1
    have c3 := hg1.c3
    have c4 := hg1.c4
    have f4 := hg1.fz 4
    have HG1 := Lib.hid hg1
    have HB2 := Lib.hid hb2
    clear TK g1 b1 hg1 hb2
    go_wp2_with fail
    refine (HPK.out _).mono ?_
    rintro e w' ⟨rfl, rfl⟩
    have hgt := HG1.out.tempo' ((t - 1 : Nat) : Int)
    have hbt := HB2.out.setCell (p := ⟨G, 4, none⟩) HG1.out.new (.int .i64 ((t - 1 : Nat) : Int))
    have HGT := Lib.hid hgt
    have HBT := Lib.hid hbt
    clear hgt hbt
    go_wp2_with fail
    refine (put_op _ G B ar cr raw (p + 1) vars props ((t - 1 : Nat) : Int) out _ _ (HGT.out.ext ((Ext.refl _).alloc (Nat.le_refl _) _)) (by omega)).mono ?_
    rintro e w2 ⟨rfl, hg2, hb3⟩
    have HG2 := Lib.hid hg2
    have HB3 := Lib.hid ((HBT.out.alloc (by have := HBT.out.size; omega) _).trans hb3)
    clear hg2 hb3
    go_wp2_with fail
    refine (IH1.out w2 _ HG2.out (by omega) (by simp; omega)).mono ?_
    rintro e w3 ⟨rfl, hg3, hb4⟩
    have HG3 := Lib.hid hg3
    have HB4 := Lib.hid (HB3.out.trans hb4)
    clear hg3 hb4 HG2 HB3
    go_wp2
    go_end0
    exact FMade.mk rfl HG3.out HB4.out rfl rfl (by simp [Tm.flat, aheadK])
end
end Go.Proofs.YthkiegaifkkegaaDoor
