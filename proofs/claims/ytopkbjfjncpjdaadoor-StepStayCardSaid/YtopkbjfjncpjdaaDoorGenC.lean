/- GenC: what is needed of it. No condition. -/
import Derived.Test.YtopkbjfjncpjdaaDoorGenB
namespace Go.Proofs.YtopkbjfjncpjdaaDoor
open Go.RowKit
theorem number_one (w : World) (G B : Nat) (ar : Option Addr) (cr : Nat) (raw : List Op2) (p : Nat) (vars props tempo : Int) (out : List Op2) (h : Gr w G B ar cr raw p vars props tempo out)
    (hraw : RawI raw) (hp : p ≤ 800) (ho : out.length ≤ 800) (hv2 : vars ≤ 1000) :
    Calls Tryd.prog 19 #[.pointer (some ⟨G, 0, none⟩), .int .i64 1] w (Made w G B ar cr raw vars props tempo out (numT raw vars 1 p)) := by
  have := number_succ w G B ar cr raw p vars props tempo out h hraw 1000 (by omega) (by omega) hv2 0 (by omega) (by omega) (fun q => by simp [numT, numLeaf_size]) (fun w p out h h1 h2 => number_zero w G B ar cr raw p vars props tempo out h hraw h1 h2 hv2)
  simpa using this
theorem number_two (w : World) (G B : Nat) (ar : Option Addr) (cr : Nat) (raw : List Op2) (p : Nat) (vars props tempo : Int) (out : List Op2) (h : Gr w G B ar cr raw p vars props tempo out)
    (hraw : RawI raw) (hp : p ≤ 600) (ho : out.length ≤ 600) (hv2 : vars ≤ 1000) :
    Calls Tryd.prog 19 #[.pointer (some ⟨G, 0, none⟩), .int .i64 2] w (Made w G B ar cr raw vars props tempo out (numT raw vars 2 p)) := by
  have := number_succ w G B ar cr raw p vars props tempo out h hraw 800 (by omega) (by omega) hv2 1 (by omega) (by omega) (fun q => by have := (numT_one raw vars q).1; omega) (fun w p out h h1 h2 => number_one w G B ar cr raw p vars props tempo out h hraw h1 h2 hv2)
  simpa using this
set_option maxRecDepth 100000 in
set_option maxHeartbeats 2000000 in
theorem truth_z0 (w : World) (G B : Nat) (ar : Option Addr) (cr : Nat) (raw : List Op2) (p : Nat) (vars props tempo : Int) (out : List Op2) (h : Gr w G B ar cr raw p vars props tempo out)
    (hraw : RawI raw) (_hp : p ≤ 700) (ho : out.length ≤ 700) (_hv2 : vars ≤ 1000) (kk : Int) (hk : pk (rawAt raw p).1 3 = kk) (hk2 : kk = 0) :
    Calls Tryd.prog 18 #[.pointer (some ⟨G, 0, none⟩), .int .i64 0] w (Made w G B ar cr raw vars props tempo out (.n0 (11 + pk (rawAt raw p).2 2) 0, p + 1)) := by
  have TK := Lib.hid (take_any w G B ar cr raw p vars props tempo out h (by omega))
  have hBw : B ≤ w.heap.size := by have := World.block_lt_of_cell? _ _ h.c0; have := h.new; simp at *; omega
  have hr := hraw p
  generalize rawAt raw p = r at *
  obtain ⟨⟨r1, r2⟩, r3, r4⟩ := hr
  have hx2 := pk_bd r.2 2 (by omega)
  obtain ⟨x1, x2⟩ := hx2
  have HP9 := Lib.hid (pk_bd r.1 9 (by omega))
  have HP3 := Lib.hid (pk_bd r.1 3 (by omega))
  have hkb : 0 ≤ kk ∧ kk < 3 := by rw [← hk]; exact HP3.out
  obtain ⟨hkb1, hkb2⟩ := hkb
  subst hk2
  go_enter Tryd.func18, Tryd.ntmps18
  go_wp2_with fail
  refine TK.out.mono ?_
  rintro e w1 ⟨rfl, g1, b1⟩
  have hg1 := g1.ext ((Ext.refl w1).alloc (Nat.le_refl _) (Obj.cells #[.int .i64 r.1, .int .i64 r.2] 71))
  have hb1 : Below B w (w1.alloc (Obj.cells #[.int .i64 r.1, .int .i64 r.2] 71)) := b1.alloc (by have := b1.size; omega) _
  have q0 : (w1.alloc (Obj.cells #[.int .i64 r.1, .int .i64 r.2] 71)).cell? ⟨w1.heap.size, 0, none⟩ = some (.int .i64 r.1) := by simp [go_sem]
  have q1 : (w1.alloc (Obj.cells #[.int .i64 r.1, .int .i64 r.2] 71)).cell? ⟨w1.heap.size, 1, none⟩ = some (.int .i64 r.2) := by simp [go_sem]
  have c1 := hg1.c1
  clear TK g1 b1
  go_wp2_with fail
  refine (picked_any r.1 9 _ r1 r2 (by omega) (by omega)).mono ?_
  rintro e w' ⟨rfl, rfl⟩
  go_wp2_with fail
  refine (picked_any r.1 3 _ r1 r2 (by omega) (by omega)).mono ?_
  rintro e w' ⟨rfl, rfl⟩
  go_wp2_with fail
  refine (picked_any r.2 2 _ r3 r4 (by omega) (by omega)).mono ?_
  rintro e w' ⟨rfl, rfl⟩
  go_wp2_with fail
  refine (put_op _ G B ar cr raw (p + 1) vars props tempo out _ _ hg1 (by omega)).mono ?_
  rintro e w2 ⟨rfl, hg2, hb2⟩
  go_wp2
  go_end0
  exact Made.mk rfl hg2 ((hb1.trans hb2)) rfl (by simp [Tm.flat])
set_option maxRecDepth 100000 in
set_option maxHeartbeats 2000000 in
theorem truth_zc (w : World) (G B : Nat) (ar : Option Addr) (cr : Nat) (raw : List Op2) (p : Nat) (vars props tempo : Int) (out : List Op2) (h : Gr w G B ar cr raw p vars props tempo out)
    (hraw : RawI raw) (_hp : p ≤ 700) (ho : out.length ≤ 700) (hv2 : vars ≤ 1000) (kk : Int) (hk : pk (rawAt raw p).1 3 = kk) (hk2 : 1 ≤ kk) :
    Calls Tryd.prog 18 #[.pointer (some ⟨G, 0, none⟩), .int .i64 0] w (Made w G B ar cr raw vars props tempo out (cmpT raw vars kk p)) := by
  have TK := Lib.hid (take_any w G B ar cr raw p vars props tempo out h (by omega))
  have hBw : B ≤ w.heap.size := by have := World.block_lt_of_cell? _ _ h.c0; have := h.new; simp at *; omega
  have hr := hraw p
  have NUM1 := Lib.hid (fun (w' : World) (out' : List Op2) (g : Gr w' G B ar cr raw (p + 1) vars props tempo out') (h2 : out'.length ≤ 800) => number_one w' G B ar cr raw (p + 1) vars props tempo out' g hraw (by omega) h2 hv2)
  have NUM2 := Lib.hid (fun (w' : World) (out' : List Op2) (g : Gr w' G B ar cr raw (numT raw vars 1 (p + 1)).2 vars props tempo out') (h2 : out'.length ≤ 800) => number_one w' G B ar cr raw (numT raw vars 1 (p + 1)).2 vars props tempo out' g hraw (by have := numT_size raw vars 1 (p + 1); have := (numT_one raw vars (p + 1)).1; omega) h2 hv2)
  have hz1 := (numT_one raw vars (p + 1)).1
  have hz5 := Tm.flat_len (numT raw vars 1 (p + 1)).1
  have hfin : cmpT raw vars kk p = (.n2 (6 + kk % 2) 0 (numT raw vars 1 (p + 1)).1 (numT raw vars 1 (numT raw vars 1 (p + 1)).2).1, (numT raw vars 1 (numT raw vars 1 (p + 1)).2).2) := rfl
  rw [hfin]
  clear hfin
  generalize numT raw vars 1 (p + 1) = t1 at *
  generalize numT raw vars 1 t1.2 = t2 at *
  obtain ⟨tm1, p1⟩ := t1
  obtain ⟨tm2, p2⟩ := t2
  simp only at hz1 hz5
  have HZ5 := Lib.hid hz5
  clear hz5
  generalize rawAt raw p = r at *
  obtain ⟨⟨r1, r2⟩, r3, r4⟩ := hr
  have hx2 := pk_bd r.2 2 (by omega)
  obtain ⟨x1, x2⟩ := hx2
  have HP9 := Lib.hid (pk_bd r.1 9 (by omega))
  have HP3 := Lib.hid (pk_bd r.1 3 (by omega))
  have hkb : 0 ≤ kk ∧ kk < 3 := by rw [← hk]; exact HP3.out
  obtain ⟨hkb1, hkb2⟩ := hkb
  have hv : kk = 1 ∨ kk = 2 := by omega
  rcases hv with rfl | rfl
  all_goals
    go_enter Tryd.func18, Tryd.ntmps18
    go_wp2_with fail
    refine TK.out.mono ?_
    rintro e w1 ⟨rfl, g1, b1⟩
    have hg1 := g1.ext ((Ext.refl w1).alloc (Nat.le_refl _) (Obj.cells #[.int .i64 r.1, .int .i64 r.2] 71))
    have hb1 : Below B w (w1.alloc (Obj.cells #[.int .i64 r.1, .int .i64 r.2] 71)) := b1.alloc (by have := b1.size; omega) _
    have q0 : (w1.alloc (Obj.cells #[.int .i64 r.1, .int .i64 r.2] 71)).cell? ⟨w1.heap.size, 0, none⟩ = some (.int .i64 r.1) := by simp [go_sem]
    have q1 : (w1.alloc (Obj.cells #[.int .i64 r.1, .int .i64 r.2] 71)).cell? ⟨w1.heap.size, 1, none⟩ = some (.int .i64 r.2) := by simp [go_sem]
    have c1 := hg1.c1
    clear TK g1 b1
    go_wp2_with fail
    refine (picked_any r.1 9 _ r1 r2 (by omega) (by omega)).mono ?_
    rintro e w' ⟨rfl, rfl⟩
    go_wp2_with fail
    refine (picked_any r.1 3 _ r1 r2 (by omega) (by omega)).mono ?_
    rintro e w' ⟨rfl, rfl⟩
    go_wp2_with fail
    refine (put_op _ G B ar cr raw (p + 1) vars props tempo out _ _ hg1 (by omega)).mono ?_
    rintro e w2 ⟨rfl, hg2, hb2⟩
    go_wp2_with fail
    refine (NUM1.out w2 _ hg2 (by simp; omega)).mono ?_
    rintro e w3 ⟨rfl, hg3, hb3⟩
    go_wp2_with fail
    refine (NUM2.out w3 _ hg3 (by have := HZ5.out; simp at this ⊢; omega)).mono ?_
    rintro e w4 ⟨rfl, hg4, hb4⟩
    go_wp2
    go_end0
    exact Made.mk rfl hg4 (((hb1.trans hb2).trans hb3).trans hb4) rfl (by simp [Tm.flat])
set_option maxRecDepth 100000 in
set_option maxHeartbeats 2000000 in
theorem truth_a0 (w : World) (G B : Nat) (ar : Option Addr) (cr : Nat) (raw : List Op2) (p : Nat) (vars props tempo : Int) (out : List Op2) (h : Gr w G B ar cr raw p vars props tempo out)
    (hraw : RawI raw) (d : Nat) (hd : d ≤ 10) (hc : 10 < p + 1) (_hp : p + 100 * (d + 1) ≤ 700) (ho : out.length + 100 * (d + 1) ≤ 700) (_hv2 : vars ≤ 1000) (kk : Int) (hk : pk (rawAt raw p).1 3 = kk) (hk2 : kk = 0) :
    Calls Tryd.prog 18 #[.pointer (some ⟨G, 0, none⟩), .int .i64 ((d + 1 : Nat) : Int)] w (Made w G B ar cr raw vars props tempo out (.n0 (11 + pk (rawAt raw p).2 2) 0, p + 1)) := by
  have TK := Lib.hid (take_any w G B ar cr raw p vars props tempo out h (by omega))
  have hBw : B ≤ w.heap.size := by have := World.block_lt_of_cell? _ _ h.c0; have := h.new; simp at *; omega
  have hr := hraw p
  generalize rawAt raw p = r at *
  obtain ⟨⟨r1, r2⟩, r3, r4⟩ := hr
  have hx2 := pk_bd r.2 2 (by omega)
  obtain ⟨x1, x2⟩ := hx2
  have HP9 := Lib.hid (pk_bd r.1 9 (by omega))
  have HP3 := Lib.hid (pk_bd r.1 3 (by omega))
  have e0 : ((d : Int) + 1 == 0) = false := by rw [beq_eq_false_iff_ne]; omega
  have e1 : (0 : Int) ≤ d := by omega
  have hkb : 0 ≤ kk ∧ kk < 3 := by rw [← hk]; exact HP3.out
  obtain ⟨hkb1, hkb2⟩ := hkb
  subst hk2
  go_enter Tryd.func18, Tryd.ntmps18
  go_wp2_with fail
  refine TK.out.mono ?_
  rintro e w1 ⟨rfl, g1, b1⟩
  have hg1 := g1.ext ((Ext.refl w1).alloc (Nat.le_refl _) (Obj.cells #[.int .i64 r.1, .int .i64 r.2] 71))
  have hb1 : Below B w (w1.alloc (Obj.cells #[.int .i64 r.1, .int .i64 r.2] 71)) := b1.alloc (by have := b1.size; omega) _
  have q0 : (w1.alloc (Obj.cells #[.int .i64 r.1, .int .i64 r.2] 71)).cell? ⟨w1.heap.size, 0, none⟩ = some (.int .i64 r.1) := by simp [go_sem]
  have q1 : (w1.alloc (Obj.cells #[.int .i64 r.1, .int .i64 r.2] 71)).cell? ⟨w1.heap.size, 1, none⟩ = some (.int .i64 r.2) := by simp [go_sem]
  have c1 := hg1.c1
  clear TK g1 b1
  go_wp2_with fail
  refine (picked_any r.1 9 _ r1 r2 (by omega) (by omega)).mono ?_
  rintro e w' ⟨rfl, rfl⟩
  go_wp2_with fail
  refine (picked_any r.1 3 _ r1 r2 (by omega) (by omega)).mono ?_
  rintro e w' ⟨rfl, rfl⟩
  go_wp2_with fail
  refine (picked_any r.2 2 _ r3 r4 (by omega) (by omega)).mono ?_
  rintro e w' ⟨rfl, rfl⟩
  go_wp2_with fail
  refine (put_op _ G B ar cr raw (p + 1) vars props tempo out _ _ hg1 (by omega)).mono ?_
  rintro e w2 ⟨rfl, hg2, hb2⟩
  go_wp2
  go_end0
  exact Made.mk rfl hg2 ((hb1.trans hb2)) rfl (by simp [Tm.flat])
set_option maxRecDepth 100000 in
set_option maxHeartbeats 2000000 in
theorem truth_ac (w : World) (G B : Nat) (ar : Option Addr) (cr : Nat) (raw : List Op2) (p : Nat) (vars props tempo : Int) (out : List Op2) (h : Gr w G B ar cr raw p vars props tempo out)
    (hraw : RawI raw) (d : Nat) (hd : d ≤ 10) (hc : 10 < p + 1) (_hp : p + 100 * (d + 1) ≤ 700) (ho : out.length + 100 * (d + 1) ≤ 700) (hv2 : vars ≤ 1000) (kk : Int) (hk : pk (rawAt raw p).1 3 = kk) (hk2 : 1 ≤ kk) :
    Calls Tryd.prog 18 #[.pointer (some ⟨G, 0, none⟩), .int .i64 ((d + 1 : Nat) : Int)] w (Made w G B ar cr raw vars props tempo out (cmpT raw vars kk p)) := by
  have TK := Lib.hid (take_any w G B ar cr raw p vars props tempo out h (by omega))
  have hBw : B ≤ w.heap.size := by have := World.block_lt_of_cell? _ _ h.c0; have := h.new; simp at *; omega
  have hr := hraw p
  have NUM1 := Lib.hid (fun (w' : World) (out' : List Op2) (g : Gr w' G B ar cr raw (p + 1) vars props tempo out') (h2 : out'.length ≤ 800) => number_one w' G B ar cr raw (p + 1) vars props tempo out' g hraw (by omega) h2 hv2)
  have NUM2 := Lib.hid (fun (w' : World) (out' : List Op2) (g : Gr w' G B ar cr raw (numT raw vars 1 (p + 1)).2 vars props tempo out') (h2 : out'.length ≤ 800) => number_one w' G B ar cr raw (numT raw vars 1 (p + 1)).2 vars props tempo out' g hraw (by have := numT_size raw vars 1 (p + 1); have := (numT_one raw vars (p + 1)).1; omega) h2 hv2)
  have hz1 := (numT_one raw vars (p + 1)).1
  have hz5 := Tm.flat_len (numT raw vars 1 (p + 1)).1
  have hfin : cmpT raw vars kk p = (.n2 (6 + kk % 2) 0 (numT raw vars 1 (p + 1)).1 (numT raw vars 1 (numT raw vars 1 (p + 1)).2).1, (numT raw vars 1 (numT raw vars 1 (p + 1)).2).2) := rfl
  rw [hfin]
  clear hfin
  generalize numT raw vars 1 (p + 1) = t1 at *
  generalize numT raw vars 1 t1.2 = t2 at *
  obtain ⟨tm1, p1⟩ := t1
  obtain ⟨tm2, p2⟩ := t2
  simp only at hz1 hz5
  have HZ5 := Lib.hid hz5
  clear hz5
  generalize rawAt raw p = r at *
  obtain ⟨⟨r1, r2⟩, r3, r4⟩ := hr
  have hx2 := pk_bd r.2 2 (by omega)
  obtain ⟨x1, x2⟩ := hx2
  have HP9 := Lib.hid (pk_bd r.1 9 (by omega))
  have HP3 := Lib.hid (pk_bd r.1 3 (by omega))
  have e0 : ((d : Int) + 1 == 0) = false := by rw [beq_eq_false_iff_ne]; omega
  have e1 : (0 : Int) ≤ d := by omega
  have hkb : 0 ≤ kk ∧ kk < 3 := by rw [← hk]; exact HP3.out
  obtain ⟨hkb1, hkb2⟩ := hkb
  have hv : kk = 1 ∨ kk = 2 := by omega
  rcases hv with rfl | rfl
  all_goals
    go_enter Tryd.func18, Tryd.ntmps18
    go_wp2_with fail
    refine TK.out.mono ?_
    rintro e w1 ⟨rfl, g1, b1⟩
    have hg1 := g1.ext ((Ext.refl w1).alloc (Nat.le_refl _) (Obj.cells #[.int .i64 r.1, .int .i64 r.2] 71))
    have hb1 : Below B w (w1.alloc (Obj.cells #[.int .i64 r.1, .int .i64 r.2] 71)) := b1.alloc (by have := b1.size; omega) _
    have q0 : (w1.alloc (Obj.cells #[.int .i64 r.1, .int .i64 r.2] 71)).cell? ⟨w1.heap.size, 0, none⟩ = some (.int .i64 r.1) := by simp [go_sem]
    have q1 : (w1.alloc (Obj.cells #[.int .i64 r.1, .int .i64 r.2] 71)).cell? ⟨w1.heap.size, 1, none⟩ = some (.int .i64 r.2) := by simp [go_sem]
    have c1 := hg1.c1
    clear TK g1 b1
    go_wp2_with fail
    refine (picked_any r.1 9 _ r1 r2 (by omega) (by omega)).mono ?_
    rintro e w' ⟨rfl, rfl⟩
    go_wp2_with fail
    refine (picked_any r.1 3 _ r1 r2 (by omega) (by omega)).mono ?_
    rintro e w' ⟨rfl, rfl⟩
    go_wp2_with fail
    refine (put_op _ G B ar cr raw (p + 1) vars props tempo out _ _ hg1 (by omega)).mono ?_
    rintro e w2 ⟨rfl, hg2, hb2⟩
    go_wp2_with fail
    refine (NUM1.out w2 _ hg2 (by simp; omega)).mono ?_
    rintro e w3 ⟨rfl, hg3, hb3⟩
    go_wp2_with fail
    refine (NUM2.out w3 _ hg3 (by have := HZ5.out; simp at this ⊢; omega)).mono ?_
    rintro e w4 ⟨rfl, hg4, hb4⟩
    go_wp2
    go_end0
    exact Made.mk rfl hg4 (((hb1.trans hb2).trans hb3).trans hb4) rfl (by simp [Tm.flat])
set_option maxRecDepth 100000 in
set_option maxHeartbeats 2000000 in
theorem truth_b0 (w : World) (G B : Nat) (ar : Option Addr) (cr : Nat) (raw : List Op2) (p : Nat) (vars props tempo : Int) (out : List Op2) (h : Gr w G B ar cr raw p vars props tempo out)
    (hraw : RawI raw) (d : Nat) (hd : d ≤ 10) (hc : ¬ 10 < p + 1) (_hp : p + 100 * (d + 1) ≤ 700) (ho : out.length + 100 * (d + 1) ≤ 700) (_hv2 : vars ≤ 1000) (kk : Int) (hk : pk (rawAt raw p).1 9 = kk) (hk2 : kk = 0) :
    Calls Tryd.prog 18 #[.pointer (some ⟨G, 0, none⟩), .int .i64 ((d + 1 : Nat) : Int)] w (Made w G B ar cr raw vars props tempo out (.n0 (11 + pk (rawAt raw p).2 2) 0, p + 1)) := by
  have TK := Lib.hid (take_any w G B ar cr raw p vars props tempo out h (by omega))
  have hBw : B ≤ w.heap.size := by have := World.block_lt_of_cell? _ _ h.c0; have := h.new; simp at *; omega
  have hr := hraw p
  generalize rawAt raw p = r at *
  obtain ⟨⟨r1, r2⟩, r3, r4⟩ := hr
  have hx2 := pk_bd r.2 2 (by omega)
  obtain ⟨x1, x2⟩ := hx2
  have HP9 := Lib.hid (pk_bd r.1 9 (by omega))
  have HP3 := Lib.hid (pk_bd r.1 3 (by omega))
  have e0 : ((d : Int) + 1 == 0) = false := by rw [beq_eq_false_iff_ne]; omega
  have e1 : (0 : Int) ≤ d := by omega
  have hkb : 0 ≤ kk ∧ kk < 9 := by rw [← hk]; exact HP9.out
  obtain ⟨hkb1, hkb2⟩ := hkb
  subst hk2
  go_enter Tryd.func18, Tryd.ntmps18
  go_wp2_with fail
  refine TK.out.mono ?_
  rintro e w1 ⟨rfl, g1, b1⟩
  have hg1 := g1.ext ((Ext.refl w1).alloc (Nat.le_refl _) (Obj.cells #[.int .i64 r.1, .int .i64 r.2] 71))
  have hb1 : Below B w (w1.alloc (Obj.cells #[.int .i64 r.1, .int .i64 r.2] 71)) := b1.alloc (by have := b1.size; omega) _
  have q0 : (w1.alloc (Obj.cells #[.int .i64 r.1, .int .i64 r.2] 71)).cell? ⟨w1.heap.size, 0, none⟩ = some (.int .i64 r.1) := by simp [go_sem]
  have q1 : (w1.alloc (Obj.cells #[.int .i64 r.1, .int .i64 r.2] 71)).cell? ⟨w1.heap.size, 1, none⟩ = some (.int .i64 r.2) := by simp [go_sem]
  have c1 := hg1.c1
  clear TK g1 b1
  go_wp2_with fail
  refine (picked_any r.1 9 _ r1 r2 (by omega) (by omega)).mono ?_
  rintro e w' ⟨rfl, rfl⟩
  go_wp2_with fail
  refine (picked_any r.2 2 _ r3 r4 (by omega) (by omega)).mono ?_
  rintro e w' ⟨rfl, rfl⟩
  go_wp2_with fail
  refine (put_op _ G B ar cr raw (p + 1) vars props tempo out _ _ hg1 (by omega)).mono ?_
  rintro e w2 ⟨rfl, hg2, hb2⟩
  go_wp2
  go_end0
  exact Made.mk rfl hg2 ((hb1.trans hb2)) rfl (by simp [Tm.flat])
set_option maxRecDepth 100000 in
set_option maxHeartbeats 2000000 in
theorem truth_bc (w : World) (G B : Nat) (ar : Option Addr) (cr : Nat) (raw : List Op2) (p : Nat) (vars props tempo : Int) (out : List Op2) (h : Gr w G B ar cr raw p vars props tempo out)
    (hraw : RawI raw) (d : Nat) (hd : d ≤ 10) (hc : ¬ 10 < p + 1) (_hp : p + 100 * (d + 1) ≤ 700) (ho : out.length + 100 * (d + 1) ≤ 700) (hv2 : vars ≤ 1000) (kk : Int) (hk : pk (rawAt raw p).1 9 = kk) (hk2 : 1 ≤ kk) (hk3 : kk < 5) :
    Calls Tryd.prog 18 #[.pointer (some ⟨G, 0, none⟩), .int .i64 ((d + 1 : Nat) : Int)] w (Made w G B ar cr raw vars props tempo out (cmpT raw vars kk p)) := by
  have TK := Lib.hid (take_any w G B ar cr raw p vars props tempo out h (by omega))
  have hBw : B ≤ w.heap.size := by have := World.block_lt_of_cell? _ _ h.c0; have := h.new; simp at *; omega
  have hr := hraw p
  have NUM1 := Lib.hid (fun (w' : World) (out' : List Op2) (g : Gr w' G B ar cr raw (p + 1) vars props tempo out') (h2 : out'.length ≤ 800) => number_one w' G B ar cr raw (p + 1) vars props tempo out' g hraw (by omega) h2 hv2)
  have NUM2 := Lib.hid (fun (w' : World) (out' : List Op2) (g : Gr w' G B ar cr raw (numT raw vars 1 (p + 1)).2 vars props tempo out') (h2 : out'.length ≤ 800) => number_one w' G B ar cr raw (numT raw vars 1 (p + 1)).2 vars props tempo out' g hraw (by have := numT_size raw vars 1 (p + 1); have := (numT_one raw vars (p + 1)).1; omega) h2 hv2)
  have hz1 := (numT_one raw vars (p + 1)).1
  have hz5 := Tm.flat_len (numT raw vars 1 (p + 1)).1
  have hfin : cmpT raw vars kk p = (.n2 (6 + kk % 2) 0 (numT raw vars 1 (p + 1)).1 (numT raw vars 1 (numT raw vars 1 (p + 1)).2).1, (numT raw vars 1 (numT raw vars 1 (p + 1)).2).2) := rfl
  rw [hfin]
  clear hfin
  generalize numT raw vars 1 (p + 1) = t1 at *
  generalize numT raw vars 1 t1.2 = t2 at *
  obtain ⟨tm1, p1⟩ := t1
  obtain ⟨tm2, p2⟩ := t2
  simp only at hz1 hz5
  have HZ5 := Lib.hid hz5
  clear hz5
  generalize rawAt raw p = r at *
  obtain ⟨⟨r1, r2⟩, r3, r4⟩ := hr
  have hx2 := pk_bd r.2 2 (by omega)
  obtain ⟨x1, x2⟩ := hx2
  have HP9 := Lib.hid (pk_bd r.1 9 (by omega))
  have HP3 := Lib.hid (pk_bd r.1 3 (by omega))
  have e0 : ((d : Int) + 1 == 0) = false := by rw [beq_eq_false_iff_ne]; omega
  have e1 : (0 : Int) ≤ d := by omega
  have hkb : 0 ≤ kk ∧ kk < 9 := by rw [← hk]; exact HP9.out
  obtain ⟨hkb1, hkb2⟩ := hkb
  have hv : kk = 1 ∨ kk = 2 ∨ kk = 3 ∨ kk = 4 := by omega
  rcases hv with rfl | rfl | rfl | rfl
  all_goals
    go_enter Tryd.func18, Tryd.ntmps18
    go_wp2_with fail
    refine TK.out.mono ?_
    rintro e w1 ⟨rfl, g1, b1⟩
    have hg1 := g1.ext ((Ext.refl w1).alloc (Nat.le_refl _) (Obj.cells #[.int .i64 r.1, .int .i64 r.2] 71))
    have hb1 : Below B w (w1.alloc (Obj.cells #[.int .i64 r.1, .int .i64 r.2] 71)) := b1.alloc (by have := b1.size; omega) _
    have q0 : (w1.alloc (Obj.cells #[.int .i64 r.1, .int .i64 r.2] 71)).cell? ⟨w1.heap.size, 0, none⟩ = some (.int .i64 r.1) := by simp [go_sem]
    have q1 : (w1.alloc (Obj.cells #[.int .i64 r.1, .int .i64 r.2] 71)).cell? ⟨w1.heap.size, 1, none⟩ = some (.int .i64 r.2) := by simp [go_sem]
    have c1 := hg1.c1
    clear TK g1 b1
    go_wp2_with fail
    refine (picked_any r.1 9 _ r1 r2 (by omega) (by omega)).mono ?_
    rintro e w' ⟨rfl, rfl⟩
    go_wp2_with fail
    refine (put_op _ G B ar cr raw (p + 1) vars props tempo out _ _ hg1 (by omega)).mono ?_
    rintro e w2 ⟨rfl, hg2, hb2⟩
    go_wp2_with fail
    refine (NUM1.out w2 _ hg2 (by simp; omega)).mono ?_
    rintro e w3 ⟨rfl, hg3, hb3⟩
    go_wp2_with fail
    refine (NUM2.out w3 _ hg3 (by have := HZ5.out; simp at this ⊢; omega)).mono ?_
    rintro e w4 ⟨rfl, hg4, hb4⟩
    go_wp2
    go_end0
    exact Made.mk rfl hg4 (((hb1.trans hb2).trans hb3).trans hb4) rfl (by simp [Tm.flat])
set_option maxRecDepth 100000 in
set_option maxHeartbeats 2000000 in
theorem truth_b5 (w : World) (G B : Nat) (ar : Option Addr) (cr : Nat) (raw : List Op2) (p : Nat) (vars props tempo : Int) (out : List Op2) (h : Gr w G B ar cr raw p vars props tempo out)
    (hraw : RawI raw) (d : Nat) (hd : d ≤ 10) (hc : ¬ 10 < p + 1) (_hp : p + 100 * (d + 1) ≤ 700) (ho : out.length + 100 * (d + 1) ≤ 700) (_hv2 : vars ≤ 1000) (kk : Int) (hk : pk (rawAt raw p).1 9 = kk) (hk2 : kk = 5) (ih : ∀ (w : World) (p : Nat) (out : List Op2), Gr w G B ar cr raw p vars props tempo out → p + 100 * d ≤ 700 → out.length + 100 * d ≤ 700 → Calls Tryd.prog 18 #[.pointer (some ⟨G, 0, none⟩), .int .i64 d] w (Made w G B ar cr raw vars props tempo out (truT raw vars d p))) (hs : ∀ q, (truT raw vars d q).1.size ≤ 60) :
    Calls Tryd.prog 18 #[.pointer (some ⟨G, 0, none⟩), .int .i64 ((d + 1 : Nat) : Int)] w (Made w G B ar cr raw vars props tempo out (.n1 10 0 (truT raw vars d (p + 1)).1, (truT raw vars d (p + 1)).2)) := by
  have TK := Lib.hid (take_any w G B ar cr raw p vars props tempo out h (by omega))
  have hBw : B ≤ w.heap.size := by have := World.block_lt_of_cell? _ _ h.c0; have := h.new; simp at *; omega
  have hr := hraw p
  have hz1 := truT_size raw vars d (p + 1)
  have hz3 := hs (p + 1)
  have hz5 := Tm.flat_len (truT raw vars d (p + 1)).1
  have ih1 := fun w' out' g h1 h2 => ih w' (p + 1) out' g h1 h2
  generalize truT raw vars d (p + 1) = t1 at *
  obtain ⟨tm1, p1⟩ := t1
  simp only at hz1 hz3 hz5 ih1
  have IH1 := Lib.hid ih1
  have HZ1 := Lib.hid hz1
  have HZ5 := Lib.hid hz5
  clear ih1 hz1 hz5 ih hs
  generalize rawAt raw p = r at *
  obtain ⟨⟨r1, r2⟩, r3, r4⟩ := hr
  have hx2 := pk_bd r.2 2 (by omega)
  obtain ⟨x1, x2⟩ := hx2
  have HP9 := Lib.hid (pk_bd r.1 9 (by omega))
  have HP3 := Lib.hid (pk_bd r.1 3 (by omega))
  have e0 : ((d : Int) + 1 == 0) = false := by rw [beq_eq_false_iff_ne]; omega
  have e1 : (0 : Int) ≤ d := by omega
  have hkb : 0 ≤ kk ∧ kk < 9 := by rw [← hk]; exact HP9.out
  obtain ⟨hkb1, hkb2⟩ := hkb
  subst hk2
  go_enter Tryd.func18, Tryd.ntmps18
  go_wp2_with fail
  refine TK.out.mono ?_
  rintro e w1 ⟨rfl, g1, b1⟩
  have hg1 := g1.ext ((Ext.refl w1).alloc (Nat.le_refl _) (Obj.cells #[.int .i64 r.1, .int .i64 r.2] 71))
  have hb1 : Below B w (w1.alloc (Obj.cells #[.int .i64 r.1, .int .i64 r.2] 71)) := b1.alloc (by have := b1.size; omega) _
  have q0 : (w1.alloc (Obj.cells #[.int .i64 r.1, .int .i64 r.2] 71)).cell? ⟨w1.heap.size, 0, none⟩ = some (.int .i64 r.1) := by simp [go_sem]
  have q1 : (w1.alloc (Obj.cells #[.int .i64 r.1, .int .i64 r.2] 71)).cell? ⟨w1.heap.size, 1, none⟩ = some (.int .i64 r.2) := by simp [go_sem]
  have c1 := hg1.c1
  clear TK g1 b1
  go_wp2_with fail
  refine (picked_any r.1 9 _ r1 r2 (by omega) (by omega)).mono ?_
  rintro e w' ⟨rfl, rfl⟩
  go_wp2_with fail
  refine (put_op _ G B ar cr raw (p + 1) vars props tempo out _ _ hg1 (by omega)).mono ?_
  rintro e w2 ⟨rfl, hg2, hb2⟩
  go_wp2_with fail
  refine (IH1.out w2 _ hg2 (by omega) (by simp; omega)).mono ?_
  rintro e w3 ⟨rfl, hg3, hb3⟩
  go_wp2
  go_end0
  exact Made.mk rfl hg3 ((hb1.trans hb2).trans hb3) rfl (by simp [Tm.flat])
set_option maxRecDepth 100000 in
set_option maxHeartbeats 2000000 in
theorem truth_bb (w : World) (G B : Nat) (ar : Option Addr) (cr : Nat) (raw : List Op2) (p : Nat) (vars props tempo : Int) (out : List Op2) (h : Gr w G B ar cr raw p vars props tempo out)
    (hraw : RawI raw) (d : Nat) (hd : d ≤ 10) (hc : ¬ 10 < p + 1) (_hp : p + 100 * (d + 1) ≤ 700) (ho : out.length + 100 * (d + 1) ≤ 700) (_hv2 : vars ≤ 1000) (kk : Int) (hk : pk (rawAt raw p).1 9 = kk) (hk2 : 5 < kk) (ih : ∀ (w : World) (p : Nat) (out : List Op2), Gr w G B ar cr raw p vars props tempo out → p + 100 * d ≤ 700 → out.length + 100 * d ≤ 700 → Calls Tryd.prog 18 #[.pointer (some ⟨G, 0, none⟩), .int .i64 d] w (Made w G B ar cr raw vars props tempo out (truT raw vars d p))) (hs : ∀ q, (truT raw vars d q).1.size ≤ 60) :
    Calls Tryd.prog 18 #[.pointer (some ⟨G, 0, none⟩), .int .i64 ((d + 1 : Nat) : Int)] w (Made w G B ar cr raw vars props tempo out (.n2 (8 + kk % 2) 0 (truT raw vars d (p + 1)).1 (truT raw vars d (truT raw vars d (p + 1)).2).1, (truT raw vars d (truT raw vars d (p + 1)).2).2)) := by
  have TK := Lib.hid (take_any w G B ar cr raw p vars props tempo out h (by omega))
  have hBw : B ≤ w.heap.size := by have := World.block_lt_of_cell? _ _ h.c0; have := h.new; simp at *; omega
  have hr := hraw p
  have hz1 := truT_size raw vars d (p + 1)
  have hz3 := hs (p + 1)
  have hz5 := Tm.flat_len (truT raw vars d (p + 1)).1
  have ih1 := fun w' out' g h1 h2 => ih w' (p + 1) out' g h1 h2
  have ih2 := fun w' out' g h1 h2 => ih w' (truT raw vars d (p + 1)).2 out' g h1 h2
  generalize truT raw vars d (p + 1) = t1 at *
  generalize truT raw vars d t1.2 = t2 at *
  obtain ⟨tm1, p1⟩ := t1
  obtain ⟨tm2, p2⟩ := t2
  simp only at hz1 hz3 hz5 ih1 ih2
  have IH2 := Lib.hid ih2
  clear ih2
  have IH1 := Lib.hid ih1
  have HZ1 := Lib.hid hz1
  have HZ5 := Lib.hid hz5
  clear ih1 hz1 hz5 ih hs
  generalize rawAt raw p = r at *
  obtain ⟨⟨r1, r2⟩, r3, r4⟩ := hr
  have hx2 := pk_bd r.2 2 (by omega)
  obtain ⟨x1, x2⟩ := hx2
  have HP9 := Lib.hid (pk_bd r.1 9 (by omega))
  have HP3 := Lib.hid (pk_bd r.1 3 (by omega))
  have e0 : ((d : Int) + 1 == 0) = false := by rw [beq_eq_false_iff_ne]; omega
  have e1 : (0 : Int) ≤ d := by omega
  have hkb : 0 ≤ kk ∧ kk < 9 := by rw [← hk]; exact HP9.out
  obtain ⟨hkb1, hkb2⟩ := hkb
  have hv : kk = 6 ∨ kk = 7 ∨ kk = 8 := by omega
  rcases hv with rfl | rfl | rfl
  all_goals
    go_enter Tryd.func18, Tryd.ntmps18
    go_wp2_with fail
    refine TK.out.mono ?_
    rintro e w1 ⟨rfl, g1, b1⟩
    have hg1 := g1.ext ((Ext.refl w1).alloc (Nat.le_refl _) (Obj.cells #[.int .i64 r.1, .int .i64 r.2] 71))
    have hb1 : Below B w (w1.alloc (Obj.cells #[.int .i64 r.1, .int .i64 r.2] 71)) := b1.alloc (by have := b1.size; omega) _
    have q0 : (w1.alloc (Obj.cells #[.int .i64 r.1, .int .i64 r.2] 71)).cell? ⟨w1.heap.size, 0, none⟩ = some (.int .i64 r.1) := by simp [go_sem]
    have q1 : (w1.alloc (Obj.cells #[.int .i64 r.1, .int .i64 r.2] 71)).cell? ⟨w1.heap.size, 1, none⟩ = some (.int .i64 r.2) := by simp [go_sem]
    have c1 := hg1.c1
    clear TK g1 b1
    go_wp2_with fail
    refine (picked_any r.1 9 _ r1 r2 (by omega) (by omega)).mono ?_
    rintro e w' ⟨rfl, rfl⟩
    go_wp2_with fail
    refine (put_op _ G B ar cr raw (p + 1) vars props tempo out _ _ hg1 (by omega)).mono ?_
    rintro e w2 ⟨rfl, hg2, hb2⟩
    go_wp2_with fail
    refine (IH1.out w2 _ hg2 (by omega) (by simp; omega)).mono ?_
    rintro e w3 ⟨rfl, hg3, hb3⟩
    go_wp2_with fail
    refine (IH2.out w3 _ hg3 (by have := HZ1.out; omega) (by have := HZ5.out; simp at this ⊢; omega)).mono ?_
    rintro e w4 ⟨rfl, hg4, hb4⟩
    go_wp2
    go_end0
    exact Made.mk rfl hg4 (((hb1.trans hb2).trans hb3).trans hb4) rfl (by simp [Tm.flat])
end Go.Proofs.YtopkbjfjncpjdaaDoor
