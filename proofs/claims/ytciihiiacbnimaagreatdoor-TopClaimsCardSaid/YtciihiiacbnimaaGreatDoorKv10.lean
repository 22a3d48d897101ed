/- Several texts in one: GenC; GenD; RawT; Join; JoinG; ExpA; TruP; WordP; SettleP; RowP; WordQ. No condition. -/
import Derived.Test.YtciihiiacbnimaaGreatDoorKv9
import Derived.Test.YtciihiiacbnimaaGreatDoorKv2
namespace Go.Proofs.YtciihiiacbnimaaGreatDoor
open Go.RowKit
theorem number_one (w : World) (G B : Nat) (ar : Option Addr) (cr : Nat) (raw : List Op2) (p : Nat) (vars props tempo : Int) (out : List Op2) (h : Gr w G B ar cr raw p vars props tempo out)
    (hraw : RawI raw) (hp : p ≤ 800) (ho : out.length ≤ 800) (hv2 : vars ≤ 1000) :
    Calls Tryz.prog 57 #[.pointer (some ⟨G, 0, none⟩), .int .i64 1] w (Made w G B ar cr raw vars props tempo out (numT raw vars 1 p)) := by
  have := number_succ w G B ar cr raw p vars props tempo out h hraw 1000 (by omega) (by omega) hv2 0 (by omega) (by omega) (fun q => by simp [numT, numLeaf_size]) (fun w p out h h1 h2 => number_zero w G B ar cr raw p vars props tempo out h hraw h1 h2 hv2)
  simpa using this
theorem number_two (w : World) (G B : Nat) (ar : Option Addr) (cr : Nat) (raw : List Op2) (p : Nat) (vars props tempo : Int) (out : List Op2) (h : Gr w G B ar cr raw p vars props tempo out)
    (hraw : RawI raw) (hp : p ≤ 600) (ho : out.length ≤ 600) (hv2 : vars ≤ 1000) :
    Calls Tryz.prog 57 #[.pointer (some ⟨G, 0, none⟩), .int .i64 2] w (Made w G B ar cr raw vars props tempo out (numT raw vars 2 p)) := by
  have := number_succ w G B ar cr raw p vars props tempo out h hraw 800 (by omega) (by omega) hv2 1 (by omega) (by omega) (fun q => by have := (numT_one raw vars q).1; omega) (fun w p out h h1 h2 => number_one w G B ar cr raw p vars props tempo out h hraw h1 h2 hv2)
  simpa using this
set_option maxRecDepth 100000 in
set_option maxHeartbeats 2000000 in
theorem truth_z0 (w : World) (G B : Nat) (ar : Option Addr) (cr : Nat) (raw : List Op2) (p : Nat) (vars props tempo : Int) (out : List Op2) (h : Gr w G B ar cr raw p vars props tempo out)
    (hraw : RawI raw) (_hp : p ≤ 700) (ho : out.length ≤ 700) (_hv2 : vars ≤ 1000) (kk : Int) (hk : pk (rawAt raw p).1 3 = kk) (hk2 : kk = 0) :
    Calls Tryz.prog 56 #[.pointer (some ⟨G, 0, none⟩), .int .i64 0] w (Made w G B ar cr raw vars props tempo out (.n0 (11 + pk (rawAt raw p).2 2) 0, p + 1)) := by
  have TK := Lib.hid (take_any w G B ar cr raw p vars props tempo out h (by omega))
  have hBw : B ≤ w.heap.size := by have := World.block_lt_of_cell? _ _ h.c0; have := h.new; simp at *; omega
  have hr := hraw p
  generalize rawAt raw p = r at *
  obtain ⟨⟨r1, r2⟩, r3, r4⟩ := hr
  have hx2 := pk_bd r.2 2 (by omega)
  obtain ⟨x1, x2⟩ := hx2
  have HP9 := Lib.hid (pk_bd r.1 9 (by omega))
  have HP3 := Lib.hid (pk_bd r.1 3 (by omega))
  have hkb : 0 ≤ kk ∧ kk < 3 := by rw [← hk]; exact HP3.out
  obtain ⟨hkb1, hkb2⟩ := hkb
  subst hk2
  go_enter Tryz.func56, Tryz.ntmps56
  go_wp2_with fail
  refine TK.out.mono ?_
  rintro e w1 ⟨rfl, g1, b1⟩
  have hg1 := g1.ext ((Ext.refl w1).alloc (Nat.le_refl _) (Obj.cells #[.int .i64 r.1, .int .i64 r.2] 130))
  have hb1 : Below B w (w1.alloc (Obj.cells #[.int .i64 r.1, .int .i64 r.2] 130)) := b1.alloc (by have := b1.size; omega) _
  have q0 : (w1.alloc (Obj.cells #[.int .i64 r.1, .int .i64 r.2] 130)).cell? ⟨w1.heap.size, 0, none⟩ = some (.int .i64 r.1) := by simp [go_sem]
  have q1 : (w1.alloc (Obj.cells #[.int .i64 r.1, .int .i64 r.2] 130)).cell? ⟨w1.heap.size, 1, none⟩ = some (.int .i64 r.2) := by simp [go_sem]
  have c1 := hg1.c1
  clear TK g1 b1
  go_wp2_with fail
  refine (picked_any r.1 9 _ r1 r2 (by omega) (by omega)).mono ?_
  rintro e w' ⟨rfl, rfl⟩
  go_wp2_with fail
  refine (picked_any r.1 3 _ r1 r2 (by omega) (by omega)).mono ?_
  rintro e w' ⟨rfl, rfl⟩
  go_wp2_with fail
  refine (picked_any r.2 2 _ r3 r4 (by omega) (by omega)).mono ?_
  rintro e w' ⟨rfl, rfl⟩
  go_wp2_with fail
  refine (put_op _ G B ar cr raw (p + 1) vars props tempo out _ _ hg1 (by omega)).mono ?_
  rintro e w2 ⟨rfl, hg2, hb2⟩
  go_wp2
  go_end0
  exact Made.mk rfl hg2 ((hb1.trans hb2)) rfl (by simp [Tm.flat])
set_option maxRecDepth 100000 in
set_option maxHeartbeats 2000000 in
theorem truth_zc (w : World) (G B : Nat) (ar : Option Addr) (cr : Nat) (raw : List Op2) (p : Nat) (vars props tempo : Int) (out : List Op2) (h : Gr w G B ar cr raw p vars props tempo out)
    (hraw : RawI raw) (_hp : p ≤ 700) (ho : out.length ≤ 700) (hv2 : vars ≤ 1000) (kk : Int) (hk : pk (rawAt raw p).1 3 = kk) (hk2 : 1 ≤ kk) :
    Calls Tryz.prog 56 #[.pointer (some ⟨G, 0, none⟩), .int .i64 0] w (Made w G B ar cr raw vars props tempo out (cmpT raw vars kk p)) := by
  have TK := Lib.hid (take_any w G B ar cr raw p vars props tempo out h (by omega))
  have hBw : B ≤ w.heap.size := by have := World.block_lt_of_cell? _ _ h.c0; have := h.new; simp at *; omega
  have hr := hraw p
  have NUM1 := Lib.hid (fun (w' : World) (out' : List Op2) (g : Gr w' G B ar cr raw (p + 1) vars props tempo out') (h2 : out'.length ≤ 800) => number_one w' G B ar cr raw (p + 1) vars props tempo out' g hraw (by omega) h2 hv2)
  have NUM2 := Lib.hid (fun (w' : World) (out' : List Op2) (g : Gr w' G B ar cr raw (numT raw vars 1 (p + 1)).2 vars props tempo out') (h2 : out'.length ≤ 800) => number_one w' G B ar cr raw (numT raw vars 1 (p + 1)).2 vars props tempo out' g hraw (by have := numT_size raw vars 1 (p + 1); have := (numT_one raw vars (p + 1)).1; omega) h2 hv2)
  have hz1 := (numT_one raw vars (p + 1)).1
  have hz5 := Tm.flat_len (numT raw vars 1 (p + 1)).1
  have hfin : cmpT raw vars kk p = (.n2 (6 + kk % 2) 0 (numT raw vars 1 (p + 1)).1 (numT raw vars 1 (numT raw vars 1 (p + 1)).2).1, (numT raw vars 1 (numT raw vars 1 (p + 1)).2).2) := rfl
  rw [hfin]
  clear hfin
  generalize numT raw vars 1 (p + 1) = t1 at *
  generalize numT raw vars 1 t1.2 = t2 at *
  obtain ⟨tm1, p1⟩ := t1
  obtain ⟨tm2, p2⟩ := t2
  simp only at hz1 hz5
  have HZ5 := Lib.hid hz5
  clear hz5
  generalize rawAt raw p = r at *
  obtain ⟨⟨r1, r2⟩, r3, r4⟩ := hr
  have hx2 := pk_bd r.2 2 (by omega)
  obtain ⟨x1, x2⟩ := hx2
  have HP9 := Lib.hid (pk_bd r.1 9 (by omega))
  have HP3 := Lib.hid (pk_bd r.1 3 (by omega))
  have hkb : 0 ≤ kk ∧ kk < 3 := by rw [← hk]; exact HP3.out
  obtain ⟨hkb1, hkb2⟩ := hkb
  have hv : kk = 1 ∨ kk = 2 := by omega
  rcases hv with rfl | rfl
  all_goals
    go_enter Tryz.func56, Tryz.ntmps56
    go_wp2_with fail
    refine TK.out.mono ?_
    rintro e w1 ⟨rfl, g1, b1⟩
    have hg1 := g1.ext ((Ext.refl w1).alloc (Nat.le_refl _) (Obj.cells #[.int .i64 r.1, .int .i64 r.2] 130))
    have hb1 : Below B w (w1.alloc (Obj.cells #[.int .i64 r.1, .int .i64 r.2] 130)) := b1.alloc (by have := b1.size; omega) _
    have q0 : (w1.alloc (Obj.cells #[.int .i64 r.1, .int .i64 r.2] 130)).cell? ⟨w1.heap.size, 0, none⟩ = some (.int .i64 r.1) := by simp [go_sem]
    have q1 : (w1.alloc (Obj.cells #[.int .i64 r.1, .int .i64 r.2] 130)).cell? ⟨w1.heap.size, 1, none⟩ = some (.int .i64 r.2) := by simp [go_sem]
    have c1 := hg1.c1
    clear TK g1 b1
    go_wp2_with fail
    refine (picked_any r.1 9 _ r1 r2 (by omega) (by omega)).mono ?_
    rintro e w' ⟨rfl, rfl⟩
    go_wp2_with fail
    refine (picked_any r.1 3 _ r1 r2 (by omega) (by omega)).mono ?_
    rintro e w' ⟨rfl, rfl⟩
    go_wp2_with fail
    refine (put_op _ G B ar cr raw (p + 1) vars props tempo out _ _ hg1 (by omega)).mono ?_
    rintro e w2 ⟨rfl, hg2, hb2⟩
    go_wp2_with fail
    refine (NUM1.out w2 _ hg2 (by simp; omega)).mono ?_
    rintro e w3 ⟨rfl, hg3, hb3⟩
    go_wp2_with fail
    refine (NUM2.out w3 _ hg3 (by have := HZ5.out; simp at this ⊢; omega)).mono ?_
    rintro e w4 ⟨rfl, hg4, hb4⟩
    go_wp2
    go_end0
    exact Made.mk rfl hg4 (((hb1.trans hb2).trans hb3).trans hb4) rfl (by simp [Tm.flat])
set_option maxRecDepth 100000 in
set_option maxHeartbeats 2000000 in
theorem truth_a0 (w : World) (G B : Nat) (ar : Option Addr) (cr : Nat) (raw : List Op2) (p : Nat) (vars props tempo : Int) (out : List Op2) (h : Gr w G B ar cr raw p vars props tempo out)
    (hraw : RawI raw) (d : Nat) (hd : d ≤ 10) (hc : 10 < p + 1) (_hp : p + 100 * (d + 1) ≤ 700) (ho : out.length + 100 * (d + 1) ≤ 700) (_hv2 : vars ≤ 1000) (kk : Int) (hk : pk (rawAt raw p).1 3 = kk) (hk2 : kk = 0) :
    Calls Tryz.prog 56 #[.pointer (some ⟨G, 0, none⟩), .int .i64 ((d + 1 : Nat) : Int)] w (Made w G B ar cr raw vars props tempo out (.n0 (11 + pk (rawAt raw p).2 2) 0, p + 1)) := by
  have TK := Lib.hid (take_any w G B ar cr raw p vars props tempo out h (by omega))
  have hBw : B ≤ w.heap.size := by have := World.block_lt_of_cell? _ _ h.c0; have := h.new; simp at *; omega
  have hr := hraw p
  generalize rawAt raw p = r at *
  obtain ⟨⟨r1, r2⟩, r3, r4⟩ := hr
  have hx2 := pk_bd r.2 2 (by omega)
  obtain ⟨x1, x2⟩ := hx2
  have HP9 := Lib.hid (pk_bd r.1 9 (by omega))
  have HP3 := Lib.hid (pk_bd r.1 3 (by omega))
  have e0 : ((d : Int) + 1 == 0) = false := by rw [beq_eq_false_iff_ne]; omega
  have e1 : (0 : Int) ≤ d := by omega
  have hkb : 0 ≤ kk ∧ kk < 3 := by rw [← hk]; exact HP3.out
  obtain ⟨hkb1, hkb2⟩ := hkb
  subst hk2
  go_enter Tryz.func56, Tryz.ntmps56
  go_wp2_with fail
  refine TK.out.mono ?_
  rintro e w1 ⟨rfl, g1, b1⟩
  have hg1 := g1.ext ((Ext.refl w1).alloc (Nat.le_refl _) (Obj.cells #[.int .i64 r.1, .int .i64 r.2] 130))
  have hb1 : Below B w (w1.alloc (Obj.cells #[.int .i64 r.1, .int .i64 r.2] 130)) := b1.alloc (by have := b1.size; omega) _
  have q0 : (w1.alloc (Obj.cells #[.int .i64 r.1, .int .i64 r.2] 130)).cell? ⟨w1.heap.size, 0, none⟩ = some (.int .i64 r.1) := by simp [go_sem]
  have q1 : (w1.alloc (Obj.cells #[.int .i64 r.1, .int .i64 r.2] 130)).cell? ⟨w1.heap.size, 1, none⟩ = some (.int .i64 r.2) := by simp [go_sem]
  have c1 := hg1.c1
  clear TK g1 b1
  go_wp2_with fail
  refine (picked_any r.1 9 _ r1 r2 (by omega) (by omega)).mono ?_
  rintro e w' ⟨rfl, rfl⟩
  go_wp2_with fail
  refine (picked_any r.1 3 _ r1 r2 (by omega) (by omega)).mono ?_
  rintro e w' ⟨rfl, rfl⟩
  go_wp2_with fail
  refine (picked_any r.2 2 _ r3 r4 (by omega) (by omega)).mono ?_
  rintro e w' ⟨rfl, rfl⟩
  go_wp2_with fail
  refine (put_op _ G B ar cr raw (p + 1) vars props tempo out _ _ hg1 (by omega)).mono ?_
  rintro e w2 ⟨rfl, hg2, hb2⟩
  go_wp2
  go_end0
  exact Made.mk rfl hg2 ((hb1.trans hb2)) rfl (by simp [Tm.flat])
set_option maxRecDepth 100000 in
set_option maxHeartbeats 2000000 in
theorem truth_ac (w : World) (G B : Nat) (ar : Option Addr) (cr : Nat) (raw : List Op2) (p : Nat) (vars props tempo : Int) (out : List Op2) (h : Gr w G B ar cr raw p vars props tempo out)
    (hraw : RawI raw) (d : Nat) (hd : d ≤ 10) (hc : 10 < p + 1) (_hp : p + 100 * (d + 1) ≤ 700) (ho : out.length + 100 * (d + 1) ≤ 700) (hv2 : vars ≤ 1000) (kk : Int) (hk : pk (rawAt raw p).1 3 = kk) (hk2 : 1 ≤ kk) :
    Calls Tryz.prog 56 #[.pointer (some ⟨G, 0, none⟩), .int .i64 ((d + 1 : Nat) : Int)] w (Made w G B ar cr raw vars props tempo out (cmpT raw vars kk p)) := by
  have TK := Lib.hid (take_any w G B ar cr raw p vars props tempo out h (by omega))
  have hBw : B ≤ w.heap.size := by have := World.block_lt_of_cell? _ _ h.c0; have := h.new; simp at *; omega
  have hr := hraw p
  have NUM1 := Lib.hid (fun (w' : World) (out' : List Op2) (g : Gr w' G B ar cr raw (p + 1) vars props tempo out') (h2 : out'.length ≤ 800) => number_one w' G B ar cr raw (p + 1) vars props tempo out' g hraw (by omega) h2 hv2)
  have NUM2 := Lib.hid (fun (w' : World) (out' : List Op2) (g : Gr w' G B ar cr raw (numT raw vars 1 (p + 1)).2 vars props tempo out') (h2 : out'.length ≤ 800) => number_one w' G B ar cr raw (numT raw vars 1 (p + 1)).2 vars props tempo out' g hraw (by have := numT_size raw vars 1 (p + 1); have := (numT_one raw vars (p + 1)).1; omega) h2 hv2)
  have hz1 := (numT_one raw vars (p + 1)).1
  have hz5 := Tm.flat_len (numT raw vars 1 (p + 1)).1
  have hfin : cmpT raw vars kk p = (.n2 (6 + kk % 2) 0 (numT raw vars 1 (p + 1)).1 (numT raw vars 1 (numT raw vars 1 (p + 1)).2).1, (numT raw vars 1 (numT raw vars 1 (p + 1)).2).2) := rfl
  rw [hfin]
  clear hfin
  generalize numT raw vars 1 (p + 1) = t1 at *
  generalize numT raw vars 1 t1.2 = t2 at *
  obtain ⟨tm1, p1⟩ := t1
  obtain ⟨tm2, p2⟩ := t2
  simp only at hz1 hz5
  have HZ5 := Lib.hid hz5
  clear hz5
  generalize rawAt raw p = r at *
  obtain ⟨⟨r1, r2⟩, r3, r4⟩ := hr
  have hx2 := pk_bd r.2 2 (by omega)
  obtain ⟨x1, x2⟩ := hx2
  have HP9 := Lib.hid (pk_bd r.1 9 (by omega))
  have HP3 := Lib.hid (pk_bd r.1 3 (by omega))
  have e0 : ((d : Int) + 1 == 0) = false := by rw [beq_eq_false_iff_ne]; omega
  have e1 : (0 : Int) ≤ d := by omega
  have hkb : 0 ≤ kk ∧ kk < 3 := by rw [← hk]; exact HP3.out
  obtain ⟨hkb1, hkb2⟩ := hkb
  have hv : kk = 1 ∨ kk = 2 := by omega
  rcases hv with rfl | rfl
  all_goals
    go_enter Tryz.func56, Tryz.ntmps56
    go_wp2_with fail
    refine TK.out.mono ?_
    rintro e w1 ⟨rfl, g1, b1⟩
    have hg1 := g1.ext ((Ext.refl w1).alloc (Nat.le_refl _) (Obj.cells #[.int .i64 r.1, .int .i64 r.2] 130))
    have hb1 : Below B w (w1.alloc (Obj.cells #[.int .i64 r.1, .int .i64 r.2] 130)) := b1.alloc (by have := b1.size; omega) _
    have q0 : (w1.alloc (Obj.cells #[.int .i64 r.1, .int .i64 r.2] 130)).cell? ⟨w1.heap.size, 0, none⟩ = some (.int .i64 r.1) := by simp [go_sem]
    have q1 : (w1.alloc (Obj.cells #[.int .i64 r.1, .int .i64 r.2] 130)).cell? ⟨w1.heap.size, 1, none⟩ = some (.int .i64 r.2) := by simp [go_sem]
    have c1 := hg1.c1
    clear TK g1 b1
    go_wp2_with fail
    refine (picked_any r.1 9 _ r1 r2 (by omega) (by omega)).mono ?_
    rintro e w' ⟨rfl, rfl⟩
    go_wp2_with fail
    refine (picked_any r.1 3 _ r1 r2 (by omega) (by omega)).mono ?_
    rintro e w' ⟨rfl, rfl⟩
    go_wp2_with fail
    refine (put_op _ G B ar cr raw (p + 1) vars props tempo out _ _ hg1 (by omega)).mono ?_
    rintro e w2 ⟨rfl, hg2, hb2⟩
    go_wp2_with fail
    refine (NUM1.out w2 _ hg2 (by simp; omega)).mono ?_
    rintro e w3 ⟨rfl, hg3, hb3⟩
    go_wp2_with fail
    refine (NUM2.out w3 _ hg3 (by have := HZ5.out; simp at this ⊢; omega)).mono ?_
    rintro e w4 ⟨rfl, hg4, hb4⟩
    go_wp2
    go_end0
    exact Made.mk rfl hg4 (((hb1.trans hb2).trans hb3).trans hb4) rfl (by simp [Tm.flat])
set_option maxRecDepth 100000 in
set_option maxHeartbeats 2000000 in
theorem truth_b0 (w : World) (G B : Nat) (ar : Option Addr) (cr : Nat) (raw : List Op2) (p : Nat) (vars props tempo : Int) (out : List Op2) (h : Gr w G B ar cr raw p vars props tempo out)
    (hraw : RawI raw) (d : Nat) (hd : d ≤ 10) (hc : ¬ 10 < p + 1) (_hp : p + 100 * (d + 1) ≤ 700) (ho : out.length + 100 * (d + 1) ≤ 700) (_hv2 : vars ≤ 1000) (kk : Int) (hk : pk (rawAt raw p).1 9 = kk) (hk2 : kk = 0) :
    Calls Tryz.prog 56 #[.pointer (some ⟨G, 0, none⟩), .int .i64 ((d + 1 : Nat) : Int)] w (Made w G B ar cr raw vars props tempo out (.n0 (11 + pk (rawAt raw p).2 2) 0, p + 1)) := by
  have TK := Lib.hid (take_any w G B ar cr raw p vars props tempo out h (by omega))
  have hBw : B ≤ w.heap.size := by have := World.block_lt_of_cell? _ _ h.c0; have := h.new; simp at *; omega
  have hr := hraw p
  generalize rawAt raw p = r at *
  obtain ⟨⟨r1, r2⟩, r3, r4⟩ := hr
  have hx2 := pk_bd r.2 2 (by omega)
  obtain ⟨x1, x2⟩ := hx2
  have HP9 := Lib.hid (pk_bd r.1 9 (by omega))
  have HP3 := Lib.hid (pk_bd r.1 3 (by omega))
  have e0 : ((d : Int) + 1 == 0) = false := by rw [beq_eq_false_iff_ne]; omega
  have e1 : (0 : Int) ≤ d := by omega
  have hkb : 0 ≤ kk ∧ kk < 9 := by rw [← hk]; exact HP9.out
  obtain ⟨hkb1, hkb2⟩ := hkb
  subst hk2
  go_enter Tryz.func56, Tryz.ntmps56
  go_wp2_with fail
  refine TK.out.mono ?_
  rintro e w1 ⟨rfl, g1, b1⟩
  have hg1 := g1.ext ((Ext.refl w1).alloc (Nat.le_refl _) (Obj.cells #[.int .i64 r.1, .int .i64 r.2] 130))
  have hb1 : Below B w (w1.alloc (Obj.cells #[.int .i64 r.1, .int .i64 r.2] 130)) := b1.alloc (by have := b1.size; omega) _
  have q0 : (w1.alloc (Obj.cells #[.int .i64 r.1, .int .i64 r.2] 130)).cell? ⟨w1.heap.size, 0, none⟩ = some (.int .i64 r.1) := by simp [go_sem]
  have q1 : (w1.alloc (Obj.cells #[.int .i64 r.1, .int .i64 r.2] 130)).cell? ⟨w1.heap.size, 1, none⟩ = some (.int .i64 r.2) := by simp [go_sem]
  have c1 := hg1.c1
  clear TK g1 b1
  go_wp2_with fail
  refine (picked_any r.1 9 _ r1 r2 (by omega) (by omega)).mono ?_
  rintro e w' ⟨rfl, rfl⟩
  go_wp2_with fail
  refine (picked_any r.2 2 _ r3 r4 (by omega) (by omega)).mono ?_
  rintro e w' ⟨rfl, rfl⟩
  go_wp2_with fail
  refine (put_op _ G B ar cr raw (p + 1) vars props tempo out _ _ hg1 (by omega)).mono ?_
  rintro e w2 ⟨rfl, hg2, hb2⟩
  go_wp2
  go_end0
  exact Made.mk rfl hg2 ((hb1.trans hb2)) rfl (by simp [Tm.flat])
set_option maxRecDepth 100000 in
set_option maxHeartbeats 2000000 in
theorem truth_bc (w : World) (G B : Nat) (ar : Option Addr) (cr : Nat) (raw : List Op2) (p : Nat) (vars props tempo : Int) (out : List Op2) (h : Gr w G B ar cr raw p vars props tempo out)
    (hraw : RawI raw) (d : Nat) (hd : d ≤ 10) (hc : ¬ 10 < p + 1) (_hp : p + 100 * (d + 1) ≤ 700) (ho : out.length + 100 * (d + 1) ≤ 700) (hv2 : vars ≤ 1000) (kk : Int) (hk : pk (rawAt raw p).1 9 = kk) (hk2 : 1 ≤ kk) (hk3 : kk < 5) :
    Calls Tryz.prog 56 #[.pointer (some ⟨G, 0, none⟩), .int .i64 ((d + 1 : Nat) : Int)] w (Made w G B ar cr raw vars props tempo out (cmpT raw vars kk p)) := by
  have TK := Lib.hid (take_any w G B ar cr raw p vars props tempo out h (by omega))
  have hBw : B ≤ w.heap.size := by have := World.block_lt_of_cell? _ _ h.c0; have := h.new; simp at *; omega
  have hr := hraw p
  have NUM1 := Lib.hid (fun (w' : World) (out' : List Op2) (g : Gr w' G B ar cr raw (p + 1) vars props tempo out') (h2 : out'.length ≤ 800) => number_one w' G B ar cr raw (p + 1) vars props tempo out' g hraw (by omega) h2 hv2)
  have NUM2 := Lib.hid (fun (w' : World) (out' : List Op2) (g : Gr w' G B ar cr raw (numT raw vars 1 (p + 1)).2 vars props tempo out') (h2 : out'.length ≤ 800) => number_one w' G B ar cr raw (numT raw vars 1 (p + 1)).2 vars props tempo out' g hraw (by have := numT_size raw vars 1 (p + 1); have := (numT_one raw vars (p + 1)).1; omega) h2 hv2)
  have hz1 := (numT_one raw vars (p + 1)).1
  have hz5 := Tm.flat_len (numT raw vars 1 (p + 1)).1
  have hfin : cmpT raw vars kk p = (.n2 (6 + kk % 2) 0 (numT raw vars 1 (p + 1)).1 (numT raw vars 1 (numT raw vars 1 (p + 1)).2).1, (numT raw vars 1 (numT raw vars 1 (p + 1)).2).2) := rfl
  rw [hfin]
  clear hfin
  generalize numT raw vars 1 (p + 1) = t1 at *
  generalize numT raw vars 1 t1.2 = t2 at *
  obtain ⟨tm1, p1⟩ := t1
  obtain ⟨tm2, p2⟩ := t2
  simp only at hz1 hz5
  have HZ5 := Lib.hid hz5
  clear hz5
  generalize rawAt raw p = r at *
  obtain ⟨⟨r1, r2⟩, r3, r4⟩ := hr
  have hx2 := pk_bd r.2 2 (by omega)
  obtain ⟨x1, x2⟩ := hx2
  have HP9 := Lib.hid (pk_bd r.1 9 (by omega))
  have HP3 := Lib.hid (pk_bd r.1 3 (by omega))
  have e0 : ((d : Int) + 1 == 0) = false := by rw [beq_eq_false_iff_ne]; omega
  have e1 : (0 : Int) ≤ d := by omega
  have hkb : 0 ≤ kk ∧ kk < 9 := by rw [← hk]; exact HP9.out
  obtain ⟨hkb1, hkb2⟩ := hkb
  have hv : kk = 1 ∨ kk = 2 ∨ kk = 3 ∨ kk = 4 := by omega
  rcases hv with rfl | rfl | rfl | rfl
  all_goals
    go_enter Tryz.func56, Tryz.ntmps56
    go_wp2_with fail
    refine TK.out.mono ?_
    rintro e w1 ⟨rfl, g1, b1⟩
    have hg1 := g1.ext ((Ext.refl w1).alloc (Nat.le_refl _) (Obj.cells #[.int .i64 r.1, .int .i64 r.2] 130))
    have hb1 : Below B w (w1.alloc (Obj.cells #[.int .i64 r.1, .int .i64 r.2] 130)) := b1.alloc (by have := b1.size; omega) _
    have q0 : (w1.alloc (Obj.cells #[.int .i64 r.1, .int .i64 r.2] 130)).cell? ⟨w1.heap.size, 0, none⟩ = some (.int .i64 r.1) := by simp [go_sem]
    have q1 : (w1.alloc (Obj.cells #[.int .i64 r.1, .int .i64 r.2] 130)).cell? ⟨w1.heap.size, 1, none⟩ = some (.int .i64 r.2) := by simp [go_sem]
    have c1 := hg1.c1
    clear TK g1 b1
    go_wp2_with fail
    refine (picked_any r.1 9 _ r1 r2 (by omega) (by omega)).mono ?_
    rintro e w' ⟨rfl, rfl⟩
    go_wp2_with fail
    refine (put_op _ G B ar cr raw (p + 1) vars props tempo out _ _ hg1 (by omega)).mono ?_
    rintro e w2 ⟨rfl, hg2, hb2⟩
    go_wp2_with fail
    refine (NUM1.out w2 _ hg2 (by simp; omega)).mono ?_
    rintro e w3 ⟨rfl, hg3, hb3⟩
    go_wp2_with fail
    refine (NUM2.out w3 _ hg3 (by have := HZ5.out; simp at this ⊢; omega)).mono ?_
    rintro e w4 ⟨rfl, hg4, hb4⟩
    go_wp2
    go_end0
    exact Made.mk rfl hg4 (((hb1.trans hb2).trans hb3).trans hb4) rfl (by simp [Tm.flat])
set_option maxRecDepth 100000 in
set_option maxHeartbeats 2000000 in
theorem truth_b5 (w : World) (G B : Nat) (ar : Option Addr) (cr : Nat) (raw : List Op2) (p : Nat) (vars props tempo : Int) (out : List Op2) (h : Gr w G B ar cr raw p vars props tempo out)
    (hraw : RawI raw) (d : Nat) (hd : d ≤ 10) (hc : ¬ 10 < p + 1) (_hp : p + 100 * (d + 1) ≤ 700) (ho : out.length + 100 * (d + 1) ≤ 700) (_hv2 : vars ≤ 1000) (kk : Int) (hk : pk (rawAt raw p).1 9 = kk) (hk2 : kk = 5) (ih : ∀ (w : World) (p : Nat) (out : List Op2), Gr w G B ar cr raw p vars props tempo out → p + 100 * d ≤ 700 → out.length + 100 * d ≤ 700 → Calls Tryz.prog 56 #[.pointer (some ⟨G, 0, none⟩), .int .i64 d] w (Made w G B ar cr raw vars props tempo out (truT raw vars d p))) (hs : ∀ q, (truT raw vars d q).1.size ≤ 60) :
    Calls Tryz.prog 56 #[.pointer (some ⟨G, 0, none⟩), .int .i64 ((d + 1 : Nat) : Int)] w (Made w G B ar cr raw vars props tempo out (.n1 10 0 (truT raw vars d (p + 1)).1, (truT raw vars d (p + 1)).2)) := by
  have TK := Lib.hid (take_any w G B ar cr raw p vars props tempo out h (by omega))
  have hBw : B ≤ w.heap.size := by have := World.block_lt_of_cell? _ _ h.c0; have := h.new; simp at *; omega
  have hr := hraw p
  have hz1 := truT_size raw vars d (p + 1)
  have hz3 := hs (p + 1)
  have hz5 := Tm.flat_len (truT raw vars d (p + 1)).1
  have ih1 := fun w' out' g h1 h2 => ih w' (p + 1) out' g h1 h2
  generalize truT raw vars d (p + 1) = t1 at *
  obtain ⟨tm1, p1⟩ := t1
  simp only at hz1 hz3 hz5 ih1
  have IH1 := Lib.hid ih1
  have HZ1 := Lib.hid hz1
  have HZ5 := Lib.hid hz5
  clear ih1 hz1 hz5 ih hs
  generalize rawAt raw p = r at *
  obtain ⟨⟨r1, r2⟩, r3, r4⟩ := hr
  have hx2 := pk_bd r.2 2 (by omega)
  obtain ⟨x1, x2⟩ := hx2
  have HP9 := Lib.hid (pk_bd r.1 9 (by omega))
  have HP3 := Lib.hid (pk_bd r.1 3 (by omega))
  have e0 : ((d : Int) + 1 == 0) = false := by rw [beq_eq_false_iff_ne]; omega
  have e1 : (0 : Int) ≤ d := by omega
  have hkb : 0 ≤ kk ∧ kk < 9 := by rw [← hk]; exact HP9.out
  obtain ⟨hkb1, hkb2⟩ := hkb
  subst hk2
  go_enter Tryz.func56, Tryz.ntmps56
  go_wp2_with fail
  refine TK.out.mono ?_
  rintro e w1 ⟨rfl, g1, b1⟩
  have hg1 := g1.ext ((Ext.refl w1).alloc (Nat.le_refl _) (Obj.cells #[.int .i64 r.1, .int .i64 r.2] 130))
  have hb1 : Below B w (w1.alloc (Obj.cells #[.int .i64 r.1, .int .i64 r.2] 130)) := b1.alloc (by have := b1.size; omega) _
  have q0 : (w1.alloc (Obj.cells #[.int .i64 r.1, .int .i64 r.2] 130)).cell? ⟨w1.heap.size, 0, none⟩ = some (.int .i64 r.1) := by simp [go_sem]
  have q1 : (w1.alloc (Obj.cells #[.int .i64 r.1, .int .i64 r.2] 130)).cell? ⟨w1.heap.size, 1, none⟩ = some (.int .i64 r.2) := by simp [go_sem]
  have c1 := hg1.c1
  clear TK g1 b1
  go_wp2_with fail
  refine (picked_any r.1 9 _ r1 r2 (by omega) (by omega)).mono ?_
  rintro e w' ⟨rfl, rfl⟩
  go_wp2_with fail
  refine (put_op _ G B ar cr raw (p + 1) vars props tempo out _ _ hg1 (by omega)).mono ?_
  rintro e w2 ⟨rfl, hg2, hb2⟩
  go_wp2_with fail
  refine (IH1.out w2 _ hg2 (by omega) (by simp; omega)).mono ?_
  rintro e w3 ⟨rfl, hg3, hb3⟩
  go_wp2
  go_end0
  exact Made.mk rfl hg3 ((hb1.trans hb2).trans hb3) rfl (by simp [Tm.flat])
set_option maxRecDepth 100000 in
set_option maxHeartbeats 2000000 in
theorem truth_bb (w : World) (G B : Nat) (ar : Option Addr) (cr : Nat) (raw : List Op2) (p : Nat) (vars props tempo : Int) (out : List Op2) (h : Gr w G B ar cr raw p vars props tempo out)
    (hraw : RawI raw) (d : Nat) (hd : d ≤ 10) (hc : ¬ 10 < p + 1) (_hp : p + 100 * (d + 1) ≤ 700) (ho : out.length + 100 * (d + 1) ≤ 700) (_hv2 : vars ≤ 1000) (kk : Int) (hk : pk (rawAt raw p).1 9 = kk) (hk2 : 5 < kk) (ih : ∀ (w : World) (p : Nat) (out : List Op2), Gr w G B ar cr raw p vars props tempo out → p + 100 * d ≤ 700 → out.length + 100 * d ≤ 700 → Calls Tryz.prog 56 #[.pointer (some ⟨G, 0, none⟩), .int .i64 d] w (Made w G B ar cr raw vars props tempo out (truT raw vars d p))) (hs : ∀ q, (truT raw vars d q).1.size ≤ 60) :
    Calls Tryz.prog 56 #[.pointer (some ⟨G, 0, none⟩), .int .i64 ((d + 1 : Nat) : Int)] w (Made w G B ar cr raw vars props tempo out (.n2 (8 + kk % 2) 0 (truT raw vars d (p + 1)).1 (truT raw vars d (truT raw vars d (p + 1)).2).1, (truT raw vars d (truT raw vars d (p + 1)).2).2)) := by
  have TK := Lib.hid (take_any w G B ar cr raw p vars props tempo out h (by omega))
  have hBw : B ≤ w.heap.size := by have := World.block_lt_of_cell? _ _ h.c0; have := h.new; simp at *; omega
  have hr := hraw p
  have hz1 := truT_size raw vars d (p + 1)
  have hz3 := hs (p + 1)
  have hz5 := Tm.flat_len (truT raw vars d (p + 1)).1
  have ih1 := fun w' out' g h1 h2 => ih w' (p + 1) out' g h1 h2
  have ih2 := fun w' out' g h1 h2 => ih w' (truT raw vars d (p + 1)).2 out' g h1 h2
  generalize truT raw vars d (p + 1) = t1 at *
  generalize truT raw vars d t1.2 = t2 at *
  obtain ⟨tm1, p1⟩ := t1
  obtain ⟨tm2, p2⟩ := t2
  simp only at hz1 hz3 hz5 ih1 ih2
  have IH2 := Lib.hid ih2
  clear ih2
  have IH1 := Lib.hid ih1
  have HZ1 := Lib.hid hz1
  have HZ5 := Lib.hid hz5
  clear ih1 hz1 hz5 ih hs
  generalize rawAt raw p = r at *
  obtain ⟨⟨r1, r2⟩, r3, r4⟩ := hr
  have hx2 := pk_bd r.2 2 (by omega)
  obtain ⟨x1, x2⟩ := hx2
  have HP9 := Lib.hid (pk_bd r.1 9 (by omega))
  have HP3 := Lib.hid (pk_bd r.1 3 (by omega))
  have e0 : ((d : Int) + 1 == 0) = false := by rw [beq_eq_false_iff_ne]; omega
  have e1 : (0 : Int) ≤ d := by omega
  have hkb : 0 ≤ kk ∧ kk < 9 := by rw [← hk]; exact HP9.out
  obtain ⟨hkb1, hkb2⟩ := hkb
  have hv : kk = 6 ∨ kk = 7 ∨ kk = 8 := by omega
  rcases hv with rfl | rfl | rfl
  all_goals
    go_enter Tryz.func56, Tryz.ntmps56
    go_wp2_with fail
    refine TK.out.mono ?_
    rintro e w1 ⟨rfl, g1, b1⟩
    have hg1 := g1.ext ((Ext.refl w1).alloc (Nat.le_refl _) (Obj.cells #[.int .i64 r.1, .int .i64 r.2] 130))
    have hb1 : Below B w (w1.alloc (Obj.cells #[.int .i64 r.1, .int .i64 r.2] 130)) := b1.alloc (by have := b1.size; omega) _
    have q0 : (w1.alloc (Obj.cells #[.int .i64 r.1, .int .i64 r.2] 130)).cell? ⟨w1.heap.size, 0, none⟩ = some (.int .i64 r.1) := by simp [go_sem]
    have q1 : (w1.alloc (Obj.cells #[.int .i64 r.1, .int .i64 r.2] 130)).cell? ⟨w1.heap.size, 1, none⟩ = some (.int .i64 r.2) := by simp [go_sem]
    have c1 := hg1.c1
    clear TK g1 b1
    go_wp2_with fail
    refine (picked_any r.1 9 _ r1 r2 (by omega) (by omega)).mono ?_
    rintro e w' ⟨rfl, rfl⟩
    go_wp2_with fail
    refine (put_op _ G B ar cr raw (p + 1) vars props tempo out _ _ hg1 (by omega)).mono ?_
    rintro e w2 ⟨rfl, hg2, hb2⟩
    go_wp2_with fail
    refine (IH1.out w2 _ hg2 (by omega) (by simp; omega)).mono ?_
    rintro e w3 ⟨rfl, hg3, hb3⟩
    go_wp2_with fail
    refine (IH2.out w3 _ hg3 (by have := HZ1.out; omega) (by have := HZ5.out; simp at this ⊢; omega)).mono ?_
    rintro e w4 ⟨rfl, hg4, hb4⟩
    go_wp2
    go_end0
    exact Made.mk rfl hg4 (((hb1.trans hb2).trans hb3).trans hb4) rfl (by simp [Tm.flat])
end Go.Proofs.YtciihiiacbnimaaGreatDoor

namespace Go.Proofs.YtciihiiacbnimaaGreatDoor
open Go.RowKit
theorem truT_sizeb (raw : List Op2) (vars : Int) (d q : Nat) (hd : d ≤ 10) : (truT raw vars d q).1.size ≤ 60 := by
  have h1 := truT_end raw vars d q
  have h2 := truT_size raw vars d q
  by_cases h : 10 ≤ q
  · have := h1.1 h; omega
  · have := h1.2 (by omega); omega
theorem truth_any (G B : Nat) (ar : Option Addr) (cr : Nat) (raw : List Op2) (vars props tempo : Int) (hraw : RawI raw) (hv2 : vars ≤ 1000) :
    ∀ (d : Nat), d ≤ 5 → ∀ (w : World) (p : Nat) (out : List Op2), Gr w G B ar cr raw p vars props tempo out → p + 100 * d ≤ 700 → out.length + 100 * d ≤ 700 →
    Calls Tryz.prog 56 #[.pointer (some ⟨G, 0, none⟩), .int .i64 d] w (Made w G B ar cr raw vars props tempo out (truT raw vars d p)) := by
  intro d
  induction d with
  | zero =>
    intro _ w p out h hp ho
    have hb := truKind_bd (rawAt raw p) 0 p
    have hk : pk (rawAt raw p).1 3 = truKind (rawAt raw p) 0 p := by unfold truKind; simp
    unfold truT
    split
    · rename_i h0
      exact truth_z0 w G B ar cr raw p vars props tempo out h hraw (by omega) (by omega) hv2 _ hk h0
    · exact truth_zc w G B ar cr raw p vars props tempo out h hraw (by omega) (by omega) hv2 _ hk (by omega)
  | succ d ih =>
    intro hd w p out h hp ho
    have hb := truKind_bd (rawAt raw p) (d + 1) p
    have hs := fun q => truT_sizeb raw vars d q (by omega)
    have ih' := ih (by omega)
    unfold truT
    by_cases hc : 10 < p + 1
    · have hk : pk (rawAt raw p).1 3 = truKind (rawAt raw p) (d + 1) p := by unfold truKind; simp [hc]
      split
      · rename_i h0
        exact truth_a0 w G B ar cr raw p vars props tempo out h hraw d (by omega) hc hp ho hv2 _ hk h0
      · rw [if_pos (by omega)]
        exact truth_ac w G B ar cr raw p vars props tempo out h hraw d (by omega) hc hp ho hv2 _ hk (by omega)
    · have hk : pk (rawAt raw p).1 9 = truKind (rawAt raw p) (d + 1) p := by unfold truKind; simp [hc]
      split
      · rename_i h0
        exact truth_b0 w G B ar cr raw p vars props tempo out h hraw d (by omega) hc hp ho hv2 _ hk h0
      · split
        · exact truth_bc w G B ar cr raw p vars props tempo out h hraw d (by omega) hc hp ho hv2 _ hk (by omega) (by omega)
        · split
          · rename_i h5
            exact truth_b5 w G B ar cr raw p vars props tempo out h hraw d (by omega) hc hp ho hv2 _ hk h5 ih' hs
          · exact truth_bb w G B ar cr raw p vars props tempo out h hraw d (by omega) hc hp ho hv2 _ hk (by omega) ih' hs
def truO (raw : List Op2) (vars : Int) : Tm := (truT raw vars 3 0).1
def numO (raw : List Op2) (vars : Int) : Tm := (numT raw vars 2 0).1
set_option maxRecDepth 100000 in
set_option maxHeartbeats 1000000 in
theorem mkTruth (v : Value) (raw : List Op2) (vars : Int) (w : World) (h : Ops w v raw) (hraw : RawI raw) (hv2 : vars ≤ 1000) :
    Calls Tryz.prog 30 #[v, .int .i64 vars] w fun e w' => ∃ v', e = .returned v' ∧ w'.ownsRow w.heap.size 102 2 v' (truO raw vars).flat.length ((truO raw vars).flat.flatMap opc) ∧ Ext w w' := by
  obtain ⟨ar, cr, rfl, hr⟩ := h
  have hE : Ext w (w.alloc (Obj.cells #[.slice ar raw.length cr, .int .i64 0, .int .i64 vars, .int .i64 0, .int .i64 0, .slice none 0 0] 106)) := (Ext.refl w).alloc (Nat.le_refl _) _
  have hg : Gr (w.alloc (Obj.cells #[.slice ar raw.length cr, .int .i64 0, .int .i64 vars, .int .i64 0, .int .i64 0, .slice none 0 0] 106)) w.heap.size w.heap.size ar cr raw 0 vars 0 0 [] :=
    ⟨by simp [go_sem], by simp [go_sem], by simp [go_sem], by simp [go_sem], by simp [go_sem], ⟨none, 0, by simp [go_sem], World.ownsRow_nil _ _ _ _, by simp [Value.ownBlock]⟩, fun i => by simp [go_sem], hr.ext hE,
      fun q hq hx => by subst hq; exact hr.blk (by rw [opc_len]; omega), Nat.le_refl _⟩
  have HC := Lib.hid (truth_any w.heap.size w.heap.size ar cr raw vars 0 0 hraw hv2 3 (by omega) _ 0 [] hg (by omega) (by simp))
  have hbel := hE
  clear hr
  go_enter Tryz.func30, Tryz.ntmps30
  go_wp2_with fail
  refine HC.out.mono ?_
  rintro e w2 ⟨rfl, g2, b2⟩
  obtain ⟨ao, co, c5, h6, _⟩ := g2.c5
  have H6 := Lib.hid h6
  have HE2 : Hid (Ext w w2) := Below.trans hE b2
  clear h6 g2 b2 hg hE hbel
  go_wp2
  go_ret
  exact ⟨_, rfl, H6.out, HE2.out⟩
set_option maxRecDepth 100000 in
set_option maxHeartbeats 1000000 in
theorem mkNumber (v : Value) (raw : List Op2) (vars : Int) (w : World) (h : Ops w v raw) (hraw : RawI raw) (hv2 : vars ≤ 1000) :
    Calls Tryz.prog 31 #[v, .int .i64 vars] w fun e w' => ∃ v', e = .returned v' ∧ w'.ownsRow w.heap.size 102 2 v' (numO raw vars).flat.length ((numO raw vars).flat.flatMap opc) ∧ Ext w w' := by
  obtain ⟨ar, cr, rfl, hr⟩ := h
  have hE : Ext w (w.alloc (Obj.cells #[.slice ar raw.length cr, .int .i64 0, .int .i64 vars, .int .i64 0, .int .i64 0, .slice none 0 0] 106)) := (Ext.refl w).alloc (Nat.le_refl _) _
  have hg : Gr (w.alloc (Obj.cells #[.slice ar raw.length cr, .int .i64 0, .int .i64 vars, .int .i64 0, .int .i64 0, .slice none 0 0] 106)) w.heap.size w.heap.size ar cr raw 0 vars 0 0 [] :=
    ⟨by simp [go_sem], by simp [go_sem], by simp [go_sem], by simp [go_sem], by simp [go_sem], ⟨none, 0, by simp [go_sem], World.ownsRow_nil _ _ _ _, by simp [Value.ownBlock]⟩, fun i => by simp [go_sem], hr.ext hE,
      fun q hq hx => by subst hq; exact hr.blk (by rw [opc_len]; omega), Nat.le_refl _⟩
  have HC := Lib.hid (number_two _ w.heap.size w.heap.size ar cr raw 0 vars 0 0 [] hg hraw (by omega) (by simp) hv2)
  have hbel := hE
  clear hr
  go_enter Tryz.func31, Tryz.ntmps31
  go_wp2_with fail
  refine HC.out.mono ?_
  rintro e w2 ⟨rfl, g2, b2⟩
  obtain ⟨ao, co, c5, h6, _⟩ := g2.c5
  have H6 := Lib.hid h6
  have HE2 : Hid (Ext w w2) := Below.trans hE b2
  clear h6 g2 b2 hg hE hbel
  go_wp2
  go_ret
  exact ⟨_, rfl, H6.out, HE2.out⟩
end Go.Proofs.YtciihiiacbnimaaGreatDoor

namespace Go.Proofs.YtciihiiacbnimaaGreatDoor
open Go.RowKit
set_option maxRecDepth 100000 in

theorem raw_of {W : World} {v : Value} (h : Cells Tryz.prog W 26 [v]) : ∃ raw, Ops W v raw ∧ RawI raw := by
  obtain ⟨a, cap, xss, hv, hr, hx⟩ := h.slice (sz := 2) Tryz.underlying26 (by kernel_rfl)
  have each : ∀ xs ∈ xss, ∃ o : { o : Op2 // I64 o.1 ∧ I64 o.2 }, xs = opc o.val := by
    intro xs hxs
    obtain ⟨hl, hc⟩ := hx xs hxs
    obtain ⟨_, hf⟩ := hc.field Tryz.underlying130
    match xs, hl with
    | [x, y], _ =>
      have c1 : Tryz.prog.cellsOf 3 = 1 := by kernel_rfl
      have f0 : Cells Tryz.prog W 3 [x] := by have := hf 0 _ rfl; simpa [c1] using this
      have f1 : Cells Tryz.prog W 3 [y] := by have := hf 1 _ rfl; simpa [c1] using this
      obtain ⟨m, e0, i0⟩ := Cells.i64 Tryz.underlying3 f0
      obtain ⟨n, e1, i1⟩ := Cells.i64 Tryz.underlying3 f1
      simp at e0 e1
      subst e0; subst e1
      exact ⟨⟨(m, n), i0, i1⟩, rfl⟩
  have build : ∀ yss : List (List Value), (∀ xs ∈ yss, ∃ o : { o : Op2 // I64 o.1 ∧ I64 o.2 }, xs = opc o.val) → ∃ raw : List Op2, yss.length = raw.length ∧ yss.flatten = raw.flatMap opc ∧ ∀ o ∈ raw, I64 o.1 ∧ I64 o.2 := by
    intro yss
    induction yss with
    | nil => intro _; exact ⟨[], rfl, rfl, by simp⟩
    | cons ys yss ih =>
      intro h
      obtain ⟨o, rfl⟩ := h ys (by simp)
      obtain ⟨raw, h1, h2, h3⟩ := ih (fun xs hxs => h xs (by simp [hxs]))
      refine ⟨o.val :: raw, by simp [h1], by simp [h2], ?_⟩
      intro q hq
      rcases List.mem_cons.1 hq with rfl | hq
      · exact o.property
      · exact h3 q hq
  obtain ⟨raw, h1, h2, h3⟩ := build xss each
  simp only [List.cons.injEq, and_true] at hv
  rw [h1, h2] at hr
  refine ⟨raw, ⟨a, cap, by rw [hv, h1], hr⟩, fun p => ?_⟩
  unfold rawAt
  rw [List.getD_eq_getElem?_getD]
  by_cases hp : p < raw.length
  · rw [List.getElem?_eq_getElem hp]; exact h3 _ (by simp)
  · rw [List.getElem?_eq_none (by omega)]; simp [I64]
end Go.Proofs.YtciihiiacbnimaaGreatDoor

namespace Go.Proofs.YtciihiiacbnimaaGreatDoor
open Go.RowKit
def OpsL (w : World) (v : Value) (ll : List (List Op2)) : Prop :=
  ∃ vs : List Value, vs.length = ll.length ∧ Reads w 1 v ll.length vs ∧ ∀ (i : Nat) (x : Value) (l : List Op2), vs[i]? = some x → ll[i]? = some l → Ops w x l
theorem OpsL.ext {w w' : World} {v : Value} {ll : List (List Op2)} (h : OpsL w v ll) (hb : Ext w w') : OpsL w' v ll := by
  obtain ⟨vs, h1, h2, h3⟩ := h
  exact ⟨vs, h1, h2.ext hb, fun i x l hx hl => (h3 i x l hx hl).ext hb⟩
def joinL (k : Int) (ll : List (List Op2)) : List Op2 := (k, 0) :: ll.flatten
theorem join_succ (k : Int) (ll : List (List Op2)) (i : Nat) (h : i < ll.length) : joinL k (ll.take (i + 1)) = joinL k (ll.take i) ++ ll[i] := by
  unfold joinL
  rw [List.take_succ_eq_append_getElem h, List.flatten_append]
  simp
theorem take_flat_le (ll : List (List Op2)) (i : Nat) : (ll.take i).flatten.length ≤ ll.flatten.length := by
  have := List.take_append_drop i ll
  have h2 := congrArg (fun l => (List.flatten l).length) this
  simp only [List.flatten_append, List.length_append] at h2
  omega
set_option maxRecDepth 100000 in
set_option maxHeartbeats 1000000 in
theorem joined_any (k : Int) (v : Value) (ll : List (List Op2)) (w : World) (h : OpsL w v ll) (hl : ll.flatten.length ≤ 10000) (hn : ll.length ≤ 1000) :
    Calls Tryz.prog 32 #[.int .i64 k, v] w fun e w' => ∃ v', e = .returned v' ∧ w'.ownsRow w.heap.size 102 2 v' (joinL k ll).length ((joinL k ll).flatMap opc) ∧ Ext w w' := by
  obtain ⟨vs, hvl, ⟨a, cap, rfl, hr⟩, hops⟩ := h
  obtain ⟨b, off, hnil, ha, hc⟩ := hr.lie
  have HA := Lib.hid ha
  have HC := Lib.hid hc
  have HV := Lib.hid hvl
  have HO := Lib.hid hops
  clear ha hc hvl hops hnil hr
  have hown0 : (w.alloc (.cells #[.int .i64 k, .int .i64 0] 102)).ownsRow w.heap.size 102 2 (.slice (some ⟨w.heap.size, 0, none⟩) 1 1) (joinL k []).length ((joinL k []).flatMap opc) := by
    have := World.ownsRow_lit (e := 102) (size := 2) (base := w.heap.size) w #[.int .i64 k, .int .i64 0] 1 (Nat.le_refl _) (by unfold maxLen; omega) rfl
    simpa [joinL, opc] using this
  have hE0 : Ext w (w.alloc (.cells #[.int .i64 k, .int .i64 0] 102)) := (Ext.refl w).alloc (Nat.le_refl _) _
  go_enter Tryz.func32, Tryz.ntmps32
  go_wp2
  go_loopw [5, 6] (fun o i wr => ∃ ii : Nat, ii ≤ ll.length ∧ i = .int .i64 ii ∧ wr.ownsRow w.heap.size 102 2 o (joinL k (ll.take ii)).length ((joinL k (ll.take ii)).flatMap opc) ∧ Ext w wr) (fun _ i _ => ll.length - (intOf i).toNat)
  case atStart => exact ⟨0, by omega, rfl, by simpa using hown0, hE0⟩
  case round =>
    obtain ⟨ii, hii, rfl, hown, hext⟩ := hrel
    clear hown0 hE0
    by_cases hlt : ii < ll.length
    · have hvi : ii < vs.length := by have := HV.out; omega
      have hcell : wr.cell? ⟨b, off + ii, none⟩ = some vs[ii] := cell_later hext (HC.out ii _ (by simp [hvi]))
      obtain rfl := HA.out (by omega)
      have hO := (HO.out ii vs[ii] ll[ii] (by simp [hvi]) (by simp [hlt])).ext hext
      obtain ⟨ax, cx, hvx, hrx⟩ := hO
      rw [hvx] at hcell
      have HS := Lib.hid (join_succ k ll ii hlt)
      have hl1 := take_flat_le ll ii
      have hl2 := take_flat_le ll (ii + 1)
      have hl3 : (joinL k (ll.take (ii + 1))).length ≤ 10001 := by simp only [joinL, List.length_cons]; omega
      have hl4 : (joinL k (ll.take (ii + 1))).length = (joinL k (ll.take ii)).length + ll[ii].length := by rw [HS.out, List.length_append]
      have hl5 : (joinL k (ll.take ii)).length + ll[ii].length ≤ 10001 := by omega
      have hone := opc_one ll[ii]
      have hws := hext.size
      generalize hj : joinL k (ll.take ii) = j at *
      have HJ := Lib.hid hj
      generalize ll[ii] = li at *
      clear hvx HC HA HV HO hl1 hl2 hl3 hl4 hj
      go_wp2_with (at_builtin; go_must (refine wpl_append rfl rfl Tryz.slOps w.heap.size rfl hown rfl hrx hone (by unfold maxLen; omega) (by omega) hws ?_))
      intro o' w1 hown1 hg1 _ _
      have hE1 : Ext w w1 := hext.grown hg1 hws (fun g hg => (hown.lt g hg).1)
      clear hg1 hown
      go_wp2
      go_roundw
      case rel => exact ⟨ii + 1, by omega, by go_num, by rw [HS.out, List.length_append, List.flatMap_append]; exact hown1, hE1⟩
      case measure => simp [intOf]; omega
    · obtain rfl : ii = ll.length := by omega
      rw [List.take_length] at hown
      go_wp2
      go_ret
      exact ⟨_, rfl, hown, hext⟩
end Go.Proofs.YtciihiiacbnimaaGreatDoor

namespace Go.Proofs.YtciihiiacbnimaaGreatDoor
open Go.RowKit
theorem ops_own {w : World} {base : Nat} {v : Value} {l : List Op2} (h : w.ownsRow base 102 2 v l.length (l.flatMap opc)) : Ops w v l := by
  obtain ⟨a, c, rfl, hr⟩ := h.row
  exact ⟨a, c, rfl, hr⟩
theorem ops_ext {w w' : World} {v : Value} {l : List Op2} (h : Ops w v l) (hb : Ext w w') : Ops w' v l := by
  obtain ⟨a, c, rfl, hr⟩ := h
  exact ⟨a, c, rfl, hr.ext hb⟩
theorem opsL_new (w : World) (T : TypeId) (vs : List Value) (ll : List (List Op2)) (hl : vs.length = ll.length) (hm : vs.length ≤ maxLen) (h : ∀ (i : Nat) (x : Value) (l : List Op2), vs[i]? = some x → ll[i]? = some l → Ops w x l) :
    OpsL (w.alloc (.cells vs.toArray T)) (.slice (some ⟨w.heap.size, 0, none⟩) vs.length vs.length) ll := by
  refine ⟨vs, hl, ⟨_, _, by rw [hl], ?_⟩, fun i x l hx hl' => ops_ext (h i x l hx hl') ((Ext.refl w).alloc (Nat.le_refl _) _)⟩
  rw [← hl]
  exact Row.new w T vs hm
theorem join2 (k : Int) (va vb : Value) (la lb : List Op2) (w : World) (T : TypeId) (ha : Ops w va la) (hb : Ops w vb lb) (hl : la.length + lb.length ≤ 10000) :
    Calls Tryz.prog 32 #[.int .i64 k, .slice (some ⟨w.heap.size, 0, none⟩) 2 2] (w.alloc (.cells #[va, vb] T)) fun e w' => ∃ v', e = .returned v' ∧ Ops w' v' ((k, 0) :: (la ++ lb)) ∧ Ext w w' := by
  have hE : Ext w (w.alloc (.cells #[va, vb] T)) := (Ext.refl w).alloc (Nat.le_refl _) _
  have h := opsL_new w T [va, vb] [la, lb] rfl (by simp [maxLen]) (by
    intro i x l hx hl'
    match i with
    | 0 => simp at hx hl'; subst hx; subst hl'; exact ha
    | 1 => simp at hx hl'; subst hx; subst hl'; exact hb
    | i + 2 => simp at hx)
  refine (joined_any k _ [la, lb] _ h (by simp; omega) (by simp)).mono ?_
  rintro e w' ⟨v', rfl, hown, hx⟩
  have e : joinL k [la, lb] = (k, 0) :: (la ++ lb) := by simp [joinL]
  rw [e] at hown
  exact ⟨v', rfl, ops_own hown, hE.trans hx⟩
def IsT (w : World) (v : Value) (t : Tm) : Prop := Ops w v t.flat
theorem IsT.ext {w w' : World} {v : Value} {t : Tm} (h : IsT w v t) (hb : Ext w w') : IsT w' v t := ops_ext h hb
theorem isT_own {w : World} {base : Nat} {v : Value} {t : Tm} (h : w.ownsRow base 102 2 v t.flat.length (t.flat.flatMap opc)) : IsT w v t := ops_own h
theorem IsT.val {w : World} {v : Value} {t : Tm} (h : IsT w v t) : ∃ a n c, v = .slice a n c := by
  obtain ⟨a, c, rfl, _⟩ := h
  exact ⟨_, _, _, rfl⟩
theorem joinT2 (k : Int) (va vb : Value) (a b : Tm) (w : World) (T : TypeId) (ha : IsT w va a) (hb : IsT w vb b) (hl : a.size + b.size ≤ 10000) :
    Calls Tryz.prog 32 #[.int .i64 k, .slice (some ⟨w.heap.size, 0, none⟩) 2 2] (w.alloc (.cells #[va, vb] T)) fun e w' => ∃ v', e = .returned v' ∧ IsT w' v' (.n2 k 0 a b) ∧ Ext w w' :=
  join2 k va vb a.flat b.flat w T ha hb (by simpa [Tm.flat_len] using hl)
end Go.Proofs.YtciihiiacbnimaaGreatDoor

namespace Go.Proofs.YtciihiiacbnimaaGreatDoor
open Go.RowKit
def mkK (k : Int) : Bool := decide (k = 6 ∨ k = 7 ∨ 8 ≤ k ∧ k ≤ 12)
def tkK (k : Int) : Bool := decide (8 ≤ k ∧ k ≤ 12)
def okK (k : Int) : Bool := decide (1 ≤ k ∧ k ≤ 12)
set_option maxRecDepth 100000 in
set_option maxHeartbeats 2000000 in
theorem truth_fn (k : Int) (w : World) :
    Calls Tryz.prog 74 #[.int .i64 k] w fun e w' => e = .returned (.tuple #[.bool (mkK k), .bool (tkK k), .bool (okK k)]) ∧ w = w' := by
  by_cases h : 1 ≤ k ∧ k ≤ 12
  · have hv : k = 1 ∨ k = 2 ∨ k = 3 ∨ k = 4 ∨ k = 5 ∨ k = 6 ∨ k = 7 ∨ k = 8 ∨ k = 9 ∨ k = 10 ∨ k = 11 ∨ k = 12 := by omega
    clear h
    rcases hv with rfl | rfl | rfl | rfl | rfl | rfl | rfl | rfl | rfl | rfl | rfl | rfl
    all_goals
      go_enter Tryz.func74, Tryz.ntmps74
      go_wp2
      go_ret3
      exact ⟨rfl, rfl⟩
  · have e1 : mkK k = false := by unfold mkK; simp; omega
    have e2 : tkK k = false := by unfold tkK; simp; omega
    have e3 : okK k = false := by unfold okK; simp; omega
    rw [e1, e2, e3]
    have f : ∀ n : Int, 1 ≤ n → n ≤ 12 → (k == n) = false := fun n h1 h2 => by rw [beq_eq_false_iff_ne]; omega
    have f1 := f 1 (by omega) (by omega)
    have f2 := f 2 (by omega) (by omega)
    have f3 := f 3 (by omega) (by omega)
    have f4 := f 4 (by omega) (by omega)
    have f5 := f 5 (by omega) (by omega)
    have f6 := f 6 (by omega) (by omega)
    have f7 := f 7 (by omega) (by omega)
    have f8 := f 8 (by omega) (by omega)
    have f9 := f 9 (by omega) (by omega)
    have f10 := f 10 (by omega) (by omega)
    have f11 := f 11 (by omega) (by omega)
    have f12 := f 12 (by omega) (by omega)
    clear f e1 e2 e3 h
    go_enter Tryz.func74, Tryz.ntmps74
    go_wp2
    go_ret3
    exact ⟨rfl, rfl⟩
def opE (o : Op2) (vars : Int) : Int :=
  if okK o.1 = false then 13
  else if o.2 < (if o.1 = 1 then -1000 else 0) ∨ (if o.1 = 1 then 1000 else if o.1 = 2 then vars - 1 else 0) < o.2 then 2 else 0
set_option maxRecDepth 100000 in
set_option maxHeartbeats 2000000 in
theorem op_fn (o : Op2) (vars : Int) (w : World) (h1 : 0 ≤ vars) (h2 : vars ≤ 6) :
    Calls Tryz.prog 73 #[.agg #[.int .i64 o.1, .int .i64 o.2], .int .i64 vars] w fun e w' => e = .returned (.int .i64 (opE o vars)) ∧ Ext w w' := by
  obtain ⟨k, x⟩ := o
  have hE : Ext w (w.alloc (Obj.cells #[.int .i64 k, .int .i64 x] 102)) := (Ext.refl w).alloc (Nat.le_refl _) _
  have HT := Lib.hid (truth_fn k (w.alloc (Obj.cells #[.int .i64 k, .int .i64 x] 102)))
  have hv : okK k = false ∨ okK k = true := by cases okK k <;> simp
  rcases hv with hk | hk
  · have HK : Hid (opE (k, x) vars = 13) := by show opE (k, x) vars = 13; simp [opE, hk]
    rw [HK.out]
    rw [hk] at HT
    clear hk HK
    generalize mkK k = b1 at *
    generalize tkK k = b2 at *
    go_enter Tryz.func73, Tryz.ntmps73
    go_wp2_with fail
    refine HT.out.mono ?_
    rintro e w' ⟨rfl, rfl⟩
    go_wp2
    go_ret
    exact ⟨rfl, hE⟩
  · have hb : 1 ≤ k ∧ k ≤ 12 := by simpa [okK] using hk
    obtain ⟨hb1, hb2⟩ := hb
    have HK : Hid (opE (k, x) vars = if x < (if k = 1 then -1000 else 0) ∨ (if k = 1 then 1000 else if k = 2 then vars - 1 else 0) < x then 2 else 0) := by
      show opE (k, x) vars = _
      simp [opE, hk]
    rw [hk] at HT
    rw [HK.out]
    clear hk HK
    generalize mkK k = b1 at *
    generalize tkK k = b2 at *
    by_cases k1 : k = 1
    · subst k1
      simp only [if_true]
      generalize hr : (if x < -1000 ∨ 1000 < x then (2 : Int) else 0) = r at *
      have Hr := Lib.hid hr
      clear hr
      go_enter Tryz.func73, Tryz.ntmps73
      go_wp2_with fail
      refine HT.out.mono ?_
      rintro e w' ⟨rfl, rfl⟩
      go_wp2
      all_goals
        go_ret
        exact ⟨congrArg (fun n => Ending.returned (.int .i64 n)) (by rw [← Hr.out]; first | rw [if_pos (by omega)] | rw [if_neg (by omega)]), hE⟩
    · by_cases k2 : k = 2
      · subst k2
        simp only [if_neg k1, if_true]
        generalize hr : (if x < 0 ∨ vars - 1 < x then (2 : Int) else 0) = r at *
        have Hr := Lib.hid hr
        clear hr k1
        go_enter Tryz.func73, Tryz.ntmps73
        go_wp2_with fail
        refine HT.out.mono ?_
        rintro e w' ⟨rfl, rfl⟩
        go_wp2
        all_goals
          go_ret
          exact ⟨congrArg (fun n => Ending.returned (.int .i64 n)) (by rw [← Hr.out]; first | rw [if_pos (by omega)] | rw [if_neg (by omega)]), hE⟩
      · simp only [if_neg k1, if_neg k2]
        generalize hr : (if x < 0 ∨ 0 < x then (2 : Int) else 0) = r at *
        have Hr := Lib.hid hr
        clear hr
        have f1 : (k == 1) = false := by rw [beq_eq_false_iff_ne]; exact k1
        have f2 : (k == 2) = false := by rw [beq_eq_false_iff_ne]; exact k2
        clear k1 k2
        go_enter Tryz.func73, Tryz.ntmps73
        go_wp2_with fail
        refine HT.out.mono ?_
        rintro e w' ⟨rfl, rfl⟩
        go_wp2
        all_goals
          go_ret
          exact ⟨congrArg (fun n => Ending.returned (.int .i64 n)) (by rw [← Hr.out]; first | rw [if_pos (by omega)] | rw [if_neg (by omega)]), hE⟩
end Go.Proofs.YtciihiiacbnimaaGreatDoor

namespace Go.Proofs.YtciihiiacbnimaaGreatDoor
def tvT (L : List Bool) (c : Nat) : Tm → Nat → List Bool
  | .n0 k v, b => [if aheadB k then c.testBit b else if k = 13 then L.getD v.toNat false else decide (k = 11)]
  | .n1 k _ a, b => (if aheadB k then c.testBit b else !(tvT L c a (b + (if aheadB k then 1 else 0))).headD false) :: tvT L c a (b + (if aheadB k then 1 else 0))
  | .n2 k _ x y, b =>
    (if aheadB k then c.testBit b
      else if k = 8 then (tvT L c x (b + (if aheadB k then 1 else 0))).headD false && (tvT L c y (b + (if aheadB k then 1 else 0) + cntA x.flat)).headD false
      else (tvT L c x (b + (if aheadB k then 1 else 0))).headD false || (tvT L c y (b + (if aheadB k then 1 else 0) + cntA x.flat)).headD false) ::
      (tvT L c x (b + (if aheadB k then 1 else 0)) ++ tvT L c y (b + (if aheadB k then 1 else 0) + cntA x.flat))
theorem tvT_len (L : List Bool) (c : Nat) (t : Tm) : ∀ b, (tvT L c t b).length = t.size := by
  induction t with
  | n0 => intro b; rfl
  | n1 k v a ih => intro b; simp [tvT, Tm.size, ih]
  | n2 k v x y ih1 ih2 => intro b; simp [tvT, Tm.size, ih1, ih2]
def secAt (es : List Int) (i : Nat) : Nat := (es.getD (i + 1) 0).toNat
structure TvAt (L : List Bool) (c : Nat) (l : List Op2) (es : List Int) (tv : List Bool) (i : Nat) (k v : Int) : Prop where
  one : partsOf k = 1 ∨ partsOf k = 2 → i + 1 < l.length
  two : partsOf k = 2 → es[i + 1]? = some (secAt es i : Int) ∧ i + 1 < secAt es i ∧ secAt es i < l.length
  ah : aheadB k = true → tv[i]? = some (c.testBit (cntA (l.take i)))
  prop : k = 13 → tv[i]? = some (L.getD v.toNat false)
  yes : k = 11 → tv[i]? = some true
  no : k = 12 → tv[i]? = some false
  not : k = 10 → tv[i]? = some (!tv.getD (i + 1) false)
  and : k = 8 → tv[i]? = some (tv.getD (i + 1) false && tv.getD (secAt es i) false)
  or : k = 9 → tv[i]? = some (tv.getD (i + 1) false || tv.getD (secAt es i) false)
theorem getD_mid (a b c : List Bool) (h : 0 < b.length) : (a ++ b ++ c).getD a.length false = b.headD false := by
  cases b with
  | nil => simp at h
  | cons x b => simp [List.getD]
theorem tv_law (L : List Bool) (c : Nat) (t : Tm) (ht : t.ok) : ∀ (pre post : List Op2) (ea eb : List Int) (ta tb : List Bool), ea.length = pre.length → ta.length = pre.length →
    ∀ i, i < t.size → ∀ k v, (pre ++ t.flat ++ post)[pre.length + i]? = some (k, v) →
      TvAt L c (pre ++ t.flat ++ post) (ea ++ t.ends pre.length ++ eb) (ta ++ tvT L c t (cntA pre) ++ tb) (pre.length + i) k v := by
  induction t with
  | n0 k0 v0 =>
    intro pre post ea eb ta tb he hta i hi k v hkv
    obtain ⟨h1, h2, h3⟩ := ht
    simp only [Tm.size] at hi
    obtain rfl : i = 0 := by omega
    simp only [Tm.flat, Nat.add_zero] at hkv ⊢
    have hkv' : k0 = k ∧ v0 = v := by simpa using hkv
    obtain ⟨rfl, rfl⟩ := hkv'
    have htv : (ta ++ tvT L c (.n0 k0 v0) (cntA pre) ++ tb)[pre.length]? = some (if aheadB k0 then c.testBit (cntA pre) else if k0 = 13 then L.getD v0.toNat false else decide (k0 = 11)) := by
      rw [← hta]; simp [tvT]
    have hnp : ∀ j : Int, partsOf j ≠ 0 → k0 ≠ j := fun j hj e => by subst e; exact hj h3
    refine ⟨fun h => by omega, fun h => by omega, fun h => ?_, fun h => ?_, fun h => ?_, fun h => ?_, fun h => ?_, fun h => ?_, fun h => ?_⟩
    · rw [htv, if_pos h]; simp
    · subst h; rw [htv]; simp [aheadB]
    · subst h; rw [htv]; simp [aheadB]
    · subst h; rw [htv]; simp [aheadB]
    · exact absurd h (hnp 10 (by decide))
    · exact absurd h (hnp 8 (by decide))
    · exact absurd h (hnp 9 (by decide))
  | n1 k0 v0 a ih =>
    intro pre post ea eb ta tb he hta i hi k v hkv
    obtain ⟨h1, h2, h3, h4⟩ := ht
    have hfl := a.flat_len
    have hel := a.ends_len (pre.length + 1)
    have hsz := a.size_pos
    have htl := tvT_len L c a (cntA (pre ++ [(k0, v0)]))
    have hcn : cntA (pre ++ [(k0, v0)]) = cntA pre + (if aheadB k0 then 1 else 0) := by rw [cntA_app]; simp [cntA]
    have e1 : pre ++ Tm.flat (.n1 k0 v0 a) ++ post = (pre ++ [(k0, v0)]) ++ a.flat ++ post := by simp [Tm.flat]
    have e2 : ea ++ Tm.ends (.n1 k0 v0 a) pre.length ++ eb = (ea ++ [((pre.length + 1 + a.size : Nat) : Int)]) ++ a.ends (pre ++ [(k0, v0)]).length ++ eb := by simp [Tm.ends]
    obtain ⟨h0, hh0⟩ : ∃ x, x = (if aheadB k0 then c.testBit (cntA pre) else !(tvT L c a (cntA (pre ++ [(k0, v0)]))).headD false) := ⟨_, rfl⟩
    have e3 : ta ++ tvT L c (.n1 k0 v0 a) (cntA pre) ++ tb = (ta ++ [h0]) ++ tvT L c a (cntA (pre ++ [(k0, v0)])) ++ tb := by rw [hh0, hcn]; simp [tvT]
    rw [e1] at hkv
    rw [e1, e2, e3]
    by_cases hi0 : i = 0
    · subst hi0
      have hkv' : k0 = k ∧ v0 = v := by simpa using hkv
      obtain ⟨rfl, rfl⟩ := hkv'
      have hat : ((ta ++ [h0]) ++ tvT L c a (cntA (pre ++ [(k0, v0)])) ++ tb)[pre.length + 0]? = some h0 := by rw [Nat.add_zero, ← hta]; simp
      have hnx : ((ta ++ [h0]) ++ tvT L c a (cntA (pre ++ [(k0, v0)])) ++ tb).getD (pre.length + 0 + 1) false = (tvT L c a (cntA (pre ++ [(k0, v0)]))).headD false := by
        have := getD_mid (ta ++ [h0]) (tvT L c a (cntA (pre ++ [(k0, v0)]))) tb (by omega)
        rw [← this]; simp [hta]
      have htk : ((pre ++ [(k0, v0)]) ++ a.flat ++ post).take (pre.length + 0) = pre := by simp
      have hnp : ∀ j : Int, partsOf j ≠ 1 → k0 ≠ j := fun j hj e => by subst e; exact hj h3
      refine ⟨fun h => by simp; omega, fun h => by omega, fun h => ?_, fun h => absurd h (hnp 13 (by decide)), fun h => absurd h (hnp 11 (by decide)), fun h => absurd h (hnp 12 (by decide)), fun h => ?_, fun h => absurd h (hnp 8 (by decide)), fun h => absurd h (hnp 9 (by decide))⟩
      · rw [hat, htk, hh0, if_pos h]
      · rw [hat, hnx, hh0]
        have : aheadB k0 = false := by subst h; decide
        rw [this]; rfl
    · have := ih h4 (pre ++ [(k0, v0)]) post (ea ++ [((pre.length + 1 + a.size : Nat) : Int)]) eb (ta ++ [h0]) tb (by simp [he]) (by simp [hta]) (i - 1) (by simp only [Tm.size] at hi; omega) k v (by
        rw [show (pre ++ [(k0, v0)]).length + (i - 1) = pre.length + i by simp; omega]; exact hkv)
      rw [show (pre ++ [(k0, v0)]).length + (i - 1) = pre.length + i by simp; omega] at this
      exact this
  | n2 k0 v0 x y ih1 ih2 =>
    intro pre post ea eb ta tb he hta i hi k v hkv
    obtain ⟨h1, h2, h3, h4, h5⟩ := ht
    have hfx := x.flat_len
    have hfy := y.flat_len
    have hsx := x.size_pos
    have hsy := y.size_pos
    have hex := x.ends_len (pre.length + 1)
    have hlx := tvT_len L c x (cntA (pre ++ [(k0, v0)]))
    have hly := tvT_len L c y (cntA (pre ++ [(k0, v0)] ++ x.flat))
    have hcx : cntA (pre ++ [(k0, v0)]) = cntA pre + (if aheadB k0 then 1 else 0) := by rw [cntA_app]; simp [cntA]
    have hcy : cntA (pre ++ [(k0, v0)] ++ x.flat) = cntA pre + (if aheadB k0 then 1 else 0) + cntA x.flat := by rw [cntA_app, hcx]
    have e1 : pre ++ Tm.flat (.n2 k0 v0 x y) ++ post = (pre ++ [(k0, v0)]) ++ x.flat ++ (y.flat ++ post) := by simp [Tm.flat]
    have e1' : pre ++ Tm.flat (.n2 k0 v0 x y) ++ post = (pre ++ [(k0, v0)] ++ x.flat) ++ y.flat ++ post := by simp [Tm.flat]
    obtain ⟨E0, hE0⟩ : ∃ e, e = ((pre.length + 1 + x.size + y.size : Nat) : Int) := ⟨_, rfl⟩
    have e2 : ea ++ Tm.ends (.n2 k0 v0 x y) pre.length ++ eb = (ea ++ [E0]) ++ x.ends (pre ++ [(k0, v0)]).length ++ (y.ends (pre.length + 1 + x.size) ++ eb) := by simp [Tm.ends, hE0]
    have e2' : ea ++ Tm.ends (.n2 k0 v0 x y) pre.length ++ eb = (ea ++ [E0] ++ x.ends (pre.length + 1)) ++ y.ends (pre ++ [(k0, v0)] ++ x.flat).length ++ eb := by
      rw [show (pre ++ [(k0, v0)] ++ x.flat).length = pre.length + 1 + x.size by simp [hfx]; omega]
      simp [Tm.ends, hE0]
    obtain ⟨h0, hh0⟩ : ∃ z, z = (if aheadB k0 then c.testBit (cntA pre) else if k0 = 8 then (tvT L c x (cntA (pre ++ [(k0, v0)]))).headD false && (tvT L c y (cntA (pre ++ [(k0, v0)] ++ x.flat))).headD false
      else (tvT L c x (cntA (pre ++ [(k0, v0)]))).headD false || (tvT L c y (cntA (pre ++ [(k0, v0)] ++ x.flat))).headD false) := ⟨_, rfl⟩
    have e3 : ta ++ tvT L c (.n2 k0 v0 x y) (cntA pre) ++ tb = (ta ++ [h0]) ++ tvT L c x (cntA (pre ++ [(k0, v0)])) ++ (tvT L c y (cntA (pre ++ [(k0, v0)] ++ x.flat)) ++ tb) := by rw [hh0, hcx, hcy]; simp [tvT]
    have e3' : ta ++ tvT L c (.n2 k0 v0 x y) (cntA pre) ++ tb = (ta ++ [h0] ++ tvT L c x (cntA (pre ++ [(k0, v0)]))) ++ tvT L c y (cntA (pre ++ [(k0, v0)] ++ x.flat)) ++ tb := by rw [e3]; simp
    by_cases hi0 : i = 0
    · subst hi0
      rw [e1] at hkv
      rw [e1, e2, e3]
      have hkv' : k0 = k ∧ v0 = v := by simpa using hkv
      obtain ⟨rfl, rfl⟩ := hkv'
      have hat : ((ta ++ [h0]) ++ tvT L c x (cntA (pre ++ [(k0, v0)])) ++ (tvT L c y (cntA (pre ++ [(k0, v0)] ++ x.flat)) ++ tb))[pre.length + 0]? = some h0 := by rw [Nat.add_zero, ← hta]; simp
      have hnx : ((ta ++ [h0]) ++ tvT L c x (cntA (pre ++ [(k0, v0)])) ++ (tvT L c y (cntA (pre ++ [(k0, v0)] ++ x.flat)) ++ tb)).getD (pre.length + 0 + 1) false = (tvT L c x (cntA (pre ++ [(k0, v0)]))).headD false := by
        have := getD_mid (ta ++ [h0]) (tvT L c x (cntA (pre ++ [(k0, v0)]))) (tvT L c y (cntA (pre ++ [(k0, v0)] ++ x.flat)) ++ tb) (by omega)
        rw [← this]; simp [hta]
      have hes : ((ea ++ [E0]) ++ x.ends (pre ++ [(k0, v0)]).length ++ (y.ends (pre.length + 1 + x.size) ++ eb))[pre.length + 0 + 1]? = some (((pre.length + 1 + x.size : Nat)) : Int) := by
        have hz := ends_zero x (pre.length + 1) (by rw [hex]; exact hsx)
        have hl2 : (pre ++ [(k0, v0)]).length = pre.length + 1 := by simp
        rw [hl2, List.append_assoc, List.getElem?_append_right (by simp [he]), List.getElem?_append_left (by rw [hex]; simp [he]; exact hsx)]
        rw [show pre.length + 0 + 1 - (ea ++ [E0]).length = 0 by simp [he], List.getElem?_eq_getElem (by rw [hex]; exact hsx), hz]
      have hsec : secAt ((ea ++ [E0]) ++ x.ends (pre ++ [(k0, v0)]).length ++ (y.ends (pre.length + 1 + x.size) ++ eb)) (pre.length + 0) = pre.length + 1 + x.size := by
        unfold secAt
        rw [List.getD, hes]
        show ((pre.length + 1 + x.size : Nat) : Int).toNat = _
        omega
      have hny : ((ta ++ [h0]) ++ tvT L c x (cntA (pre ++ [(k0, v0)])) ++ (tvT L c y (cntA (pre ++ [(k0, v0)] ++ x.flat)) ++ tb)).getD (pre.length + 1 + x.size) false = (tvT L c y (cntA (pre ++ [(k0, v0)] ++ x.flat))).headD false := by
        have := getD_mid (ta ++ [h0] ++ tvT L c x (cntA (pre ++ [(k0, v0)]))) (tvT L c y (cntA (pre ++ [(k0, v0)] ++ x.flat))) tb (by omega)
        rw [← this]
        congr 1
        · simp
        · simp [hta, hlx]; omega
      have htk : ((pre ++ [(k0, v0)]) ++ x.flat ++ (y.flat ++ post)).take (pre.length + 0) = pre := by simp
      have hnp : ∀ j : Int, partsOf j ≠ 2 → k0 ≠ j := fun j hj e => by subst e; exact hj h3
      refine ⟨fun h => by simp; omega, fun h => ?_, fun h => ?_, fun h => absurd h (hnp 13 (by decide)), fun h => absurd h (hnp 11 (by decide)), fun h => absurd h (hnp 12 (by decide)), fun h => absurd h (hnp 10 (by decide)), fun h => ?_, fun h => ?_⟩
      · rw [hsec]
        exact ⟨hes, by omega, by simp; omega⟩
      · rw [hat, htk, hh0, if_pos h]
      · rw [hat, hnx, hsec, hny, hh0]
        have : aheadB k0 = false := by subst h; decide
        rw [this, if_pos h]; rfl
      · rw [hat, hnx, hsec, hny, hh0]
        have : aheadB k0 = false := by subst h; decide
        rw [this, if_neg (show ¬ k0 = 8 by omega)]; rfl
    · by_cases hix : i - 1 < x.size
      · rw [e1] at hkv
        rw [e1, e2, e3]
        have := ih1 h4 (pre ++ [(k0, v0)]) (y.flat ++ post) (ea ++ [E0]) (y.ends (pre.length + 1 + x.size) ++ eb) (ta ++ [h0]) (tvT L c y (cntA (pre ++ [(k0, v0)] ++ x.flat)) ++ tb) (by simp [he]) (by simp [hta]) (i - 1) hix k v (by
          rw [show (pre ++ [(k0, v0)]).length + (i - 1) = pre.length + i by simp; omega]; exact hkv)
        rw [show (pre ++ [(k0, v0)]).length + (i - 1) = pre.length + i by simp; omega] at this
        exact this
      · rw [e1'] at hkv
        rw [e1', e2', e3']
        have hpl : (pre ++ [(k0, v0)] ++ x.flat).length + (i - 1 - x.size) = pre.length + i := by simp [hfx]; omega
        have := ih2 h5 (pre ++ [(k0, v0)] ++ x.flat) post (ea ++ [E0] ++ x.ends (pre.length + 1)) eb (ta ++ [h0] ++ tvT L c x (cntA (pre ++ [(k0, v0)]))) tb (by simp [he, hex, hfx]) (by simp [hta, hlx, hfx]) (i - 1 - x.size) (by simp only [Tm.size] at hi; omega) k v (by rw [hpl]; exact hkv)
        rw [hpl] at this
        exact this
end Go.Proofs.YtciihiiacbnimaaGreatDoor

namespace Go.Proofs.YtciihiiacbnimaaGreatDoor
def nxt (n back i : Nat) : Nat := if i + 1 < n then i + 1 else back
def nxtN (n back : Nat) : Nat → Nat → Nat
  | 0, i => i
  | j + 1, i => nxtN n back j (nxt n back i)
theorem nxt_lt {n back i : Nat} (h : back < n) : nxt n back i < n := by unfold nxt; split <;> omega
theorem nxtN_lt {n back : Nat} (h : back < n) : ∀ j i, i < n → nxtN n back j i < n
  | 0, _, hi => hi
  | j + 1, _, _ => nxtN_lt h j _ (nxt_lt h)
theorem nxtN_add (n back : Nat) : ∀ j k i, nxtN n back (j + k) i = nxtN n back k (nxtN n back j i)
  | 0, k, i => by rw [Nat.zero_add]; rfl
  | j + 1, k, i => by rw [show j + 1 + k = (j + k) + 1 by omega]; exact nxtN_add n back j k (nxt n back i)
structure Wd where
  ls : List (List Bool)
  back : Nat
def Wd.n (W : Wd) : Nat := W.ls.length
def UntilP (n back : Nat) (a b : Nat → Prop) (i : Nat) : Prop := ∃ j, b (nxtN n back j i) ∧ ∀ m, m < j → a (nxtN n back m i)
def RelP (n back : Nat) (a b : Nat → Prop) (i : Nat) : Prop := ∀ j, b (nxtN n back j i) ∨ ∃ m, m < j ∧ a (nxtN n back m i)
def Sat (W : Wd) : Tm → Nat → Prop
  | .n0 k v, i => if k = 13 then ((W.ls.getD i []).getD v.toNat false) = true else k = 11
  | .n1 k _ a, i =>
    if k = 10 then ¬ Sat W a i
    else if k = 14 then Sat W a (nxt W.n W.back i)
    else if k = 17 then UntilP W.n W.back (fun _ => True) (Sat W a) i
    else RelP W.n W.back (fun _ => False) (Sat W a) i
  | .n2 k _ a b, i =>
    if k = 8 then Sat W a i ∧ Sat W b i
    else if k = 9 then Sat W a i ∨ Sat W b i
    else if k = 15 then UntilP W.n W.back (Sat W a) (Sat W b) i
    else RelP W.n W.back (Sat W a) (Sat W b) i
theorem until_iff (n back : Nat) (a b : Nat → Prop) (i : Nat) : UntilP n back a b i ↔ b i ∨ (a i ∧ UntilP n back a b (nxt n back i)) := by
  constructor
  · rintro ⟨j, h1, h2⟩
    cases j with
    | zero => exact .inl h1
    | succ j => exact .inr ⟨h2 0 (by omega), j, h1, fun m hm => h2 (m + 1) (by omega)⟩
  · rintro (h | ⟨h, j, h1, h2⟩)
    · exact ⟨0, h, fun m hm => by omega⟩
    · refine ⟨j + 1, h1, fun m hm => ?_⟩
      cases m with
      | zero => exact h
      | succ m => exact h2 m (by omega)
theorem rel_iff (n back : Nat) (a b : Nat → Prop) (i : Nat) : RelP n back a b i ↔ b i ∧ (a i ∨ RelP n back a b (nxt n back i)) := by
  constructor
  · intro h
    refine ⟨by rcases h 0 with h | ⟨m, hm, _⟩; exact h; omega, ?_⟩
    by_cases ha : a i
    · exact .inl ha
    · refine .inr fun j => ?_
      rcases h (j + 1) with h | ⟨m, hm, h⟩
      · exact .inl h
      · cases m with
        | zero => exact absurd h ha
        | succ m => exact .inr ⟨m, by omega, h⟩
  · rintro ⟨h1, h2⟩ j
    cases j with
    | zero => exact .inl h1
    | succ j =>
      rcases h2 with h2 | h2
      · exact .inr ⟨0, by omega, h2⟩
      · rcases h2 j with h | ⟨m, hm, h⟩
        · exact .inl h
        · exact .inr ⟨m + 1, by omega, h⟩
theorem rel_not (n back : Nat) (a b : Nat → Prop) (i : Nat) : RelP n back a b i ↔ ¬ UntilP n back (fun x => ¬ a x) (fun x => ¬ b x) i := by
  constructor
  · rintro h ⟨j, h1, h2⟩
    rcases h j with h | ⟨m, hm, h⟩
    · exact h1 h
    · exact h2 m hm h
  · intro h j
    by_cases hb : b (nxtN n back j i)
    · exact .inl hb
    · right
      by_cases hx : ∃ m, m < j ∧ a (nxtN n back m i)
      · exact hx
      · exact absurd ⟨j, hb, fun m hm ha => hx ⟨m, hm, ha⟩⟩ h
theorem until_row {n back : Nat} {a b r : Nat → Prop} (hback : back < n) (h1 : ∀ i, i < n → r i → UntilP n back a b i) (h2 : ∀ i, i < n → (b i ∨ (a i ∧ r (nxt n back i))) → r i) : ∀ i, i < n → (r i ↔ UntilP n back a b i) := by
  intro i hi
  refine ⟨h1 i hi, ?_⟩
  rintro ⟨j, hb, ha⟩
  induction j generalizing i with
  | zero => exact h2 i hi (.inl hb)
  | succ j ih => exact h2 i hi (.inr ⟨ha 0 (by omega), ih _ (nxt_lt hback) hb fun m hm => ha (m + 1) (by omega)⟩)
theorem rel_row {n back : Nat} {a b r : Nat → Prop} (hback : back < n) (h1 : ∀ i, i < n → RelP n back a b i → r i) (h2 : ∀ i, i < n → r i → (b i ∧ (a i ∨ r (nxt n back i)))) : ∀ i, i < n → (r i ↔ RelP n back a b i) := by
  intro i hi
  refine ⟨fun h j => ?_, h1 i hi⟩
  induction j generalizing i with
  | zero => exact .inl (h2 i hi h).1
  | succ j ih =>
    obtain ⟨_, h3 | h3⟩ := h2 i hi h
    · exact .inr ⟨0, by omega, h3⟩
    · rcases ih _ (nxt_lt hback) h3 with h | ⟨m, hm, h⟩
      · exact .inl h
      · exact .inr ⟨m + 1, by omega, h⟩
end Go.Proofs.YtciihiiacbnimaaGreatDoor

namespace Go.Proofs.YtciihiiacbnimaaGreatDoor
def updB (r : Nat → Bool) (i : Nat) (v : Bool) : Nat → Bool := fun x => if x = i then v else r x
structure Sets (n back : Nat) (bg : Bool) (law : Nat → Bool → Bool) (fix : Nat → Prop) (r : Nat → Bool) : Prop where
  sup : ∀ i, i < n → r i = !bg → law i (r (nxt n back i)) = !bg
  snd : ∀ i, i < n → r i = !bg → fix i
theorem Sets.begin (n back : Nat) (bg : Bool) (law : Nat → Bool → Bool) (fix : Nat → Prop) : Sets n back bg law fix fun _ => bg :=
  ⟨fun _ _ h => absurd (show bg = !bg from h) (by cases bg <;> simp), fun _ _ h => absurd (show bg = !bg from h) (by cases bg <;> simp)⟩
theorem Sets.old {n back : Nat} {bg : Bool} {law : Nat → Bool → Bool} {fix : Nat → Prop} {r : Nat → Bool} (h : Sets n back bg law fix r) {i : Nat} (hi : i < n) (hv : law i (r (nxt n back i)) ≠ r i) : r i = bg ∧ law i (r (nxt n back i)) = !bg := by
  have h1 := h.sup i hi
  cases hr : r i <;> cases bg <;> cases hl : law i (r (nxt n back i)) <;> simp_all
theorem Sets.turn {n back : Nat} {bg : Bool} {law : Nat → Bool → Bool} {fix : Nat → Prop} {r : Nat → Bool} (h : Sets n back bg law fix r) (hback : back < n) (hm : ∀ i, law i bg = !bg → law i (!bg) = !bg)
    (hs : ∀ i x, i < n → law i x = !bg → (x = !bg → fix (nxt n back i)) → fix i) {i : Nat} (hi : i < n) (hv : law i (r (nxt n back i)) = !bg) : Sets n back bg law fix (updB r i (!bg)) := by
  have hup : ∀ j, law j (r (nxt n back j)) = !bg → law j (updB r i (!bg) (nxt n back j)) = !bg := fun j hj => by
    unfold updB
    split
    · cases hx : r (nxt n back j) <;> rw [hx] at hj <;> cases bg <;> first | exact hj | exact hm j hj
    · exact hj
  refine ⟨fun j hj hr => ?_, fun j hj hr => ?_⟩
  · by_cases e : j = i
    · subst e; exact hup j hv
    · rw [updB, if_neg e] at hr
      exact hup j (h.sup j hj hr)
  · by_cases e : j = i
    · subst e
      exact hs j _ hj hv fun hx => h.snd _ (nxt_lt hback) hx
    · rw [updB, if_neg e] at hr
      exact h.snd j hj hr
def cntB (n : Nat) (bg : Bool) (r : Nat → Bool) : Nat := ((List.range n).filter fun i => r i == bg).length
theorem cntB_turn {bg : Bool} {r : Nat → Bool} {i : Nat} (hr : r i = bg) : ∀ n, i < n → cntB n bg (updB r i (!bg)) + 1 = cntB n bg r
  | 0, h => by omega
  | n + 1, h => by
    unfold cntB
    rw [List.range_succ, List.filter_append, List.filter_append, List.length_append, List.length_append]
    by_cases e : i = n
    · subst e
      have h1 : (List.range i).filter (fun j => updB r i (!bg) j == bg) = (List.range i).filter fun j => r j == bg := List.filter_congr fun j hj => by
        have := List.mem_range.1 hj
        rw [updB, if_neg (by omega)]
      rw [h1]
      have h2 : (updB r i (!bg) i == bg) = false := by rw [updB, if_pos rfl]; cases bg <;> rfl
      have h3 : (r i == bg) = true := by rw [hr]; cases bg <;> rfl
      simp [h2, h3]
    · have ih := cntB_turn (bg := bg) hr n (by omega)
      unfold cntB at ih
      have h2 : (updB r i (!bg) n == bg) = (r n == bg) := by rw [updB, if_neg (fun x => e x.symm)]
      simp only [List.filter_cons, List.filter_nil, h2]
      omega
def lawU (a b : Nat → Bool) (i : Nat) (x : Bool) : Bool := b i || (a i && x)
def lawR (a b : Nat → Bool) (i : Nat) (x : Bool) : Bool := b i && (a i || x)
theorem lawU_mono (a b : Nat → Bool) (i : Nat) (h : lawU a b i false = !false) : lawU a b i (!false) = !false := by
  revert h; unfold lawU; cases a i <;> cases b i <;> decide
theorem lawR_mono (a b : Nat → Bool) (i : Nat) (h : lawR a b i true = !true) : lawR a b i (!true) = !true := by
  revert h; unfold lawR; cases a i <;> cases b i <;> decide
theorem lawU_step {n back : Nat} (a b : Nat → Bool) (i : Nat) (x : Bool) (_hi : i < n) (h : lawU a b i x = !false) (hx : x = !false → UntilP n back (fun j => a j = true) (fun j => b j = true) (nxt n back i)) : UntilP n back (fun j => a j = true) (fun j => b j = true) i := by
  rw [until_iff]
  unfold lawU at h
  simp only [Bool.not_false, Bool.or_eq_true, Bool.and_eq_true] at h hx
  rcases h with h | ⟨h1, h2⟩
  · exact .inl h
  · exact .inr ⟨h1, hx h2⟩
theorem lawR_step {n back : Nat} (a b : Nat → Bool) (i : Nat) (x : Bool) (_hi : i < n) (h : lawR a b i x = !true) (hx : x = !true → ¬ RelP n back (fun j => a j = true) (fun j => b j = true) (nxt n back i)) : ¬ RelP n back (fun j => a j = true) (fun j => b j = true) i := by
  rw [rel_iff]
  unfold lawR at h
  simp only [Bool.not_true, Bool.and_eq_false_iff, Bool.or_eq_false_iff] at h hx
  rintro ⟨h1, h2⟩
  rcases h with h | ⟨h3, h4⟩
  · rw [h] at h1; cases h1
  · rcases h2 with h2 | h2
    · rw [h3] at h2; cases h2
    · exact hx h4 h2
theorem settled_until {n back : Nat} {a b r : Nat → Bool} (hback : back < n) (h : Sets n back false (lawU a b) (UntilP n back (fun j => a j = true) (fun j => b j = true)) r) (hs : ∀ i, i < n → lawU a b i (r (nxt n back i)) = r i) :
    ∀ i, i < n → (r i = true ↔ UntilP n back (fun j => a j = true) (fun j => b j = true) i) :=
  until_row (r := fun i => r i = true) hback (fun i hi hr => h.snd i hi hr) fun i hi hx => by
    rw [← hs i hi]
    unfold lawU
    rcases hx with hx | ⟨h1, h2⟩
    · rw [hx]; rfl
    · rw [h1, h2]; simp
theorem settled_rel {n back : Nat} {a b r : Nat → Bool} (hback : back < n) (h : Sets n back true (lawR a b) (fun i => ¬ RelP n back (fun j => a j = true) (fun j => b j = true) i) r) (hs : ∀ i, i < n → lawR a b i (r (nxt n back i)) = r i) :
    ∀ i, i < n → (r i = true ↔ RelP n back (fun j => a j = true) (fun j => b j = true) i) :=
  rel_row (r := fun i => r i = true) hback (fun i hi hr => by
    cases hx : r i
    · exact absurd hr (h.snd i hi hx)
    · rfl) fun i hi hr => by
    rw [← hs i hi] at hr
    unfold lawR at hr
    simpa using hr
end Go.Proofs.YtciihiiacbnimaaGreatDoor

namespace Go.Proofs.YtciihiiacbnimaaGreatDoor
def Tm.kd : Tm → Int
  | .n0 k _ => k
  | .n1 k _ _ => k
  | .n2 k _ _ _ => k
def Tm.vl : Tm → Int
  | .n0 _ v => v
  | .n1 _ v _ => v
  | .n2 _ v _ _ => v
def subs : Tm → List Tm
  | .n0 k v => [.n0 k v]
  | .n1 k v a => .n1 k v a :: subs a
  | .n2 k v a b => .n2 k v a b :: (subs a ++ subs b)
theorem subs_len (t : Tm) : (subs t).length = t.size := by
  induction t with
  | n0 => rfl
  | n1 k v a ih => simp [subs, Tm.size, ih]
  | n2 k v a b ih1 ih2 => simp [subs, Tm.size, ih1, ih2]
theorem subs_head (t : Tm) : (subs t)[0]? = some t := by cases t <;> rfl
structure SubAt (l : List Op2) (es : List Int) (S : List Tm) (i : Nat) (s : Tm) : Prop where
  op : l[i]? = some (s.kd, s.vl)
  sub : S[i]? = some s
  ok : s.ok
  one : ∀ k v a, s = .n1 k v a → S[i + 1]? = some a
  two : ∀ k v a b, s = .n2 k v a b → S[i + 1]? = some a ∧ es[i + 1]? = some (secAt es i : Int) ∧ i + 1 < secAt es i ∧ S[secAt es i]? = some b
theorem subs_law (t : Tm) (ht : t.ok) : ∀ (pre post : List Op2) (ea eb : List Int) (sa sb : List Tm), ea.length = pre.length → sa.length = pre.length →
    ∀ i, i < t.size → ∃ s, SubAt (pre ++ t.flat ++ post) (ea ++ t.ends pre.length ++ eb) (sa ++ subs t ++ sb) (pre.length + i) s := by
  induction t with
  | n0 k v =>
    intro pre post ea eb sa sb he hs i hi
    simp only [Tm.size] at hi
    obtain rfl : i = 0 := by omega
    refine ⟨.n0 k v, by simp [Tm.flat, Tm.kd, Tm.vl], by rw [← hs]; simp [subs], ht, fun _ _ _ h => (by cases h), fun _ _ _ _ h => (by cases h)⟩
  | n1 k v a ih =>
    intro pre post ea eb sa sb he hs i hi
    obtain ⟨h1, h2, h3, h4⟩ := ht
    have e1 : pre ++ Tm.flat (.n1 k v a) ++ post = (pre ++ [(k, v)]) ++ a.flat ++ post := by simp [Tm.flat]
    have e2 : ea ++ Tm.ends (.n1 k v a) pre.length ++ eb = (ea ++ [((pre.length + 1 + a.size : Nat) : Int)]) ++ a.ends (pre ++ [(k, v)]).length ++ eb := by simp [Tm.ends]
    have e3 : sa ++ subs (.n1 k v a) ++ sb = (sa ++ [Tm.n1 k v a]) ++ subs a ++ sb := by simp [subs]
    by_cases hi0 : i = 0
    · subst hi0
      refine ⟨.n1 k v a, by simp [Tm.flat, Tm.kd, Tm.vl], by rw [← hs]; simp [subs], ⟨h1, h2, h3, h4⟩, fun _ _ _ h => ?_, fun _ _ _ _ h => (by cases h)⟩
      cases h
      rw [e3, List.append_assoc, List.getElem?_append_right (by simp [hs]), List.getElem?_append_left (by rw [subs_len]; simp [hs]; exact a.size_pos)]
      simpa [hs] using subs_head a
    · have := ih h4 (pre ++ [(k, v)]) post (ea ++ [((pre.length + 1 + a.size : Nat) : Int)]) eb (sa ++ [Tm.n1 k v a]) sb (by simp [he]) (by simp [hs]) (i - 1) (by simp only [Tm.size] at hi; omega)
      rw [← e1, ← e2, ← e3, show (pre ++ [(k, v)]).length + (i - 1) = pre.length + i by simp; omega] at this
      exact this
  | n2 k v x y ih1 ih2 =>
    intro pre post ea eb sa sb he hs i hi
    obtain ⟨h1, h2, h3, h4, h5⟩ := ht
    have hfx := x.flat_len
    have hex := x.ends_len (pre.length + 1)
    have hsx := x.size_pos
    have hsy := y.size_pos
    have hlx := subs_len x
    have hly := subs_len y
    obtain ⟨E0, hE0⟩ : ∃ e, e = ((pre.length + 1 + x.size + y.size : Nat) : Int) := ⟨_, rfl⟩
    have e1 : pre ++ Tm.flat (.n2 k v x y) ++ post = (pre ++ [(k, v)]) ++ x.flat ++ (y.flat ++ post) := by simp [Tm.flat]
    have e1' : pre ++ Tm.flat (.n2 k v x y) ++ post = (pre ++ [(k, v)] ++ x.flat) ++ y.flat ++ post := by simp [Tm.flat]
    have e2 : ea ++ Tm.ends (.n2 k v x y) pre.length ++ eb = (ea ++ [E0]) ++ x.ends (pre ++ [(k, v)]).length ++ (y.ends (pre.length + 1 + x.size) ++ eb) := by simp [Tm.ends, hE0]
    have e2' : ea ++ Tm.ends (.n2 k v x y) pre.length ++ eb = (ea ++ [E0] ++ x.ends (pre.length + 1)) ++ y.ends (pre ++ [(k, v)] ++ x.flat).length ++ eb := by
      rw [show (pre ++ [(k, v)] ++ x.flat).length = pre.length + 1 + x.size by simp [hfx]; omega]
      simp [Tm.ends, hE0]
    have e3 : sa ++ subs (.n2 k v x y) ++ sb = (sa ++ [Tm.n2 k v x y]) ++ subs x ++ (subs y ++ sb) := by simp [subs]
    have e3' : sa ++ subs (.n2 k v x y) ++ sb = (sa ++ [Tm.n2 k v x y] ++ subs x) ++ subs y ++ sb := by simp [subs]
    by_cases hi0 : i = 0
    · subst hi0
      have hes : ((ea ++ [E0]) ++ x.ends (pre ++ [(k, v)]).length ++ (y.ends (pre.length + 1 + x.size) ++ eb))[pre.length + 0 + 1]? = some (((pre.length + 1 + x.size : Nat)) : Int) := by
        have hz := ends_zero x (pre.length + 1) (by rw [hex]; exact hsx)
        have hl2 : (pre ++ [(k, v)]).length = pre.length + 1 := by simp
        rw [hl2, List.append_assoc, List.getElem?_append_right (by simp [he]), List.getElem?_append_left (by rw [hex]; simp [he]; exact hsx)]
        rw [show pre.length + 0 + 1 - (ea ++ [E0]).length = 0 by simp [he], List.getElem?_eq_getElem (by rw [hex]; exact hsx), hz]
      have hsec : secAt ((ea ++ [E0]) ++ x.ends (pre ++ [(k, v)]).length ++ (y.ends (pre.length + 1 + x.size) ++ eb)) (pre.length + 0) = pre.length + 1 + x.size := by
        unfold secAt
        rw [List.getD, hes]
        show ((pre.length + 1 + x.size : Nat) : Int).toNat = _
        omega
      refine ⟨.n2 k v x y, by simp [Tm.flat, Tm.kd, Tm.vl], by rw [← hs]; simp [subs], ⟨h1, h2, h3, h4, h5⟩, fun _ _ _ h => (by cases h), fun _ _ _ _ h => ?_⟩
      cases h
      rw [e2, hsec]
      refine ⟨?_, hes, by omega, ?_⟩
      · rw [e3, List.append_assoc, List.getElem?_append_right (by simp [hs]), List.getElem?_append_left (by rw [hlx]; simp [hs]; exact hsx)]
        simpa [hs] using subs_head x
      · rw [e3', List.append_assoc, List.getElem?_append_right (by simp [hs, hlx]; omega), List.getElem?_append_left (by rw [hly]; simp [hs, hlx]; omega)]
        have e0 : pre.length + 1 + x.size - (sa ++ [Tm.n2 k v x y] ++ subs x).length = 0 := by simp [hs, hlx]; omega
        rw [e0]
        exact subs_head y
    · by_cases hix : i - 1 < x.size
      · have := ih1 h4 (pre ++ [(k, v)]) (y.flat ++ post) (ea ++ [E0]) (y.ends (pre.length + 1 + x.size) ++ eb) (sa ++ [Tm.n2 k v x y]) (subs y ++ sb) (by simp [he]) (by simp [hs]) (i - 1) hix
        rw [← e1, ← e2, ← e3, show (pre ++ [(k, v)]).length + (i - 1) = pre.length + i by simp; omega] at this
        exact this
      · have hpl : (pre ++ [(k, v)] ++ x.flat).length + (i - 1 - x.size) = pre.length + i := by simp [hfx]; omega
        have := ih2 h5 (pre ++ [(k, v)] ++ x.flat) post (ea ++ [E0] ++ x.ends (pre.length + 1)) eb (sa ++ [Tm.n2 k v x y] ++ subs x) sb (by simp [he, hex, hfx]) (by simp [hs, hlx, hfx]) (i - 1 - x.size) (by simp only [Tm.size] at hi; omega)
        rw [← e1', ← e2', ← e3', hpl] at this
        exact this
theorem subs_at (t : Tm) (ht : t.ok) (i : Nat) (hi : i < t.size) : ∃ s, SubAt t.flat (t.ends 0) (subs t) i s := by
  have := subs_law t ht [] [] [] [] [] [] rfl rfl i hi
  simpa using this
noncomputable def satB (W : Wd) (t : Tm) (i : Nat) : Bool := @decide (Sat W t i) (Classical.propDecidable _)
theorem satB_iff {W : Wd} {t : Tm} {i : Nat} : satB W t i = true ↔ Sat W t i := by unfold satB; exact @decide_eq_true_iff _ (Classical.propDecidable _)
theorem satB_eq {W : Wd} {t : Tm} {i : Nat} {b : Bool} (h : Sat W t i ↔ b = true) : satB W t i = b := by
  rw [Bool.eq_iff_iff, satB_iff]; exact h
theorem until_congr {n back : Nat} {a a' b b' : Nat → Prop} (h1 : ∀ j, a j ↔ a' j) (h2 : ∀ j, b j ↔ b' j) (i : Nat) : UntilP n back a b i ↔ UntilP n back a' b' i := by
  obtain rfl : a = a' := funext fun j => propext (h1 j)
  obtain rfl : b = b' := funext fun j => propext (h2 j)
  exact Iff.rfl
theorem rel_congr {n back : Nat} {a a' b b' : Nat → Prop} (h1 : ∀ j, a j ↔ a' j) (h2 : ∀ j, b j ↔ b' j) (i : Nat) : RelP n back a b i ↔ RelP n back a' b' i := by
  obtain rfl : a = a' := funext fun j => propext (h1 j)
  obtain rfl : b = b' := funext fun j => propext (h2 j)
  exact Iff.rfl
section
variable (W : Wd) (v : Int) (a b : Tm) (i : Nat)
theorem satB_prop : satB W (.n0 13 v) i = (W.ls.getD i []).getD v.toNat false := satB_eq (by simp [Sat])
theorem satB_yes : satB W (.n0 11 v) i = true := satB_eq (by simp [Sat])
theorem satB_no : satB W (.n0 12 v) i = false := satB_eq (by simp [Sat])
theorem satB_not : satB W (.n1 10 v a) i = !satB W a i := satB_eq (by simp [Sat, ← satB_iff])
theorem satB_next : satB W (.n1 14 v a) i = satB W a (nxt W.n W.back i) := satB_eq (by simp [Sat, ← satB_iff])
theorem satB_and : satB W (.n2 8 v a b) i = (satB W a i && satB W b i) := satB_eq (by simp [Sat, ← satB_iff])
theorem satB_or : satB W (.n2 9 v a b) i = (satB W a i || satB W b i) := satB_eq (by simp [Sat, ← satB_iff])
theorem satB_fin : satB W (.n1 17 v a) i = true ↔ UntilP W.n W.back (fun _ => true = true) (fun j => satB W a j = true) i := by
  rw [satB_iff]
  simp only [Sat, show ¬ (17 : Int) = 10 by decide, show ¬ (17 : Int) = 14 by decide, if_false, if_true]
  exact until_congr (fun _ => by simp) (fun _ => satB_iff.symm) i
theorem satB_glo : satB W (.n1 18 v a) i = true ↔ RelP W.n W.back (fun _ => false = true) (fun j => satB W a j = true) i := by
  rw [satB_iff]
  simp only [Sat, show ¬ (18 : Int) = 10 by decide, show ¬ (18 : Int) = 14 by decide, show ¬ (18 : Int) = 17 by decide, if_false]
  exact rel_congr (fun _ => by simp) (fun _ => satB_iff.symm) i
theorem satB_unt : satB W (.n2 15 v a b) i = true ↔ UntilP W.n W.back (fun j => satB W a j = true) (fun j => satB W b j = true) i := by
  rw [satB_iff]
  simp only [Sat, show ¬ (15 : Int) = 8 by decide, show ¬ (15 : Int) = 9 by decide, if_false, if_true]
  exact until_congr (fun _ => satB_iff.symm) (fun _ => satB_iff.symm) i
theorem satB_rel : satB W (.n2 16 v a b) i = true ↔ RelP W.n W.back (fun j => satB W a j = true) (fun j => satB W b j = true) i := by
  rw [satB_iff]
  simp only [Sat, show ¬ (16 : Int) = 8 by decide, show ¬ (16 : Int) = 9 by decide, show ¬ (16 : Int) = 15 by decide, if_false]
  exact rel_congr (fun _ => satB_iff.symm) (fun _ => satB_iff.symm) i
end
theorem tm_cases {props : Int} {s : Tm} (hok : s.ok) (hf : FitOp props (s.kd, s.vl)) :
    (∃ v, s = .n0 13 v ∧ 0 ≤ v ∧ v < props) ∨ (s = .n0 11 0) ∨ (s = .n0 12 0) ∨ (∃ a, s = .n1 10 0 a) ∨ (∃ a, s = .n1 14 0 a) ∨ (∃ a, s = .n1 17 0 a) ∨ (∃ a, s = .n1 18 0 a) ∨
    (∃ a b, s = .n2 8 0 a b) ∨ (∃ a b, s = .n2 9 0 a b) ∨ (∃ a b, s = .n2 15 0 a b) ∨ (∃ a b, s = .n2 16 0 a b) := by
  obtain ⟨h1, h2, h3, h4⟩ := hf
  cases s with
  | n0 k v =>
    obtain ⟨_, _, hp⟩ := hok
    simp only [Tm.kd, Tm.vl] at h1 h2 h3 h4
    have : k = 11 ∨ k = 12 ∨ k = 13 := by
      unfold partsOf at hp
      split at hp
      · cases hp
      · split at hp
        · cases hp
        · omega
    rcases this with rfl | rfl | rfl
    · obtain rfl := h4 (by omega); exact .inr (.inl rfl)
    · obtain rfl := h4 (by omega); exact .inr (.inr (.inl rfl))
    · exact .inl ⟨v, rfl, h3 rfl⟩
  | n1 k v a =>
    obtain ⟨_, _, hp, _⟩ := hok
    simp only [Tm.kd, Tm.vl] at h1 h2 h3 h4
    have : k = 10 ∨ k = 14 ∨ k = 17 ∨ k = 18 := by
      unfold partsOf at hp
      split at hp
      · cases hp
      · split at hp
        · omega
        · cases hp
    obtain rfl := h4 (by omega)
    rcases this with rfl | rfl | rfl | rfl
    · exact .inr (.inr (.inr (.inl ⟨a, rfl⟩)))
    · exact .inr (.inr (.inr (.inr (.inl ⟨a, rfl⟩))))
    · exact .inr (.inr (.inr (.inr (.inr (.inl ⟨a, rfl⟩)))))
    · exact .inr (.inr (.inr (.inr (.inr (.inr (.inl ⟨a, rfl⟩))))))
  | n2 k v a b =>
    obtain ⟨_, _, hp, _⟩ := hok
    simp only [Tm.kd, Tm.vl] at h1 h2 h3 h4
    have : k = 8 ∨ k = 9 ∨ k = 15 ∨ k = 16 := by
      unfold partsOf at hp
      split at hp
      · omega
      · split at hp
        · cases hp
        · cases hp
    obtain rfl := h4 (by omega)
    rcases this with rfl | rfl | rfl | rfl
    · exact .inr (.inr (.inr (.inr (.inr (.inr (.inr (.inl ⟨a, b, rfl⟩)))))))
    · exact .inr (.inr (.inr (.inr (.inr (.inr (.inr (.inr (.inl ⟨a, b, rfl⟩))))))))
    · exact .inr (.inr (.inr (.inr (.inr (.inr (.inr (.inr (.inr (.inl ⟨a, b, rfl⟩)))))))))
    · exact .inr (.inr (.inr (.inr (.inr (.inr (.inr (.inr (.inr (.inr ⟨a, b, rfl⟩)))))))))
end Go.Proofs.YtciihiiacbnimaaGreatDoor

namespace Go.Proofs.YtciihiiacbnimaaGreatDoor
section
end
section
variable {n back : Nat} {a b c : Nat → Prop} {i : Nat}
theorem fin_iff : UntilP n back (fun _ => True) b i ↔ ∃ j, b (nxtN n back j i) := ⟨fun ⟨j, h, _⟩ => ⟨j, h⟩, fun ⟨j, h⟩ => ⟨j, h, fun _ _ => trivial⟩⟩
theorem glo_iff : RelP n back (fun _ => False) b i ↔ ∀ j, b (nxtN n back j i) := ⟨fun h j => (h j).elim id fun ⟨_, _, h⟩ => h.elim, fun h j => .inl (h j)⟩
end
section
variable (W : Wd) (v v2 v3 v4 v5 v6 : Int) (f g h : Tm) (i : Nat)
theorem sat_fin : Sat W (.n1 17 v f) i ↔ ∃ j, Sat W f (nxtN W.n W.back j i) := by
  simp only [Sat, show ¬ (17 : Int) = 10 by decide, show ¬ (17 : Int) = 14 by decide, if_false, if_true]
  exact fin_iff
theorem sat_glo : Sat W (.n1 18 v f) i ↔ ∀ j, Sat W f (nxtN W.n W.back j i) := by
  simp only [Sat, show ¬ (18 : Int) = 10 by decide, show ¬ (18 : Int) = 14 by decide, show ¬ (18 : Int) = 17 by decide, if_false]
  exact glo_iff
theorem sat_unt : Sat W (.n2 15 v f g) i ↔ UntilP W.n W.back (Sat W f) (Sat W g) i := by
  simp only [Sat, show ¬ (15 : Int) = 8 by decide, show ¬ (15 : Int) = 9 by decide, if_false, if_true]
theorem sat_rel : Sat W (.n2 16 v f g) i ↔ RelP W.n W.back (Sat W f) (Sat W g) i := by
  simp only [Sat, show ¬ (16 : Int) = 8 by decide, show ¬ (16 : Int) = 9 by decide, show ¬ (16 : Int) = 15 by decide, if_false]
theorem now_unt : satB W (.n2 15 v f g) i = (satB W g i || (satB W f i && satB W (.n2 15 v f g) (nxt W.n W.back i))) := satB_eq (by
  rw [sat_unt, until_iff]
  simp only [Bool.or_eq_true, Bool.and_eq_true, satB_iff, sat_unt])
theorem now_rel : satB W (.n2 16 v f g) i = (satB W g i && (satB W f i || satB W (.n2 16 v f g) (nxt W.n W.back i))) := satB_eq (by
  rw [sat_rel, rel_iff]
  simp only [Bool.or_eq_true, Bool.and_eq_true, satB_iff, sat_rel])
theorem now_fin : satB W (.n1 17 v f) i = (satB W f i || satB W (.n1 17 v f) (nxt W.n W.back i)) := satB_eq (by
  simp only [Bool.or_eq_true, satB_iff, sat_fin]
  exact ⟨fun ⟨j, h⟩ => by
    cases j with
    | zero => exact .inl h
    | succ j => exact .inr ⟨j, h⟩, fun h => by
    rcases h with h | ⟨j, h⟩
    · exact ⟨0, h⟩
    · exact ⟨j + 1, h⟩⟩)
theorem now_glo : satB W (.n1 18 v f) i = (satB W f i && satB W (.n1 18 v f) (nxt W.n W.back i)) := satB_eq (by
  simp only [Bool.and_eq_true, satB_iff, sat_glo]
  exact ⟨fun h => ⟨h 0, fun j => h (j + 1)⟩, fun ⟨h1, h2⟩ j => by
    cases j with
    | zero => exact h1
    | succ j => exact h2 j⟩)
end
theorem nxtN_min {n back : Nat} : ∀ j i, min i back ≤ nxtN n back j i
  | 0, i => by show min i back ≤ i; omega
  | j + 1, i => by
    have h := nxtN_min (n := n) (back := back) j (nxt n back i)
    have h2 : min i back ≤ min (nxt n back i) back := by unfold nxt; split <;> omega
    exact Nat.le_trans h2 h
theorem nxtN_up {n back : Nat} : ∀ j i, i + j < n → nxtN n back j i = i + j
  | 0, i, _ => rfl
  | j + 1, i, h => by
    show nxtN n back j (nxt n back i) = _
    have e : nxt n back i = i + 1 := by unfold nxt; rw [if_pos (by omega)]
    rw [e, nxtN_up j (i + 1) (by omega)]
    omega
theorem nxtN_back {n back : Nat} : ∀ j i, i + j = n → 0 < j → nxtN n back j i = back
  | 0, i, _, h => by omega
  | 1, i, h, _ => by show nxt n back i = back; unfold nxt; rw [if_neg (by omega)]
  | j + 2, i, h, _ => by
    show nxtN n back (j + 1) (nxt n back i) = _
    have e : nxt n back i = i + 1 := by unfold nxt; rw [if_pos (by omega)]
    rw [e, nxtN_back (j + 1) (i + 1) (by omega) (by omega)]
theorem nxtN_reach {n back i k : Nat} (hi : i < n) (h1 : min i back ≤ k) (h2 : k < n) (hb : back < n) : ∃ j, nxtN n back j i = k := by
  by_cases h : i ≤ k
  · exact ⟨k - i, by rw [nxtN_up _ _ (by omega)]; omega⟩
  · refine ⟨(n - i) + (k - back), ?_⟩
    rw [nxtN_add, nxtN_back (n - i) i (by omega) (by omega), nxtN_up _ _ (by omega)]
    omega
end Go.Proofs.YtciihiiacbnimaaGreatDoor
