/- Several texts in one: GenC; GenD; TermB; RawT; Join; JoinG; ExpA; Typ; Check. No condition. -/
import Derived.Test.YtbmimdnpchldlaaGreatDoorKt6
import Derived.Test.YtbmimdnpchldlaaGreatDoorKt5
namespace Go.Proofs.YtbmimdnpchldlaaGreatDoor
open Go.RowKit

theorem number_one (w : World) (G B : Nat) (ar : Option Addr) (cr : Nat) (raw : List Op2) (p : Nat) (vars props tempo : Int) (out : List Op2) (h : Gr w G B ar cr raw p vars props tempo out)
    (hraw : RawI raw) (hp : p ≤ 800) (ho : out.length ≤ 800) (hv2 : vars ≤ 1000) :
    Calls Tryz.prog 102 #[.pointer (some ⟨G, 0, none⟩), .int .i64 1] w (Made w G B ar cr raw vars props tempo out (numT raw vars 1 p)) := by
  have := number_succ w G B ar cr raw p vars props tempo out h hraw 1000 (by omega) (by omega) hv2 0 (by omega) (by omega) (fun q => by simp [numT, numLeaf_size]) (fun w p out h h1 h2 => number_zero w G B ar cr raw p vars props tempo out h hraw h1 h2 hv2)
  simpa using this

theorem number_two (w : World) (G B : Nat) (ar : Option Addr) (cr : Nat) (raw : List Op2) (p : Nat) (vars props tempo : Int) (out : List Op2) (h : Gr w G B ar cr raw p vars props tempo out)
    (hraw : RawI raw) (hp : p ≤ 600) (ho : out.length ≤ 600) (hv2 : vars ≤ 1000) :
    Calls Tryz.prog 102 #[.pointer (some ⟨G, 0, none⟩), .int .i64 2] w (Made w G B ar cr raw vars props tempo out (numT raw vars 2 p)) := by
  have := number_succ w G B ar cr raw p vars props tempo out h hraw 800 (by omega) (by omega) hv2 1 (by omega) (by omega) (fun q => by have := (numT_one raw vars q).1; omega) (fun w p out h h1 h2 => number_one w G B ar cr raw p vars props tempo out h hraw h1 h2 hv2)
  simpa using this


set_option maxRecDepth 100000 in
set_option maxHeartbeats 2000000 in
theorem truth_z0 (w : World) (G B : Nat) (ar : Option Addr) (cr : Nat) (raw : List Op2) (p : Nat) (vars props tempo : Int) (out : List Op2) (h : Gr w G B ar cr raw p vars props tempo out)
    (hraw : RawI raw) (_hp : p ≤ 700) (ho : out.length ≤ 700) (_hv2 : vars ≤ 1000) (kk : Int) (hk : pk (rawAt raw p).1 3 = kk) (hk2 : kk = 0) :
    Calls Tryz.prog 101 #[.pointer (some ⟨G, 0, none⟩), .int .i64 0] w (Made w G B ar cr raw vars props tempo out (.n0 (11 + pk (rawAt raw p).2 2) 0, p + 1)) := by
  have TK := Lib.hid (take_any w G B ar cr raw p vars props tempo out h (by omega))
  have hBw : B ≤ w.heap.size := by have := World.block_lt_of_cell? _ _ h.c0; have := h.new; simp at *; omega
  have hr := hraw p
  generalize rawAt raw p = r at *
  obtain ⟨⟨r1, r2⟩, r3, r4⟩ := hr
  have hx2 := pk_bd r.2 2 (by omega)
  obtain ⟨x1, x2⟩ := hx2
  have HP9 := Lib.hid (pk_bd r.1 9 (by omega))
  have HP3 := Lib.hid (pk_bd r.1 3 (by omega))
  have hkb : 0 ≤ kk ∧ kk < 3 := by rw [← hk]; exact HP3.out
  obtain ⟨hkb1, hkb2⟩ := hkb
  subst hk2
  go_enter Tryz.func101, Tryz.ntmps101
  go_wp2_with fail
  refine TK.out.mono ?_
  rintro e w1 ⟨rfl, g1, b1⟩
  have hg1 := g1.ext ((Ext.refl w1).alloc (Nat.le_refl _) (Obj.cells #[.int .i64 r.1, .int .i64 r.2] 163))
  have hb1 : Below B w (w1.alloc (Obj.cells #[.int .i64 r.1, .int .i64 r.2] 163)) := b1.alloc (by have := b1.size; omega) _
  have q0 : (w1.alloc (Obj.cells #[.int .i64 r.1, .int .i64 r.2] 163)).cell? ⟨w1.heap.size, 0, none⟩ = some (.int .i64 r.1) := by simp [go_sem]
  have q1 : (w1.alloc (Obj.cells #[.int .i64 r.1, .int .i64 r.2] 163)).cell? ⟨w1.heap.size, 1, none⟩ = some (.int .i64 r.2) := by simp [go_sem]
  have c1 := hg1.c1
  clear TK g1 b1
  go_wp2_with fail
  refine (picked_any r.1 9 _ r1 r2 (by omega) (by omega)).mono ?_
  rintro e w' ⟨rfl, rfl⟩
  go_wp2_with fail
  refine (picked_any r.1 3 _ r1 r2 (by omega) (by omega)).mono ?_
  rintro e w' ⟨rfl, rfl⟩
  go_wp2_with fail
  refine (picked_any r.2 2 _ r3 r4 (by omega) (by omega)).mono ?_
  rintro e w' ⟨rfl, rfl⟩
  go_wp2_with fail
  refine (put_op _ G B ar cr raw (p + 1) vars props tempo out _ _ hg1 (by omega)).mono ?_
  rintro e w2 ⟨rfl, hg2, hb2⟩
  go_wp2
  go_end0
  exact Made.mk rfl hg2 ((hb1.trans hb2)) rfl (by simp [Tm.flat])

set_option maxRecDepth 100000 in
set_option maxHeartbeats 2000000 in
theorem truth_zc (w : World) (G B : Nat) (ar : Option Addr) (cr : Nat) (raw : List Op2) (p : Nat) (vars props tempo : Int) (out : List Op2) (h : Gr w G B ar cr raw p vars props tempo out)
    (hraw : RawI raw) (_hp : p ≤ 700) (ho : out.length ≤ 700) (hv2 : vars ≤ 1000) (kk : Int) (hk : pk (rawAt raw p).1 3 = kk) (hk2 : 1 ≤ kk) :
    Calls Tryz.prog 101 #[.pointer (some ⟨G, 0, none⟩), .int .i64 0] w (Made w G B ar cr raw vars props tempo out (cmpT raw vars kk p)) := by
  have TK := Lib.hid (take_any w G B ar cr raw p vars props tempo out h (by omega))
  have hBw : B ≤ w.heap.size := by have := World.block_lt_of_cell? _ _ h.c0; have := h.new; simp at *; omega
  have hr := hraw p
  have NUM1 := Lib.hid (fun (w' : World) (out' : List Op2) (g : Gr w' G B ar cr raw (p + 1) vars props tempo out') (h2 : out'.length ≤ 800) => number_one w' G B ar cr raw (p + 1) vars props tempo out' g hraw (by omega) h2 hv2)
  have NUM2 := Lib.hid (fun (w' : World) (out' : List Op2) (g : Gr w' G B ar cr raw (numT raw vars 1 (p + 1)).2 vars props tempo out') (h2 : out'.length ≤ 800) => number_one w' G B ar cr raw (numT raw vars 1 (p + 1)).2 vars props tempo out' g hraw (by have := numT_size raw vars 1 (p + 1); have := (numT_one raw vars (p + 1)).1; omega) h2 hv2)
  have hz1 := (numT_one raw vars (p + 1)).1
  have hz5 := Tm.flat_len (numT raw vars 1 (p + 1)).1
  have hfin : cmpT raw vars kk p = (.n2 (6 + kk % 2) 0 (numT raw vars 1 (p + 1)).1 (numT raw vars 1 (numT raw vars 1 (p + 1)).2).1, (numT raw vars 1 (numT raw vars 1 (p + 1)).2).2) := rfl
  rw [hfin]
  clear hfin
  generalize numT raw vars 1 (p + 1) = t1 at *
  generalize numT raw vars 1 t1.2 = t2 at *
  obtain ⟨tm1, p1⟩ := t1
  obtain ⟨tm2, p2⟩ := t2
  simp only at hz1 hz5
  have HZ5 := Lib.hid hz5
  clear hz5
  generalize rawAt raw p = r at *
  obtain ⟨⟨r1, r2⟩, r3, r4⟩ := hr
  have hx2 := pk_bd r.2 2 (by omega)
  obtain ⟨x1, x2⟩ := hx2
  have HP9 := Lib.hid (pk_bd r.1 9 (by omega))
  have HP3 := Lib.hid (pk_bd r.1 3 (by omega))
  have hkb : 0 ≤ kk ∧ kk < 3 := by rw [← hk]; exact HP3.out
  obtain ⟨hkb1, hkb2⟩ := hkb
  have hv : kk = 1 ∨ kk = 2 := by omega
  rcases hv with rfl | rfl
  all_goals
    go_enter Tryz.func101, Tryz.ntmps101
    go_wp2_with fail
    refine TK.out.mono ?_
    rintro e w1 ⟨rfl, g1, b1⟩
    have hg1 := g1.ext ((Ext.refl w1).alloc (Nat.le_refl _) (Obj.cells #[.int .i64 r.1, .int .i64 r.2] 163))
    have hb1 : Below B w (w1.alloc (Obj.cells #[.int .i64 r.1, .int .i64 r.2] 163)) := b1.alloc (by have := b1.size; omega) _
    have q0 : (w1.alloc (Obj.cells #[.int .i64 r.1, .int .i64 r.2] 163)).cell? ⟨w1.heap.size, 0, none⟩ = some (.int .i64 r.1) := by simp [go_sem]
    have q1 : (w1.alloc (Obj.cells #[.int .i64 r.1, .int .i64 r.2] 163)).cell? ⟨w1.heap.size, 1, none⟩ = some (.int .i64 r.2) := by simp [go_sem]
    have c1 := hg1.c1
    clear TK g1 b1
    go_wp2_with fail
    refine (picked_any r.1 9 _ r1 r2 (by omega) (by omega)).mono ?_
    rintro e w' ⟨rfl, rfl⟩
    go_wp2_with fail
    refine (picked_any r.1 3 _ r1 r2 (by omega) (by omega)).mono ?_
    rintro e w' ⟨rfl, rfl⟩
    go_wp2_with fail
    refine (put_op _ G B ar cr raw (p + 1) vars props tempo out _ _ hg1 (by omega)).mono ?_
    rintro e w2 ⟨rfl, hg2, hb2⟩
    go_wp2_with fail
    refine (NUM1.out w2 _ hg2 (by simp; omega)).mono ?_
    rintro e w3 ⟨rfl, hg3, hb3⟩
    go_wp2_with fail
    refine (NUM2.out w3 _ hg3 (by have := HZ5.out; simp at this ⊢; omega)).mono ?_
    rintro e w4 ⟨rfl, hg4, hb4⟩
    go_wp2
    go_end0
    exact Made.mk rfl hg4 (((hb1.trans hb2).trans hb3).trans hb4) rfl (by simp [Tm.flat])

set_option maxRecDepth 100000 in
set_option maxHeartbeats 2000000 in
theorem truth_a0 (w : World) (G B : Nat) (ar : Option Addr) (cr : Nat) (raw : List Op2) (p : Nat) (vars props tempo : Int) (out : List Op2) (h : Gr w G B ar cr raw p vars props tempo out)
    (hraw : RawI raw) (d : Nat) (hd : d ≤ 10) (hc : 10 < p + 1) (_hp : p + 100 * (d + 1) ≤ 700) (ho : out.length + 100 * (d + 1) ≤ 700) (_hv2 : vars ≤ 1000) (kk : Int) (hk : pk (rawAt raw p).1 3 = kk) (hk2 : kk = 0) :
    Calls Tryz.prog 101 #[.pointer (some ⟨G, 0, none⟩), .int .i64 ((d + 1 : Nat) : Int)] w (Made w G B ar cr raw vars props tempo out (.n0 (11 + pk (rawAt raw p).2 2) 0, p + 1)) := by
  have TK := Lib.hid (take_any w G B ar cr raw p vars props tempo out h (by omega))
  have hBw : B ≤ w.heap.size := by have := World.block_lt_of_cell? _ _ h.c0; have := h.new; simp at *; omega
  have hr := hraw p
  generalize rawAt raw p = r at *
  obtain ⟨⟨r1, r2⟩, r3, r4⟩ := hr
  have hx2 := pk_bd r.2 2 (by omega)
  obtain ⟨x1, x2⟩ := hx2
  have HP9 := Lib.hid (pk_bd r.1 9 (by omega))
  have HP3 := Lib.hid (pk_bd r.1 3 (by omega))
  have e0 : ((d : Int) + 1 == 0) = false := by rw [beq_eq_false_iff_ne]; omega
  have e1 : (0 : Int) ≤ d := by omega
  have hkb : 0 ≤ kk ∧ kk < 3 := by rw [← hk]; exact HP3.out
  obtain ⟨hkb1, hkb2⟩ := hkb
  subst hk2
  go_enter Tryz.func101, Tryz.ntmps101
  go_wp2_with fail
  refine TK.out.mono ?_
  rintro e w1 ⟨rfl, g1, b1⟩
  have hg1 := g1.ext ((Ext.refl w1).alloc (Nat.le_refl _) (Obj.cells #[.int .i64 r.1, .int .i64 r.2] 163))
  have hb1 : Below B w (w1.alloc (Obj.cells #[.int .i64 r.1, .int .i64 r.2] 163)) := b1.alloc (by have := b1.size; omega) _
  have q0 : (w1.alloc (Obj.cells #[.int .i64 r.1, .int .i64 r.2] 163)).cell? ⟨w1.heap.size, 0, none⟩ = some (.int .i64 r.1) := by simp [go_sem]
  have q1 : (w1.alloc (Obj.cells #[.int .i64 r.1, .int .i64 r.2] 163)).cell? ⟨w1.heap.size, 1, none⟩ = some (.int .i64 r.2) := by simp [go_sem]
  have c1 := hg1.c1
  clear TK g1 b1
  go_wp2_with fail
  refine (picked_any r.1 9 _ r1 r2 (by omega) (by omega)).mono ?_
  rintro e w' ⟨rfl, rfl⟩
  go_wp2_with fail
  refine (picked_any r.1 3 _ r1 r2 (by omega) (by omega)).mono ?_
  rintro e w' ⟨rfl, rfl⟩
  go_wp2_with fail
  refine (picked_any r.2 2 _ r3 r4 (by omega) (by omega)).mono ?_
  rintro e w' ⟨rfl, rfl⟩
  go_wp2_with fail
  refine (put_op _ G B ar cr raw (p + 1) vars props tempo out _ _ hg1 (by omega)).mono ?_
  rintro e w2 ⟨rfl, hg2, hb2⟩
  go_wp2
  go_end0
  exact Made.mk rfl hg2 ((hb1.trans hb2)) rfl (by simp [Tm.flat])

set_option maxRecDepth 100000 in
set_option maxHeartbeats 2000000 in
theorem truth_ac (w : World) (G B : Nat) (ar : Option Addr) (cr : Nat) (raw : List Op2) (p : Nat) (vars props tempo : Int) (out : List Op2) (h : Gr w G B ar cr raw p vars props tempo out)
    (hraw : RawI raw) (d : Nat) (hd : d ≤ 10) (hc : 10 < p + 1) (_hp : p + 100 * (d + 1) ≤ 700) (ho : out.length + 100 * (d + 1) ≤ 700) (hv2 : vars ≤ 1000) (kk : Int) (hk : pk (rawAt raw p).1 3 = kk) (hk2 : 1 ≤ kk) :
    Calls Tryz.prog 101 #[.pointer (some ⟨G, 0, none⟩), .int .i64 ((d + 1 : Nat) : Int)] w (Made w G B ar cr raw vars props tempo out (cmpT raw vars kk p)) := by
  have TK := Lib.hid (take_any w G B ar cr raw p vars props tempo out h (by omega))
  have hBw : B ≤ w.heap.size := by have := World.block_lt_of_cell? _ _ h.c0; have := h.new; simp at *; omega
  have hr := hraw p
  have NUM1 := Lib.hid (fun (w' : World) (out' : List Op2) (g : Gr w' G B ar cr raw (p + 1) vars props tempo out') (h2 : out'.length ≤ 800) => number_one w' G B ar cr raw (p + 1) vars props tempo out' g hraw (by omega) h2 hv2)
  have NUM2 := Lib.hid (fun (w' : World) (out' : List Op2) (g : Gr w' G B ar cr raw (numT raw vars 1 (p + 1)).2 vars props tempo out') (h2 : out'.length ≤ 800) => number_one w' G B ar cr raw (numT raw vars 1 (p + 1)).2 vars props tempo out' g hraw (by have := numT_size raw vars 1 (p + 1); have := (numT_one raw vars (p + 1)).1; omega) h2 hv2)
  have hz1 := (numT_one raw vars (p + 1)).1
  have hz5 := Tm.flat_len (numT raw vars 1 (p + 1)).1
  have hfin : cmpT raw vars kk p = (.n2 (6 + kk % 2) 0 (numT raw vars 1 (p + 1)).1 (numT raw vars 1 (numT raw vars 1 (p + 1)).2).1, (numT raw vars 1 (numT raw vars 1 (p + 1)).2).2) := rfl
  rw [hfin]
  clear hfin
  generalize numT raw vars 1 (p + 1) = t1 at *
  generalize numT raw vars 1 t1.2 = t2 at *
  obtain ⟨tm1, p1⟩ := t1
  obtain ⟨tm2, p2⟩ := t2
  simp only at hz1 hz5
  have HZ5 := Lib.hid hz5
  clear hz5
  generalize rawAt raw p = r at *
  obtain ⟨⟨r1, r2⟩, r3, r4⟩ := hr
  have hx2 := pk_bd r.2 2 (by omega)
  obtain ⟨x1, x2⟩ := hx2
  have HP9 := Lib.hid (pk_bd r.1 9 (by omega))
  have HP3 := Lib.hid (pk_bd r.1 3 (by omega))
  have e0 : ((d : Int) + 1 == 0) = false := by rw [beq_eq_false_iff_ne]; omega
  have e1 : (0 : Int) ≤ d := by omega
  have hkb : 0 ≤ kk ∧ kk < 3 := by rw [← hk]; exact HP3.out
  obtain ⟨hkb1, hkb2⟩ := hkb
  have hv : kk = 1 ∨ kk = 2 := by omega
  rcases hv with rfl | rfl
  all_goals
    go_enter Tryz.func101, Tryz.ntmps101
    go_wp2_with fail
    refine TK.out.mono ?_
    rintro e w1 ⟨rfl, g1, b1⟩
    have hg1 := g1.ext ((Ext.refl w1).alloc (Nat.le_refl _) (Obj.cells #[.int .i64 r.1, .int .i64 r.2] 163))
    have hb1 : Below B w (w1.alloc (Obj.cells #[.int .i64 r.1, .int .i64 r.2] 163)) := b1.alloc (by have := b1.size; omega) _
    have q0 : (w1.alloc (Obj.cells #[.int .i64 r.1, .int .i64 r.2] 163)).cell? ⟨w1.heap.size, 0, none⟩ = some (.int .i64 r.1) := by simp [go_sem]
    have q1 : (w1.alloc (Obj.cells #[.int .i64 r.1, .int .i64 r.2] 163)).cell? ⟨w1.heap.size, 1, none⟩ = some (.int .i64 r.2) := by simp [go_sem]
    have c1 := hg1.c1
    clear TK g1 b1
    go_wp2_with fail
    refine (picked_any r.1 9 _ r1 r2 (by omega) (by omega)).mono ?_
    rintro e w' ⟨rfl, rfl⟩
    go_wp2_with fail
    refine (picked_any r.1 3 _ r1 r2 (by omega) (by omega)).mono ?_
    rintro e w' ⟨rfl, rfl⟩
    go_wp2_with fail
    refine (put_op _ G B ar cr raw (p + 1) vars props tempo out _ _ hg1 (by omega)).mono ?_
    rintro e w2 ⟨rfl, hg2, hb2⟩
    go_wp2_with fail
    refine (NUM1.out w2 _ hg2 (by simp; omega)).mono ?_
    rintro e w3 ⟨rfl, hg3, hb3⟩
    go_wp2_with fail
    refine (NUM2.out w3 _ hg3 (by have := HZ5.out; simp at this ⊢; omega)).mono ?_
    rintro e w4 ⟨rfl, hg4, hb4⟩
    go_wp2
    go_end0
    exact Made.mk rfl hg4 (((hb1.trans hb2).trans hb3).trans hb4) rfl (by simp [Tm.flat])

set_option maxRecDepth 100000 in
set_option maxHeartbeats 2000000 in
theorem truth_b0 (w : World) (G B : Nat) (ar : Option Addr) (cr : Nat) (raw : List Op2) (p : Nat) (vars props tempo : Int) (out : List Op2) (h : Gr w G B ar cr raw p vars props tempo out)
    (hraw : RawI raw) (d : Nat) (hd : d ≤ 10) (hc : ¬ 10 < p + 1) (_hp : p + 100 * (d + 1) ≤ 700) (ho : out.length + 100 * (d + 1) ≤ 700) (_hv2 : vars ≤ 1000) (kk : Int) (hk : pk (rawAt raw p).1 9 = kk) (hk2 : kk = 0) :
    Calls Tryz.prog 101 #[.pointer (some ⟨G, 0, none⟩), .int .i64 ((d + 1 : Nat) : Int)] w (Made w G B ar cr raw vars props tempo out (.n0 (11 + pk (rawAt raw p).2 2) 0, p + 1)) := by
  have TK := Lib.hid (take_any w G B ar cr raw p vars props tempo out h (by omega))
  have hBw : B ≤ w.heap.size := by have := World.block_lt_of_cell? _ _ h.c0; have := h.new; simp at *; omega
  have hr := hraw p
  generalize rawAt raw p = r at *
  obtain ⟨⟨r1, r2⟩, r3, r4⟩ := hr
  have hx2 := pk_bd r.2 2 (by omega)
  obtain ⟨x1, x2⟩ := hx2
  have HP9 := Lib.hid (pk_bd r.1 9 (by omega))
  have HP3 := Lib.hid (pk_bd r.1 3 (by omega))
  have e0 : ((d : Int) + 1 == 0) = false := by rw [beq_eq_false_iff_ne]; omega
  have e1 : (0 : Int) ≤ d := by omega
  have hkb : 0 ≤ kk ∧ kk < 9 := by rw [← hk]; exact HP9.out
  obtain ⟨hkb1, hkb2⟩ := hkb
  subst hk2
  go_enter Tryz.func101, Tryz.ntmps101
  go_wp2_with fail
  refine TK.out.mono ?_
  rintro e w1 ⟨rfl, g1, b1⟩
  have hg1 := g1.ext ((Ext.refl w1).alloc (Nat.le_refl _) (Obj.cells #[.int .i64 r.1, .int .i64 r.2] 163))
  have hb1 : Below B w (w1.alloc (Obj.cells #[.int .i64 r.1, .int .i64 r.2] 163)) := b1.alloc (by have := b1.size; omega) _
  have q0 : (w1.alloc (Obj.cells #[.int .i64 r.1, .int .i64 r.2] 163)).cell? ⟨w1.heap.size, 0, none⟩ = some (.int .i64 r.1) := by simp [go_sem]
  have q1 : (w1.alloc (Obj.cells #[.int .i64 r.1, .int .i64 r.2] 163)).cell? ⟨w1.heap.size, 1, none⟩ = some (.int .i64 r.2) := by simp [go_sem]
  have c1 := hg1.c1
  clear TK g1 b1
  go_wp2_with fail
  refine (picked_any r.1 9 _ r1 r2 (by omega) (by omega)).mono ?_
  rintro e w' ⟨rfl, rfl⟩
  go_wp2_with fail
  refine (picked_any r.2 2 _ r3 r4 (by omega) (by omega)).mono ?_
  rintro e w' ⟨rfl, rfl⟩
  go_wp2_with fail
  refine (put_op _ G B ar cr raw (p + 1) vars props tempo out _ _ hg1 (by omega)).mono ?_
  rintro e w2 ⟨rfl, hg2, hb2⟩
  go_wp2
  go_end0
  exact Made.mk rfl hg2 ((hb1.trans hb2)) rfl (by simp [Tm.flat])

set_option maxRecDepth 100000 in
set_option maxHeartbeats 2000000 in
theorem truth_bc (w : World) (G B : Nat) (ar : Option Addr) (cr : Nat) (raw : List Op2) (p : Nat) (vars props tempo : Int) (out : List Op2) (h : Gr w G B ar cr raw p vars props tempo out)
    (hraw : RawI raw) (d : Nat) (hd : d ≤ 10) (hc : ¬ 10 < p + 1) (_hp : p + 100 * (d + 1) ≤ 700) (ho : out.length + 100 * (d + 1) ≤ 700) (hv2 : vars ≤ 1000) (kk : Int) (hk : pk (rawAt raw p).1 9 = kk) (hk2 : 1 ≤ kk) (hk3 : kk < 5) :
    Calls Tryz.prog 101 #[.pointer (some ⟨G, 0, none⟩), .int .i64 ((d + 1 : Nat) : Int)] w (Made w G B ar cr raw vars props tempo out (cmpT raw vars kk p)) := by
  have TK := Lib.hid (take_any w G B ar cr raw p vars props tempo out h (by omega))
  have hBw : B ≤ w.heap.size := by have := World.block_lt_of_cell? _ _ h.c0; have := h.new; simp at *; omega
  have hr := hraw p
  have NUM1 := Lib.hid (fun (w' : World) (out' : List Op2) (g : Gr w' G B ar cr raw (p + 1) vars props tempo out') (h2 : out'.length ≤ 800) => number_one w' G B ar cr raw (p + 1) vars props tempo out' g hraw (by omega) h2 hv2)
  have NUM2 := Lib.hid (fun (w' : World) (out' : List Op2) (g : Gr w' G B ar cr raw (numT raw vars 1 (p + 1)).2 vars props tempo out') (h2 : out'.length ≤ 800) => number_one w' G B ar cr raw (numT raw vars 1 (p + 1)).2 vars props tempo out' g hraw (by have := numT_size raw vars 1 (p + 1); have := (numT_one raw vars (p + 1)).1; omega) h2 hv2)
  have hz1 := (numT_one raw vars (p + 1)).1
  have hz5 := Tm.flat_len (numT raw vars 1 (p + 1)).1
  have hfin : cmpT raw vars kk p = (.n2 (6 + kk % 2) 0 (numT raw vars 1 (p + 1)).1 (numT raw vars 1 (numT raw vars 1 (p + 1)).2).1, (numT raw vars 1 (numT raw vars 1 (p + 1)).2).2) := rfl
  rw [hfin]
  clear hfin
  generalize numT raw vars 1 (p + 1) = t1 at *
  generalize numT raw vars 1 t1.2 = t2 at *
  obtain ⟨tm1, p1⟩ := t1
  obtain ⟨tm2, p2⟩ := t2
  simp only at hz1 hz5
  have HZ5 := Lib.hid hz5
  clear hz5
  generalize rawAt raw p = r at *
  obtain ⟨⟨r1, r2⟩, r3, r4⟩ := hr
  have hx2 := pk_bd r.2 2 (by omega)
  obtain ⟨x1, x2⟩ := hx2
  have HP9 := Lib.hid (pk_bd r.1 9 (by omega))
  have HP3 := Lib.hid (pk_bd r.1 3 (by omega))
  have e0 : ((d : Int) + 1 == 0) = false := by rw [beq_eq_false_iff_ne]; omega
  have e1 : (0 : Int) ≤ d := by omega
  have hkb : 0 ≤ kk ∧ kk < 9 := by rw [← hk]; exact HP9.out
  obtain ⟨hkb1, hkb2⟩ := hkb
  have hv : kk = 1 ∨ kk = 2 ∨ kk = 3 ∨ kk = 4 := by omega
  rcases hv with rfl | rfl | rfl | rfl
  all_goals
    go_enter Tryz.func101, Tryz.ntmps101
    go_wp2_with fail
    refine TK.out.mono ?_
    rintro e w1 ⟨rfl, g1, b1⟩
    have hg1 := g1.ext ((Ext.refl w1).alloc (Nat.le_refl _) (Obj.cells #[.int .i64 r.1, .int .i64 r.2] 163))
    have hb1 : Below B w (w1.alloc (Obj.cells #[.int .i64 r.1, .int .i64 r.2] 163)) := b1.alloc (by have := b1.size; omega) _
    have q0 : (w1.alloc (Obj.cells #[.int .i64 r.1, .int .i64 r.2] 163)).cell? ⟨w1.heap.size, 0, none⟩ = some (.int .i64 r.1) := by simp [go_sem]
    have q1 : (w1.alloc (Obj.cells #[.int .i64 r.1, .int .i64 r.2] 163)).cell? ⟨w1.heap.size, 1, none⟩ = some (.int .i64 r.2) := by simp [go_sem]
    have c1 := hg1.c1
    clear TK g1 b1
    go_wp2_with fail
    refine (picked_any r.1 9 _ r1 r2 (by omega) (by omega)).mono ?_
    rintro e w' ⟨rfl, rfl⟩
    go_wp2_with fail
    refine (put_op _ G B ar cr raw (p + 1) vars props tempo out _ _ hg1 (by omega)).mono ?_
    rintro e w2 ⟨rfl, hg2, hb2⟩
    go_wp2_with fail
    refine (NUM1.out w2 _ hg2 (by simp; omega)).mono ?_
    rintro e w3 ⟨rfl, hg3, hb3⟩
    go_wp2_with fail
    refine (NUM2.out w3 _ hg3 (by have := HZ5.out; simp at this ⊢; omega)).mono ?_
    rintro e w4 ⟨rfl, hg4, hb4⟩
    go_wp2
    go_end0
    exact Made.mk rfl hg4 (((hb1.trans hb2).trans hb3).trans hb4) rfl (by simp [Tm.flat])

set_option maxRecDepth 100000 in
set_option maxHeartbeats 2000000 in
theorem truth_b5 (w : World) (G B : Nat) (ar : Option Addr) (cr : Nat) (raw : List Op2) (p : Nat) (vars props tempo : Int) (out : List Op2) (h : Gr w G B ar cr raw p vars props tempo out)
    (hraw : RawI raw) (d : Nat) (hd : d ≤ 10) (hc : ¬ 10 < p + 1) (_hp : p + 100 * (d + 1) ≤ 700) (ho : out.length + 100 * (d + 1) ≤ 700) (_hv2 : vars ≤ 1000) (kk : Int) (hk : pk (rawAt raw p).1 9 = kk) (hk2 : kk = 5) (ih : ∀ (w : World) (p : Nat) (out : List Op2), Gr w G B ar cr raw p vars props tempo out → p + 100 * d ≤ 700 → out.length + 100 * d ≤ 700 → Calls Tryz.prog 101 #[.pointer (some ⟨G, 0, none⟩), .int .i64 d] w (Made w G B ar cr raw vars props tempo out (truT raw vars d p))) (hs : ∀ q, (truT raw vars d q).1.size ≤ 60) :
    Calls Tryz.prog 101 #[.pointer (some ⟨G, 0, none⟩), .int .i64 ((d + 1 : Nat) : Int)] w (Made w G B ar cr raw vars props tempo out (.n1 10 0 (truT raw vars d (p + 1)).1, (truT raw vars d (p + 1)).2)) := by
  have TK := Lib.hid (take_any w G B ar cr raw p vars props tempo out h (by omega))
  have hBw : B ≤ w.heap.size := by have := World.block_lt_of_cell? _ _ h.c0; have := h.new; simp at *; omega
  have hr := hraw p
  have hz1 := truT_size raw vars d (p + 1)
  have hz3 := hs (p + 1)
  have hz5 := Tm.flat_len (truT raw vars d (p + 1)).1
  have ih1 := fun w' out' g h1 h2 => ih w' (p + 1) out' g h1 h2
  generalize truT raw vars d (p + 1) = t1 at *
  obtain ⟨tm1, p1⟩ := t1
  simp only at hz1 hz3 hz5 ih1
  have IH1 := Lib.hid ih1
  have HZ1 := Lib.hid hz1
  have HZ5 := Lib.hid hz5
  clear ih1 hz1 hz5 ih hs
  generalize rawAt raw p = r at *
  obtain ⟨⟨r1, r2⟩, r3, r4⟩ := hr
  have hx2 := pk_bd r.2 2 (by omega)
  obtain ⟨x1, x2⟩ := hx2
  have HP9 := Lib.hid (pk_bd r.1 9 (by omega))
  have HP3 := Lib.hid (pk_bd r.1 3 (by omega))
  have e0 : ((d : Int) + 1 == 0) = false := by rw [beq_eq_false_iff_ne]; omega
  have e1 : (0 : Int) ≤ d := by omega
  have hkb : 0 ≤ kk ∧ kk < 9 := by rw [← hk]; exact HP9.out
  obtain ⟨hkb1, hkb2⟩ := hkb
  subst hk2
  go_enter Tryz.func101, Tryz.ntmps101
  go_wp2_with fail
  refine TK.out.mono ?_
  rintro e w1 ⟨rfl, g1, b1⟩
  have hg1 := g1.ext ((Ext.refl w1).alloc (Nat.le_refl _) (Obj.cells #[.int .i64 r.1, .int .i64 r.2] 163))
  have hb1 : Below B w (w1.alloc (Obj.cells #[.int .i64 r.1, .int .i64 r.2] 163)) := b1.alloc (by have := b1.size; omega) _
  have q0 : (w1.alloc (Obj.cells #[.int .i64 r.1, .int .i64 r.2] 163)).cell? ⟨w1.heap.size, 0, none⟩ = some (.int .i64 r.1) := by simp [go_sem]
  have q1 : (w1.alloc (Obj.cells #[.int .i64 r.1, .int .i64 r.2] 163)).cell? ⟨w1.heap.size, 1, none⟩ = some (.int .i64 r.2) := by simp [go_sem]
  have c1 := hg1.c1
  clear TK g1 b1
  go_wp2_with fail
  refine (picked_any r.1 9 _ r1 r2 (by omega) (by omega)).mono ?_
  rintro e w' ⟨rfl, rfl⟩
  go_wp2_with fail
  refine (put_op _ G B ar cr raw (p + 1) vars props tempo out _ _ hg1 (by omega)).mono ?_
  rintro e w2 ⟨rfl, hg2, hb2⟩
  go_wp2_with fail
  refine (IH1.out w2 _ hg2 (by omega) (by simp; omega)).mono ?_
  rintro e w3 ⟨rfl, hg3, hb3⟩
  go_wp2
  go_end0
  exact Made.mk rfl hg3 ((hb1.trans hb2).trans hb3) rfl (by simp [Tm.flat])

set_option maxRecDepth 100000 in
set_option maxHeartbeats 2000000 in
theorem truth_bb (w : World) (G B : Nat) (ar : Option Addr) (cr : Nat) (raw : List Op2) (p : Nat) (vars props tempo : Int) (out : List Op2) (h : Gr w G B ar cr raw p vars props tempo out)
    (hraw : RawI raw) (d : Nat) (hd : d ≤ 10) (hc : ¬ 10 < p + 1) (_hp : p + 100 * (d + 1) ≤ 700) (ho : out.length + 100 * (d + 1) ≤ 700) (_hv2 : vars ≤ 1000) (kk : Int) (hk : pk (rawAt raw p).1 9 = kk) (hk2 : 5 < kk) (ih : ∀ (w : World) (p : Nat) (out : List Op2), Gr w G B ar cr raw p vars props tempo out → p + 100 * d ≤ 700 → out.length + 100 * d ≤ 700 → Calls Tryz.prog 101 #[.pointer (some ⟨G, 0, none⟩), .int .i64 d] w (Made w G B ar cr raw vars props tempo out (truT raw vars d p))) (hs : ∀ q, (truT raw vars d q).1.size ≤ 60) :
    Calls Tryz.prog 101 #[.pointer (some ⟨G, 0, none⟩), .int .i64 ((d + 1 : Nat) : Int)] w (Made w G B ar cr raw vars props tempo out (.n2 (8 + kk % 2) 0 (truT raw vars d (p + 1)).1 (truT raw vars d (truT raw vars d (p + 1)).2).1, (truT raw vars d (truT raw vars d (p + 1)).2).2)) := by
  have TK := Lib.hid (take_any w G B ar cr raw p vars props tempo out h (by omega))
  have hBw : B ≤ w.heap.size := by have := World.block_lt_of_cell? _ _ h.c0; have := h.new; simp at *; omega
  have hr := hraw p
  have hz1 := truT_size raw vars d (p + 1)
  have hz3 := hs (p + 1)
  have hz5 := Tm.flat_len (truT raw vars d (p + 1)).1
  have ih1 := fun w' out' g h1 h2 => ih w' (p + 1) out' g h1 h2
  have ih2 := fun w' out' g h1 h2 => ih w' (truT raw vars d (p + 1)).2 out' g h1 h2
  generalize truT raw vars d (p + 1) = t1 at *
  generalize truT raw vars d t1.2 = t2 at *
  obtain ⟨tm1, p1⟩ := t1
  obtain ⟨tm2, p2⟩ := t2
  simp only at hz1 hz3 hz5 ih1 ih2
  have IH2 := Lib.hid ih2
  clear ih2
  have IH1 := Lib.hid ih1
  have HZ1 := Lib.hid hz1
  have HZ5 := Lib.hid hz5
  clear ih1 hz1 hz5 ih hs
  generalize rawAt raw p = r at *
  obtain ⟨⟨r1, r2⟩, r3, r4⟩ := hr
  have hx2 := pk_bd r.2 2 (by omega)
  obtain ⟨x1, x2⟩ := hx2
  have HP9 := Lib.hid (pk_bd r.1 9 (by omega))
  have HP3 := Lib.hid (pk_bd r.1 3 (by omega))
  have e0 : ((d : Int) + 1 == 0) = false := by rw [beq_eq_false_iff_ne]; omega
  have e1 : (0 : Int) ≤ d := by omega
  have hkb : 0 ≤ kk ∧ kk < 9 := by rw [← hk]; exact HP9.out
  obtain ⟨hkb1, hkb2⟩ := hkb
  have hv : kk = 6 ∨ kk = 7 ∨ kk = 8 := by omega
  rcases hv with rfl | rfl | rfl
  all_goals
    go_enter Tryz.func101, Tryz.ntmps101
    go_wp2_with fail
    refine TK.out.mono ?_
    rintro e w1 ⟨rfl, g1, b1⟩
    have hg1 := g1.ext ((Ext.refl w1).alloc (Nat.le_refl _) (Obj.cells #[.int .i64 r.1, .int .i64 r.2] 163))
    have hb1 : Below B w (w1.alloc (Obj.cells #[.int .i64 r.1, .int .i64 r.2] 163)) := b1.alloc (by have := b1.size; omega) _
    have q0 : (w1.alloc (Obj.cells #[.int .i64 r.1, .int .i64 r.2] 163)).cell? ⟨w1.heap.size, 0, none⟩ = some (.int .i64 r.1) := by simp [go_sem]
    have q1 : (w1.alloc (Obj.cells #[.int .i64 r.1, .int .i64 r.2] 163)).cell? ⟨w1.heap.size, 1, none⟩ = some (.int .i64 r.2) := by simp [go_sem]
    have c1 := hg1.c1
    clear TK g1 b1
    go_wp2_with fail
    refine (picked_any r.1 9 _ r1 r2 (by omega) (by omega)).mono ?_
    rintro e w' ⟨rfl, rfl⟩
    go_wp2_with fail
    refine (put_op _ G B ar cr raw (p + 1) vars props tempo out _ _ hg1 (by omega)).mono ?_
    rintro e w2 ⟨rfl, hg2, hb2⟩
    go_wp2_with fail
    refine (IH1.out w2 _ hg2 (by omega) (by simp; omega)).mono ?_
    rintro e w3 ⟨rfl, hg3, hb3⟩
    go_wp2_with fail
    refine (IH2.out w3 _ hg3 (by have := HZ1.out; omega) (by have := HZ5.out; simp at this ⊢; omega)).mono ?_
    rintro e w4 ⟨rfl, hg4, hb4⟩
    go_wp2
    go_end0
    exact Made.mk rfl hg4 (((hb1.trans hb2).trans hb3).trans hb4) rfl (by simp [Tm.flat])

end Go.Proofs.YtbmimdnpchldlaaGreatDoor

namespace Go.Proofs.YtbmimdnpchldlaaGreatDoor
open Go.RowKit

theorem truT_sizeb (raw : List Op2) (vars : Int) (d q : Nat) (hd : d ≤ 10) : (truT raw vars d q).1.size ≤ 60 := by
  have h1 := truT_end raw vars d q
  have h2 := truT_size raw vars d q
  by_cases h : 10 ≤ q
  · have := h1.1 h; omega
  · have := h1.2 (by omega); omega

theorem truth_any (G B : Nat) (ar : Option Addr) (cr : Nat) (raw : List Op2) (vars props tempo : Int) (hraw : RawI raw) (hv2 : vars ≤ 1000) :
    ∀ (d : Nat), d ≤ 5 → ∀ (w : World) (p : Nat) (out : List Op2), Gr w G B ar cr raw p vars props tempo out → p + 100 * d ≤ 700 → out.length + 100 * d ≤ 700 →
    Calls Tryz.prog 101 #[.pointer (some ⟨G, 0, none⟩), .int .i64 d] w (Made w G B ar cr raw vars props tempo out (truT raw vars d p)) := by
  intro d
  induction d with
  | zero =>
    intro _ w p out h hp ho
    have hb := truKind_bd (rawAt raw p) 0 p
    have hk : pk (rawAt raw p).1 3 = truKind (rawAt raw p) 0 p := by unfold truKind; simp
    unfold truT
    split
    · rename_i h0
      exact truth_z0 w G B ar cr raw p vars props tempo out h hraw (by omega) (by omega) hv2 _ hk h0
    · exact truth_zc w G B ar cr raw p vars props tempo out h hraw (by omega) (by omega) hv2 _ hk (by omega)
  | succ d ih =>
    intro hd w p out h hp ho
    have hb := truKind_bd (rawAt raw p) (d + 1) p
    have hs := fun q => truT_sizeb raw vars d q (by omega)
    have ih' := ih (by omega)
    unfold truT
    by_cases hc : 10 < p + 1
    · have hk : pk (rawAt raw p).1 3 = truKind (rawAt raw p) (d + 1) p := by unfold truKind; simp [hc]
      split
      · rename_i h0
        exact truth_a0 w G B ar cr raw p vars props tempo out h hraw d (by omega) hc hp ho hv2 _ hk h0
      · rw [if_pos (by omega)]
        exact truth_ac w G B ar cr raw p vars props tempo out h hraw d (by omega) hc hp ho hv2 _ hk (by omega)
    · have hk : pk (rawAt raw p).1 9 = truKind (rawAt raw p) (d + 1) p := by unfold truKind; simp [hc]
      split
      · rename_i h0
        exact truth_b0 w G B ar cr raw p vars props tempo out h hraw d (by omega) hc hp ho hv2 _ hk h0
      · split
        · exact truth_bc w G B ar cr raw p vars props tempo out h hraw d (by omega) hc hp ho hv2 _ hk (by omega) (by omega)
        · split
          · rename_i h5
            exact truth_b5 w G B ar cr raw p vars props tempo out h hraw d (by omega) hc hp ho hv2 _ hk h5 ih' hs
          · exact truth_bb w G B ar cr raw p vars props tempo out h hraw d (by omega) hc hp ho hv2 _ hk (by omega) ih' hs

/-- The terms that the laws draw. -/
def truO (raw : List Op2) (vars : Int) : Tm := (truT raw vars 3 0).1
def numO (raw : List Op2) (vars : Int) : Tm := (numT raw vars 2 0).1

set_option maxRecDepth 100000 in
set_option maxHeartbeats 1000000 in
theorem mkTruth (v : Value) (raw : List Op2) (vars : Int) (w : World) (h : Ops w v raw) (hraw : RawI raw) (hv2 : vars ≤ 1000) :
    Calls Tryz.prog 70 #[v, .int .i64 vars] w fun e w' => ∃ v', e = .returned v' ∧ w'.ownsRow w.heap.size 75 2 v' (truO raw vars).flat.length ((truO raw vars).flat.flatMap opc) ∧ Ext w w' := by
  obtain ⟨ar, cr, rfl, hr⟩ := h
  have hE : Ext w (w.alloc (Obj.cells #[.slice ar raw.length cr, .int .i64 0, .int .i64 vars, .int .i64 0, .int .i64 0, .slice none 0 0] 127)) := (Ext.refl w).alloc (Nat.le_refl _) _
  have hg : Gr (w.alloc (Obj.cells #[.slice ar raw.length cr, .int .i64 0, .int .i64 vars, .int .i64 0, .int .i64 0, .slice none 0 0] 127)) w.heap.size w.heap.size ar cr raw 0 vars 0 0 [] :=
    ⟨by simp [go_sem], by simp [go_sem], by simp [go_sem], by simp [go_sem], by simp [go_sem], ⟨none, 0, by simp [go_sem], World.ownsRow_nil _ _ _ _, by simp [Value.ownBlock]⟩, fun i => by simp [go_sem], hr.ext hE,
      fun q hq hx => by subst hq; exact hr.blk (by rw [opc_len]; omega), Nat.le_refl _⟩
  have HC := Lib.hid (truth_any w.heap.size w.heap.size ar cr raw vars 0 0 hraw hv2 3 (by omega) _ 0 [] hg (by omega) (by simp))
  have hbel := hE
  clear hr
  go_enter Tryz.func70, Tryz.ntmps70
  go_wp2_with fail
  refine HC.out.mono ?_
  rintro e w2 ⟨rfl, g2, b2⟩
  obtain ⟨ao, co, c5, h6, _⟩ := g2.c5
  have H6 := Lib.hid h6
  have HE2 : Hid (Ext w w2) := Below.trans hE b2
  clear h6 g2 b2 hg hE hbel
  go_wp2
  go_ret
  exact ⟨_, rfl, H6.out, HE2.out⟩

set_option maxRecDepth 100000 in
set_option maxHeartbeats 1000000 in
theorem mkNumber (v : Value) (raw : List Op2) (vars : Int) (w : World) (h : Ops w v raw) (hraw : RawI raw) (hv2 : vars ≤ 1000) :
    Calls Tryz.prog 71 #[v, .int .i64 vars] w fun e w' => ∃ v', e = .returned v' ∧ w'.ownsRow w.heap.size 75 2 v' (numO raw vars).flat.length ((numO raw vars).flat.flatMap opc) ∧ Ext w w' := by
  obtain ⟨ar, cr, rfl, hr⟩ := h
  have hE : Ext w (w.alloc (Obj.cells #[.slice ar raw.length cr, .int .i64 0, .int .i64 vars, .int .i64 0, .int .i64 0, .slice none 0 0] 127)) := (Ext.refl w).alloc (Nat.le_refl _) _
  have hg : Gr (w.alloc (Obj.cells #[.slice ar raw.length cr, .int .i64 0, .int .i64 vars, .int .i64 0, .int .i64 0, .slice none 0 0] 127)) w.heap.size w.heap.size ar cr raw 0 vars 0 0 [] :=
    ⟨by simp [go_sem], by simp [go_sem], by simp [go_sem], by simp [go_sem], by simp [go_sem], ⟨none, 0, by simp [go_sem], World.ownsRow_nil _ _ _ _, by simp [Value.ownBlock]⟩, fun i => by simp [go_sem], hr.ext hE,
      fun q hq hx => by subst hq; exact hr.blk (by rw [opc_len]; omega), Nat.le_refl _⟩
  have HC := Lib.hid (number_two _ w.heap.size w.heap.size ar cr raw 0 vars 0 0 [] hg hraw (by omega) (by simp) hv2)
  have hbel := hE
  clear hr
  go_enter Tryz.func71, Tryz.ntmps71
  go_wp2_with fail
  refine HC.out.mono ?_
  rintro e w2 ⟨rfl, g2, b2⟩
  obtain ⟨ao, co, c5, h6, _⟩ := g2.c5
  have H6 := Lib.hid h6
  have HE2 : Hid (Ext w w2) := Below.trans hE b2
  clear h6 g2 b2 hg hE hbel
  go_wp2
  go_ret
  exact ⟨_, rfl, H6.out, HE2.out⟩

end Go.Proofs.YtbmimdnpchldlaaGreatDoor

namespace Go.Proofs.YtbmimdnpchldlaaGreatDoor

/-- Place by place: it ends behind its place, inside of the whole; and what begins inside of it ends inside of it. -/
theorem ends_nest (t : Tm) : ∀ p, (∀ i (h : i < (t.ends p).length), (p : Int) + i < (t.ends p)[i] ∧ (t.ends p)[i] ≤ p + t.size) ∧
    (∀ i k (hi : i < (t.ends p).length) (hk : k < (t.ends p).length), i < k → (p : Int) + k < (t.ends p)[i] → (t.ends p)[k] ≤ (t.ends p)[i]) := by
  induction t with
  | n0 k v =>
    intro p
    refine ⟨fun i h => ?_, fun i k hi hk h1 h2 => ?_⟩
    · simp [Tm.ends] at h; subst h; simp [Tm.ends, Tm.size]; omega
    · simp [Tm.ends] at hi hk; omega
  | n1 k v a ih =>
    intro p
    obtain ⟨h1, h2⟩ := ih (p + 1)
    have hl := a.ends_len (p + 1)
    refine ⟨fun i h => ?_, fun i k hi hk g1 g2 => ?_⟩
    · cases i with
      | zero => simp [Tm.ends, Tm.size]; have := a.size_pos; omega
      | succ i =>
        have := h1 i (by simpa [Tm.ends] using h)
        simp only [Tm.ends, Tm.size, List.getElem_cons_succ]
        omega
    · cases k with
      | zero => omega
      | succ k =>
        have hk' : k < (a.ends (p + 1)).length := by simpa [Tm.ends] using hk
        have hk2 := h1 k hk'
        cases i with
        | zero =>
          simp only [Tm.ends, List.getElem_cons_succ, List.getElem_cons_zero]
          omega
        | succ i =>
          simp only [Tm.ends, List.getElem_cons_succ] at g2 ⊢
          exact h2 i k (by simpa [Tm.ends] using hi) hk' (by omega) (by omega)
  | n2 k v a b iha ihb =>
    intro p
    obtain ⟨a1, a2⟩ := iha (p + 1)
    obtain ⟨b1, b2⟩ := ihb (p + 1 + a.size)
    have hla := a.ends_len (p + 1)
    have hlb := b.ends_len (p + 1 + a.size)
    have hall : ∀ i (h : i < (a.ends (p + 1) ++ b.ends (p + 1 + a.size)).length), ((p + 1 : Nat) : Int) + i < (a.ends (p + 1) ++ b.ends (p + 1 + a.size))[i] ∧ (a.ends (p + 1) ++ b.ends (p + 1 + a.size))[i] ≤ ((p + 1 + a.size + b.size : Nat) : Int) := by
      intro i h
      by_cases hi : i < (a.ends (p + 1)).length
      · rw [List.getElem_append_left hi]
        have := a1 i hi
        omega
      · rw [List.getElem_append_right (by omega)]
        have := b1 (i - (a.ends (p + 1)).length) (by simp at h; omega)
        omega
    refine ⟨fun i h => ?_, fun i k hi hk g1 g2 => ?_⟩
    · cases i with
      | zero => simp [Tm.ends, Tm.size]; omega
      | succ i =>
        have := hall i (by simpa [Tm.ends] using h)
        simp only [Tm.ends, Tm.size, List.getElem_cons_succ]
        omega
    · cases k with
      | zero => omega
      | succ k =>
        have hk' : k < (a.ends (p + 1) ++ b.ends (p + 1 + a.size)).length := by simpa [Tm.ends] using hk
        have hk2 := hall k hk'
        cases i with
        | zero =>
          simp only [Tm.ends, List.getElem_cons_succ, List.getElem_cons_zero]
          omega
        | succ i =>
          have hi' : i < (a.ends (p + 1) ++ b.ends (p + 1 + a.size)).length := by simpa [Tm.ends] using hi
          simp only [Tm.ends, List.getElem_cons_succ] at g2 ⊢
          by_cases hia : i < (a.ends (p + 1)).length
          · have e1 := a1 i hia
            rw [List.getElem_append_left hia] at g2 ⊢
            have hka : k < (a.ends (p + 1)).length := by omega
            rw [List.getElem_append_left hka]
            exact a2 i k hia hka (by omega) (by omega)
          · rw [List.getElem_append_right (by omega)] at g2 ⊢
            rw [List.getElem_append_right (by omega)]
            refine b2 _ _ (by simp at hi'; omega) (by simp at hk'; omega) (by omega) (by omega)

theorem ends_zero (t : Tm) (p : Nat) (h : 0 < (t.ends p).length) : (t.ends p)[0] = ((p + t.size : Nat) : Int) := by
  cases t <;> simp [Tm.ends, Tm.size] <;> omega

/-- Whatever the table held: a term is read to its end. -/
theorem skip_ok (t : Tm) (ht : t.ok) : ∀ (pre post : List Op2) (f : Nat) (es : List Int), (pre ++ t.flat ++ post).length < pre.length + f → ∃ es1, skipL (pre ++ t.flat ++ post) f pre.length es = (.ok (pre.length + t.size), es1) := by
  induction t with
  | n0 k v =>
    intro pre post f es hf
    obtain ⟨h1, h2, h3⟩ := ht
    cases f with
    | zero => simp only [List.length_append] at hf; omega
    | succ f =>
      have hl : pre.length < (pre ++ Tm.flat (.n0 k v) ++ post).length := by simp [Tm.flat]
      have hg : (pre ++ Tm.flat (.n0 k v) ++ post)[pre.length] = (k, v) := by simp [Tm.flat]
      unfold skipL
      rw [dif_pos hl, hg]
      simp only [h1, h2, h3, and_self, if_true, loopL, closeL, Tm.size]
      exact ⟨_, rfl⟩
  | n1 k v a ih =>
    intro pre post f es hf
    obtain ⟨h1, h2, h3, h4⟩ := ht
    cases f with
    | zero => simp only [List.length_append] at hf; omega
    | succ f =>
      have hl : pre.length < (pre ++ Tm.flat (.n1 k v a) ++ post).length := by simp [Tm.flat]
      have hg : (pre ++ Tm.flat (.n1 k v a) ++ post)[pre.length] = (k, v) := by simp [Tm.flat]
      have e1 : pre ++ Tm.flat (.n1 k v a) ++ post = (pre ++ [(k, v)]) ++ a.flat ++ post := by simp [Tm.flat]
      obtain ⟨es1, g1⟩ := ih h4 (pre ++ [(k, v)]) post f es (by rw [e1] at hf; simp at hf ⊢; omega)
      unfold skipL
      rw [dif_pos hl, hg]
      simp only [h1, h2, h3, and_self, if_true, loopL]
      rw [e1, show pre.length + 1 = (pre ++ [(k, v)]).length by simp, g1]
      simp only [closeL]
      exact ⟨_, by rw [show (pre ++ [(k, v)]).length + a.size = pre.length + (Tm.n1 k v a).size by simp [Tm.size]; omega]⟩
  | n2 k v a b iha ihb =>
    intro pre post f es hf
    obtain ⟨h1, h2, h3, h4, h5⟩ := ht
    cases f with
    | zero => simp only [List.length_append] at hf; omega
    | succ f =>
      have hl : pre.length < (pre ++ Tm.flat (.n2 k v a b) ++ post).length := by simp [Tm.flat]
      have hg : (pre ++ Tm.flat (.n2 k v a b) ++ post)[pre.length] = (k, v) := by simp [Tm.flat]
      have e1 : pre ++ Tm.flat (.n2 k v a b) ++ post = (pre ++ [(k, v)]) ++ a.flat ++ (b.flat ++ post) := by simp [Tm.flat]
      have e2 : (pre ++ [(k, v)]) ++ a.flat ++ (b.flat ++ post) = (pre ++ [(k, v)] ++ a.flat) ++ b.flat ++ post := by simp
      obtain ⟨es1, g1⟩ := iha h4 (pre ++ [(k, v)]) (b.flat ++ post) f es (by rw [e1] at hf; simp at hf ⊢; omega)
      obtain ⟨es2, g2⟩ := ihb h5 (pre ++ [(k, v)] ++ a.flat) post f es1 (by rw [e1, e2] at hf; simp at hf ⊢; omega)
      unfold skipL
      rw [dif_pos hl, hg]
      simp only [h1, h2, h3, and_self, if_true, loopL]
      rw [e1, show pre.length + 1 = (pre ++ [(k, v)]).length by simp, g1]
      simp only []
      rw [e2, show (pre ++ [(k, v)]).length + a.size = (pre ++ [(k, v)] ++ a.flat).length by simp [Tm.flat_len]; omega, g2]
      simp only [closeL]
      exact ⟨_, by rw [show (pre ++ [(k, v)] ++ a.flat).length + b.size = pre.length + (Tm.n2 k v a b).size by simp [Tm.size, Tm.flat_len]; omega]⟩

/-- A term that is cut is too short. -/
theorem skip_cut (t : Tm) (ht : t.ok) : ∀ (pre : List Op2) (c f : Nat) (es : List Int), c < t.size → (pre ++ t.flat.take c).length < pre.length + f → (skipL (pre ++ t.flat.take c) f pre.length es).1 = .error 4 := by
  induction t with
  | n0 k v =>
    intro pre c f es hc hf
    obtain rfl : c = 0 := by simp [Tm.size] at hc; omega
    cases f with
    | zero => rfl
    | succ f => unfold skipL; simp
  | n1 k v a ih =>
    intro pre c f es hc hf
    obtain ⟨h1, h2, h3, h4⟩ := ht
    cases f with
    | zero => rfl
    | succ f =>
      cases c with
      | zero => unfold skipL; simp
      | succ c =>
        have e1 : pre ++ (Tm.flat (.n1 k v a)).take (c + 1) = (pre ++ [(k, v)]) ++ a.flat.take c := by simp [Tm.flat]
        have hl : pre.length < (pre ++ (Tm.flat (.n1 k v a)).take (c + 1)).length := by simp [Tm.flat]
        have hg : (pre ++ (Tm.flat (.n1 k v a)).take (c + 1))[pre.length] = (k, v) := by simp [Tm.flat]
        have := ih h4 (pre ++ [(k, v)]) c f es (by simp [Tm.size] at hc; omega) (by rw [e1] at hf; simp at hf ⊢; omega)
        unfold skipL
        rw [dif_pos hl, hg]
        simp only [h1, h2, h3, and_self, if_true, loopL]
        rw [e1, show pre.length + 1 = (pre ++ [(k, v)]).length by simp]
        rcases hr : skipL (pre ++ [(k, v)] ++ a.flat.take c) f (pre ++ [(k, v)]).length es with ⟨r, es'⟩
        rw [hr] at this
        simp only at this
        subst this
        rfl
  | n2 k v a b iha ihb =>
    intro pre c f es hc hf
    obtain ⟨h1, h2, h3, h4, h5⟩ := ht
    cases f with
    | zero => rfl
    | succ f =>
      cases c with
      | zero => unfold skipL; simp
      | succ c =>
        have hl : pre.length < (pre ++ (Tm.flat (.n2 k v a b)).take (c + 1)).length := by simp [Tm.flat]
        have hg : (pre ++ (Tm.flat (.n2 k v a b)).take (c + 1))[pre.length] = (k, v) := by simp [Tm.flat]
        unfold skipL
        rw [dif_pos hl, hg]
        simp only [h1, h2, h3, and_self, if_true, loopL]
        rw [show pre.length + 1 = (pre ++ [(k, v)]).length by simp]
        by_cases hca : c < a.size
        · have e1 : pre ++ (Tm.flat (.n2 k v a b)).take (c + 1) = (pre ++ [(k, v)]) ++ a.flat.take c := by
            simp only [Tm.flat, List.take_succ_cons, List.append_assoc, List.cons_append, List.nil_append]
            rw [List.take_append_of_le_length (by rw [Tm.flat_len]; omega)]
          have := iha h4 (pre ++ [(k, v)]) c f es hca (by rw [e1] at hf; simp at hf ⊢; omega)
          rw [e1]
          rcases hr : skipL (pre ++ [(k, v)] ++ a.flat.take c) f (pre ++ [(k, v)]).length es with ⟨r, es'⟩
          rw [hr] at this
          simp only at this
          subst this
          rfl
        · have e1 : pre ++ (Tm.flat (.n2 k v a b)).take (c + 1) = (pre ++ [(k, v)] ++ a.flat) ++ b.flat.take (c - a.size) := by
            simp only [Tm.flat, List.take_succ_cons, List.append_assoc, List.cons_append, List.nil_append]
            rw [List.take_append, List.take_of_length_le (by rw [Tm.flat_len]; omega), Tm.flat_len]
          have g2 := fun es' => ihb h5 (pre ++ [(k, v)] ++ a.flat) (c - a.size) f es' (by simp [Tm.size] at hc; omega) (by rw [e1] at hf; simp at hf ⊢; omega)
          rw [e1]
          have hE : ∃ es1, skipL (pre ++ [(k, v)] ++ a.flat ++ b.flat.take (c - a.size)) f (pre ++ [(k, v)]).length es = (.ok ((pre ++ [(k, v)]).length + a.size), es1) := by
            exact skip_ok a h4 (pre ++ [(k, v)]) (b.flat.take (c - a.size)) f es (by rw [e1] at hf; simp at hf ⊢; omega)
          obtain ⟨es1, hE⟩ := hE
          rw [hE]
          simp only []
          have g3 := g2 es1
          rw [show (pre ++ [(k, v)] ++ a.flat).length = (pre ++ [(k, v)]).length + a.size by simp [Tm.flat_len]; omega] at g3
          rcases hr : skipL (pre ++ [(k, v)] ++ a.flat ++ b.flat.take (c - a.size)) f ((pre ++ [(k, v)]).length + a.size) es1 with ⟨r, es'⟩
          rw [hr] at g3
          simp only at g3
          subst g3
          rfl

theorem ends_cut (t : Tm) (ht : t.ok) (hs : t.size ≤ 60) (c : Nat) (hc : c < t.size) : endsL (t.flat.take c) = .error 4 := by
  have hl : (t.flat.take c).length = c := by rw [List.length_take, Tm.flat_len]; omega
  have h := skip_cut t ht [] c ((t.flat.take c).length + 1) (List.replicate (t.flat.take c).length 0) hc (by simp)
  simp only [List.nil_append, List.length_nil] at h
  unfold endsL
  rw [if_neg (by omega)]
  rcases hr : skipL (t.flat.take c) ((t.flat.take c).length + 1) 0 (List.replicate (t.flat.take c).length 0) with ⟨r, es⟩
  rw [hr] at h
  simp only at h
  subst h
  rfl

theorem ends_more (t : Tm) (ht : t.ok) (hs : t.size < 60) (o : Op2) : endsL (t.flat ++ [o]) = .error 3 := by
  have hl : (t.flat ++ [o]).length = t.size + 1 := by simp [Tm.flat_len]
  obtain ⟨es1, h⟩ := skip_ok t ht [] [o] ((t.flat ++ [o]).length + 1) (List.replicate (t.flat ++ [o]).length 0) (by simp)
  simp only [List.nil_append, List.length_nil, Nat.zero_add] at h
  unfold endsL
  rw [if_neg (by omega), h]
  simp only []
  rw [if_neg (by omega)]

end Go.Proofs.YtbmimdnpchldlaaGreatDoor

namespace Go.Proofs.YtbmimdnpchldlaaGreatDoor
open Go.RowKit

set_option maxRecDepth 100000 in
/-- Raw numbers that came in. -/
theorem raw_of {W : World} {v : Value} (h : Cells Tryz.prog W 26 [v]) : ∃ raw, Ops W v raw ∧ RawI raw := by
  obtain ⟨a, cap, xss, hv, hr, hx⟩ := h.slice (sz := 2) Tryz.underlying26 (by kernel_rfl)
  have each : ∀ xs ∈ xss, ∃ o : { o : Op2 // I64 o.1 ∧ I64 o.2 }, xs = opc o.val := by
    intro xs hxs
    obtain ⟨hl, hc⟩ := hx xs hxs
    obtain ⟨_, hf⟩ := hc.field Tryz.underlying163
    match xs, hl with
    | [x, y], _ =>
      have c1 : Tryz.prog.cellsOf 3 = 1 := by kernel_rfl
      have f0 : Cells Tryz.prog W 3 [x] := by have := hf 0 _ rfl; simpa [c1] using this
      have f1 : Cells Tryz.prog W 3 [y] := by have := hf 1 _ rfl; simpa [c1] using this
      obtain ⟨m, e0, i0⟩ := Cells.i64 Tryz.underlying3 f0
      obtain ⟨n, e1, i1⟩ := Cells.i64 Tryz.underlying3 f1
      simp at e0 e1
      subst e0; subst e1
      exact ⟨⟨(m, n), i0, i1⟩, rfl⟩
  have build : ∀ yss : List (List Value), (∀ xs ∈ yss, ∃ o : { o : Op2 // I64 o.1 ∧ I64 o.2 }, xs = opc o.val) → ∃ raw : List Op2, yss.length = raw.length ∧ yss.flatten = raw.flatMap opc ∧ ∀ o ∈ raw, I64 o.1 ∧ I64 o.2 := by
    intro yss
    induction yss with
    | nil => intro _; exact ⟨[], rfl, rfl, by simp⟩
    | cons ys yss ih =>
      intro h
      obtain ⟨o, rfl⟩ := h ys (by simp)
      obtain ⟨raw, h1, h2, h3⟩ := ih (fun xs hxs => h xs (by simp [hxs]))
      refine ⟨o.val :: raw, by simp [h1], by simp [h2], ?_⟩
      intro q hq
      rcases List.mem_cons.1 hq with rfl | hq
      · exact o.property
      · exact h3 q hq
  obtain ⟨raw, h1, h2, h3⟩ := build xss each
  simp only [List.cons.injEq, and_true] at hv
  rw [h1, h2] at hr
  refine ⟨raw, ⟨a, cap, by rw [hv, h1], hr⟩, fun p => ?_⟩
  unfold rawAt
  rw [List.getD_eq_getElem?_getD]
  by_cases hp : p < raw.length
  · rw [List.getElem?_eq_getElem hp]; exact h3 _ (by simp)
  · rw [List.getElem?_eq_none (by omega)]; simp [I64]


end Go.Proofs.YtbmimdnpchldlaaGreatDoor

namespace Go.Proofs.YtbmimdnpchldlaaGreatDoor
open Go.RowKit

/-- A slice of slices of ops. -/
def OpsL (w : World) (v : Value) (ll : List (List Op2)) : Prop :=
  ∃ vs : List Value, vs.length = ll.length ∧ Reads w 1 v ll.length vs ∧ ∀ (i : Nat) (x : Value) (l : List Op2), vs[i]? = some x → ll[i]? = some l → Ops w x l

theorem OpsL.ext {w w' : World} {v : Value} {ll : List (List Op2)} (h : OpsL w v ll) (hb : Ext w w') : OpsL w' v ll := by
  obtain ⟨vs, h1, h2, h3⟩ := h
  exact ⟨vs, h1, h2.ext hb, fun i x l hx hl => (h3 i x l hx hl).ext hb⟩

def joinL (k : Int) (ll : List (List Op2)) : List Op2 := (k, 0) :: ll.flatten

theorem join_succ (k : Int) (ll : List (List Op2)) (i : Nat) (h : i < ll.length) : joinL k (ll.take (i + 1)) = joinL k (ll.take i) ++ ll[i] := by
  unfold joinL
  rw [List.take_succ_eq_append_getElem h, List.flatten_append]
  simp

theorem take_flat_le (ll : List (List Op2)) (i : Nat) : (ll.take i).flatten.length ≤ ll.flatten.length := by
  have := List.take_append_drop i ll
  have h2 := congrArg (fun l => (List.flatten l).length) this
  simp only [List.flatten_append, List.length_append] at h2
  omega

set_option maxRecDepth 100000 in
set_option maxHeartbeats 1000000 in
theorem joined_any (k : Int) (v : Value) (ll : List (List Op2)) (w : World) (h : OpsL w v ll) (hl : ll.flatten.length ≤ 10000) (hn : ll.length ≤ 1000) :
    Calls Tryz.prog 58 #[.int .i64 k, v] w fun e w' => ∃ v', e = .returned v' ∧ w'.ownsRow w.heap.size 75 2 v' (joinL k ll).length ((joinL k ll).flatMap opc) ∧ Ext w w' := by
  obtain ⟨vs, hvl, ⟨a, cap, rfl, hr⟩, hops⟩ := h
  obtain ⟨b, off, hnil, ha, hc⟩ := hr.lie
  have HA := Lib.hid ha
  have HC := Lib.hid hc
  have HV := Lib.hid hvl
  have HO := Lib.hid hops
  clear ha hc hvl hops hnil hr
  have hown0 : (w.alloc (.cells #[.int .i64 k, .int .i64 0] 75)).ownsRow w.heap.size 75 2 (.slice (some ⟨w.heap.size, 0, none⟩) 1 1) (joinL k []).length ((joinL k []).flatMap opc) := by
    have := World.ownsRow_lit (e := 75) (size := 2) (base := w.heap.size) w #[.int .i64 k, .int .i64 0] 1 (Nat.le_refl _) (by unfold maxLen; omega) rfl
    simpa [joinL, opc] using this
  have hE0 : Ext w (w.alloc (.cells #[.int .i64 k, .int .i64 0] 75)) := (Ext.refl w).alloc (Nat.le_refl _) _
  go_enter Tryz.func58, Tryz.ntmps58
  go_wp2
  go_loopw [5, 6] (fun o i wr => ∃ ii : Nat, ii ≤ ll.length ∧ i = .int .i64 ii ∧ wr.ownsRow w.heap.size 75 2 o (joinL k (ll.take ii)).length ((joinL k (ll.take ii)).flatMap opc) ∧ Ext w wr) (fun _ i _ => ll.length - (intOf i).toNat)
  case atStart => exact ⟨0, by omega, rfl, by simpa using hown0, hE0⟩
  case round =>
    obtain ⟨ii, hii, rfl, hown, hext⟩ := hrel
    clear hown0 hE0
    by_cases hlt : ii < ll.length
    · have hvi : ii < vs.length := by have := HV.out; omega
      have hcell : wr.cell? ⟨b, off + ii, none⟩ = some vs[ii] := cell_later hext (HC.out ii _ (by simp [hvi]))
      obtain rfl := HA.out (by omega)
      have hO := (HO.out ii vs[ii] ll[ii] (by simp [hvi]) (by simp [hlt])).ext hext
      obtain ⟨ax, cx, hvx, hrx⟩ := hO
      rw [hvx] at hcell
      have HS := Lib.hid (join_succ k ll ii hlt)
      have hl1 := take_flat_le ll ii
      have hl2 := take_flat_le ll (ii + 1)
      have hl3 : (joinL k (ll.take (ii + 1))).length ≤ 10001 := by simp only [joinL, List.length_cons]; omega
      have hl4 : (joinL k (ll.take (ii + 1))).length = (joinL k (ll.take ii)).length + ll[ii].length := by rw [HS.out, List.length_append]
      have hl5 : (joinL k (ll.take ii)).length + ll[ii].length ≤ 10001 := by omega
      have hone := opc_one ll[ii]
      have hws := hext.size
      generalize hj : joinL k (ll.take ii) = j at *
      have HJ := Lib.hid hj
      generalize ll[ii] = li at *
      clear hvx HC HA HV HO hl1 hl2 hl3 hl4 hj
      go_wp2_with (at_builtin; go_must (refine wpl_append rfl rfl Tryz.slOps w.heap.size rfl hown rfl hrx hone (by unfold maxLen; omega) (by omega) hws ?_))
      intro o' w1 hown1 hg1 _ _
      have hE1 : Ext w w1 := hext.grown hg1 hws (fun g hg => (hown.lt g hg).1)
      clear hg1 hown
      go_wp2
      go_roundw
      case rel => exact ⟨ii + 1, by omega, by go_num, by rw [HS.out, List.length_append, List.flatMap_append]; exact hown1, hE1⟩
      case measure => simp [intOf]; omega
    · obtain rfl : ii = ll.length := by omega
      rw [List.take_length] at hown
      go_wp2
      go_ret
      exact ⟨_, rfl, hown, hext⟩

end Go.Proofs.YtbmimdnpchldlaaGreatDoor

namespace Go.Proofs.YtbmimdnpchldlaaGreatDoor
open Go.RowKit

theorem ops_own {w : World} {base : Nat} {v : Value} {l : List Op2} (h : w.ownsRow base 75 2 v l.length (l.flatMap opc)) : Ops w v l := by
  obtain ⟨a, c, rfl, hr⟩ := h.row
  exact ⟨a, c, rfl, hr⟩

theorem ops_ext {w w' : World} {v : Value} {l : List Op2} (h : Ops w v l) (hb : Ext w w') : Ops w' v l := by
  obtain ⟨a, c, rfl, hr⟩ := h
  exact ⟨a, c, rfl, hr.ext hb⟩

theorem opsL_new (w : World) (T : TypeId) (vs : List Value) (ll : List (List Op2)) (hl : vs.length = ll.length) (hm : vs.length ≤ maxLen) (h : ∀ (i : Nat) (x : Value) (l : List Op2), vs[i]? = some x → ll[i]? = some l → Ops w x l) :
    OpsL (w.alloc (.cells vs.toArray T)) (.slice (some ⟨w.heap.size, 0, none⟩) vs.length vs.length) ll := by
  refine ⟨vs, hl, ⟨_, _, by rw [hl], ?_⟩, fun i x l hx hl' => ops_ext (h i x l hx hl') ((Ext.refl w).alloc (Nat.le_refl _) _)⟩
  rw [← hl]
  exact Row.new w T vs hm

theorem join2 (k : Int) (va vb : Value) (la lb : List Op2) (w : World) (T : TypeId) (ha : Ops w va la) (hb : Ops w vb lb) (hl : la.length + lb.length ≤ 10000) :
    Calls Tryz.prog 58 #[.int .i64 k, .slice (some ⟨w.heap.size, 0, none⟩) 2 2] (w.alloc (.cells #[va, vb] T)) fun e w' => ∃ v', e = .returned v' ∧ Ops w' v' ((k, 0) :: (la ++ lb)) ∧ Ext w w' := by
  have hE : Ext w (w.alloc (.cells #[va, vb] T)) := (Ext.refl w).alloc (Nat.le_refl _) _
  have h := opsL_new w T [va, vb] [la, lb] rfl (by simp [maxLen]) (by
    intro i x l hx hl'
    match i with
    | 0 => simp at hx hl'; subst hx; subst hl'; exact ha
    | 1 => simp at hx hl'; subst hx; subst hl'; exact hb
    | i + 2 => simp at hx)
  refine (joined_any k _ [la, lb] _ h (by simp; omega) (by simp)).mono ?_
  rintro e w' ⟨v', rfl, hown, hx⟩
  have e : joinL k [la, lb] = (k, 0) :: (la ++ lb) := by simp [joinL]
  rw [e] at hown
  exact ⟨v', rfl, ops_own hown, hE.trans hx⟩

theorem join1 (k : Int) (va : Value) (la : List Op2) (w : World) (T : TypeId) (ha : Ops w va la) (hl : la.length ≤ 10000) :
    Calls Tryz.prog 58 #[.int .i64 k, .slice (some ⟨w.heap.size, 0, none⟩) 1 1] (w.alloc (.cells #[va] T)) fun e w' => ∃ v', e = .returned v' ∧ Ops w' v' ((k, 0) :: la) ∧ Ext w w' := by
  have hE : Ext w (w.alloc (.cells #[va] T)) := (Ext.refl w).alloc (Nat.le_refl _) _
  have h := opsL_new w T [va] [la] rfl (by simp [maxLen]) (by
    intro i x l hx hl'
    match i with
    | 0 => simp at hx hl'; subst hx; subst hl'; exact ha
    | i + 1 => simp at hx)
  refine (joined_any k _ [la] _ h (by simp; omega) (by simp)).mono ?_
  rintro e w' ⟨v', rfl, hown, hx⟩
  have e : joinL k [la] = (k, 0) :: la := by simp [joinL]
  rw [e] at hown
  exact ⟨v', rfl, ops_own hown, hE.trans hx⟩

/-- A value that reads as a term. -/
def IsT (w : World) (v : Value) (t : Tm) : Prop := Ops w v t.flat

theorem IsT.ext {w w' : World} {v : Value} {t : Tm} (h : IsT w v t) (hb : Ext w w') : IsT w' v t := ops_ext h hb

theorem isT_own {w : World} {base : Nat} {v : Value} {t : Tm} (h : w.ownsRow base 75 2 v t.flat.length (t.flat.flatMap opc)) : IsT w v t := ops_own h

theorem IsT.val {w : World} {v : Value} {t : Tm} (h : IsT w v t) : ∃ a n c, v = .slice a n c := by
  obtain ⟨a, c, rfl, _⟩ := h
  exact ⟨_, _, _, rfl⟩

theorem joinT2 (k : Int) (va vb : Value) (a b : Tm) (w : World) (T : TypeId) (ha : IsT w va a) (hb : IsT w vb b) (hl : a.size + b.size ≤ 10000) :
    Calls Tryz.prog 58 #[.int .i64 k, .slice (some ⟨w.heap.size, 0, none⟩) 2 2] (w.alloc (.cells #[va, vb] T)) fun e w' => ∃ v', e = .returned v' ∧ IsT w' v' (.n2 k 0 a b) ∧ Ext w w' :=
  join2 k va vb a.flat b.flat w T ha hb (by simpa [Tm.flat_len] using hl)

theorem joinT1 (k : Int) (va : Value) (a : Tm) (w : World) (T : TypeId) (ha : IsT w va a) (hl : a.size ≤ 10000) :
    Calls Tryz.prog 58 #[.int .i64 k, .slice (some ⟨w.heap.size, 0, none⟩) 1 1] (w.alloc (.cells #[va] T)) fun e w' => ∃ v', e = .returned v' ∧ IsT w' v' (.n1 k 0 a) ∧ Ext w w' :=
  join1 k va a.flat w T ha (by simpa [Tm.flat_len] using hl)

end Go.Proofs.YtbmimdnpchldlaaGreatDoor

namespace Go.Proofs.YtbmimdnpchldlaaGreatDoor
open Go.RowKit

/-- Does a kind make a truth; does it take truths; may it stand in an expression. -/
def mkK (k : Int) : Bool := decide (k = 6 ∨ k = 7 ∨ 8 ≤ k ∧ k ≤ 12)
def tkK (k : Int) : Bool := decide (8 ≤ k ∧ k ≤ 12)
def okK (k : Int) : Bool := decide (1 ≤ k ∧ k ≤ 12)

set_option maxRecDepth 100000 in
set_option maxHeartbeats 2000000 in
theorem truth_fn (k : Int) (w : World) :
    Calls Tryz.prog 117 #[.int .i64 k] w fun e w' => e = .returned (.tuple #[.bool (mkK k), .bool (tkK k), .bool (okK k)]) ∧ w = w' := by
  by_cases h : 1 ≤ k ∧ k ≤ 12
  · have hv : k = 1 ∨ k = 2 ∨ k = 3 ∨ k = 4 ∨ k = 5 ∨ k = 6 ∨ k = 7 ∨ k = 8 ∨ k = 9 ∨ k = 10 ∨ k = 11 ∨ k = 12 := by omega
    clear h
    rcases hv with rfl | rfl | rfl | rfl | rfl | rfl | rfl | rfl | rfl | rfl | rfl | rfl
    all_goals
      go_enter Tryz.func117, Tryz.ntmps117
      go_wp2
      go_ret3
      exact ⟨rfl, rfl⟩
  · have e1 : mkK k = false := by unfold mkK; simp; omega
    have e2 : tkK k = false := by unfold tkK; simp; omega
    have e3 : okK k = false := by unfold okK; simp; omega
    rw [e1, e2, e3]
    have f : ∀ n : Int, 1 ≤ n → n ≤ 12 → (k == n) = false := fun n h1 h2 => by rw [beq_eq_false_iff_ne]; omega
    have f1 := f 1 (by omega) (by omega)
    have f2 := f 2 (by omega) (by omega)
    have f3 := f 3 (by omega) (by omega)
    have f4 := f 4 (by omega) (by omega)
    have f5 := f 5 (by omega) (by omega)
    have f6 := f 6 (by omega) (by omega)
    have f7 := f 7 (by omega) (by omega)
    have f8 := f 8 (by omega) (by omega)
    have f9 := f 9 (by omega) (by omega)
    have f10 := f 10 (by omega) (by omega)
    have f11 := f 11 (by omega) (by omega)
    have f12 := f 12 (by omega) (by omega)
    clear f e1 e2 e3 h
    go_enter Tryz.func117, Tryz.ntmps117
    go_wp2
    go_ret3
    exact ⟨rfl, rfl⟩

/-- expr.op: the errno of an op over so many variables; 0: none. -/
def opE (o : Op2) (vars : Int) : Int :=
  if okK o.1 = false then 13
  else if o.2 < (if o.1 = 1 then -1000 else 0) ∨ (if o.1 = 1 then 1000 else if o.1 = 2 then vars - 1 else 0) < o.2 then 2 else 0

set_option maxRecDepth 100000 in
set_option maxHeartbeats 2000000 in
theorem op_fn (o : Op2) (vars : Int) (w : World) (h1 : 0 ≤ vars) (h2 : vars ≤ 6) :
    Calls Tryz.prog 116 #[.agg #[.int .i64 o.1, .int .i64 o.2], .int .i64 vars] w fun e w' => e = .returned (.int .i64 (opE o vars)) ∧ Ext w w' := by
  obtain ⟨k, x⟩ := o
  have hE : Ext w (w.alloc (Obj.cells #[.int .i64 k, .int .i64 x] 75)) := (Ext.refl w).alloc (Nat.le_refl _) _
  have HT := Lib.hid (truth_fn k (w.alloc (Obj.cells #[.int .i64 k, .int .i64 x] 75)))
  have hv : okK k = false ∨ okK k = true := by cases okK k <;> simp
  rcases hv with hk | hk
  · have HK : Hid (opE (k, x) vars = 13) := by show opE (k, x) vars = 13; simp [opE, hk]
    rw [HK.out]
    rw [hk] at HT
    clear hk HK
    generalize mkK k = b1 at *
    generalize tkK k = b2 at *
    go_enter Tryz.func116, Tryz.ntmps116
    go_wp2_with fail
    refine HT.out.mono ?_
    rintro e w' ⟨rfl, rfl⟩
    go_wp2
    go_ret
    exact ⟨rfl, hE⟩
  · have hb : 1 ≤ k ∧ k ≤ 12 := by simpa [okK] using hk
    obtain ⟨hb1, hb2⟩ := hb
    have HK : Hid (opE (k, x) vars = if x < (if k = 1 then -1000 else 0) ∨ (if k = 1 then 1000 else if k = 2 then vars - 1 else 0) < x then 2 else 0) := by
      show opE (k, x) vars = _
      simp [opE, hk]
    rw [hk] at HT
    rw [HK.out]
    clear hk HK
    generalize mkK k = b1 at *
    generalize tkK k = b2 at *
    by_cases k1 : k = 1
    · subst k1
      simp only [if_true]
      generalize hr : (if x < -1000 ∨ 1000 < x then (2 : Int) else 0) = r at *
      have Hr := Lib.hid hr
      clear hr
      go_enter Tryz.func116, Tryz.ntmps116
      go_wp2_with fail
      refine HT.out.mono ?_
      rintro e w' ⟨rfl, rfl⟩
      go_wp2
      all_goals
        go_ret
        exact ⟨congrArg (fun n => Ending.returned (.int .i64 n)) (by rw [← Hr.out]; first | rw [if_pos (by omega)] | rw [if_neg (by omega)]), hE⟩
    · by_cases k2 : k = 2
      · subst k2
        simp only [if_neg k1, if_true]
        generalize hr : (if x < 0 ∨ vars - 1 < x then (2 : Int) else 0) = r at *
        have Hr := Lib.hid hr
        clear hr k1
        go_enter Tryz.func116, Tryz.ntmps116
        go_wp2_with fail
        refine HT.out.mono ?_
        rintro e w' ⟨rfl, rfl⟩
        go_wp2
        all_goals
          go_ret
          exact ⟨congrArg (fun n => Ending.returned (.int .i64 n)) (by rw [← Hr.out]; first | rw [if_pos (by omega)] | rw [if_neg (by omega)]), hE⟩
      · simp only [if_neg k1, if_neg k2]
        generalize hr : (if x < 0 ∨ 0 < x then (2 : Int) else 0) = r at *
        have Hr := Lib.hid hr
        clear hr
        have f1 : (k == 1) = false := by rw [beq_eq_false_iff_ne]; exact k1
        have f2 : (k == 2) = false := by rw [beq_eq_false_iff_ne]; exact k2
        clear k1 k2
        go_enter Tryz.func116, Tryz.ntmps116
        go_wp2_with fail
        refine HT.out.mono ?_
        rintro e w' ⟨rfl, rfl⟩
        go_wp2
        all_goals
          go_ret
          exact ⟨congrArg (fun n => Ending.returned (.int .i64 n)) (by rw [← Hr.out]; first | rw [if_pos (by omega)] | rw [if_neg (by omega)]), hE⟩

end Go.Proofs.YtbmimdnpchldlaaGreatDoor

namespace Go.Proofs.YtbmimdnpchldlaaGreatDoor

theorem partsOf_le (k : Int) : partsOf k = 0 ∨ partsOf k = 1 ∨ partsOf k = 2 := by
  unfold partsOf
  split
  · simp
  · split <;> simp

theorem take_drop_cons (l : List Op2) (i n : Nat) (h : i < l.length) : (l.drop i).take (n + 1) = l[i] :: (l.drop (i + 1)).take n := by
  rw [List.drop_eq_getElem_cons h, List.take_succ_cons]

theorem take_drop_add (l : List Op2) (i m n : Nat) : (l.drop i).take (m + n) = (l.drop i).take m ++ (l.drop (i + m)).take n := by
  rw [List.take_add, List.drop_drop]

theorem skip_parse (l : List Op2) : ∀ (f i : Nat) (es : List Int) (n : Nat) (es' : List Int), skipL l f i es = (.ok n, es') → ∃ t : Tm, t.ok ∧ i + t.size = n ∧ (l.drop i).take t.size = t.flat := by
  intro f
  induction f with
  | zero => intro i es n es' h; simp [skipL] at h
  | succ f ih =>
    intro i es n es' h
    unfold skipL at h
    split at h
    · rename_i hi
      split at h
      · rename_i hk
        rcases hlo : loopL (skipL l f) (partsOf l[i].1) (i + 1) es with ⟨r, es1⟩
        rw [hlo] at h
        cases r with
        | error c => simp [closeL] at h
        | ok m =>
          simp only [closeL, Prod.mk.injEq, Except.ok.injEq] at h
          obtain ⟨rfl, _⟩ := h
          rcases partsOf_le l[i].1 with hp | hp | hp
          · rw [hp] at hlo
            simp only [loopL, Prod.mk.injEq, Except.ok.injEq] at hlo
            refine ⟨.n0 l[i].1 l[i].2, ⟨hk.1, hk.2, hp⟩, by simp [Tm.size]; omega, ?_⟩
            rw [show (Tm.n0 l[i].1 l[i].2).size = 0 + 1 from rfl, take_drop_cons l i 0 hi]
            simp [Tm.flat]
          · rw [hp] at hlo
            simp only [loopL] at hlo
            rcases h1 : skipL l f (i + 1) es with ⟨r1, es2⟩
            rw [h1] at hlo
            cases r1 with
            | error c => simp at hlo
            | ok m1 =>
              simp only [Prod.mk.injEq, Except.ok.injEq] at hlo
              obtain ⟨a, ha, hs, ht⟩ := ih _ _ _ _ h1
              refine ⟨.n1 l[i].1 l[i].2 a, ⟨hk.1, hk.2, hp, ha⟩, by simp [Tm.size]; omega, ?_⟩
              rw [show (Tm.n1 l[i].1 l[i].2 a).size = a.size + 1 from rfl, take_drop_cons l i _ hi, ht]
              simp [Tm.flat]
          · rw [hp] at hlo
            simp only [loopL] at hlo
            rcases h1 : skipL l f (i + 1) es with ⟨r1, es2⟩
            rw [h1] at hlo
            cases r1 with
            | error c => simp at hlo
            | ok m1 =>
              simp only at hlo
              rcases h2 : skipL l f m1 es2 with ⟨r2, es3⟩
              rw [h2] at hlo
              cases r2 with
              | error c => simp at hlo
              | ok m2 =>
                simp only [Prod.mk.injEq, Except.ok.injEq] at hlo
                obtain ⟨a, ha, hs, ht⟩ := ih _ _ _ _ h1
                obtain ⟨b, hb, hs2, ht2⟩ := ih _ _ _ _ h2
                refine ⟨.n2 l[i].1 l[i].2 a b, ⟨hk.1, hk.2, hp, ha, hb⟩, by simp [Tm.size]; omega, ?_⟩
                rw [show (Tm.n2 l[i].1 l[i].2 a b).size = (a.size + b.size) + 1 from rfl, take_drop_cons l i _ hi, take_drop_add, ht, hs, ht2]
                simp [Tm.flat]
      · simp at h
    · simp at h

/-- What Ends takes is a term, and the table is that term's. -/
theorem ends_parse (l : List Op2) (es : List Int) (h : endsL l = .ok es) : ∃ t : Tm, t.ok ∧ t.flat = l ∧ t.size ≤ 60 ∧ es = t.ends 0 := by
  unfold endsL at h
  split at h
  · cases h
  · rename_i hl
    rcases hr : skipL l (l.length + 1) 0 (List.replicate l.length 0) with ⟨r, es1⟩
    rw [hr] at h
    cases r with
    | error c => simp at h
    | ok n =>
      simp only at h
      split at h
      · rename_i hn
        obtain ⟨t, ht, hs, hf⟩ := skip_parse _ _ _ _ _ _ hr
        have hsz : t.size = l.length := by omega
        rw [List.drop_zero, hsz, List.take_length] at hf
        have h2 := ends_term t ht (by omega)
        rw [← hf] at h2
        unfold endsL at h2
        rw [if_neg hl, hr] at h2
        simp only [hn, if_true] at h2
        injection h with h
        injection h2 with h2
        exact ⟨t, ht, hf.symm, by omega, by rw [← h, ← h2]⟩
      · cases h

def opAt (l : List Op2) (k : Nat) : Op2 := l.getD k (0, 0)
def endAt (es : List Int) (k : Nat) : Int := es.getD k 0

/-- Is each part of what the op at a place has of the type that it takes. -/
def chainL (l : List Op2) (es : List Int) (tk : Bool) (lim : Int) : Nat → Nat → Bool
  | 0, _ => true
  | f + 1, k => if (k : Int) < lim then (mkK (opAt l k).1 == tk) && chainL l es tk lim f (endAt es k).toNat else true

def partsB (l : List Op2) (es : List Int) (i : Nat) : Bool := chainL l es (tkK (opAt l i).1) (endAt es i) (l.length + 1) (i + 1)

def checkE (l : List Op2) (es : List Int) (vars : Int) : Except Int Bool :=
  match l.find? (fun o => opE o vars != 0) with
  | some o => .error (opE o vars)
  | none => if (List.range l.length).all (partsB l es) then .ok (mkK (opAt l 0).1) else .error 5

def checkL (l : List Op2) (vars : Int) : Except Int Bool :=
  if vars < 0 ∨ 6 < vars then .error 2
  else match endsL l with
    | .error c => .error c
    | .ok es => checkE l es vars

/-! The same, told of the term. -/
def Tm.kind : Tm → Int
  | .n0 k _ => k
  | .n1 k _ _ => k
  | .n2 k _ _ _ => k

def Tm.typed : Tm → Bool
  | .n0 _ _ => true
  | .n1 k _ a => (mkK a.kind == tkK k) && a.typed
  | .n2 k _ a b => (mkK a.kind == tkK k) && (mkK b.kind == tkK k) && a.typed && b.typed

theorem flat_head (t : Tm) : ∃ v r, t.flat = (t.kind, v) :: r := by cases t <;> exact ⟨_, _, rfl⟩

end Go.Proofs.YtbmimdnpchldlaaGreatDoor

namespace Go.Proofs.YtbmimdnpchldlaaGreatDoor
open Go.RowKit

def CheckPost (w : World) (r : Except Int Bool) (e : Ending) (w' : World) : Prop :=
  Ext w w' ∧ match r with
    | .ok b => e = .returned (.tuple #[.bool b, .int .i64 0])
    | .error c => e = .returned (.tuple #[.bool false, .int .i64 c])

theorem checkE_op {l : List Op2} {es : List Int} {vars : Int} {i : Nat} (hi : i < l.length) (h1 : ∀ j (h : j < l.length), j < i → opE l[j] vars = 0) (h2 : opE l[i] vars ≠ 0) : checkE l es vars = .error (opE l[i] vars) := by
  have : l.find? (fun o => opE o vars != 0) = some l[i] := by
    rw [List.find?_eq_some_iff_getElem]
    refine ⟨by simpa using h2, i, hi, rfl, fun j hj => by simpa using h1 j (by omega) hj⟩
  unfold checkE
  rw [this]

theorem checkE_ok {l : List Op2} {es : List Int} {vars : Int} (h1 : ∀ j (h : j < l.length), opE l[j] vars = 0) : checkE l es vars = if (List.range l.length).all (partsB l es) then .ok (mkK (opAt l 0).1) else .error 5 := by
  have : l.find? (fun o => opE o vars != 0) = none := by
    rw [List.find?_eq_none]
    intro o ho
    obtain ⟨j, hj, rfl⟩ := List.mem_iff_getElem.1 ho
    simpa using h1 j hj
  unfold checkE
  rw [this]

theorem checkE_parts {l : List Op2} {es : List Int} {vars : Int} {i : Nat} (hi : i < l.length) (h1 : ∀ j (h : j < l.length), opE l[j] vars = 0) (h2 : partsB l es i = false) : checkE l es vars = .error 5 := by
  rw [checkE_ok h1, if_neg]
  intro h
  have := List.all_eq_true.1 h i (by simpa using hi)
  rw [h2] at this
  cases this

theorem checkE_all {l : List Op2} {es : List Int} {vars : Int} (h1 : ∀ j (h : j < l.length), opE l[j] vars = 0) (h2 : ∀ j, j < l.length → partsB l es j = true) : checkE l es vars = .ok (mkK (opAt l 0).1) := by
  rw [checkE_ok h1, if_pos]
  rw [List.all_eq_true]
  intro j hj
  exact h2 j (by simpa using hj)

theorem opAt_get {l : List Op2} {k : Nat} (h : k < l.length) : opAt l k = l[k] := by simp [opAt, h]
theorem endAt_get {l : List Int} {k : Nat} (h : k < l.length) : endAt l k = l[k] := by simp [endAt, h]

set_option maxRecDepth 100000 in
set_option maxHeartbeats 1000000 in
theorem check_vars (v : Value) (vars : Int) (w : World) (h : vars < 0 ∨ 6 < vars) :
    Calls Tryz.prog 87 #[v, .int .i64 vars] w fun e w' => e = .returned (.tuple #[.bool false, .int .i64 2]) ∧ w = w' := by
  rcases h with h | h
  all_goals
    go_enter Tryz.func87, Tryz.ntmps87
    go_wp2
    go_ret2
    exact ⟨rfl, rfl⟩

set_option maxRecDepth 100000 in
set_option maxHeartbeats 1000000 in
theorem check_ends (v : Value) (l : List Op2) (vars c : Int) (w : World) (h : Ops w v l) (ht : Tab w) (h1 : 0 ≤ vars) (h2 : vars ≤ 6) (hc : endsL l = .error c) (hc0 : c ≠ 0) :
    Calls Tryz.prog 87 #[v, .int .i64 vars] w fun e w' => e = .returned (.tuple #[.bool false, .int .i64 c]) ∧ Ext w w' := by
  have H := ends_any v l w h ht
  rw [hc] at H
  have HH := Lib.hid H
  have hne : (c != 0) = true := by rw [bne_iff_ne]; exact hc0
  clear H hc hc0 h ht
  go_enter Tryz.func87, Tryz.ntmps87
  go_wp2_with fail
  refine HH.out.mono ?_
  rintro e w1 ⟨hE, rfl⟩
  go_wp2
  go_ret2
  exact ⟨rfl, hE⟩

set_option maxRecDepth 100000 in
set_option maxHeartbeats 4000000 in
theorem check_ok (v : Value) (l : List Op2) (vars : Int) (w : World) (es : List Int) (h : Ops w v l) (ht : Tab w) (h1 : 0 ≤ vars) (h2 : vars ≤ 6) (hen : endsL l = .ok es) :
    Calls Tryz.prog 87 #[v, .int .i64 vars] w (CheckPost w (checkE l es vars)) := by
  obtain ⟨t, hok, hfl, hsz, hes⟩ := ends_parse l es hen
  have hel : es.length = l.length := by rw [hes, Tm.ends_len, ← hfl, Tm.flat_len]
  have hnest : ∀ i (hi : i < es.length), (i : Int) < es[i] ∧ es[i] ≤ (l.length : Int) := by
    subst hes
    intro i hi
    have := (ends_nest t 0).1 i hi
    rw [← hfl, Tm.flat_len]
    omega
  have hpos : 0 < l.length := by rw [← hfl, Tm.flat_len]; exact t.size_pos
  have hl60 : l.length ≤ 60 := by rw [← hfl, Tm.flat_len]; exact hsz
  have H := ends_any v l w h ht
  rw [hen] at H
  have HH := Lib.hid H
  obtain ⟨a, cap, rfl, hr⟩ := h
  have HR := Lib.hid hr
  have HN := Lib.hid hnest
  have HL := Lib.hid hel
  clear H hen hok hfl hsz hes ht hr hnest hel
  go_enter Tryz.func87, Tryz.ntmps87
  go_wp2_with fail
  refine HH.out.mono ?_
  rintro e w1 ⟨hE1, v1, rfl, hown⟩
  obtain ⟨a1, c1, rfl, hr1⟩ := hown.row
  rcases hown.2 with ⟨_, hz0⟩ | ⟨g, cg, cur, hv, hgb, hg, hnc, hcm, hcs, htake⟩
  · have := HL.out; omega
  cases hv
  have hec : ∀ k (hk : k < es.length), w1.cell? ⟨g, k, none⟩ = some (.int .i64 es[k]) := by
    intro k hk
    have := hr1.cells k (.int .i64 es[k]) (by simp [hk])
    simpa using this
  obtain ⟨b, off, ha, hc⟩ := (HR.out.ext hE1).ops
  obtain rfl := ha hpos
  have HEC := Lib.hid hec
  have HOC := Lib.hid hc
  have HE1 := Lib.hid hE1
  have hw1 := hE1.size
  have HLes : Hid (es.length = l.length) := HL.out
  have hfin : ∀ r, Hid (checkE l es vars = r) → ∀ (x : Value) (w' : World), Ext w1 w' → (match r with | .ok b => x = .tuple #[.bool b, .int .i64 0] | .error c => x = .tuple #[.bool false, .int .i64 c]) → CheckPost w (checkE l es vars) (.returned x) w' := by
    intro r hr x w' hx hm
    rw [hr.out]
    refine ⟨HE1.out.trans hx, ?_⟩
    cases r <;> simp_all
  have HFIN := Lib.hid hfin
  generalize CheckPost w (checkE l es vars) = POST at *
  clear hown hr1 hg htake hcs hec hc ha hE1 hfin HH hgb
  go_wp2_with fail
  go_loopw [39] (fun i wr => ∃ ii : Nat, ii ≤ l.length ∧ i = .int .i64 ii ∧ (∀ j (h : j < l.length), j < ii → opE l[j] vars = 0) ∧ Ext w1 wr) (fun i _ => l.length - (intOf i).toNat)
  case atStart => exact ⟨0, by omega, rfl, fun j _ h => absurd h (by omega), Ext.refl _⟩
  case round =>
    obtain ⟨ii, hii, rfl, hops, hext⟩ := hrel
    by_cases hlt : ii < l.length
    · have hc1 := cell_later hext (HOC.out ii hlt).1
      have hc2 := cell_later hext (HOC.out ii hlt).2
      have hst : ∀ (h0 : opE l[ii] vars = 0) (j : Nat) (h : j < l.length), j < ii + 1 → opE l[j] vars = 0 := by
        intro h0 j h hj
        by_cases hj2 : j < ii
        · exact hops j h hj2
        · obtain rfl : j = ii := by omega
          exact h0
      have her : ∀ (h0 : opE l[ii] vars ≠ 0), checkE l es vars = .error (opE l[ii] vars) := fun h0 => checkE_op hlt hops h0
      have HST := Lib.hid hst
      have HER := Lib.hid her
      have HOPS := Lib.hid hops
      clear hst her hops
      generalize l[ii] = o at *
      go_wp2_with fail
      refine (op_fn o vars _ h1 h2).mono ?_
      rintro e w2 ⟨rfl, hE2⟩
      have hE2' : Ext w1 w2 := Ext.trans (hext.alloc hext.size _) hE2
      by_cases h0 : opE o vars = 0
      · have hs := HST.out h0
        rw [h0]
        have HS := Lib.hid hs
        clear hs h0
        go_wp2_with fail
        go_roundw
        case rel => exact ⟨ii + 1, by omega, by go_num, HS.out, hE2'⟩
        case measure => simp [intOf]; omega
      · have he := HER.out h0
        generalize opE o vars = q at *
        have HE := Lib.hid he
        have hq : (q != 0) = true := by rw [bne_iff_ne]; exact h0
        clear he h0
        go_wp2
        exact HFIN.out _ HE _ _ hE2' rfl
    · obtain rfl : ii = l.length := by omega
      have hops' : ∀ (j : Nat) (h : j < l.length), opE l[j] vars = 0 := fun j h => hops j h h
      have HOPS := Lib.hid hops'
      clear hops hops'
      go_wp2_with fail
      have HX := Lib.hid hext
      go_loopw [52] (fun i wr' => ∃ ii : Nat, ii ≤ l.length ∧ i = .int .i64 ii ∧ (∀ j, j < ii → partsB l es j = true) ∧ Ext w1 wr') (fun i _ => l.length - (intOf i).toNat)
      case atStart => exact ⟨0, by omega, rfl, fun j h => absurd h (by omega), hext⟩
      case round =>
        clear hext hii
        obtain ⟨ii, hii, rfl, hpar, hext⟩ := hrel
        by_cases hlt : ii < l.length
        · have hc1 := cell_later hext (HOC.out ii hlt).1
          have hc2 := cell_later hext (HOC.out ii hlt).2
          have hiie : ii < es.length := by have := HL.out; omega
          have hnx := HN.out ii hiie
          have hsz := hext.size
          have hpd : ∃ p : Bool × Int, p = (tkK l[ii].1, es[ii]) ∧ partsB l es ii = chainL l es p.1 p.2 (l.length + 1) (ii + 1) := ⟨_, rfl, by unfold partsB; rw [opAt_get hlt, endAt_get hiie]⟩
          have hst : ∀ (h0 : partsB l es ii = true) (j : Nat), j < ii + 1 → partsB l es j = true := by
            intro h0 j hj
            by_cases hj2 : j < ii
            · exact hpar j hj2
            · obtain rfl : j = ii := by omega
              exact h0
          have her : ∀ (h0 : partsB l es ii = false), checkE l es vars = .error 5 := fun h0 => checkE_parts hlt HOPS.out h0
          obtain ⟨⟨tk, lim⟩, hp, hch⟩ := hpd
          injection hp with hp1 hp2
          have HCH := Lib.hid hch
          have HST := Lib.hid hst
          have HER := Lib.hid her
          have hext2 : Ext w1 (wr.alloc (Obj.cells #[.int .i64 l[ii].1, .int .i64 l[ii].2] 75)) := hext.alloc hext.size _
          have hce := cell_later hext2 (HEC.out ii hiie)
          rw [← hp2] at hce hnx
          have HT := Lib.hid (truth_fn l[ii].1 (wr.alloc (Obj.cells #[.int .i64 l[ii].1, .int .i64 l[ii].2] 75)))
          rw [← hp1] at HT
          clear hst her hpar hch hp1 hp2
          generalize mkK l[ii].1 = b1 at *
          generalize okK l[ii].1 = b2 at *
          generalize l[ii] = o at *
          generalize hPB : partsB l es ii = PB at *
          clear hPB
          go_wp2_with fail
          generalize hw2 : wr.alloc (Obj.cells #[.int .i64 o.1, .int .i64 o.2] 75) = w2 at *
          clear hext
          refine HT.out.mono ?_
          rintro e _ ⟨rfl, rfl⟩
          have HO := Lib.hid hext2
          go_wp2_with fail
          clear HT hc1 hc2 hw2
          go_loopw [16] (fun x wr' => ∃ (kk f : Nat), x = .int .i64 kk ∧ kk ≤ l.length ∧ l.length + 2 ≤ f + kk ∧ Hid (PB = chainL l es tk lim f kk) ∧ wr' = w2) (fun x _ => l.length + 1 - (intOf x).toNat)
          case atStart => exact ⟨ii + 1, l.length + 1, by go_num, by omega, by omega, HCH, rfl⟩
          case round =>
            obtain ⟨kk, f, rfl, hkl, hfk, hch, rfl⟩ := hrel
            by_cases hkm : (kk : Int) < lim
            · have hkL : kk < l.length := by omega
              have hkE : kk < es.length := by have := HL.out; omega
              obtain ⟨f, rfl⟩ : ∃ f', f = f' + 1 := ⟨f - 1, by omega⟩
              have hk1 := cell_later hext2 (HOC.out kk hkL).1
              have hk2 := cell_later hext2 (HEC.out kk hkE)
              have hkn := HN.out kk hkE
              have hst2 : PB = ((mkK l[kk].1 == tk) && chainL l es tk lim f es[kk].toNat) := by
                rw [hch.out, chainL, if_pos hkm, opAt_get hkL, endAt_get hkE]
              have HST2 := Lib.hid hst2
              clear hst2 hch
              have HT := Lib.hid (truth_fn l[kk].1 wr)
              generalize mkK l[kk].1 = b3 at *
              generalize tkK l[kk].1 = b4 at *
              generalize okK l[kk].1 = b5 at *
              generalize l[kk].1 = o3 at *
              obtain ⟨m, hm⟩ : ∃ m : Nat, es[kk] = (m : Int) := ⟨es[kk].toNat, by omega⟩
              rw [hm] at hk2 hkn HST2
              clear hm
              go_wp2_with fail
              refine HT.out.mono ?_
              rintro e _ ⟨rfl, rfl⟩
              have hb : b3 = tk ∨ b3 = !tk := by cases b3 <;> cases tk <;> simp
              rcases hb with hb | hb
              · subst hb
                have hst3 : PB = chainL l es b3 lim f m := by have := HST2.out; simpa using this
                have HST3 := Lib.hid hst3
                clear hst3 HST2
                cases b3
                all_goals
                  go_wp2_with fail
                  go_roundw
                  case rel => exact ⟨m, f, rfl, by omega, by omega, HST3, trivial⟩
                  case measure => simp [intOf]; omega
              · have hpb : PB = false := by have := HST2.out; rw [this, hb]; cases tk <;> simp
                have hce2 := HER.out hpb
                have HCE := Lib.hid hce2
                clear hce2 HST2 HST HER
                subst hb
                cases tk
                all_goals
                  go_wp2
                  exact HFIN.out _ HCE _ _ HO.out rfl
            · have hpb : PB = true := by
                rw [hch.out]
                cases f with
                | zero => rfl
                | succ f => rw [chainL, if_neg hkm]
              have hs := HST.out hpb
              have HS := Lib.hid hs
              clear hs hch
              go_wp2_with fail
              go_roundw
              case rel => exact ⟨ii + 1, by omega, by go_num, HS.out, HO.out⟩
              case measure => simp [intOf]; omega
        · obtain rfl : ii = l.length := by omega
          have hall := checkE_all HOPS.out hpar
          rw [opAt_get hpos] at hall
          have HA := Lib.hid hall
          have hc1 := cell_later hext (HOC.out 0 hpos).1
          simp only [Nat.zero_mul, Nat.add_zero] at hc1
          have HT := Lib.hid (truth_fn l[0].1 wr)
          clear hall hpar
          generalize mkK l[0].1 = b3 at *
          generalize tkK l[0].1 = b4 at *
          generalize okK l[0].1 = b5 at *
          generalize l[0].1 = o3 at *
          go_wp2_with fail
          refine HT.out.mono ?_
          rintro e _ ⟨rfl, rfl⟩
          go_wp2
          exact HFIN.out _ HA _ _ hext rfl

end Go.Proofs.YtbmimdnpchldlaaGreatDoor
