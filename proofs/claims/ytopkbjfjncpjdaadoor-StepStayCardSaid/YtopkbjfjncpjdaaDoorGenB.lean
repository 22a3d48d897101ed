/- GenB: what is needed of it. No condition. -/
import Derived.Test.YtopkbjfjncpjdaaDoorGenA
namespace Go.Proofs.YtopkbjfjncpjdaaDoor
open Go.RowKit
def RawI (raw : List Op2) : Prop := ∀ p, I64 (rawAt raw p).1 ∧ I64 (rawAt raw p).2
def Made (w : World) (G B : Nat) (ar : Option Addr) (cr : Nat) (raw : List Op2) (vars props tempo : Int) (out : List Op2) (r : Tm × Nat) (e : Ending) (w' : World) : Prop :=
  e = .returned (.tuple #[]) ∧ Gr w' G B ar cr raw r.2 vars props tempo (out ++ r.1.flat) ∧ Below B w w'
theorem Made.mk {w w' : World} {G B : Nat} {ar : Option Addr} {cr : Nat} {raw : List Op2} {vars props tempo : Int} {out out' : List Op2} {r : Tm × Nat} {e : Ending} {p : Nat}
    (he : e = .returned (.tuple #[])) (hg : Gr w' G B ar cr raw p vars props tempo out') (hb : Below B w w') (hp : p = r.2) (ho : out' = out ++ r.1.flat) : Made w G B ar cr raw vars props tempo out r e w' := by
  subst hp; subst ho; exact ⟨he, hg, hb⟩
set_option maxRecDepth 100000 in
set_option maxHeartbeats 2000000 in
theorem number_zero (w : World) (G B : Nat) (ar : Option Addr) (cr : Nat) (raw : List Op2) (p : Nat) (vars props tempo : Int) (out : List Op2) (h : Gr w G B ar cr raw p vars props tempo out)
    (hraw : RawI raw) (hp : p ≤ 1000) (ho : out.length ≤ 1000) (hv2 : vars ≤ 1000) :
    Calls Tryd.prog 19 #[.pointer (some ⟨G, 0, none⟩), .int .i64 0] w (Made w G B ar cr raw vars props tempo out (numT raw vars 0 p)) := by
  have TK := Lib.hid (take_any w G B ar cr raw p vars props tempo out h (by omega))
  have hBw : B ≤ w.heap.size := by have := World.block_lt_of_cell? _ _ h.c0; have := h.new; simp at *; omega
  have hr := hraw p
  have hfin : numT raw vars 0 p = (numLeaf (rawAt raw p) vars (pk (rawAt raw p).1 2), p + 1) := rfl
  rw [hfin]
  generalize rawAt raw p = r at *
  obtain ⟨⟨r1, r2⟩, r3, r4⟩ := hr
  have hp2 := pk_bd r.1 2 (by omega)
  have hp9 := pk_bd r.2 9 (by omega)
  obtain ⟨x1, x2⟩ := hp2
  obtain ⟨x3, x4⟩ := hp9
  have HF := Lib.hid hfin
  have Hp5 := Lib.hid (pk_bd r.1 5 (by omega))
  clear h hraw hfin
  go_enter Tryd.func19, Tryd.ntmps19
  go_wp2_with fail
  refine TK.out.mono ?_
  rintro e w1 ⟨rfl, g1, b1⟩
  have hg1 := g1.ext ((Ext.refl w1).alloc (Nat.le_refl _) (Obj.cells #[.int .i64 r.1, .int .i64 r.2] 71))
  have hb1 : Below B w (w1.alloc (Obj.cells #[.int .i64 r.1, .int .i64 r.2] 71)) := b1.alloc (by have := b1.size; omega) _
  have q0 : (w1.alloc (Obj.cells #[.int .i64 r.1, .int .i64 r.2] 71)).cell? ⟨w1.heap.size, 0, none⟩ = some (.int .i64 r.1) := by simp [go_sem]
  have q1 : (w1.alloc (Obj.cells #[.int .i64 r.1, .int .i64 r.2] 71)).cell? ⟨w1.heap.size, 1, none⟩ = some (.int .i64 r.2) := by simp [go_sem]
  have c1 := hg1.c1
  have c2 := hg1.c2
  clear TK g1 b1
  go_wp2_with fail
  refine (picked_any r.1 5 _ r1 r2 (by omega) (by omega)).mono ?_
  rintro e w' ⟨rfl, rfl⟩
  go_wp2_with fail
  refine (picked_any r.1 2 _ r1 r2 (by omega) (by omega)).mono ?_
  rintro e w' ⟨rfl, rfl⟩
  go_wp2_with fail
  · have hk : pk r.1 2 = 1 := by assumption
    have hv : 0 < vars := by assumption
    have hpv := pk_bd r.2 vars hv
    have HS := Lib.hid (fun wx : World => still_of (picked_any r.2 vars wx r3 r4 hv (by omega)))
    have Hk := Lib.hid hk
    clear hk
    refine region_tail 8 (by kernel_rfl) (by kernel_rfl) ?_
    generalize (w1.alloc (Obj.cells #[.int .i64 r.1, .int .i64 r.2] 71)) = W at *
    have hg1' := hg1.ext (Below.drew (Ext.refl W))
    have hb1' := hb1.drew
    have q0' : W.drew.cell? ⟨w1.heap.size, 1, none⟩ = some (.int .i64 r.2) := q1
    have c2' : W.drew.cell? ⟨G, 2, none⟩ = some (.int .i64 vars) := c2
    generalize W.drew = Wd at *
    clear hg1 hb1 q0 q1 c1 c2
    simp only [List.take_succ_cons, List.take_zero, List.drop_succ_cons, List.drop_zero]
    iterate 7 still_step
    still_call (HS.out Wd)
    refine wpStill_nil ?_
    go_wp2_with fail
    refine (put_op _ G B ar cr raw (p + 1) vars props tempo out _ _ hg1' (by omega)).mono ?_
    rintro e w2 ⟨rfl, hg2, hb2⟩
    go_wp2
    go_end0
    exact Made.mk rfl hg2 (hb1'.trans hb2) rfl (by simp [numLeaf, Hk.out, hv, Tm.flat])
  all_goals
    refine (picked_any r.2 9 _ r3 r4 (by omega) (by omega)).mono ?_
    rintro e w' ⟨rfl, rfl⟩
    go_wp2_with fail
    refine (put_op _ G B ar cr raw (p + 1) vars props tempo out _ _ hg1 (by omega)).mono ?_
    rintro e w2 ⟨rfl, hg2, hb2⟩
    have hcond : ¬ (pk r.1 2 = 1 ∧ 0 < vars) := by omega
    have Hc := Lib.hid hcond
    clear hcond
    go_wp2
    go_end0
    exact Made.mk rfl hg2 (hb1.trans hb2) rfl (by simp [numLeaf, Hc.out, Tm.flat])
set_option maxRecDepth 100000 in
set_option maxHeartbeats 2000000 in
theorem number_succ (w : World) (G B : Nat) (ar : Option Addr) (cr : Nat) (raw : List Op2) (p : Nat) (vars props tempo : Int) (out : List Op2) (h : Gr w G B ar cr raw p vars props tempo out)
    (hraw : RawI raw) (b : Nat) (hp : p + 200 ≤ b) (ho : out.length + 200 ≤ b) (hv2 : vars ≤ 1000) (d : Nat) (_hd : d ≤ 10) (hb8 : b ≤ 1000) (hs : ∀ q, (numT raw vars d q).1.size ≤ 100)
    (ih : ∀ (w : World) (p : Nat) (out : List Op2), Gr w G B ar cr raw p vars props tempo out → p ≤ b → out.length ≤ b → Calls Tryd.prog 19 #[.pointer (some ⟨G, 0, none⟩), .int .i64 d] w (Made w G B ar cr raw vars props tempo out (numT raw vars d p))) :
    Calls Tryd.prog 19 #[.pointer (some ⟨G, 0, none⟩), .int .i64 ((d + 1 : Nat) : Int)] w (Made w G B ar cr raw vars props tempo out (numT raw vars (d + 1) p)) := by
  have TK := Lib.hid (take_any w G B ar cr raw p vars props tempo out h (by omega))
  have hBw : B ≤ w.heap.size := by have := World.block_lt_of_cell? _ _ h.c0; have := h.new; simp at *; omega
  have hr := hraw p
  have hfin : numT raw vars (d + 1) p = if numKind (rawAt raw p) p < 2 then (numLeaf (rawAt raw p) vars (numKind (rawAt raw p) p), p + 1)
    else (.n2 (numKind (rawAt raw p) p + 1) 0 (numT raw vars d (p + 1)).1 (numT raw vars d (numT raw vars d (p + 1)).2).1, (numT raw vars d (numT raw vars d (p + 1)).2).2) := rfl
  rw [hfin]
  have hkb := numKind_bd (rawAt raw p) p
  have hk0 : numKind (rawAt raw p) p = if 14 < p + 1 then pk (rawAt raw p).1 2 else pk (rawAt raw p).1 5 := rfl
  have hz1 := numT_size raw vars d (p + 1)
  have hz2 := numT_size raw vars d (numT raw vars d (p + 1)).2
  have hz3 := hs (p + 1)
  have hz4 := hs (numT raw vars d (p + 1)).2
  have hz5 := Tm.flat_len (numT raw vars d (p + 1)).1
  have ih1 := fun w' out' g h1 h2 => ih w' (p + 1) out' g h1 h2
  have ih2 := fun w' out' g h1 h2 => ih w' (numT raw vars d (p + 1)).2 out' g h1 h2
  generalize rawAt raw p = r at *
  generalize numKind r p = kk at *
  obtain ⟨z1, z2⟩ := hkb
  generalize numT raw vars d (p + 1) = t1 at *
  generalize numT raw vars d t1.2 = t2 at *
  generalize hres : (if kk < 2 then (numLeaf r vars kk, p + 1) else (Tm.n2 (kk + 1) 0 t1.1 t2.1, t2.2)) = res at *
  have HRES := Lib.hid hres
  clear hres
  obtain ⟨tm1, p1⟩ := t1
  obtain ⟨tm2, p2⟩ := t2
  simp only at hz1 hz2 hz3 hz4 hz5 ih1 ih2
  have IH1 := Lib.hid ih1
  have IH2 := Lib.hid ih2
  have HZ1 := Lib.hid hz1
  have HZ2 := Lib.hid hz2
  have HZ5 := Lib.hid hz5
  have HZ := Lib.hid hs
  have HI := Lib.hid ih
  clear ih1 ih2 hz1 hz2 hz5 ih hs
  obtain ⟨⟨r1, r2⟩, r3, r4⟩ := hr
  have hp2 := pk_bd r.1 2 (by omega)
  have hp5 := pk_bd r.1 5 (by omega)
  have hp9 := pk_bd r.2 9 (by omega)
  obtain ⟨x1, x2⟩ := hp2
  obtain ⟨x3, x4⟩ := hp9
  have HF := Lib.hid hfin
  have Hp5 := Lib.hid hp5
  have HK := Lib.hid hk0
  clear hk0 hp5
  clear h hraw hfin
  by_cases hc : 14 < p + 1
  · have hkk : kk = pk r.1 2 := by rw [HK.out, if_pos hc]
    have HKK := Lib.hid hkk
    have HKK2 : Hid (kk < 2) := by show kk < 2; omega
    have hd0 : (0 : Int) ≤ d := by omega
    clear hkk
    go_enter Tryd.func19, Tryd.ntmps19
    go_wp2_with fail
    refine TK.out.mono ?_
    rintro e w1 ⟨rfl, g1, b1⟩
    have hg1 := g1.ext ((Ext.refl w1).alloc (Nat.le_refl _) (Obj.cells #[.int .i64 r.1, .int .i64 r.2] 71))
    have hb1 : Below B w (w1.alloc (Obj.cells #[.int .i64 r.1, .int .i64 r.2] 71)) := b1.alloc (by have := b1.size; omega) _
    have q0 : (w1.alloc (Obj.cells #[.int .i64 r.1, .int .i64 r.2] 71)).cell? ⟨w1.heap.size, 0, none⟩ = some (.int .i64 r.1) := by simp [go_sem]
    have q1 : (w1.alloc (Obj.cells #[.int .i64 r.1, .int .i64 r.2] 71)).cell? ⟨w1.heap.size, 1, none⟩ = some (.int .i64 r.2) := by simp [go_sem]
    have c1 := hg1.c1
    have c2 := hg1.c2
    clear TK g1 b1
    go_wp2_with fail
    refine (picked_any r.1 5 _ r1 r2 (by omega) (by omega)).mono ?_
    rintro e w' ⟨rfl, rfl⟩
    go_wp2_with fail
    refine (picked_any r.1 2 _ r1 r2 (by omega) (by omega)).mono ?_
    rintro e w' ⟨rfl, rfl⟩
    go_wp2_with fail
    · have hk : pk r.1 2 = 1 := by assumption
      have hv : 0 < vars := by assumption
      have hpv := pk_bd r.2 vars hv
      have HS := Lib.hid (fun wx : World => still_of (picked_any r.2 vars wx r3 r4 hv (by omega)))
      have Hk := Lib.hid hk
      clear hk
      refine region_tail 8 (by kernel_rfl) (by kernel_rfl) ?_
      generalize (w1.alloc (Obj.cells #[.int .i64 r.1, .int .i64 r.2] 71)) = W at *
      have hg1' := hg1.ext (Below.drew (Ext.refl W))
      have hb1' := hb1.drew
      have q0' : W.drew.cell? ⟨w1.heap.size, 1, none⟩ = some (.int .i64 r.2) := q1
      have c2' : W.drew.cell? ⟨G, 2, none⟩ = some (.int .i64 vars) := c2
      generalize W.drew = Wd at *
      clear hg1 hb1 q0 q1 c1 c2
      simp only [List.take_succ_cons, List.take_zero, List.drop_succ_cons, List.drop_zero]
      iterate 7 still_step
      still_call (HS.out Wd)
      refine wpStill_nil ?_
      go_wp2_with fail
      refine (put_op _ G B ar cr raw (p + 1) vars props tempo out _ _ hg1' (by omega)).mono ?_
      rintro e w2 ⟨rfl, hg2, hb2⟩
      go_wp2
      go_end0
      exact Made.mk rfl hg2 (hb1'.trans hb2) (by rw [← HRES.out, if_pos HKK2.out]) (by rw [← HRES.out, if_pos HKK2.out, HKK.out]; simp [numLeaf, Hk.out, hv, Tm.flat])
    all_goals
      refine (picked_any r.2 9 _ r3 r4 (by omega) (by omega)).mono ?_
      rintro e w' ⟨rfl, rfl⟩
      go_wp2_with fail
      refine (put_op _ G B ar cr raw (p + 1) vars props tempo out _ _ hg1 (by omega)).mono ?_
      rintro e w2 ⟨rfl, hg2, hb2⟩
      have hcond : ¬ (pk r.1 2 = 1 ∧ 0 < vars) := by omega
      have Hc := Lib.hid hcond
      clear hcond
      go_wp2
      go_end0
      exact Made.mk rfl hg2 (hb1.trans hb2) (by rw [← HRES.out, if_pos HKK2.out]) (by rw [← HRES.out, if_pos HKK2.out, HKK.out]; simp [numLeaf, Hc.out, Tm.flat])
  · have hkk : kk = pk r.1 5 := by rw [HK.out, if_neg hc]
    have HKK := Lib.hid hkk
    have hd0 : (0 : Int) ≤ d := by omega
    have hp5a := Hp5.out.1
    have e0 : ((d : Int) + 1 == 0) = false := by rw [beq_eq_false_iff_ne]; omega
    have hp5b := Hp5.out.2
    clear hkk
    go_enter Tryd.func19, Tryd.ntmps19
    go_wp2_with fail
    refine TK.out.mono ?_
    rintro e w1 ⟨rfl, g1, b1⟩
    have hg1 := g1.ext ((Ext.refl w1).alloc (Nat.le_refl _) (Obj.cells #[.int .i64 r.1, .int .i64 r.2] 71))
    have hb1 : Below B w (w1.alloc (Obj.cells #[.int .i64 r.1, .int .i64 r.2] 71)) := b1.alloc (by have := b1.size; omega) _
    have q0 : (w1.alloc (Obj.cells #[.int .i64 r.1, .int .i64 r.2] 71)).cell? ⟨w1.heap.size, 0, none⟩ = some (.int .i64 r.1) := by simp [go_sem]
    have q1 : (w1.alloc (Obj.cells #[.int .i64 r.1, .int .i64 r.2] 71)).cell? ⟨w1.heap.size, 1, none⟩ = some (.int .i64 r.2) := by simp [go_sem]
    have c1 := hg1.c1
    have c2 := hg1.c2
    clear TK g1 b1
    go_wp2_with fail
    refine (picked_any r.1 5 _ r1 r2 (by omega) (by omega)).mono ?_
    rintro e w' ⟨rfl, rfl⟩
    go_wp2_with fail
    · have hk : pk r.1 5 = 1 := by assumption
      have hv : 0 < vars := by assumption
      have hpv := pk_bd r.2 vars hv
      have HS := Lib.hid (fun wx : World => still_of (picked_any r.2 vars wx r3 r4 hv (by omega)))
      have Hk := Lib.hid hk
      clear hk
      refine region_tail 8 (by kernel_rfl) (by kernel_rfl) ?_
      generalize (w1.alloc (Obj.cells #[.int .i64 r.1, .int .i64 r.2] 71)) = W at *
      have hg1' := hg1.ext (Below.drew (Ext.refl W))
      have hb1' := hb1.drew
      have q0' : W.drew.cell? ⟨w1.heap.size, 1, none⟩ = some (.int .i64 r.2) := q1
      have c2' : W.drew.cell? ⟨G, 2, none⟩ = some (.int .i64 vars) := c2
      generalize W.drew = Wd at *
      clear hg1 hb1 q0 q1 c1 c2
      simp only [List.take_succ_cons, List.take_zero, List.drop_succ_cons, List.drop_zero]
      iterate 7 still_step
      still_call (HS.out Wd)
      refine wpStill_nil ?_
      go_wp2_with fail
      refine (put_op _ G B ar cr raw (p + 1) vars props tempo out _ _ hg1' (by omega)).mono ?_
      rintro e w2 ⟨rfl, hg2, hb2⟩
      go_wp2
      go_end0
      have HKK2 : kk < 2 := by rw [HKK.out, Hk.out]; omega
      exact Made.mk rfl hg2 (hb1'.trans hb2) (by rw [← HRES.out, if_pos HKK2]) (by rw [← HRES.out, if_pos HKK2, HKK.out]; simp [numLeaf, Hk.out, hv, Tm.flat])
    · refine (picked_any r.2 9 _ r3 r4 (by omega) (by omega)).mono ?_
      rintro e w' ⟨rfl, rfl⟩
      go_wp2_with fail
      refine (put_op _ G B ar cr raw (p + 1) vars props tempo out _ _ hg1 (by omega)).mono ?_
      rintro e w2 ⟨rfl, hg2, hb2⟩
      have HKK2 : Hid (kk < 2) := by show kk < 2; rw [HKK.out]; omega
      have hcond : ¬ (pk r.1 5 = 1 ∧ 0 < vars) := by omega
      have Hc := Lib.hid hcond
      clear hcond
      go_wp2
      go_end0
      exact Made.mk rfl hg2 (hb1.trans hb2) (by rw [← HRES.out, if_pos HKK2.out]) (by rw [← HRES.out, if_pos HKK2.out, HKK.out]; simp [numLeaf, Hc.out, Tm.flat])
    · refine (picked_any r.2 9 _ r3 r4 (by omega) (by omega)).mono ?_
      rintro e w' ⟨rfl, rfl⟩
      go_wp2_with fail
      refine (put_op _ G B ar cr raw (p + 1) vars props tempo out _ _ hg1 (by omega)).mono ?_
      rintro e w2 ⟨rfl, hg2, hb2⟩
      have HKK2 : Hid (kk < 2) := by show kk < 2; rw [HKK.out]; omega
      have hcond : ¬ (pk r.1 5 = 1 ∧ 0 < vars) := by omega
      have Hc := Lib.hid hcond
      clear hcond
      go_wp2
      go_end0
      exact Made.mk rfl hg2 (hb1.trans hb2) (by rw [← HRES.out, if_pos HKK2.out]) (by rw [← HRES.out, if_pos HKK2.out, HKK.out]; simp [numLeaf, Hc.out, Tm.flat])
    · have HKK3 : Hid (2 ≤ kk) := by show 2 ≤ kk; rw [HKK.out]; omega
      refine (put_op _ G B ar cr raw (p + 1) vars props tempo out _ _ hg1 (by omega)).mono ?_
      rintro e w2 ⟨rfl, hg2, hb2⟩
      go_wp2_with fail
      refine (IH1.out w2 _ hg2 (by omega) (by simp; omega)).mono ?_
      rintro e w3 ⟨rfl, hg3, hb3⟩
      go_wp2_with fail
      refine (IH2.out w3 _ hg3 (by have := HZ1.out; omega) (by have := HZ5.out; simp at this ⊢; omega)).mono ?_
      rintro e w4 ⟨rfl, hg4, hb4⟩
      go_wp2
      go_end0
      exact Made.mk rfl hg4 (((hb1.trans hb2).trans hb3).trans hb4) (by rw [← HRES.out, if_neg (by have := HKK3.out; omega)]) (by rw [← HRES.out, if_neg (by have := HKK3.out; omega), HKK.out]; simp [Tm.flat]; omega)
end Go.Proofs.YtopkbjfjncpjdaaDoor
