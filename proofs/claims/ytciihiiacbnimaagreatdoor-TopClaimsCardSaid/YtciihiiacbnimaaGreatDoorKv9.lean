/- Several texts in one: Gen; GenA; FormP; Form; FormB; FormC; RawF; GenB. No condition. -/
import Derived.Test.YtciihiiacbnimaaGreatDoorKv2
import Derived.Test.YtciihiiacbnimaaGreatDoorKv1
namespace Go.Proofs.YtciihiiacbnimaaGreatDoor
def rawAt (raw : List Op2) (p : Nat) : Op2 := raw.getD p (0, 0)
def numLeaf (r : Op2) (vars k : Int) : Tm := if k = 1 ∧ 0 < vars then .n0 2 (pk r.2 vars) else .n0 1 (pk r.2 9 - 4)
def numKind (r : Op2) (p : Nat) : Int := if 14 < p + 1 then pk r.1 2 else pk r.1 5
def numT (raw : List Op2) (vars : Int) : Nat → Nat → Tm × Nat
  | 0, p => (numLeaf (rawAt raw p) vars (pk (rawAt raw p).1 2), p + 1)
  | d + 1, p =>
    if numKind (rawAt raw p) p < 2 then (numLeaf (rawAt raw p) vars (numKind (rawAt raw p) p), p + 1)
    else (.n2 (numKind (rawAt raw p) p + 1) 0 (numT raw vars d (p + 1)).1 (numT raw vars d (numT raw vars d (p + 1)).2).1, (numT raw vars d (numT raw vars d (p + 1)).2).2)
def truKind (r : Op2) (d p : Nat) : Int := if d = 0 ∨ 10 < p + 1 then pk r.1 3 else pk r.1 9
def cmpT (raw : List Op2) (vars k : Int) (p : Nat) : Tm × Nat :=
  (.n2 (6 + k % 2) 0 (numT raw vars 1 (p + 1)).1 (numT raw vars 1 (numT raw vars 1 (p + 1)).2).1, (numT raw vars 1 (numT raw vars 1 (p + 1)).2).2)
def truT (raw : List Op2) (vars : Int) : Nat → Nat → Tm × Nat
  | 0, p =>
    if truKind (rawAt raw p) 0 p = 0 then (.n0 (11 + pk (rawAt raw p).2 2) 0, p + 1)
    else cmpT raw vars (truKind (rawAt raw p) 0 p) p
  | d + 1, p =>
    if truKind (rawAt raw p) (d + 1) p = 0 then (.n0 (11 + pk (rawAt raw p).2 2) 0, p + 1)
    else if truKind (rawAt raw p) (d + 1) p < 5 then cmpT raw vars (truKind (rawAt raw p) (d + 1) p) p
    else if truKind (rawAt raw p) (d + 1) p = 5 then (.n1 10 0 (truT raw vars d (p + 1)).1, (truT raw vars d (p + 1)).2)
    else (.n2 (8 + truKind (rawAt raw p) (d + 1) p % 2) 0 (truT raw vars d (p + 1)).1 (truT raw vars d (truT raw vars d (p + 1)).2).1, (truT raw vars d (truT raw vars d (p + 1)).2).2)
theorem numKind_bd (r : Op2) (p : Nat) : 0 ≤ numKind r p ∧ numKind r p < 5 := by
  unfold numKind
  have h1 := pk_bd r.1 2 (by omega)
  have h2 := pk_bd r.1 5 (by omega)
  split <;> omega
theorem numLeaf_size (r : Op2) (vars k : Int) : (numLeaf r vars k).size = 1 := by unfold numLeaf; split <;> rfl
theorem numT_size (raw : List Op2) (vars : Int) : ∀ d p, (numT raw vars d p).2 = p + (numT raw vars d p).1.size := by
  intro d
  induction d with
  | zero => intro p; simp [numT, numLeaf_size]
  | succ d ih =>
    intro p
    unfold numT
    split
    · simp [numLeaf_size]
    · have h1 := ih (p + 1)
      have h2 := ih (numT raw vars d (p + 1)).2
      simp only [Tm.size]
      omega
theorem numT_one (raw : List Op2) (vars : Int) (p : Nat) : ((numT raw vars 1 p).1.size = 1 ∨ (numT raw vars 1 p).1.size = 3) ∧ (14 ≤ p → (numT raw vars 1 p).1.size = 1) := by
  unfold numT
  split
  · simp [numLeaf_size]
  · refine ⟨.inr ?_, fun h => ?_⟩
    · simp [Tm.size, numT, numLeaf_size]
    · rename_i h2
      exfalso
      apply h2
      unfold numKind
      rw [if_pos (by omega)]
      exact (pk_bd _ 2 (by omega)).2
theorem numT_two (raw : List Op2) (vars : Int) (p : Nat) : (numT raw vars 2 p).1.size ≤ 7 := by
  rw [numT]
  split
  · simp [numLeaf_size]
  · have h1 := (numT_one raw vars (p + 1)).1
    have h2 := (numT_one raw vars (numT raw vars 1 (p + 1)).2).1
    simp only [Tm.size]
    omega
theorem numLeaf_ok (r : Op2) (vars k : Int) : (numLeaf r vars k).ok := by
  unfold numLeaf
  split <;> simp [Tm.ok, partsOf]
theorem numT_ok (raw : List Op2) (vars : Int) : ∀ d p, (numT raw vars d p).1.ok := by
  intro d
  induction d with
  | zero => intro p; exact numLeaf_ok _ _ _
  | succ d ih =>
    intro p
    unfold numT
    split
    · exact numLeaf_ok _ _ _
    · rename_i h
      have hb := numKind_bd (rawAt raw p) p
      refine ⟨by omega, by omega, ?_, ih _, ih _⟩
      unfold partsOf
      rw [if_pos (by omega)]
theorem truKind_bd (r : Op2) (d p : Nat) : 0 ≤ truKind r d p ∧ truKind r d p < 9 ∧ (d = 0 ∨ 10 ≤ p → truKind r d p < 3) := by
  unfold truKind
  have h1 := pk_bd r.1 3 (by omega)
  have h2 := pk_bd r.1 9 (by omega)
  split <;> omega
theorem cmpT_size (raw : List Op2) (vars k : Int) (p : Nat) : (cmpT raw vars k p).2 = p + (cmpT raw vars k p).1.size := by
  have h1 := numT_size raw vars 1 (p + 1)
  have h2 := numT_size raw vars 1 (numT raw vars 1 (p + 1)).2
  simp only [cmpT, Tm.size]
  omega
theorem truT_size (raw : List Op2) (vars : Int) : ∀ d p, (truT raw vars d p).2 = p + (truT raw vars d p).1.size := by
  intro d
  induction d with
  | zero => intro p; unfold truT; split; (· simp [Tm.size]); · exact cmpT_size _ _ _ _
  | succ d ih =>
    intro p
    unfold truT
    split
    · simp [Tm.size]
    · split
      · exact cmpT_size _ _ _ _
      · have h1 := ih (p + 1)
        have h2 := ih (truT raw vars d (p + 1)).2
        split <;> simp only [Tm.size] <;> omega
theorem cmpT_ok (raw : List Op2) (vars k : Int) (p : Nat) : (cmpT raw vars k p).1.ok := by
  refine ⟨by omega, by omega, ?_, numT_ok _ _ _ _, numT_ok _ _ _ _⟩
  unfold partsOf
  rw [if_pos (by omega)]
theorem truT_ok (raw : List Op2) (vars : Int) : ∀ d p, (truT raw vars d p).1.ok := by
  have leaf : ∀ p, (Tm.n0 (11 + pk (rawAt raw p).2 2) 0).ok := by
    intro p
    have := pk_bd (rawAt raw p).2 2 (by omega)
    refine ⟨by omega, by omega, ?_⟩
    unfold partsOf
    rw [if_neg (by omega), if_neg (by omega)]
  intro d
  induction d with
  | zero => intro p; unfold truT; split; (· exact leaf p); · exact cmpT_ok _ _ _ _
  | succ d ih =>
    intro p
    unfold truT
    split
    · exact leaf p
    · split
      · exact cmpT_ok _ _ _ _
      · split
        · exact ⟨by omega, by omega, by unfold partsOf; simp, ih _⟩
        · refine ⟨by omega, by omega, ?_, ih _, ih _⟩
          unfold partsOf
          rw [if_pos (by omega)]
theorem cmpT_end (raw : List Op2) (vars k : Int) (p : Nat) : (cmpT raw vars k p).2 ≤ p + 7 ∧ (10 ≤ p → (cmpT raw vars k p).2 ≤ p + 5) ∧ (13 ≤ p → (cmpT raw vars k p).2 ≤ p + 3) := by
  have h1 := numT_size raw vars 1 (p + 1)
  have h2 := numT_size raw vars 1 (numT raw vars 1 (p + 1)).2
  obtain ⟨h3, h4⟩ := numT_one raw vars (p + 1)
  obtain ⟨h5, h6⟩ := numT_one raw vars (numT raw vars 1 (p + 1)).2
  simp only [cmpT]
  omega
theorem truT_end (raw : List Op2) (vars : Int) : ∀ d p, (10 ≤ p → (truT raw vars d p).2 ≤ 17 ∨ (truT raw vars d p).2 ≤ p + 3) ∧ (p < 10 → (truT raw vars d p).2 ≤ 17 + 3 * d) := by
  intro d
  induction d with
  | zero =>
    intro p
    unfold truT
    have := cmpT_end raw vars (truKind (rawAt raw p) 0 p) p
    split
    · simp only; omega
    · omega
  | succ d ih =>
    intro p
    have hk := truKind_bd (rawAt raw p) (d + 1) p
    have hc := cmpT_end raw vars (truKind (rawAt raw p) (d + 1) p) p
    have h1 := ih (p + 1)
    have h2 := ih (truT raw vars d (p + 1)).2
    unfold truT
    split
    · simp only; omega
    · split
      · omega
      · split
        · simp only; omega
        · simp only; omega
theorem truT_small (raw : List Op2) (vars : Int) : (truT raw vars 3 0).1.size ≤ 26 := by
  have h1 := (truT_end raw vars 3 0).2 (by omega)
  have h2 := truT_size raw vars 3 0
  omega
end Go.Proofs.YtciihiiacbnimaaGreatDoor

namespace Go.Proofs.YtciihiiacbnimaaGreatDoor
open Go.RowKit
theorem Tryz.slOps : SlTy Tryz.prog 33 102 (.agg #[.int .i64 0, .int .i64 0]) 2 16 := SlTy.mk' Tryz.underlying33 (by kernel_rfl) (by rfl) (by omega)
structure Gr (w : World) (G B : Nat) (ar : Option Addr) (cr : Nat) (raw : List Op2) (p : Nat) (vars props tempo : Int) (out : List Op2) : Prop where
  c0 : w.cell? ⟨G, 0, none⟩ = some (.slice ar raw.length cr)
  c1 : w.cell? ⟨G, 1, none⟩ = some (.int .i64 p)
  c2 : w.cell? ⟨G, 2, none⟩ = some (.int .i64 vars)
  c3 : w.cell? ⟨G, 3, none⟩ = some (.int .i64 props)
  c4 : w.cell? ⟨G, 4, none⟩ = some (.int .i64 tempo)
  c5 : ∃ ao co, w.cell? ⟨G, 5, none⟩ = some (.slice ao out.length co) ∧ w.ownsRow B 102 2 (.slice ao out.length co) out.length (out.flatMap opc) ∧ (Value.slice ao out.length co).ownBlock ≠ some G
  fz : ∀ i, w.frozen? ⟨G, i, none⟩ = false
  row : Row w 2 ar raw.length cr (raw.flatMap opc)
  old : ∀ q, ar = some q → 0 < raw.length → q.block < B
  new : B ≤ G
theorem cells_of {w w' : World} {k i : Nat} {v : Value} (h : w.cell? ⟨k, i, none⟩ = some v) (hb : w'.heap[k]? = w.heap[k]?) : w'.cell? ⟨k, i, none⟩ = some v :=
  (World.cell?_of_block (w := w) (a := ⟨k, i, none⟩) hb).trans h
theorem Gr.ext {w w' : World} {G B : Nat} {ar : Option Addr} {cr : Nat} {raw : List Op2} {p : Nat} {vars props tempo : Int} {out : List Op2} (h : Gr w G B ar cr raw p vars props tempo out) (hb : Ext w w') : Gr w' G B ar cr raw p vars props tempo out := by
  have hG := World.block_lt_of_cell? _ _ h.c0
  have hk := hb.block G hG
  obtain ⟨ao, co, h5, h6, h7⟩ := h.c5
  exact ⟨cells_of h.c0 hk, cells_of h.c1 hk, cells_of h.c2 hk, cells_of h.c3 hk, cells_of h.c4 hk, ⟨ao, co, cells_of h5 hk, own_ext h6 hb, h7⟩,
    fun i => (World.frozen?_of_block (w := w) hk).trans (h.fz i), h.row.ext hb, h.old, h.new⟩
theorem cell_set {w : World} {k i : Nat} {v u : Value} (h : w.cell? ⟨k, i, none⟩ = some u) : (w.setCell ⟨k, i, none⟩ v).cell? ⟨k, i, none⟩ = some v := World.cell?_setCell_same _ _ _ h
theorem cell_set_ne {w : World} {k i j : Nat} {v u : Value} (h : w.cell? ⟨k, i, none⟩ = some u) (hn : i ≠ j) : (w.setCell ⟨k, j, none⟩ v).cell? ⟨k, i, none⟩ = some u := by
  rw [World.cell?_setCell_other _ _ _ _ (by intro e; simp only [Addr.mk.injEq] at e; exact hn e.2.1.symm)]; exact h
theorem ext_set {w X : World} (h : Ext w X) (a : Addr) (v : Value) : Ext (w.setCell a v) (X.setCell a v) := by
  refine ⟨h.os, h.tape, h.output, by simpa using h.size, fun k hk => ?_⟩
  have := h.block k (by simpa using hk)
  simp only [World.setCell, Array.getElem?_modify, this]
theorem row_setCell {w : World} {sz : Nat} {a : Option Addr} {n cap : Nat} {xs : List Value} (h : Row w sz a n cap xs) {q : Addr} (v : Value) (hq : ∀ p, a = some p → 0 < xs.length → p.block ≠ q.block) : Row (w.setCell q v) sz a n cap xs :=
  h.keep fun p hp hx => Below.heap_setCell _ _ _ _ (hq p hp hx)
theorem Gr.at' {w : World} {G B : Nat} {ar : Option Addr} {cr : Nat} {raw : List Op2} {p : Nat} {vars props tempo : Int} {out : List Op2} (h : Gr w G B ar cr raw p vars props tempo out) (p' : Nat) :
    Gr (w.setCell ⟨G, 1, none⟩ (.int .i64 p')) G B ar cr raw p' vars props tempo out := by
  obtain ⟨ao, co, h5, h6, h7⟩ := h.c5
  have hG := h.new
  exact ⟨cell_set_ne h.c0 (by omega), cell_set h.c1, cell_set_ne h.c2 (by omega), cell_set_ne h.c3 (by omega), cell_set_ne h.c4 (by omega), ⟨ao, co, cell_set_ne h5 (by omega), own_setCell h6 _ h7, h7⟩,
    fun i => (World.frozen?_setCell _ _ _ _).trans (h.fz i), row_setCell h.row _ (fun q hq hx => by have := h.old q hq (by rw [opc_len] at hx; omega); show q.block ≠ G; omega), h.old, h.new⟩
theorem Gr.tempo' {w : World} {G B : Nat} {ar : Option Addr} {cr : Nat} {raw : List Op2} {p : Nat} {vars props tempo : Int} {out : List Op2} (h : Gr w G B ar cr raw p vars props tempo out) (t : Int) :
    Gr (w.setCell ⟨G, 4, none⟩ (.int .i64 t)) G B ar cr raw p vars props t out := by
  obtain ⟨ao, co, h5, h6, h7⟩ := h.c5
  have hG := h.new
  exact ⟨cell_set_ne h.c0 (by omega), cell_set_ne h.c1 (by omega), cell_set_ne h.c2 (by omega), cell_set_ne h.c3 (by omega), cell_set h.c4, ⟨ao, co, cell_set_ne h5 (by omega), own_setCell h6 _ h7, h7⟩,
    fun i => (World.frozen?_setCell _ _ _ _).trans (h.fz i), row_setCell h.row _ (fun q hq hx => by have := h.old q hq (by rw [opc_len] at hx; omega); show q.block ≠ G; omega), h.old, h.new⟩
set_option maxRecDepth 100000 in
set_option maxHeartbeats 1000000 in
theorem take_any (w : World) (G B : Nat) (ar : Option Addr) (cr : Nat) (raw : List Op2) (p : Nat) (vars props tempo : Int) (out : List Op2) (h : Gr w G B ar cr raw p vars props tempo out) (hp : p ≤ 100000) :
    Calls Tryz.prog 58 #[.pointer (some ⟨G, 0, none⟩)] w fun e w' =>
      e = .returned (.agg #[.int .i64 (rawAt raw p).1, .int .i64 (rawAt raw p).2]) ∧ Gr w' G B ar cr raw (p + 1) vars props tempo out ∧ Below B w w' := by
  have hm : raw.length ≤ 9223372036854775807 := by have := h.row.le; have := h.row.max; unfold maxLen at this; omega
  have hw0 : B ≤ w.heap.size := by have := World.block_lt_of_cell? _ _ h.c0; have := h.new; simp at *; omega
  have hE : Ext w ((w.alloc (Obj.cells #[.int .i64 0, .int .i64 0] 130)).alloc (Obj.cells #[.int .i64 0, .int .i64 0] 130)) := ((Ext.refl w).alloc (Nat.le_refl _) _).alloc (by simp) _
  have g := h.ext hE
  have t0 : ((w.alloc (Obj.cells #[.int .i64 0, .int .i64 0] 130)).alloc (Obj.cells #[.int .i64 0, .int .i64 0] 130)).cell? ⟨w.heap.size, 0, none⟩ = some (.int .i64 0) := by simp [go_sem]
  have t1 : ((w.alloc (Obj.cells #[.int .i64 0, .int .i64 0] 130)).alloc (Obj.cells #[.int .i64 0, .int .i64 0] 130)).cell? ⟨w.heap.size, 1, none⟩ = some (.int .i64 0) := by simp [go_sem]
  have u0 : ((w.alloc (Obj.cells #[.int .i64 0, .int .i64 0] 130)).alloc (Obj.cells #[.int .i64 0, .int .i64 0] 130)).cell? ⟨w.heap.size + 1, 0, none⟩ = some (.int .i64 0) := by simp [go_sem]
  have u1 : ((w.alloc (Obj.cells #[.int .i64 0, .int .i64 0] 130)).alloc (Obj.cells #[.int .i64 0, .int .i64 0] 130)).cell? ⟨w.heap.size + 1, 1, none⟩ = some (.int .i64 0) := by simp [go_sem]
  have tz : ∀ i, ((w.alloc (Obj.cells #[.int .i64 0, .int .i64 0] 130)).alloc (Obj.cells #[.int .i64 0, .int .i64 0] 130)).frozen? ⟨w.heap.size, i, none⟩ = false := by intro i; simp [go_sem]
  have uz : ∀ i, ((w.alloc (Obj.cells #[.int .i64 0, .int .i64 0] 130)).alloc (Obj.cells #[.int .i64 0, .int .i64 0] 130)).frozen? ⟨w.heap.size + 1, i, none⟩ = false := by intro i; simp [go_sem]
  have hG : G < w.heap.size := World.block_lt_of_cell? _ _ h.c0
  have H := Lib.hid h
  clear h
  go_enter Tryz.func58, Tryz.ntmps58
  go_wp2_with fail
  generalize (w.alloc (Obj.cells #[.int .i64 0, .int .i64 0] 130)).alloc (Obj.cells #[.int .i64 0, .int .i64 0] 130) = W at *
  have c0 := g.c0
  have c1 := g.c1
  have gz := g.fz 1
  have tz0 := tz 0
  have tz1 := tz 1
  have uz0 := uz 0
  have uz1 := uz 1
  have hne1 : ¬ w.heap.size = G := by omega
  have hne2 : ¬ w.heap.size + 1 = G := by omega
  have hne3 : ¬ G = w.heap.size := by omega
  have hne4 : ¬ G = w.heap.size + 1 := by omega
  have Gg := Lib.hid g
  have HE := Lib.hid hE
  clear tz uz hE
  obtain ⟨b, off, ha, hc⟩ := g.row.ops
  have HC := Lib.hid hc
  clear hc
  go_quiet (fail)
  by_cases hlt : p < raw.length
  · obtain rfl := ha (by omega)
    have k0 := (HC.out p hlt).1
    have k1 := (HC.out p hlt).2
    have hrw : rawAt raw p = raw[p] := by unfold rawAt; simp [hlt]
    have Hrw := Lib.hid hrw
    generalize raw[p] = r at *
    clear HC hrw g ha
    go_wp2_with fail
    refine region_tail 10 (by kernel_rfl) (by kernel_rfl) ?_
    simp only [List.take_succ_cons, List.take_zero, List.drop_succ_cons, List.drop_zero]
    repeat still_step
    try refine wpStill_nil ?_
    go_wp2
    have x1 : Ext w (((W.drewN (nq + 1)).setCell ⟨w.heap.size + 1, 0, none⟩ (.int .i64 r.1)).setCell ⟨w.heap.size + 1, 1, none⟩ (.int .i64 r.2)) := (((HE.out.trans (below_drewN (Ext.refl W) _)).setCell (p := ⟨w.heap.size + 1, 0, none⟩) (by simp) (.int .i64 r.1)).setCell (p := ⟨w.heap.size + 1, 1, none⟩) (by simp) (.int .i64 r.2))
    have x2 := ext_set x1 ⟨G, 1, none⟩ (.int .i64 ((p + 1 : Nat) : Int))
    have x3 := (x2.setCell (p := ⟨w.heap.size, 0, none⟩) (by simp) (.int .i64 r.1)).setCell (p := ⟨w.heap.size, 1, none⟩) (by simp) (.int .i64 r.2)
    have g3 := (H.out.at' (p + 1)).ext x3
    have b3 : Below B w _ := ((((x1.mono hw0).setCell (p := ⟨G, 1, none⟩) H.out.new (.int .i64 ((p + 1 : Nat) : Int))).setCell (p := ⟨w.heap.size, 0, none⟩) hw0 (.int .i64 r.1)).setCell (p := ⟨w.heap.size, 1, none⟩) hw0 (.int .i64 r.2))
    refine bodyPost_ret (v := .agg #[.int .i64 r.1, .int .i64 r.2]) (by simp [results, Tryz.results58, go_sem, t0, t1]) rfl ⟨by rw [Hrw.out], g3, b3⟩
  · have hrw : rawAt raw p = (0, 0) := by unfold rawAt; simp [hlt]
    have Hrw := Lib.hid hrw
    clear HC hrw g ha
    go_wp2
    have x1 : Ext w (W.drewN nq) := HE.out.trans (below_drewN (Ext.refl W) _)
    have x2 := ext_set x1 ⟨G, 1, none⟩ (.int .i64 ((p + 1 : Nat) : Int))
    have x3 := (x2.setCell (p := ⟨w.heap.size, 0, none⟩) (by simp) (.int .i64 0)).setCell (p := ⟨w.heap.size, 1, none⟩) (by simp) (.int .i64 0)
    have g3 := (H.out.at' (p + 1)).ext x3
    have b3 : Below B w _ := ((((x1.mono hw0).setCell (p := ⟨G, 1, none⟩) H.out.new (.int .i64 ((p + 1 : Nat) : Int))).setCell (p := ⟨w.heap.size, 0, none⟩) hw0 (.int .i64 0)).setCell (p := ⟨w.heap.size, 1, none⟩) hw0 (.int .i64 0))
    refine bodyPost_ret (v := .agg #[.int .i64 0, .int .i64 0]) (by simp [results, Tryz.results58, go_sem, t0, t1]) rfl ⟨by rw [Hrw.out], g3, b3⟩
theorem opc_one (l : List Op2) : ∀ u ∈ l.flatMap opc, u.oneCell' = true := by
  intro u hu
  obtain ⟨o, _, ho⟩ := List.mem_flatMap.1 hu
  simp [opc] at ho
  rcases ho with rfl | rfl <;> rfl
theorem Row.newOp (w : World) (t : TypeId) (k v : Int) : Row (w.alloc (.cells #[.int .i64 k, .int .i64 v] t)) 2 (some ⟨w.heap.size, 0, none⟩) 1 1 (opc (k, v)) := by
  refine ⟨rfl, Nat.le_refl _, by unfold maxLen; omega, w.heap.size, 0, (by intro h; cases h), fun _ => rfl, fun j u hu => ?_⟩
  rw [Nat.zero_add, World.cell?_alloc_at _ _ _ _ rfl]
  simpa [opc] using hu
set_option maxRecDepth 100000 in
set_option maxHeartbeats 1000000 in
theorem put_op (w : World) (G B : Nat) (ar : Option Addr) (cr : Nat) (raw : List Op2) (p : Nat) (vars props tempo : Int) (out : List Op2) (k v : Int) (h : Gr w G B ar cr raw p vars props tempo out) (ho : out.length ≤ 10000) :
    Calls Tryz.prog 59 #[.pointer (some ⟨G, 0, none⟩), .int .i64 k, .int .i64 v] w fun e w' =>
      e = .returned (.tuple #[]) ∧ Gr w' G B ar cr raw p vars props tempo (out ++ [(k, v)]) ∧ Below B w w' := by
  have hG : G < w.heap.size := World.block_lt_of_cell? _ _ h.c0
  have hBG := h.new
  obtain ⟨ao, co, c5, h6, h7⟩ := h.c5
  have gz := h.fz 5
  have H := Lib.hid h
  have H6 := Lib.hid h6
  have H7 := Lib.hid h7
  clear h h7
  have h6a := h6.alloc (Obj.cells #[.int .i64 k, .int .i64 v] 102)
  clear h6
  go_enter Tryz.func59, Tryz.ntmps59
  go_wp2_with (at_builtin; go_must (refine wpl_append rfl rfl Tryz.slOps B rfl h6a rfl (Row.newOp _ _ _ _) (by simp [opc, Value.oneCell']) (by unfold maxLen; omega) (by omega) (by simp; omega) ?_))
  intro v1 w1 hown hg hb _
  obtain ⟨a1, d1, rfl, hr1⟩ := hown.row
  have hE1 : Below B w w1 := (((Ext.refl w).alloc (Nat.le_refl _) _).mono (by omega)).grown hg (by simp; omega) (fun k hk => (H6.out.lt k hk).1)
  have hnG : (Value.slice a1 (out.length + 1) d1).ownBlock ≠ some G := by
    rcases hb with hb | hb
    · rw [hb]; exact H7.out
    · rw [hb]; simp; omega
  have hblk : ∀ i, i < w.heap.size → some i ≠ (Value.slice ao out.length co).ownBlock → w1.heap[i]? = w.heap[i]? := fun i hi hn => (hg.block i (by simp; omega) hn).trans (Below.heap_alloc _ _ _ hi)
  have hGb := hblk G hG (fun e => H7.out e.symm)
  have hc5 := cells_of c5 hGb
  have hz5 : w1.frozen? ⟨G, 5, none⟩ = false := (World.frozen?_of_block (w := w) hGb).trans gz
  have Hown := Lib.hid hown
  clear hown hg hb hr1 c5 gz h6a
  go_wp2
  go_end0
  refine ⟨rfl, ?_, hE1.setCell hBG _⟩
  have hh := H.out
  refine ⟨cell_set_ne (cells_of hh.c0 hGb) (by omega), cell_set_ne (cells_of hh.c1 hGb) (by omega), cell_set_ne (cells_of hh.c2 hGb) (by omega), cell_set_ne (cells_of hh.c3 hGb) (by omega), cell_set_ne (cells_of hh.c4 hGb) (by omega), ⟨a1, d1, ?_, ?_, ?_⟩, fun i => ?_, ?_, hh.old, hh.new⟩
  · have := cell_set (v := .slice a1 (out.length + 1) d1) hc5
    simpa using this
  · have := own_setCell Hown.out (p := ⟨G, 5, none⟩) (.slice a1 (out.length + 1) d1) hnG
    simpa using this
  · simpa using hnG
  · exact (World.frozen?_setCell _ _ _ _).trans ((World.frozen?_of_block (w := w) hGb).trans (hh.fz i))
  · refine hh.row.keep fun q hq hx => ?_
    have hl : 0 < raw.length := by rw [opc_len] at hx; omega
    have hqB := hh.old q hq hl
    rw [Below.heap_setCell _ _ _ _ (show q.block ≠ G by omega)]
    refine hblk _ (by omega) (fun e => ?_)
    have := (H6.out.lt _ e.symm).1
    omega
end Go.Proofs.YtciihiiacbnimaaGreatDoor

namespace Go.Proofs.YtciihiiacbnimaaGreatDoor
def aheadB (k : Int) : Bool := decide (14 ≤ k ∧ k ≤ 18)
def cntA : List Op2 → Nat
  | [] => 0
  | o :: l => (if aheadB o.1 then 1 else 0) + cntA l
theorem cntA_app (a b : List Op2) : cntA (a ++ b) = cntA a + cntA b := by
  induction a with
  | nil => simp [cntA]
  | cons o a ih => simp only [List.cons_append, cntA, ih]; omega
def fLeaf (r : Op2) (props : Int) : Tm := if 0 < props then .n0 13 (pk r.2 props) else .n0 (11 + pk r.2 2) 0
def fKind0 (r : Op2) (d p : Nat) : Int := if d = 0 ∨ 12 < p + 1 then pk r.1 4 else pk r.1 16
def fKind (r : Op2) (d p t : Nat) : Int := if 8 < fKind0 r d p ∧ t = 0 then 4 + fKind0 r d p % 5 else fKind0 r d p
def aheadK (k : Int) : Int := if k = 9 then 14 else if k = 11 then 18 else 17
def fT (raw : List Op2) (props : Int) : Nat → Nat → Nat → Tm × Nat × Nat
  | 0, p, t => (fLeaf (rawAt raw p) props, p + 1, t)
  | d + 1, p, t =>
    if fKind (rawAt raw p) (d + 1) p t < 4 then (fLeaf (rawAt raw p) props, p + 1, t)
    else if fKind (rawAt raw p) (d + 1) p t < 6 then (.n1 10 0 (fT raw props d (p + 1) t).1, (fT raw props d (p + 1) t).2)
    else if fKind (rawAt raw p) (d + 1) p t < 9 then
      (.n2 (8 + fKind (rawAt raw p) (d + 1) p t % 2) 0 (fT raw props d (p + 1) t).1 (fT raw props d (fT raw props d (p + 1) t).2.1 (fT raw props d (p + 1) t).2.2).1, (fT raw props d (fT raw props d (p + 1) t).2.1 (fT raw props d (p + 1) t).2.2).2)
    else if fKind (rawAt raw p) (d + 1) p t < 13 then (.n1 (aheadK (fKind (rawAt raw p) (d + 1) p t)) 0 (fT raw props d (p + 1) (t - 1)).1, (fT raw props d (p + 1) (t - 1)).2)
    else
      (.n2 (15 + fKind (rawAt raw p) (d + 1) p t % 2) 0 (fT raw props d (p + 1) (t - 1)).1 (fT raw props d (fT raw props d (p + 1) (t - 1)).2.1 (fT raw props d (p + 1) (t - 1)).2.2).1, (fT raw props d (fT raw props d (p + 1) (t - 1)).2.1 (fT raw props d (p + 1) (t - 1)).2.2).2)
theorem fKind0_bd (r : Op2) (d p : Nat) : 0 ≤ fKind0 r d p ∧ fKind0 r d p < 16 ∧ (d = 0 ∨ 12 ≤ p → fKind0 r d p < 4) := by
  unfold fKind0
  have h1 := pk_bd r.1 4 (by omega)
  have h2 := pk_bd r.1 16 (by omega)
  split <;> omega
theorem fKind_bd (r : Op2) (d p t : Nat) : 0 ≤ fKind r d p t ∧ fKind r d p t < 16 ∧ (d = 0 ∨ 12 ≤ p → fKind r d p t < 4) ∧ (t = 0 → fKind r d p t < 9) := by
  have h := fKind0_bd r d p
  unfold fKind
  split <;> omega
theorem fLeaf_size (r : Op2) (props : Int) : (fLeaf r props).size = 1 := by unfold fLeaf; split <;> rfl
theorem fT_size (raw : List Op2) (props : Int) : ∀ d p t, (fT raw props d p t).2.1 = p + (fT raw props d p t).1.size := by
  intro d
  induction d with
  | zero => intro p t; simp [fT, fLeaf_size]
  | succ d ih =>
    intro p t
    unfold fT
    have h1 := ih (p + 1) t
    have h2 := ih (fT raw props d (p + 1) t).2.1 (fT raw props d (p + 1) t).2.2
    have h3 := ih (p + 1) (t - 1)
    have h4 := ih (fT raw props d (p + 1) (t - 1)).2.1 (fT raw props d (p + 1) (t - 1)).2.2
    split
    · simp [fLeaf_size]
    · split
      · simp only [Tm.size]; omega
      · split
        · simp only [Tm.size]; omega
        · split <;> simp only [Tm.size] <;> omega
theorem fT_end (raw : List Op2) (props : Int) : ∀ d p t, (12 ≤ p → (fT raw props d p t).2.1 = p + 1) ∧ (p < 12 → (fT raw props d p t).2.1 ≤ 13 + d) := by
  intro d
  induction d with
  | zero => intro p t; exact ⟨fun _ => rfl, fun h => by show p + 1 ≤ 13 + 0; omega⟩
  | succ d ih =>
    intro p t
    have hk := fKind_bd (rawAt raw p) (d + 1) p t
    have h1 := ih (p + 1) t
    have h2 := ih (fT raw props d (p + 1) t).2.1 (fT raw props d (p + 1) t).2.2
    have h3 := ih (p + 1) (t - 1)
    have h4 := ih (fT raw props d (p + 1) (t - 1)).2.1 (fT raw props d (p + 1) (t - 1)).2.2
    by_cases hp : 12 ≤ p
    · unfold fT
      rw [if_pos (by omega)]
      exact ⟨fun _ => rfl, fun h => by omega⟩
    · refine ⟨fun h => by omega, fun _ => ?_⟩
      unfold fT
      split
      · show p + 1 ≤ _; omega
      · split
        · show (fT raw props d (p + 1) t).2.1 ≤ _; omega
        · split
          · show (fT raw props d (fT raw props d (p + 1) t).2.1 (fT raw props d (p + 1) t).2.2).2.1 ≤ _; omega
          · split
            · show (fT raw props d (p + 1) (t - 1)).2.1 ≤ _; omega
            · show (fT raw props d (fT raw props d (p + 1) (t - 1)).2.1 (fT raw props d (p + 1) (t - 1)).2.2).2.1 ≤ _; omega
theorem fT_small (raw : List Op2) (props : Int) (d t : Nat) : (fT raw props d 0 t).1.size ≤ 13 + d := by
  have h1 := (fT_end raw props d 0 t).2 (by omega)
  have h2 := fT_size raw props d 0 t
  omega
theorem fLeaf_ok (r : Op2) (props : Int) : (fLeaf r props).ok := by
  unfold fLeaf
  have := pk_bd r.2 2 (by omega)
  split
  · simp [Tm.ok, partsOf]
  · refine ⟨by omega, by omega, ?_⟩
    unfold partsOf
    rw [if_neg (by omega), if_neg (by omega)]
theorem fT_ok (raw : List Op2) (props : Int) : ∀ d p t, (fT raw props d p t).1.ok := by
  intro d
  induction d with
  | zero => intro p t; exact fLeaf_ok _ _
  | succ d ih =>
    intro p t
    have hk := fKind_bd (rawAt raw p) (d + 1) p t
    unfold fT
    split
    · exact fLeaf_ok _ _
    · split
      · exact ⟨by omega, by omega, by unfold partsOf; simp, ih _ _⟩
      · split
        · refine ⟨by omega, by omega, ?_, ih _ _, ih _ _⟩
          unfold partsOf
          rw [if_pos (by omega)]
        · split
          · have ha : aheadK (fKind (rawAt raw p) (d + 1) p t) = 14 ∨ aheadK (fKind (rawAt raw p) (d + 1) p t) = 17 ∨ aheadK (fKind (rawAt raw p) (d + 1) p t) = 18 := by
              unfold aheadK; split
              · omega
              · split <;> omega
            refine ⟨by omega, by omega, ?_, ih _ _⟩
            unfold partsOf
            rw [if_neg (by omega), if_pos (by omega)]
          · refine ⟨by omega, by omega, ?_, ih _ _, ih _ _⟩
            unfold partsOf
            rw [if_pos (by omega)]
def FitOp (props : Int) (o : Op2) : Prop := 8 ≤ o.1 ∧ o.1 ≤ 18 ∧ (o.1 = 13 → 0 ≤ o.2 ∧ o.2 < props) ∧ (o.1 ≠ 13 → o.2 = 0)
theorem fLeaf_fit (r : Op2) (props : Int) : ∀ o ∈ (fLeaf r props).flat, FitOp props o ∧ aheadB o.1 = false := by
  unfold fLeaf
  have := pk_bd r.2 2 (by omega)
  split
  · rename_i h
    have := pk_bd r.2 props h
    intro o ho
    simp only [Tm.flat, List.mem_singleton] at ho
    subst ho
    refine ⟨⟨by simp, by simp, fun _ => this, fun h => absurd rfl h⟩, by simp [aheadB]⟩
  · intro o ho
    simp only [Tm.flat, List.mem_singleton] at ho
    subst ho
    refine ⟨⟨by simp only; omega, by simp only; omega, fun h => by simp only at h; omega, fun _ => rfl⟩, ?_⟩
    unfold aheadB
    simp only [decide_eq_false_iff_not]
    omega
theorem fT_fit (raw : List Op2) (props : Int) : ∀ d p t, ∀ o ∈ (fT raw props d p t).1.flat, FitOp props o := by
  intro d
  induction d with
  | zero => intro p t o ho; exact (fLeaf_fit _ _ o ho).1
  | succ d ih =>
    intro p t o ho
    have hk := fKind_bd (rawAt raw p) (d + 1) p t
    unfold fT at ho
    have hop : ∀ k : Int, 8 ≤ k → k ≤ 18 → k ≠ 13 → FitOp props (k, 0) := fun k h1 h2 h3 => ⟨h1, h2, fun h => absurd h h3, fun _ => rfl⟩
    split at ho
    · exact (fLeaf_fit _ _ o ho).1
    · split at ho
      · rcases List.mem_cons.1 ho with rfl | ho
        · exact hop 10 (by omega) (by omega) (by omega)
        · exact ih _ _ o ho
      · split at ho
        · rcases List.mem_cons.1 ho with rfl | ho
          · exact hop _ (by omega) (by omega) (by omega)
          · rcases List.mem_append.1 ho with ho | ho
            · exact ih _ _ o ho
            · exact ih _ _ o ho
        · split at ho
          · have ha : aheadK (fKind (rawAt raw p) (d + 1) p t) = 14 ∨ aheadK (fKind (rawAt raw p) (d + 1) p t) = 17 ∨ aheadK (fKind (rawAt raw p) (d + 1) p t) = 18 := by
              unfold aheadK; split
              · omega
              · split <;> omega
            rcases List.mem_cons.1 ho with rfl | ho
            · exact hop _ (by omega) (by omega) (by omega)
            · exact ih _ _ o ho
          · rcases List.mem_cons.1 ho with rfl | ho
            · exact hop _ (by omega) (by omega) (by omega)
            · rcases List.mem_append.1 ho with ho | ho
              · exact ih _ _ o ho
              · exact ih _ _ o ho
theorem cntA_zero : ∀ l : List Op2, (∀ o ∈ l, aheadB o.1 = false) → cntA l = 0
  | [], _ => rfl
  | o :: l, h => by
    have h1 := h o (by simp)
    have h2 := cntA_zero l fun x hx => h x (List.mem_cons_of_mem _ hx)
    simp [cntA, h1, h2]
theorem fT_cnt (raw : List Op2) (props : Int) : ∀ d p t, cntA (fT raw props d p t).1.flat + (fT raw props d p t).2.2 = t := by
  intro d
  induction d with
  | zero =>
    intro p t
    have := cntA_zero _ fun o ho => (fLeaf_fit (rawAt raw p) props o ho).2
    simp [fT, this]
  | succ d ih =>
    intro p t
    have hk := fKind_bd (rawAt raw p) (d + 1) p t
    have h1 := ih (p + 1) t
    have h2 := ih (fT raw props d (p + 1) t).2.1 (fT raw props d (p + 1) t).2.2
    have h3 := ih (p + 1) (t - 1)
    have h4 := ih (fT raw props d (p + 1) (t - 1)).2.1 (fT raw props d (p + 1) (t - 1)).2.2
    unfold fT
    split
    · have := cntA_zero _ fun o ho => (fLeaf_fit (rawAt raw p) props o ho).2
      simp [this]
    · split
      · simp only [Tm.flat, cntA, aheadB]
        simp
        exact h1
      · split
        · have hb : aheadB (8 + fKind (rawAt raw p) (d + 1) p t % 2) = false := by unfold aheadB; simp only [decide_eq_false_iff_not]; omega
          simp only [Tm.flat, cntA, cntA_app, hb]
          simp
          omega
        · have ht : t ≠ 0 := fun e => by have := hk.2.2.2 e; omega
          split
          · have hb : aheadB (aheadK (fKind (rawAt raw p) (d + 1) p t)) = true := by
              unfold aheadB aheadK; split
              · simp
              · split <;> simp
            simp only [Tm.flat, cntA, hb]
            simp
            omega
          · have hb : aheadB (15 + fKind (rawAt raw p) (d + 1) p t % 2) = true := by unfold aheadB; simp only [decide_eq_true_eq]; omega
            simp only [Tm.flat, cntA, cntA_app, hb]
            simp
            omega
end Go.Proofs.YtciihiiacbnimaaGreatDoor

namespace Go.Proofs.YtciihiiacbnimaaGreatDoor
open Go.RowKit
def RawF (raw : List Op2) : Prop := ∀ p, I64 (rawAt raw p).1 ∧ I64 (rawAt raw p).2
def FMade (w : World) (G B : Nat) (ar : Option Addr) (cr : Nat) (raw : List Op2) (vars props : Int) (out : List Op2) (r : Tm × Nat × Nat) (e : Ending) (w' : World) : Prop :=
  e = .returned (.tuple #[]) ∧ Gr w' G B ar cr raw r.2.1 vars props (r.2.2 : Int) (out ++ r.1.flat) ∧ Below B w w'
theorem FMade.mk {w w' : World} {G B : Nat} {ar : Option Addr} {cr : Nat} {raw : List Op2} {vars props : Int} {out out' : List Op2} {r : Tm × Nat × Nat} {e : Ending} {p t : Nat}
    (he : e = .returned (.tuple #[])) (hg : Gr w' G B ar cr raw p vars props (t : Int) out') (hb : Below B w w') (hp : p = r.2.1) (ht : t = r.2.2) (ho : out' = out ++ r.1.flat) : FMade w G B ar cr raw vars props out r e w' := by
  subst hp; subst ho; subst ht; exact ⟨he, hg, hb⟩
section
variable (w : World) (G B : Nat) (ar : Option Addr) (cr : Nat) (raw : List Op2) (p : Nat) (vars props : Int) (t : Nat) (out : List Op2)
set_option maxRecDepth 100000 in
set_option maxHeartbeats 2000000 in
theorem formula_leaf (h : Gr w G B ar cr raw p vars props (t : Int) out) (hraw : RawF raw) (hp : p ≤ 700) (ho : out.length ≤ 700) (hv : 0 < props) (hv2 : props ≤ 1000) (deep : Int) (hm : deep = 0 ∨ 12 ≤ p) :
    Calls Tryz.prog 33 #[.pointer (some ⟨G, 0, none⟩), .int .i64 deep] w (FMade w G B ar cr raw vars props out (fLeaf (rawAt raw p) props, p + 1, t)) := by
  have TK := Lib.hid (take_any w G B ar cr raw p vars props t out h (by omega))
  have hBw : B ≤ w.heap.size := by have := World.block_lt_of_cell? _ _ h.c0; have := h.new; simp at *; omega
  have hr := hraw p
  generalize rawAt raw p = r at *
  obtain ⟨⟨r1, r2⟩, r3, r4⟩ := hr
  have hfl : (fLeaf r props).flat = [(13, pk r.2 props)] := by unfold fLeaf; rw [if_pos hv]; rfl
  have HFL := Lib.hid hfl
  have HPK := Lib.hid (picked_any r.1 16 · r1 r2 (by omega) (by omega))
  have HPL := Lib.hid (picked_any r.1 4 · r1 r2 (by omega) (by omega))
  have HS := Lib.hid (fun wx : World => still_of (picked_any r.2 props wx r3 r4 hv (by omega)))
  obtain ⟨k0, hk0⟩ : ∃ k, k = pk r.1 16 := ⟨_, rfl⟩
  obtain ⟨kk, hkk⟩ : ∃ k, k = pk r.1 4 := ⟨_, rfl⟩
  have hkb := pk_bd r.1 4 (by omega)
  rw [← hkk] at hkb HPL
  rw [← hk0] at HPK
  obtain ⟨hk1, hk2⟩ := hkb
  have hk8 : ¬ (8 : Int) < kk := by omega
  have hpI : (12 : Int) < (p : Int) + 1 ∨ deep = 0 := by omega
  clear hk0 hkk hfl
  obtain ⟨b0, hb0, hb1⟩ : ∃ b : Bool, (deep == 0) = b ∧ (b = true ∨ (12 : Int) < (p : Int) + 1) := by
    refine ⟨_, rfl, ?_⟩
    rcases hpI with h | h
    · exact .inr h
    · left; rw [h]; rfl
  clear hpI hm
  cases b0
  case' false => replace hb1 : (12 : Int) < (p : Int) + 1 := by simpa using hb1
  all_goals
    go_enter Tryz.func33, Tryz.ntmps33
    go_wp2_with fail
    refine TK.out.mono ?_
    rintro e w1 ⟨rfl, g1, b1⟩
    have hg1 := g1.ext ((Ext.refl w1).alloc (Nat.le_refl _) (Obj.cells #[.int .i64 r.1, .int .i64 r.2] 130))
    have hb2 : Below B w (w1.alloc (Obj.cells #[.int .i64 r.1, .int .i64 r.2] 130)) := b1.alloc (by have := b1.size; omega) _
    have q0 : (w1.alloc (Obj.cells #[.int .i64 r.1, .int .i64 r.2] 130)).cell? ⟨w1.heap.size, 0, none⟩ = some (.int .i64 r.1) := by simp [go_sem]
    have q1 : (w1.alloc (Obj.cells #[.int .i64 r.1, .int .i64 r.2] 130)).cell? ⟨w1.heap.size, 1, none⟩ = some (.int .i64 r.2) := by simp [go_sem]
    have c1 := hg1.c1
    have c3 := hg1.c3
    have HG1 := Lib.hid hg1
    have HB2 := Lib.hid hb2
    clear TK g1 b1 hg1 hb2
    go_wp2_with fail
    refine (HPK.out _).mono ?_
    rintro e w' ⟨rfl, rfl⟩
    go_wp2_with fail
    refine (HPL.out _).mono ?_
    rintro e w' ⟨rfl, rfl⟩
    go_wp2_with fail
    refine region_tail 8 (by kernel_rfl) (by kernel_rfl) ?_
    generalize (w1.alloc (Obj.cells #[.int .i64 r.1, .int .i64 r.2] 130)) = W at *
    have hg1' := HG1.out.ext (Below.drew (Ext.refl W))
    have hb1' := HB2.out.drew
    have q1' : W.drew.cell? ⟨w1.heap.size, 1, none⟩ = some (.int .i64 r.2) := q1
    have c3' : W.drew.cell? ⟨G, 3, none⟩ = some (.int .i64 props) := c3
    have HG1' := Lib.hid hg1'
    have HB1' := Lib.hid hb1'
    clear HG1 HB2 q0 q1 c1 c3 hg1' hb1'
    generalize W.drew = Wd at *
    simp only [List.take_succ_cons, List.take_zero, List.drop_succ_cons, List.drop_zero]
    iterate 7 still_step
    still_call (HS.out Wd)
    refine wpStill_nil ?_
    go_wp2_with fail
    refine (put_op _ G B ar cr raw (p + 1) vars props t out _ _ HG1'.out (by omega)).mono ?_
    rintro e w2 ⟨rfl, hg2, hb2⟩
    have HG2 := Lib.hid hg2
    have HB3 := Lib.hid (HB1'.out.trans hb2)
    clear hg2 hb2
    go_wp2
    go_end0
    exact FMade.mk rfl HG2.out HB3.out rfl rfl (by rw [HFL.out])
end
end Go.Proofs.YtciihiiacbnimaaGreatDoor

namespace Go.Proofs.YtciihiiacbnimaaGreatDoor
open Go.RowKit
section
variable (w : World) (G B : Nat) (ar : Option Addr) (cr : Nat) (raw : List Op2) (p : Nat) (vars props : Int) (t : Nat) (out : List Op2)
set_option maxRecDepth 100000 in
set_option maxHeartbeats 2000000 in
theorem formula_not (h : Gr w G B ar cr raw p vars props (t : Int) out) (hraw : RawF raw) (d : Nat) (hd : d ≤ 5) (hp12 : p < 12) (ho : out.length + 100 * (d + 1) ≤ 700) (htb : t ≤ 1000) (kk : Int) (hsel : pk (rawAt raw p).1 16 = kk) (hk4 : 4 ≤ kk) (hk6 : kk < 6)
    (ih : ∀ (w : World) (p : Nat) (t : Nat) (out : List Op2), Gr w G B ar cr raw p vars props (t : Int) out → p ≤ 14 + d + 30 → out.length + 100 * d ≤ 700 → t ≤ 1000 → Calls Tryz.prog 33 #[.pointer (some ⟨G, 0, none⟩), .int .i64 d] w (FMade w G B ar cr raw vars props out (fT raw props d p t)))
    : Calls Tryz.prog 33 #[.pointer (some ⟨G, 0, none⟩), .int .i64 ((d + 1 : Nat) : Int)] w (FMade w G B ar cr raw vars props out (.n1 10 0 (fT raw props d (p + 1) t).1, (fT raw props d (p + 1) t).2)) := by
  have TK := Lib.hid (take_any w G B ar cr raw p vars props t out h (by omega))
  have hBw : B ≤ w.heap.size := by have := World.block_lt_of_cell? _ _ h.c0; have := h.new; simp at *; omega
  have hr := hraw p
  have hz1 := fT_end raw props d (p + 1) (t)
  have hz2 := fT_size raw props d (p + 1) (t)
  have hz5 := Tm.flat_len (fT raw props d (p + 1) (t)).1
  have ih1 := fun w' out' g h1 h2 => ih w' (p + 1) (t) out' g h1 h2 (by omega)
  have hz6 := fT_cnt raw props d (p + 1) (t)
  generalize fT raw props d (p + 1) (t) = t1 at *
  obtain ⟨tm1, p1, n1⟩ := t1
  simp only at hz1 hz2 hz5 ih1
  have HZ1 := Lib.hid (show p1 ≤ 14 + d + 30 by omega)
  have HZ5 := Lib.hid (show tm1.flat.length ≤ 20 by omega)
  have IH1 := Lib.hid ih1
  clear ih1 hz1 hz2 hz5 hz6 ih
  generalize rawAt raw p = r at *
  obtain ⟨⟨r1, r2⟩, r3, r4⟩ := hr
  have HPK := Lib.hid (picked_any r.1 16 · r1 r2 (by omega) (by omega))
  have hkb := pk_bd r.1 16 (by omega)
  have e0 : ((d : Int) + 1 == 0) = false := by rw [beq_eq_false_iff_ne]; omega
  have e1 : (0 : Int) ≤ d := by omega
  have hpI : ¬ (12 : Int) < (p : Int) + 1 := by omega
  rw [hsel] at HPK hkb
  obtain ⟨hkb1, hkb2⟩ := hkb
  clear hsel
  have hl4 : ¬ kk < 4 := by omega
  have hl8 : ¬ (8 : Int) < kk := by omega
  go_enter Tryz.func33, Tryz.ntmps33
  go_wp2_with fail
  refine TK.out.mono ?_
  rintro e w1 ⟨rfl, g1, b1⟩
  have hg1 := g1.ext ((Ext.refl w1).alloc (Nat.le_refl _) (Obj.cells #[.int .i64 r.1, .int .i64 r.2] 130))
  have hb2 : Below B w (w1.alloc (Obj.cells #[.int .i64 r.1, .int .i64 r.2] 130)) := b1.alloc (by have := b1.size; omega) _
  have q0 : (w1.alloc (Obj.cells #[.int .i64 r.1, .int .i64 r.2] 130)).cell? ⟨w1.heap.size, 0, none⟩ = some (.int .i64 r.1) := by simp [go_sem]
  have q1 : (w1.alloc (Obj.cells #[.int .i64 r.1, .int .i64 r.2] 130)).cell? ⟨w1.heap.size, 1, none⟩ = some (.int .i64 r.2) := by simp [go_sem]
  have c1 := hg1.c1
  have c3 := hg1.c3
  have c4 := hg1.c4
  have f4 := hg1.fz 4
  have HG1 := Lib.hid hg1
  have HB2 := Lib.hid hb2
  clear TK g1 b1 hg1 hb2
  go_wp2_with fail
  refine (HPK.out _).mono ?_
  rintro e w' ⟨rfl, rfl⟩
  go_wp2_with fail
  refine (put_op _ G B ar cr raw (p + 1) vars props t out _ _ HG1.out (by omega)).mono ?_
  rintro e w2 ⟨rfl, hg2, hb3⟩
  have HG2 := Lib.hid hg2
  have HB3 := Lib.hid (HB2.out.trans hb3)
  clear hg2 hb3
  go_wp2_with fail
  refine (IH1.out w2 _ HG2.out (by omega) (by simp; omega)).mono ?_
  rintro e w3 ⟨rfl, hg3, hb4⟩
  have HG3 := Lib.hid hg3
  have HB4 := Lib.hid (HB3.out.trans hb4)
  clear hg3 hb4 HG2 HB3
  go_wp2
  go_end0
  exact FMade.mk rfl HG3.out HB4.out rfl rfl (by simp [Tm.flat])
set_option maxRecDepth 100000 in
set_option maxHeartbeats 2000000 in
theorem formula_bin (h : Gr w G B ar cr raw p vars props (t : Int) out) (hraw : RawF raw) (d : Nat) (hd : d ≤ 5) (hp12 : p < 12) (ho : out.length + 100 * (d + 1) ≤ 700) (htb : t ≤ 1000) (kk : Int) (hsel : pk (rawAt raw p).1 16 = kk) (hk6 : 6 ≤ kk) (hk9 : kk < 9)
    (ih : ∀ (w : World) (p : Nat) (t : Nat) (out : List Op2), Gr w G B ar cr raw p vars props (t : Int) out → p ≤ 14 + d + 30 → out.length + 100 * d ≤ 700 → t ≤ 1000 → Calls Tryz.prog 33 #[.pointer (some ⟨G, 0, none⟩), .int .i64 d] w (FMade w G B ar cr raw vars props out (fT raw props d p t)))
    : Calls Tryz.prog 33 #[.pointer (some ⟨G, 0, none⟩), .int .i64 ((d + 1 : Nat) : Int)] w (FMade w G B ar cr raw vars props out (.n2 (8 + kk % 2) 0 (fT raw props d (p + 1) t).1 (fT raw props d (fT raw props d (p + 1) t).2.1 (fT raw props d (p + 1) t).2.2).1, (fT raw props d (fT raw props d (p + 1) t).2.1 (fT raw props d (p + 1) t).2.2).2)) := by
  have TK := Lib.hid (take_any w G B ar cr raw p vars props t out h (by omega))
  have hBw : B ≤ w.heap.size := by have := World.block_lt_of_cell? _ _ h.c0; have := h.new; simp at *; omega
  have hr := hraw p
  have hz1 := fT_end raw props d (p + 1) (t)
  have hz2 := fT_size raw props d (p + 1) (t)
  have hz5 := Tm.flat_len (fT raw props d (p + 1) (t)).1
  have ih1 := fun w' out' g h1 h2 => ih w' (p + 1) (t) out' g h1 h2 (by omega)
  have hz6 := fT_cnt raw props d (p + 1) (t)
  have ih2 := fun w' out' g h1 h2 => ih w' (fT raw props d (p + 1) (t)).2.1 (fT raw props d (p + 1) (t)).2.2 out' g h1 h2 (by omega)
  generalize fT raw props d (p + 1) (t) = t1 at *
  generalize fT raw props d t1.2.1 t1.2.2 = t2 at *
  obtain ⟨tm1, p1, n1⟩ := t1
  obtain ⟨tm2, p2, n2⟩ := t2
  simp only at hz1 hz2 hz5 ih1 ih2
  have IH2 := Lib.hid ih2
  clear ih2
  have HZ1 := Lib.hid (show p1 ≤ 14 + d + 30 by omega)
  have HZ5 := Lib.hid (show tm1.flat.length ≤ 20 by omega)
  have IH1 := Lib.hid ih1
  clear ih1 hz1 hz2 hz5 hz6 ih
  generalize rawAt raw p = r at *
  obtain ⟨⟨r1, r2⟩, r3, r4⟩ := hr
  have HPK := Lib.hid (picked_any r.1 16 · r1 r2 (by omega) (by omega))
  have hkb := pk_bd r.1 16 (by omega)
  have e0 : ((d : Int) + 1 == 0) = false := by rw [beq_eq_false_iff_ne]; omega
  have e1 : (0 : Int) ≤ d := by omega
  have hpI : ¬ (12 : Int) < (p : Int) + 1 := by omega
  rw [hsel] at HPK hkb
  obtain ⟨hkb1, hkb2⟩ := hkb
  clear hsel
  have hl4 : ¬ kk < 4 := by omega
  have hl6 : ¬ kk < 6 := by omega
  have hl8 : ¬ (8 : Int) < kk := by omega
  have hm2 : kk.tmod 2 = kk % 2 := Int.tmod_eq_emod_of_nonneg (by omega)
  have hw2 : IntKind.i64.wrap ((8 : Int) + kk % 2) = 8 + kk % 2 := IntWalk.i64_in _ (by omega)
  go_enter Tryz.func33, Tryz.ntmps33
  go_wp2_with fail
  refine TK.out.mono ?_
  rintro e w1 ⟨rfl, g1, b1⟩
  have hg1 := g1.ext ((Ext.refl w1).alloc (Nat.le_refl _) (Obj.cells #[.int .i64 r.1, .int .i64 r.2] 130))
  have hb2 : Below B w (w1.alloc (Obj.cells #[.int .i64 r.1, .int .i64 r.2] 130)) := b1.alloc (by have := b1.size; omega) _
  have q0 : (w1.alloc (Obj.cells #[.int .i64 r.1, .int .i64 r.2] 130)).cell? ⟨w1.heap.size, 0, none⟩ = some (.int .i64 r.1) := by simp [go_sem]
  have q1 : (w1.alloc (Obj.cells #[.int .i64 r.1, .int .i64 r.2] 130)).cell? ⟨w1.heap.size, 1, none⟩ = some (.int .i64 r.2) := by simp [go_sem]
  have c1 := hg1.c1
  have c3 := hg1.c3
  have c4 := hg1.c4
  have f4 := hg1.fz 4
  have HG1 := Lib.hid hg1
  have HB2 := Lib.hid hb2
  clear TK g1 b1 hg1 hb2
  go_wp2_with fail
  refine (HPK.out _).mono ?_
  rintro e w' ⟨rfl, rfl⟩
  go_wp2_with fail
  refine (put_op _ G B ar cr raw (p + 1) vars props t out _ _ HG1.out (by omega)).mono ?_
  rintro e w2 ⟨rfl, hg2, hb3⟩
  have HG2 := Lib.hid hg2
  have HB3 := Lib.hid (HB2.out.trans hb3)
  clear hg2 hb3
  go_wp2_with fail
  refine (IH1.out w2 _ HG2.out (by omega) (by simp; omega)).mono ?_
  rintro e w3 ⟨rfl, hg3, hb4⟩
  have HG3 := Lib.hid hg3
  have HB4 := Lib.hid (HB3.out.trans hb4)
  clear hg3 hb4 HG2 HB3
  go_wp2_with fail
  refine (IH2.out w3 _ HG3.out HZ1.out (by have := HZ5.out; simp at this ⊢; omega)).mono ?_
  rintro e w4 ⟨rfl, hg4, hb5⟩
  have HG4 := Lib.hid hg4
  have HB5 := Lib.hid (HB4.out.trans hb5)
  clear hg4 hb5 HG3 HB4
  go_wp2
  go_end0
  exact FMade.mk rfl HG4.out HB5.out rfl rfl (by simp [Tm.flat])
set_option maxRecDepth 100000 in
set_option maxHeartbeats 2000000 in
theorem formula_nots (h : Gr w G B ar cr raw p vars props (t : Int) out) (hraw : RawF raw) (d : Nat) (hd : d ≤ 5) (hp12 : p < 12) (ho : out.length + 100 * (d + 1) ≤ 700) (htb : t ≤ 1000) (kk : Int) (k0 : Int) (hk0 : pk (rawAt raw p).1 16 = k0) (h8 : 8 < k0) (ht0 : t = 0) (hsel : 4 + k0 % 5 = kk) (hk4 : 4 ≤ kk) (hk6 : kk < 6)
    (ih : ∀ (w : World) (p : Nat) (t : Nat) (out : List Op2), Gr w G B ar cr raw p vars props (t : Int) out → p ≤ 14 + d + 30 → out.length + 100 * d ≤ 700 → t ≤ 1000 → Calls Tryz.prog 33 #[.pointer (some ⟨G, 0, none⟩), .int .i64 d] w (FMade w G B ar cr raw vars props out (fT raw props d p t)))
    : Calls Tryz.prog 33 #[.pointer (some ⟨G, 0, none⟩), .int .i64 ((d + 1 : Nat) : Int)] w (FMade w G B ar cr raw vars props out (.n1 10 0 (fT raw props d (p + 1) t).1, (fT raw props d (p + 1) t).2)) := by
  have TK := Lib.hid (take_any w G B ar cr raw p vars props t out h (by omega))
  have hBw : B ≤ w.heap.size := by have := World.block_lt_of_cell? _ _ h.c0; have := h.new; simp at *; omega
  have hr := hraw p
  have hz1 := fT_end raw props d (p + 1) (t)
  have hz2 := fT_size raw props d (p + 1) (t)
  have hz5 := Tm.flat_len (fT raw props d (p + 1) (t)).1
  have ih1 := fun w' out' g h1 h2 => ih w' (p + 1) (t) out' g h1 h2 (by omega)
  have hz6 := fT_cnt raw props d (p + 1) (t)
  generalize fT raw props d (p + 1) (t) = t1 at *
  obtain ⟨tm1, p1, n1⟩ := t1
  simp only at hz1 hz2 hz5 ih1
  have HZ1 := Lib.hid (show p1 ≤ 14 + d + 30 by omega)
  have HZ5 := Lib.hid (show tm1.flat.length ≤ 20 by omega)
  have IH1 := Lib.hid ih1
  clear ih1 hz1 hz2 hz5 hz6 ih
  generalize rawAt raw p = r at *
  obtain ⟨⟨r1, r2⟩, r3, r4⟩ := hr
  have HPK := Lib.hid (picked_any r.1 16 · r1 r2 (by omega) (by omega))
  have hkb := pk_bd r.1 16 (by omega)
  have e0 : ((d : Int) + 1 == 0) = false := by rw [beq_eq_false_iff_ne]; omega
  have e1 : (0 : Int) ≤ d := by omega
  have hpI : ¬ (12 : Int) < (p : Int) + 1 := by omega
  rw [hk0] at HPK hkb
  obtain ⟨hkb1, hkb2⟩ := hkb
  have hm5 : k0.tmod 5 = k0 % 5 := Int.tmod_eq_emod_of_nonneg hkb1
  have hs5 : (4 : Int) + k0 % 5 = kk := hsel
  have hw5 : IntKind.i64.wrap ((4 : Int) + k0 % 5) = kk := by rw [hs5]; exact IntWalk.i64_in _ (by omega)
  clear hk0 hsel
  have hl4 : ¬ kk < 4 := by omega
  have hl8 : (8 : Int) < k0 := by omega
  have htI : ((t : Int) == 0) = true := by rw [ht0]; rfl
  have HT0 := Lib.hid ht0
  clear ht0
  go_enter Tryz.func33, Tryz.ntmps33
  go_wp2_with fail
  refine TK.out.mono ?_
  rintro e w1 ⟨rfl, g1, b1⟩
  have hg1 := g1.ext ((Ext.refl w1).alloc (Nat.le_refl _) (Obj.cells #[.int .i64 r.1, .int .i64 r.2] 130))
  have hb2 : Below B w (w1.alloc (Obj.cells #[.int .i64 r.1, .int .i64 r.2] 130)) := b1.alloc (by have := b1.size; omega) _
  have q0 : (w1.alloc (Obj.cells #[.int .i64 r.1, .int .i64 r.2] 130)).cell? ⟨w1.heap.size, 0, none⟩ = some (.int .i64 r.1) := by simp [go_sem]
  have q1 : (w1.alloc (Obj.cells #[.int .i64 r.1, .int .i64 r.2] 130)).cell? ⟨w1.heap.size, 1, none⟩ = some (.int .i64 r.2) := by simp [go_sem]
  have c1 := hg1.c1
  have c3 := hg1.c3
  have c4 := hg1.c4
  have f4 := hg1.fz 4
  have HG1 := Lib.hid hg1
  have HB2 := Lib.hid hb2
  clear TK g1 b1 hg1 hb2
  go_wp2_with fail
  refine (HPK.out _).mono ?_
  rintro e w' ⟨rfl, rfl⟩
  go_wp2_with fail
  refine (put_op _ G B ar cr raw (p + 1) vars props t out _ _ HG1.out (by omega)).mono ?_
  rintro e w2 ⟨rfl, hg2, hb3⟩
  have HG2 := Lib.hid hg2
  have HB3 := Lib.hid (HB2.out.trans hb3)
  clear hg2 hb3
  go_wp2_with fail
  refine (IH1.out w2 _ HG2.out (by omega) (by simp; omega)).mono ?_
  rintro e w3 ⟨rfl, hg3, hb4⟩
  have HG3 := Lib.hid hg3
  have HB4 := Lib.hid (HB3.out.trans hb4)
  clear hg3 hb4 HG2 HB3
  go_wp2
  go_end0
  exact FMade.mk rfl HG3.out HB4.out rfl rfl (by simp [Tm.flat])
set_option maxRecDepth 100000 in
set_option maxHeartbeats 2000000 in
theorem formula_bins (h : Gr w G B ar cr raw p vars props (t : Int) out) (hraw : RawF raw) (d : Nat) (hd : d ≤ 5) (hp12 : p < 12) (ho : out.length + 100 * (d + 1) ≤ 700) (htb : t ≤ 1000) (kk : Int) (k0 : Int) (hk0 : pk (rawAt raw p).1 16 = k0) (h8 : 8 < k0) (ht0 : t = 0) (hsel : 4 + k0 % 5 = kk) (hk6 : 6 ≤ kk) (hk9 : kk < 9)
    (ih : ∀ (w : World) (p : Nat) (t : Nat) (out : List Op2), Gr w G B ar cr raw p vars props (t : Int) out → p ≤ 14 + d + 30 → out.length + 100 * d ≤ 700 → t ≤ 1000 → Calls Tryz.prog 33 #[.pointer (some ⟨G, 0, none⟩), .int .i64 d] w (FMade w G B ar cr raw vars props out (fT raw props d p t)))
    : Calls Tryz.prog 33 #[.pointer (some ⟨G, 0, none⟩), .int .i64 ((d + 1 : Nat) : Int)] w (FMade w G B ar cr raw vars props out (.n2 (8 + kk % 2) 0 (fT raw props d (p + 1) t).1 (fT raw props d (fT raw props d (p + 1) t).2.1 (fT raw props d (p + 1) t).2.2).1, (fT raw props d (fT raw props d (p + 1) t).2.1 (fT raw props d (p + 1) t).2.2).2)) := by
  have TK := Lib.hid (take_any w G B ar cr raw p vars props t out h (by omega))
  have hBw : B ≤ w.heap.size := by have := World.block_lt_of_cell? _ _ h.c0; have := h.new; simp at *; omega
  have hr := hraw p
  have hz1 := fT_end raw props d (p + 1) (t)
  have hz2 := fT_size raw props d (p + 1) (t)
  have hz5 := Tm.flat_len (fT raw props d (p + 1) (t)).1
  have ih1 := fun w' out' g h1 h2 => ih w' (p + 1) (t) out' g h1 h2 (by omega)
  have hz6 := fT_cnt raw props d (p + 1) (t)
  have ih2 := fun w' out' g h1 h2 => ih w' (fT raw props d (p + 1) (t)).2.1 (fT raw props d (p + 1) (t)).2.2 out' g h1 h2 (by omega)
  generalize fT raw props d (p + 1) (t) = t1 at *
  generalize fT raw props d t1.2.1 t1.2.2 = t2 at *
  obtain ⟨tm1, p1, n1⟩ := t1
  obtain ⟨tm2, p2, n2⟩ := t2
  simp only at hz1 hz2 hz5 ih1 ih2
  have IH2 := Lib.hid ih2
  clear ih2
  have HZ1 := Lib.hid (show p1 ≤ 14 + d + 30 by omega)
  have HZ5 := Lib.hid (show tm1.flat.length ≤ 20 by omega)
  have IH1 := Lib.hid ih1
  clear ih1 hz1 hz2 hz5 hz6 ih
  generalize rawAt raw p = r at *
  obtain ⟨⟨r1, r2⟩, r3, r4⟩ := hr
  have HPK := Lib.hid (picked_any r.1 16 · r1 r2 (by omega) (by omega))
  have hkb := pk_bd r.1 16 (by omega)
  have e0 : ((d : Int) + 1 == 0) = false := by rw [beq_eq_false_iff_ne]; omega
  have e1 : (0 : Int) ≤ d := by omega
  have hpI : ¬ (12 : Int) < (p : Int) + 1 := by omega
  rw [hk0] at HPK hkb
  obtain ⟨hkb1, hkb2⟩ := hkb
  have hm5 : k0.tmod 5 = k0 % 5 := Int.tmod_eq_emod_of_nonneg hkb1
  have hs5 : (4 : Int) + k0 % 5 = kk := hsel
  have hw5 : IntKind.i64.wrap ((4 : Int) + k0 % 5) = kk := by rw [hs5]; exact IntWalk.i64_in _ (by omega)
  clear hk0 hsel
  have hl4 : ¬ kk < 4 := by omega
  have hl6 : ¬ kk < 6 := by omega
  have hl8 : (8 : Int) < k0 := by omega
  have htI : ((t : Int) == 0) = true := by rw [ht0]; rfl
  have HT0 := Lib.hid ht0
  clear ht0
  have hm2 : kk.tmod 2 = kk % 2 := Int.tmod_eq_emod_of_nonneg (by omega)
  have hw2 : IntKind.i64.wrap ((8 : Int) + kk % 2) = 8 + kk % 2 := IntWalk.i64_in _ (by omega)
  go_enter Tryz.func33, Tryz.ntmps33
  go_wp2_with fail
  refine TK.out.mono ?_
  rintro e w1 ⟨rfl, g1, b1⟩
  have hg1 := g1.ext ((Ext.refl w1).alloc (Nat.le_refl _) (Obj.cells #[.int .i64 r.1, .int .i64 r.2] 130))
  have hb2 : Below B w (w1.alloc (Obj.cells #[.int .i64 r.1, .int .i64 r.2] 130)) := b1.alloc (by have := b1.size; omega) _
  have q0 : (w1.alloc (Obj.cells #[.int .i64 r.1, .int .i64 r.2] 130)).cell? ⟨w1.heap.size, 0, none⟩ = some (.int .i64 r.1) := by simp [go_sem]
  have q1 : (w1.alloc (Obj.cells #[.int .i64 r.1, .int .i64 r.2] 130)).cell? ⟨w1.heap.size, 1, none⟩ = some (.int .i64 r.2) := by simp [go_sem]
  have c1 := hg1.c1
  have c3 := hg1.c3
  have c4 := hg1.c4
  have f4 := hg1.fz 4
  have HG1 := Lib.hid hg1
  have HB2 := Lib.hid hb2
  clear TK g1 b1 hg1 hb2
  go_wp2_with fail
  refine (HPK.out _).mono ?_
  rintro e w' ⟨rfl, rfl⟩
  go_wp2_with fail
  refine (put_op _ G B ar cr raw (p + 1) vars props t out _ _ HG1.out (by omega)).mono ?_
  rintro e w2 ⟨rfl, hg2, hb3⟩
  have HG2 := Lib.hid hg2
  have HB3 := Lib.hid (HB2.out.trans hb3)
  clear hg2 hb3
  go_wp2_with fail
  refine (IH1.out w2 _ HG2.out (by omega) (by simp; omega)).mono ?_
  rintro e w3 ⟨rfl, hg3, hb4⟩
  have HG3 := Lib.hid hg3
  have HB4 := Lib.hid (HB3.out.trans hb4)
  clear hg3 hb4 HG2 HB3
  go_wp2_with fail
  refine (IH2.out w3 _ HG3.out HZ1.out (by have := HZ5.out; simp at this ⊢; omega)).mono ?_
  rintro e w4 ⟨rfl, hg4, hb5⟩
  have HG4 := Lib.hid hg4
  have HB5 := Lib.hid (HB4.out.trans hb5)
  clear hg4 hb5 HG3 HB4
  go_wp2
  go_end0
  exact FMade.mk rfl HG4.out HB5.out rfl rfl (by simp [Tm.flat])
set_option maxRecDepth 100000 in
set_option maxHeartbeats 2000000 in
theorem formula_leafB (h : Gr w G B ar cr raw p vars props (t : Int) out) (hraw : RawF raw) (d : Nat) (hd : d ≤ 5) (hp12 : p < 12) (ho : out.length + 100 * (d + 1) ≤ 700) (hv : 0 < props) (hv2 : props ≤ 1000) (kk : Int) (hsel : pk (rawAt raw p).1 16 = kk) (hk4 : kk < 4)
    : Calls Tryz.prog 33 #[.pointer (some ⟨G, 0, none⟩), .int .i64 ((d + 1 : Nat) : Int)] w (FMade w G B ar cr raw vars props out (fLeaf (rawAt raw p) props, p + 1, t)) := by
  have TK := Lib.hid (take_any w G B ar cr raw p vars props t out h (by omega))
  have hBw : B ≤ w.heap.size := by have := World.block_lt_of_cell? _ _ h.c0; have := h.new; simp at *; omega
  have hr := hraw p
  generalize rawAt raw p = r at *
  obtain ⟨⟨r1, r2⟩, r3, r4⟩ := hr
  have HPK := Lib.hid (picked_any r.1 16 · r1 r2 (by omega) (by omega))
  have hkb := pk_bd r.1 16 (by omega)
  have e0 : ((d : Int) + 1 == 0) = false := by rw [beq_eq_false_iff_ne]; omega
  have e1 : (0 : Int) ≤ d := by omega
  have hpI : ¬ (12 : Int) < (p : Int) + 1 := by omega
  rw [hsel] at HPK hkb
  obtain ⟨hkb1, hkb2⟩ := hkb
  clear hsel
  have hl8 : ¬ (8 : Int) < kk := by omega
  have hfl : (fLeaf r props).flat = [(13, pk r.2 props)] := by unfold fLeaf; rw [if_pos hv]; rfl
  have HFL := Lib.hid hfl
  have HS := Lib.hid (fun wx : World => still_of (picked_any r.2 props wx r3 r4 hv (by omega)))
  clear hfl
  go_enter Tryz.func33, Tryz.ntmps33
  go_wp2_with fail
  refine TK.out.mono ?_
  rintro e w1 ⟨rfl, g1, b1⟩
  have hg1 := g1.ext ((Ext.refl w1).alloc (Nat.le_refl _) (Obj.cells #[.int .i64 r.1, .int .i64 r.2] 130))
  have hb2 : Below B w (w1.alloc (Obj.cells #[.int .i64 r.1, .int .i64 r.2] 130)) := b1.alloc (by have := b1.size; omega) _
  have q0 : (w1.alloc (Obj.cells #[.int .i64 r.1, .int .i64 r.2] 130)).cell? ⟨w1.heap.size, 0, none⟩ = some (.int .i64 r.1) := by simp [go_sem]
  have q1 : (w1.alloc (Obj.cells #[.int .i64 r.1, .int .i64 r.2] 130)).cell? ⟨w1.heap.size, 1, none⟩ = some (.int .i64 r.2) := by simp [go_sem]
  have c1 := hg1.c1
  have c3 := hg1.c3
  have c4 := hg1.c4
  have f4 := hg1.fz 4
  have HG1 := Lib.hid hg1
  have HB2 := Lib.hid hb2
  clear TK g1 b1 hg1 hb2
  go_wp2_with fail
  refine (HPK.out _).mono ?_
  rintro e w' ⟨rfl, rfl⟩
  go_wp2_with fail
  refine region_tail 8 (by kernel_rfl) (by kernel_rfl) ?_
  generalize (w1.alloc (Obj.cells #[.int .i64 r.1, .int .i64 r.2] 130)) = W at *
  have hg1' := HG1.out.ext (Below.drew (Ext.refl W))
  have hb1' := HB2.out.drew
  have q1' : W.drew.cell? ⟨w1.heap.size, 1, none⟩ = some (.int .i64 r.2) := q1
  have c3' : W.drew.cell? ⟨G, 3, none⟩ = some (.int .i64 props) := c3
  have HG1' := Lib.hid hg1'
  have HB1' := Lib.hid hb1'
  clear HG1 HB2 q0 q1 c1 c3 c4 f4 hg1' hb1'
  generalize W.drew = Wd at *
  simp only [List.take_succ_cons, List.take_zero, List.drop_succ_cons, List.drop_zero]
  iterate 7 still_step
  still_call (HS.out Wd)
  refine wpStill_nil ?_
  go_wp2_with fail
  refine (put_op _ G B ar cr raw (p + 1) vars props t out _ _ HG1'.out (by omega)).mono ?_
  rintro e w2 ⟨rfl, hg2, hb3⟩
  have HG2 := Lib.hid hg2
  have HB3 := Lib.hid (HB1'.out.trans hb3)
  clear hg2 hb3
  go_wp2
  go_end0
  exact FMade.mk rfl HG2.out HB3.out rfl rfl (by rw [HFL.out])
set_option maxRecDepth 100000 in
set_option maxHeartbeats 2000000 in
theorem formula_ah2 (h : Gr w G B ar cr raw p vars props (t : Int) out) (hraw : RawF raw) (d : Nat) (hd : d ≤ 5) (hp12 : p < 12) (ho : out.length + 100 * (d + 1) ≤ 700) (htb : t ≤ 1000) (kk : Int) (hsel : pk (rawAt raw p).1 16 = kk) (hk13 : 13 ≤ kk) (ht : t ≠ 0)
    (ih : ∀ (w : World) (p : Nat) (t : Nat) (out : List Op2), Gr w G B ar cr raw p vars props (t : Int) out → p ≤ 14 + d + 30 → out.length + 100 * d ≤ 700 → t ≤ 1000 → Calls Tryz.prog 33 #[.pointer (some ⟨G, 0, none⟩), .int .i64 d] w (FMade w G B ar cr raw vars props out (fT raw props d p t)))
    : Calls Tryz.prog 33 #[.pointer (some ⟨G, 0, none⟩), .int .i64 ((d + 1 : Nat) : Int)] w (FMade w G B ar cr raw vars props out (.n2 (15 + kk % 2) 0 (fT raw props d (p + 1) (t - 1)).1 (fT raw props d (fT raw props d (p + 1) (t - 1)).2.1 (fT raw props d (p + 1) (t - 1)).2.2).1, (fT raw props d (fT raw props d (p + 1) (t - 1)).2.1 (fT raw props d (p + 1) (t - 1)).2.2).2)) := by
  have TK := Lib.hid (take_any w G B ar cr raw p vars props t out h (by omega))
  have hBw : B ≤ w.heap.size := by have := World.block_lt_of_cell? _ _ h.c0; have := h.new; simp at *; omega
  have hr := hraw p
  have hz1 := fT_end raw props d (p + 1) (t - 1)
  have hz2 := fT_size raw props d (p + 1) (t - 1)
  have hz5 := Tm.flat_len (fT raw props d (p + 1) (t - 1)).1
  have ih1 := fun w' out' g h1 h2 => ih w' (p + 1) (t - 1) out' g h1 h2 (by omega)
  have hz6 := fT_cnt raw props d (p + 1) (t - 1)
  have ih2 := fun w' out' g h1 h2 => ih w' (fT raw props d (p + 1) (t - 1)).2.1 (fT raw props d (p + 1) (t - 1)).2.2 out' g h1 h2 (by omega)
  generalize fT raw props d (p + 1) (t - 1) = t1 at *
  generalize fT raw props d t1.2.1 t1.2.2 = t2 at *
  obtain ⟨tm1, p1, n1⟩ := t1
  obtain ⟨tm2, p2, n2⟩ := t2
  simp only at hz1 hz2 hz5 ih1 ih2
  have IH2 := Lib.hid ih2
  clear ih2
  have HZ1 := Lib.hid (show p1 ≤ 14 + d + 30 by omega)
  have HZ5 := Lib.hid (show tm1.flat.length ≤ 20 by omega)
  have IH1 := Lib.hid ih1
  clear ih1 hz1 hz2 hz5 hz6 ih
  generalize rawAt raw p = r at *
  obtain ⟨⟨r1, r2⟩, r3, r4⟩ := hr
  have HPK := Lib.hid (picked_any r.1 16 · r1 r2 (by omega) (by omega))
  have hkb := pk_bd r.1 16 (by omega)
  have e0 : ((d : Int) + 1 == 0) = false := by rw [beq_eq_false_iff_ne]; omega
  have e1 : (0 : Int) ≤ d := by omega
  have hpI : ¬ (12 : Int) < (p : Int) + 1 := by omega
  rw [hsel] at HPK hkb
  obtain ⟨hkb1, hkb2⟩ := hkb
  clear hsel
  have hl4 : ¬ kk < 4 := by omega
  have hl6 : ¬ kk < 6 := by omega
  have hl9 : ¬ kk < 9 := by omega
  have hl8 : (8 : Int) < kk := by omega
  have htI : ((t : Int) == 0) = false := by rw [beq_eq_false_iff_ne]; omega
  have htm : (t : Int) - 1 = ((t - 1 : Nat) : Int) := by omega
  have hwt : IntKind.i64.wrap ((t : Int) - 1) = ((t - 1 : Nat) : Int) := by rw [htm]; exact IntWalk.i64_in _ (by omega)
  have hl13 : ¬ kk < 13 := by omega
  have hm2 : kk.tmod 2 = kk % 2 := Int.tmod_eq_emod_of_nonneg (by omega)
  have hw2 : IntKind.i64.wrap ((15 : Int) + kk % 2) = 15 + kk % 2 := IntWalk.i64_in _ (by omega)
  go_enter Tryz.func33, Tryz.ntmps33
  go_wp2_with fail
  refine TK.out.mono ?_
  rintro e w1 ⟨rfl, g1, b1⟩
  have hg1 := g1.ext ((Ext.refl w1).alloc (Nat.le_refl _) (Obj.cells #[.int .i64 r.1, .int .i64 r.2] 130))
  have hb2 : Below B w (w1.alloc (Obj.cells #[.int .i64 r.1, .int .i64 r.2] 130)) := b1.alloc (by have := b1.size; omega) _
  have q0 : (w1.alloc (Obj.cells #[.int .i64 r.1, .int .i64 r.2] 130)).cell? ⟨w1.heap.size, 0, none⟩ = some (.int .i64 r.1) := by simp [go_sem]
  have q1 : (w1.alloc (Obj.cells #[.int .i64 r.1, .int .i64 r.2] 130)).cell? ⟨w1.heap.size, 1, none⟩ = some (.int .i64 r.2) := by simp [go_sem]
  have c1 := hg1.c1
  have c3 := hg1.c3
  have c4 := hg1.c4
  have f4 := hg1.fz 4
  have HG1 := Lib.hid hg1
  have HB2 := Lib.hid hb2
  clear TK g1 b1 hg1 hb2
  go_wp2_with fail
  refine (HPK.out _).mono ?_
  rintro e w' ⟨rfl, rfl⟩
  have hgt := HG1.out.tempo' ((t - 1 : Nat) : Int)
  have hbt := HB2.out.setCell (p := ⟨G, 4, none⟩) HG1.out.new (.int .i64 ((t - 1 : Nat) : Int))
  have HGT := Lib.hid hgt
  have HBT := Lib.hid hbt
  clear hgt hbt
  go_wp2_with fail
  refine (put_op _ G B ar cr raw (p + 1) vars props ((t - 1 : Nat) : Int) out _ _ HGT.out (by omega)).mono ?_
  rintro e w2 ⟨rfl, hg2, hb3⟩
  have HG2 := Lib.hid hg2
  have HB3 := Lib.hid (HBT.out.trans hb3)
  clear hg2 hb3
  go_wp2_with fail
  refine (IH1.out w2 _ HG2.out (by omega) (by simp; omega)).mono ?_
  rintro e w3 ⟨rfl, hg3, hb4⟩
  have HG3 := Lib.hid hg3
  have HB4 := Lib.hid (HB3.out.trans hb4)
  clear hg3 hb4 HG2 HB3
  go_wp2_with fail
  refine (IH2.out w3 _ HG3.out HZ1.out (by have := HZ5.out; simp at this ⊢; omega)).mono ?_
  rintro e w4 ⟨rfl, hg4, hb5⟩
  have HG4 := Lib.hid hg4
  have HB5 := Lib.hid (HB4.out.trans hb5)
  clear hg4 hb5 HG3 HB4
  go_wp2
  go_end0
  exact FMade.mk rfl HG4.out HB5.out rfl rfl (by simp [Tm.flat])
set_option maxRecDepth 100000 in
set_option maxHeartbeats 2000000 in
theorem formula_ah1 (h : Gr w G B ar cr raw p vars props (t : Int) out) (hraw : RawF raw) (d : Nat) (hd : d ≤ 5) (hp12 : p < 12) (ho : out.length + 100 * (d + 1) ≤ 700) (htb : t ≤ 1000) (kk : Int) (hsel : pk (rawAt raw p).1 16 = kk) (hk9 : 9 ≤ kk) (hk13 : kk < 13) (ht : t ≠ 0)
    (ih : ∀ (w : World) (p : Nat) (t : Nat) (out : List Op2), Gr w G B ar cr raw p vars props (t : Int) out → p ≤ 14 + d + 30 → out.length + 100 * d ≤ 700 → t ≤ 1000 → Calls Tryz.prog 33 #[.pointer (some ⟨G, 0, none⟩), .int .i64 d] w (FMade w G B ar cr raw vars props out (fT raw props d p t)))
    : Calls Tryz.prog 33 #[.pointer (some ⟨G, 0, none⟩), .int .i64 ((d + 1 : Nat) : Int)] w (FMade w G B ar cr raw vars props out (.n1 (aheadK kk) 0 (fT raw props d (p + 1) (t - 1)).1, (fT raw props d (p + 1) (t - 1)).2)) := by
  have TK := Lib.hid (take_any w G B ar cr raw p vars props t out h (by omega))
  have hBw : B ≤ w.heap.size := by have := World.block_lt_of_cell? _ _ h.c0; have := h.new; simp at *; omega
  have hr := hraw p
  have hz1 := fT_end raw props d (p + 1) (t - 1)
  have hz2 := fT_size raw props d (p + 1) (t - 1)
  have hz5 := Tm.flat_len (fT raw props d (p + 1) (t - 1)).1
  have ih1 := fun w' out' g h1 h2 => ih w' (p + 1) (t - 1) out' g h1 h2 (by omega)
  have hz6 := fT_cnt raw props d (p + 1) (t - 1)
  generalize fT raw props d (p + 1) (t - 1) = t1 at *
  obtain ⟨tm1, p1, n1⟩ := t1
  simp only at hz1 hz2 hz5 ih1
  have HZ1 := Lib.hid (show p1 ≤ 14 + d + 30 by omega)
  have HZ5 := Lib.hid (show tm1.flat.length ≤ 20 by omega)
  have IH1 := Lib.hid ih1
  clear ih1 hz1 hz2 hz5 hz6 ih
  generalize rawAt raw p = r at *
  obtain ⟨⟨r1, r2⟩, r3, r4⟩ := hr
  have HPK := Lib.hid (picked_any r.1 16 · r1 r2 (by omega) (by omega))
  have hkb := pk_bd r.1 16 (by omega)
  have e0 : ((d : Int) + 1 == 0) = false := by rw [beq_eq_false_iff_ne]; omega
  have e1 : (0 : Int) ≤ d := by omega
  have hpI : ¬ (12 : Int) < (p : Int) + 1 := by omega
  rw [hsel] at HPK hkb
  obtain ⟨hkb1, hkb2⟩ := hkb
  clear hsel
  have htI : ((t : Int) == 0) = false := by rw [beq_eq_false_iff_ne]; omega
  have htm : (t : Int) - 1 = ((t - 1 : Nat) : Int) := by omega
  have hwt : IntKind.i64.wrap ((t : Int) - 1) = ((t - 1 : Nat) : Int) := by rw [htm]; exact IntWalk.i64_in _ (by omega)
  have hkv : kk = 9 ∨ kk = 10 ∨ kk = 11 ∨ kk = 12 := by omega
  clear hk9 hk13 hkb1 hkb2
  rcases hkv with rfl | rfl | rfl | rfl
  all_goals
    go_enter Tryz.func33, Tryz.ntmps33
    go_wp2_with fail
    refine TK.out.mono ?_
    rintro e w1 ⟨rfl, g1, b1⟩
    have hg1 := g1.ext ((Ext.refl w1).alloc (Nat.le_refl _) (Obj.cells #[.int .i64 r.1, .int .i64 r.2] 130))
    have hb2 : Below B w (w1.alloc (Obj.cells #[.int .i64 r.1, .int .i64 r.2] 130)) := b1.alloc (by have := b1.size; omega) _
    have q0 : (w1.alloc (Obj.cells #[.int .i64 r.1, .int .i64 r.2] 130)).cell? ⟨w1.heap.size, 0, none⟩ = some (.int .i64 r.1) := by simp [go_sem]
    have q1 : (w1.alloc (Obj.cells #[.int .i64 r.1, .int .i64 r.2] 130)).cell? ⟨w1.heap.size, 1, none⟩ = some (.int .i64 r.2) := by simp [go_sem]
    have c1 := hg1.c1
    have c3 := hg1.c3
    have c4 := hg1.c4
    have f4 := hg1.fz 4
    have HG1 := Lib.hid hg1
    have HB2 := Lib.hid hb2
    clear TK g1 b1 hg1 hb2
    go_wp2_with fail
    refine (HPK.out _).mono ?_
    rintro e w' ⟨rfl, rfl⟩
    have hgt := HG1.out.tempo' ((t - 1 : Nat) : Int)
    have hbt := HB2.out.setCell (p := ⟨G, 4, none⟩) HG1.out.new (.int .i64 ((t - 1 : Nat) : Int))
    have HGT := Lib.hid hgt
    have HBT := Lib.hid hbt
    clear hgt hbt
    go_wp2_with fail
    refine (put_op _ G B ar cr raw (p + 1) vars props ((t - 1 : Nat) : Int) out _ _ (HGT.out.ext ((Ext.refl _).alloc (Nat.le_refl _) _)) (by omega)).mono ?_
    rintro e w2 ⟨rfl, hg2, hb3⟩
    have HG2 := Lib.hid hg2
    have HB3 := Lib.hid ((HBT.out.alloc (by have := HBT.out.size; omega) _).trans hb3)
    clear hg2 hb3
    go_wp2_with fail
    refine (IH1.out w2 _ HG2.out (by omega) (by simp; omega)).mono ?_
    rintro e w3 ⟨rfl, hg3, hb4⟩
    have HG3 := Lib.hid hg3
    have HB4 := Lib.hid (HB3.out.trans hb4)
    clear hg3 hb4 HG2 HB3
    go_wp2
    go_end0
    exact FMade.mk rfl HG3.out HB4.out rfl rfl (by simp [Tm.flat, aheadK])
end
end Go.Proofs.YtciihiiacbnimaaGreatDoor

namespace Go.Proofs.YtciihiiacbnimaaGreatDoor
open Go.RowKit
theorem formula_any (G B : Nat) (ar : Option Addr) (cr : Nat) (raw : List Op2) (vars props : Int) (hraw : RawF raw) (hv : 0 < props) (hv2 : props ≤ 1000) :
    ∀ (d : Nat), d ≤ 6 → ∀ (w : World) (p t : Nat) (out : List Op2), Gr w G B ar cr raw p vars props (t : Int) out → p ≤ 14 + d + 30 → out.length + 100 * d ≤ 700 → t ≤ 1000 →
    Calls Tryz.prog 33 #[.pointer (some ⟨G, 0, none⟩), .int .i64 d] w (FMade w G B ar cr raw vars props out (fT raw props d p t)) := by
  intro d
  induction d with
  | zero =>
    intro _ w p t out h hp ho _
    exact formula_leaf w G B ar cr raw p vars props t out h hraw (by omega) (by omega) hv hv2 0 (.inl rfl)
  | succ d ih =>
    intro hd w p t out h hp ho ht
    have ih' := ih (by omega)
    have hb := fKind_bd (rawAt raw p) (d + 1) p t
    unfold fT
    by_cases hp12 : p < 12
    · have hk0 : fKind0 (rawAt raw p) (d + 1) p = pk (rawAt raw p).1 16 := by unfold fKind0; rw [if_neg (by omega)]
      by_cases hs : 8 < fKind0 (rawAt raw p) (d + 1) p ∧ t = 0
      · have hk : fKind (rawAt raw p) (d + 1) p t = 4 + fKind0 (rawAt raw p) (d + 1) p % 5 := by unfold fKind; rw [if_pos hs]
        rw [if_neg (by omega)]
        rw [hk0] at hs hk
        split
        · exact formula_nots w G B ar cr raw p vars props t out h hraw d (by omega) hp12 ho ht _ _ rfl hs.1 hs.2 hk.symm (by omega) (by omega) ih'
        · rw [if_pos (by omega)]
          exact formula_bins w G B ar cr raw p vars props t out h hraw d (by omega) hp12 ho ht _ _ rfl hs.1 hs.2 hk.symm (by omega) (by omega) ih'
      · have hk : fKind (rawAt raw p) (d + 1) p t = fKind0 (rawAt raw p) (d + 1) p := by unfold fKind; rw [if_neg hs]
        rw [hk0] at hk
        have ht0 : ¬ fKind (rawAt raw p) (d + 1) p t < 9 → t ≠ 0 := fun h e => h (hb.2.2.2 e)
        split
        · exact formula_leafB w G B ar cr raw p vars props t out h hraw d (by omega) hp12 ho hv hv2 _ hk.symm (by omega)
        · split
          · exact formula_not w G B ar cr raw p vars props t out h hraw d (by omega) hp12 ho ht _ hk.symm (by omega) (by omega) ih'
          · split
            · exact formula_bin w G B ar cr raw p vars props t out h hraw d (by omega) hp12 ho ht _ hk.symm (by omega) (by omega) ih'
            · rename_i h9
              split
              · exact formula_ah1 w G B ar cr raw p vars props t out h hraw d (by omega) hp12 ho ht _ hk.symm (by omega) (by omega) (ht0 h9) ih'
              · exact formula_ah2 w G B ar cr raw p vars props t out h hraw d (by omega) hp12 ho ht _ hk.symm (by omega) (ht0 h9) ih'
    · rw [if_pos (by omega)]
      exact formula_leaf w G B ar cr raw p vars props t out h hraw (by omega) (by omega) hv hv2 ((d + 1 : Nat) : Int) (.inr (by omega))
def forO (raw : List Op2) (props : Int) (t : Nat) : Tm := (fT raw props 4 0 t).1
set_option maxRecDepth 100000 in
set_option maxHeartbeats 1000000 in
theorem mkFormula (v : Value) (raw : List Op2) (props : Int) (t : Nat) (w : World) (h : Ops w v raw) (hraw : RawF raw) (hv : 0 < props) (hv2 : props ≤ 1000) (ht : t ≤ 1000) :
    Calls Tryz.prog 12 #[v, .int .i64 props, .int .i64 (t : Int)] w fun e w' => ∃ v', e = .returned v' ∧ w'.ownsRow w.heap.size 102 2 v' (forO raw props t).flat.length ((forO raw props t).flat.flatMap opc) ∧ Ext w w' := by
  obtain ⟨ar, cr, rfl, hr⟩ := h
  have hE : Ext w (w.alloc (Obj.cells #[.slice ar raw.length cr, .int .i64 0, .int .i64 0, .int .i64 props, .int .i64 (t : Int), .slice none 0 0] 106)) := (Ext.refl w).alloc (Nat.le_refl _) _
  have hg : Gr (w.alloc (Obj.cells #[.slice ar raw.length cr, .int .i64 0, .int .i64 0, .int .i64 props, .int .i64 (t : Int), .slice none 0 0] 106)) w.heap.size w.heap.size ar cr raw 0 0 props (t : Int) [] :=
    ⟨by simp [go_sem], by simp [go_sem], by simp [go_sem], by simp [go_sem], by simp [go_sem], ⟨none, 0, by simp [go_sem], World.ownsRow_nil _ _ _ _, by simp [Value.ownBlock]⟩, fun i => by simp [go_sem], hr.ext hE,
      fun q hq hx => by subst hq; exact hr.blk (by rw [opc_len]; omega), Nat.le_refl _⟩
  have HC := Lib.hid (formula_any w.heap.size w.heap.size ar cr raw 0 props hraw hv hv2 4 (by omega) _ 0 t [] hg (by omega) (by simp) ht)
  have hbel := hE
  clear hr
  go_enter Tryz.func12, Tryz.ntmps12
  go_wp2_with fail
  refine HC.out.mono ?_
  rintro e w2 ⟨rfl, g2, b2⟩
  obtain ⟨ao, co, c5, h6, _⟩ := g2.c5
  have H6 := Lib.hid h6
  have HE2 : Hid (Ext w w2) := Below.trans hE b2
  clear h6 g2 b2 hg hE hbel
  go_wp2
  go_ret
  exact ⟨_, rfl, H6.out, HE2.out⟩
end Go.Proofs.YtciihiiacbnimaaGreatDoor

namespace Go.Proofs.YtciihiiacbnimaaGreatDoor
open Go.RowKit
set_option maxRecDepth 100000 in
theorem raw_for {W : World} {v : Value} (h : Cells Tryz.prog W 26 [v]) : ∃ raw, Ops W v raw ∧ RawF raw := by
  obtain ⟨a, cap, xss, hv, hr, hx⟩ := h.slice (sz := 2) Tryz.underlying26 (by kernel_rfl)
  have each : ∀ xs ∈ xss, ∃ o : { o : Op2 // I64 o.1 ∧ I64 o.2 }, xs = opc o.val := by
    intro xs hxs
    obtain ⟨hl, hc⟩ := hx xs hxs
    obtain ⟨_, hf⟩ := hc.field Tryz.underlying130
    match xs, hl with
    | [x, y], _ =>
      have c1 : Tryz.prog.cellsOf 3 = 1 := by kernel_rfl
      have f0 : Cells Tryz.prog W 3 [x] := by have := hf 0 _ rfl; simpa [c1] using this
      have f1 : Cells Tryz.prog W 3 [y] := by have := hf 1 _ rfl; simpa [c1] using this
      obtain ⟨m, e0, i0⟩ := Cells.i64 Tryz.underlying3 f0
      obtain ⟨n, e1, i1⟩ := Cells.i64 Tryz.underlying3 f1
      simp at e0 e1
      subst e0; subst e1
      exact ⟨⟨(m, n), i0, i1⟩, rfl⟩
  have build : ∀ yss : List (List Value), (∀ xs ∈ yss, ∃ o : { o : Op2 // I64 o.1 ∧ I64 o.2 }, xs = opc o.val) → ∃ raw : List Op2, yss.length = raw.length ∧ yss.flatten = raw.flatMap opc ∧ ∀ o ∈ raw, I64 o.1 ∧ I64 o.2 := by
    intro yss
    induction yss with
    | nil => intro _; exact ⟨[], rfl, rfl, by simp⟩
    | cons ys yss ih =>
      intro h
      obtain ⟨o, rfl⟩ := h ys (by simp)
      obtain ⟨raw, h1, h2, h3⟩ := ih (fun xs hxs => h xs (by simp [hxs]))
      refine ⟨o.val :: raw, by simp [h1], by simp [h2], ?_⟩
      intro q hq
      rcases List.mem_cons.1 hq with rfl | hq
      · exact o.property
      · exact h3 q hq
  obtain ⟨raw, h1, h2, h3⟩ := build xss each
  simp only [List.cons.injEq, and_true] at hv
  rw [h1, h2] at hr
  refine ⟨raw, ⟨a, cap, by rw [hv, h1], hr⟩, fun p => ?_⟩
  unfold rawAt
  rw [List.getD_eq_getElem?_getD]
  by_cases hp : p < raw.length
  · rw [List.getElem?_eq_getElem hp]; exact h3 _ (by simp)
  · rw [List.getElem?_eq_none (by omega)]; simp [I64]
end Go.Proofs.YtciihiiacbnimaaGreatDoor

namespace Go.Proofs.YtciihiiacbnimaaGreatDoor
open Go.RowKit
def RawI (raw : List Op2) : Prop := ∀ p, I64 (rawAt raw p).1 ∧ I64 (rawAt raw p).2
def Made (w : World) (G B : Nat) (ar : Option Addr) (cr : Nat) (raw : List Op2) (vars props tempo : Int) (out : List Op2) (r : Tm × Nat) (e : Ending) (w' : World) : Prop :=
  e = .returned (.tuple #[]) ∧ Gr w' G B ar cr raw r.2 vars props tempo (out ++ r.1.flat) ∧ Below B w w'
theorem Made.mk {w w' : World} {G B : Nat} {ar : Option Addr} {cr : Nat} {raw : List Op2} {vars props tempo : Int} {out out' : List Op2} {r : Tm × Nat} {e : Ending} {p : Nat}
    (he : e = .returned (.tuple #[])) (hg : Gr w' G B ar cr raw p vars props tempo out') (hb : Below B w w') (hp : p = r.2) (ho : out' = out ++ r.1.flat) : Made w G B ar cr raw vars props tempo out r e w' := by
  subst hp; subst ho; exact ⟨he, hg, hb⟩
set_option maxRecDepth 100000 in
set_option maxHeartbeats 2000000 in
theorem number_zero (w : World) (G B : Nat) (ar : Option Addr) (cr : Nat) (raw : List Op2) (p : Nat) (vars props tempo : Int) (out : List Op2) (h : Gr w G B ar cr raw p vars props tempo out)
    (hraw : RawI raw) (hp : p ≤ 1000) (ho : out.length ≤ 1000) (hv2 : vars ≤ 1000) :
    Calls Tryz.prog 57 #[.pointer (some ⟨G, 0, none⟩), .int .i64 0] w (Made w G B ar cr raw vars props tempo out (numT raw vars 0 p)) := by
  have TK := Lib.hid (take_any w G B ar cr raw p vars props tempo out h (by omega))
  have hBw : B ≤ w.heap.size := by have := World.block_lt_of_cell? _ _ h.c0; have := h.new; simp at *; omega
  have hr := hraw p
  have hfin : numT raw vars 0 p = (numLeaf (rawAt raw p) vars (pk (rawAt raw p).1 2), p + 1) := rfl
  rw [hfin]
  generalize rawAt raw p = r at *
  obtain ⟨⟨r1, r2⟩, r3, r4⟩ := hr
  have hp2 := pk_bd r.1 2 (by omega)
  have hp9 := pk_bd r.2 9 (by omega)
  obtain ⟨x1, x2⟩ := hp2
  obtain ⟨x3, x4⟩ := hp9
  have HF := Lib.hid hfin
  have Hp5 := Lib.hid (pk_bd r.1 5 (by omega))
  clear h hraw hfin
  go_enter Tryz.func57, Tryz.ntmps57
  go_wp2_with fail
  refine TK.out.mono ?_
  rintro e w1 ⟨rfl, g1, b1⟩
  have hg1 := g1.ext ((Ext.refl w1).alloc (Nat.le_refl _) (Obj.cells #[.int .i64 r.1, .int .i64 r.2] 130))
  have hb1 : Below B w (w1.alloc (Obj.cells #[.int .i64 r.1, .int .i64 r.2] 130)) := b1.alloc (by have := b1.size; omega) _
  have q0 : (w1.alloc (Obj.cells #[.int .i64 r.1, .int .i64 r.2] 130)).cell? ⟨w1.heap.size, 0, none⟩ = some (.int .i64 r.1) := by simp [go_sem]
  have q1 : (w1.alloc (Obj.cells #[.int .i64 r.1, .int .i64 r.2] 130)).cell? ⟨w1.heap.size, 1, none⟩ = some (.int .i64 r.2) := by simp [go_sem]
  have c1 := hg1.c1
  have c2 := hg1.c2
  clear TK g1 b1
  go_wp2_with fail
  refine (picked_any r.1 5 _ r1 r2 (by omega) (by omega)).mono ?_
  rintro e w' ⟨rfl, rfl⟩
  go_wp2_with fail
  refine (picked_any r.1 2 _ r1 r2 (by omega) (by omega)).mono ?_
  rintro e w' ⟨rfl, rfl⟩
  go_wp2_with fail
  · have hk : pk r.1 2 = 1 := by assumption
    have hv : 0 < vars := by assumption
    have hpv := pk_bd r.2 vars hv
    have HS := Lib.hid (fun wx : World => still_of (picked_any r.2 vars wx r3 r4 hv (by omega)))
    have Hk := Lib.hid hk
    clear hk
    refine region_tail 8 (by kernel_rfl) (by kernel_rfl) ?_
    generalize (w1.alloc (Obj.cells #[.int .i64 r.1, .int .i64 r.2] 130)) = W at *
    have hg1' := hg1.ext (Below.drew (Ext.refl W))
    have hb1' := hb1.drew
    have q0' : W.drew.cell? ⟨w1.heap.size, 1, none⟩ = some (.int .i64 r.2) := q1
    have c2' : W.drew.cell? ⟨G, 2, none⟩ = some (.int .i64 vars) := c2
    generalize W.drew = Wd at *
    clear hg1 hb1 q0 q1 c1 c2
    simp only [List.take_succ_cons, List.take_zero, List.drop_succ_cons, List.drop_zero]
    iterate 7 still_step
    still_call (HS.out Wd)
    refine wpStill_nil ?_
    go_wp2_with fail
    refine (put_op _ G B ar cr raw (p + 1) vars props tempo out _ _ hg1' (by omega)).mono ?_
    rintro e w2 ⟨rfl, hg2, hb2⟩
    go_wp2
    go_end0
    exact Made.mk rfl hg2 (hb1'.trans hb2) rfl (by simp [numLeaf, Hk.out, hv, Tm.flat])
  all_goals
    refine (picked_any r.2 9 _ r3 r4 (by omega) (by omega)).mono ?_
    rintro e w' ⟨rfl, rfl⟩
    go_wp2_with fail
    refine (put_op _ G B ar cr raw (p + 1) vars props tempo out _ _ hg1 (by omega)).mono ?_
    rintro e w2 ⟨rfl, hg2, hb2⟩
    have hcond : ¬ (pk r.1 2 = 1 ∧ 0 < vars) := by omega
    have Hc := Lib.hid hcond
    clear hcond
    go_wp2
    go_end0
    exact Made.mk rfl hg2 (hb1.trans hb2) rfl (by simp [numLeaf, Hc.out, Tm.flat])
set_option maxRecDepth 100000 in
set_option maxHeartbeats 2000000 in
theorem number_succ (w : World) (G B : Nat) (ar : Option Addr) (cr : Nat) (raw : List Op2) (p : Nat) (vars props tempo : Int) (out : List Op2) (h : Gr w G B ar cr raw p vars props tempo out)
    (hraw : RawI raw) (b : Nat) (hp : p + 200 ≤ b) (ho : out.length + 200 ≤ b) (hv2 : vars ≤ 1000) (d : Nat) (_hd : d ≤ 10) (hb8 : b ≤ 1000) (hs : ∀ q, (numT raw vars d q).1.size ≤ 100)
    (ih : ∀ (w : World) (p : Nat) (out : List Op2), Gr w G B ar cr raw p vars props tempo out → p ≤ b → out.length ≤ b → Calls Tryz.prog 57 #[.pointer (some ⟨G, 0, none⟩), .int .i64 d] w (Made w G B ar cr raw vars props tempo out (numT raw vars d p))) :
    Calls Tryz.prog 57 #[.pointer (some ⟨G, 0, none⟩), .int .i64 ((d + 1 : Nat) : Int)] w (Made w G B ar cr raw vars props tempo out (numT raw vars (d + 1) p)) := by
  have TK := Lib.hid (take_any w G B ar cr raw p vars props tempo out h (by omega))
  have hBw : B ≤ w.heap.size := by have := World.block_lt_of_cell? _ _ h.c0; have := h.new; simp at *; omega
  have hr := hraw p
  have hfin : numT raw vars (d + 1) p = if numKind (rawAt raw p) p < 2 then (numLeaf (rawAt raw p) vars (numKind (rawAt raw p) p), p + 1)
    else (.n2 (numKind (rawAt raw p) p + 1) 0 (numT raw vars d (p + 1)).1 (numT raw vars d (numT raw vars d (p + 1)).2).1, (numT raw vars d (numT raw vars d (p + 1)).2).2) := rfl
  rw [hfin]
  have hkb := numKind_bd (rawAt raw p) p
  have hk0 : numKind (rawAt raw p) p = if 14 < p + 1 then pk (rawAt raw p).1 2 else pk (rawAt raw p).1 5 := rfl
  have hz1 := numT_size raw vars d (p + 1)
  have hz2 := numT_size raw vars d (numT raw vars d (p + 1)).2
  have hz3 := hs (p + 1)
  have hz4 := hs (numT raw vars d (p + 1)).2
  have hz5 := Tm.flat_len (numT raw vars d (p + 1)).1
  have ih1 := fun w' out' g h1 h2 => ih w' (p + 1) out' g h1 h2
  have ih2 := fun w' out' g h1 h2 => ih w' (numT raw vars d (p + 1)).2 out' g h1 h2
  generalize rawAt raw p = r at *
  generalize numKind r p = kk at *
  obtain ⟨z1, z2⟩ := hkb
  generalize numT raw vars d (p + 1) = t1 at *
  generalize numT raw vars d t1.2 = t2 at *
  generalize hres : (if kk < 2 then (numLeaf r vars kk, p + 1) else (Tm.n2 (kk + 1) 0 t1.1 t2.1, t2.2)) = res at *
  have HRES := Lib.hid hres
  clear hres
  obtain ⟨tm1, p1⟩ := t1
  obtain ⟨tm2, p2⟩ := t2
  simp only at hz1 hz2 hz3 hz4 hz5 ih1 ih2
  have IH1 := Lib.hid ih1
  have IH2 := Lib.hid ih2
  have HZ1 := Lib.hid hz1
  have HZ2 := Lib.hid hz2
  have HZ5 := Lib.hid hz5
  have HZ := Lib.hid hs
  have HI := Lib.hid ih
  clear ih1 ih2 hz1 hz2 hz5 ih hs
  obtain ⟨⟨r1, r2⟩, r3, r4⟩ := hr
  have hp2 := pk_bd r.1 2 (by omega)
  have hp5 := pk_bd r.1 5 (by omega)
  have hp9 := pk_bd r.2 9 (by omega)
  obtain ⟨x1, x2⟩ := hp2
  obtain ⟨x3, x4⟩ := hp9
  have HF := Lib.hid hfin
  have Hp5 := Lib.hid hp5
  have HK := Lib.hid hk0
  clear hk0 hp5
  clear h hraw hfin
  by_cases hc : 14 < p + 1
  · have hkk : kk = pk r.1 2 := by rw [HK.out, if_pos hc]
    have HKK := Lib.hid hkk
    have HKK2 : Hid (kk < 2) := by show kk < 2; omega
    have hd0 : (0 : Int) ≤ d := by omega
    clear hkk
    go_enter Tryz.func57, Tryz.ntmps57
    go_wp2_with fail
    refine TK.out.mono ?_
    rintro e w1 ⟨rfl, g1, b1⟩
    have hg1 := g1.ext ((Ext.refl w1).alloc (Nat.le_refl _) (Obj.cells #[.int .i64 r.1, .int .i64 r.2] 130))
    have hb1 : Below B w (w1.alloc (Obj.cells #[.int .i64 r.1, .int .i64 r.2] 130)) := b1.alloc (by have := b1.size; omega) _
    have q0 : (w1.alloc (Obj.cells #[.int .i64 r.1, .int .i64 r.2] 130)).cell? ⟨w1.heap.size, 0, none⟩ = some (.int .i64 r.1) := by simp [go_sem]
    have q1 : (w1.alloc (Obj.cells #[.int .i64 r.1, .int .i64 r.2] 130)).cell? ⟨w1.heap.size, 1, none⟩ = some (.int .i64 r.2) := by simp [go_sem]
    have c1 := hg1.c1
    have c2 := hg1.c2
    clear TK g1 b1
    go_wp2_with fail
    refine (picked_any r.1 5 _ r1 r2 (by omega) (by omega)).mono ?_
    rintro e w' ⟨rfl, rfl⟩
    go_wp2_with fail
    refine (picked_any r.1 2 _ r1 r2 (by omega) (by omega)).mono ?_
    rintro e w' ⟨rfl, rfl⟩
    go_wp2_with fail
    · have hk : pk r.1 2 = 1 := by assumption
      have hv : 0 < vars := by assumption
      have hpv := pk_bd r.2 vars hv
      have HS := Lib.hid (fun wx : World => still_of (picked_any r.2 vars wx r3 r4 hv (by omega)))
      have Hk := Lib.hid hk
      clear hk
      refine region_tail 8 (by kernel_rfl) (by kernel_rfl) ?_
      generalize (w1.alloc (Obj.cells #[.int .i64 r.1, .int .i64 r.2] 130)) = W at *
      have hg1' := hg1.ext (Below.drew (Ext.refl W))
      have hb1' := hb1.drew
      have q0' : W.drew.cell? ⟨w1.heap.size, 1, none⟩ = some (.int .i64 r.2) := q1
      have c2' : W.drew.cell? ⟨G, 2, none⟩ = some (.int .i64 vars) := c2
      generalize W.drew = Wd at *
      clear hg1 hb1 q0 q1 c1 c2
      simp only [List.take_succ_cons, List.take_zero, List.drop_succ_cons, List.drop_zero]
      iterate 7 still_step
      still_call (HS.out Wd)
      refine wpStill_nil ?_
      go_wp2_with fail
      refine (put_op _ G B ar cr raw (p + 1) vars props tempo out _ _ hg1' (by omega)).mono ?_
      rintro e w2 ⟨rfl, hg2, hb2⟩
      go_wp2
      go_end0
      exact Made.mk rfl hg2 (hb1'.trans hb2) (by rw [← HRES.out, if_pos HKK2.out]) (by rw [← HRES.out, if_pos HKK2.out, HKK.out]; simp [numLeaf, Hk.out, hv, Tm.flat])
    all_goals
      refine (picked_any r.2 9 _ r3 r4 (by omega) (by omega)).mono ?_
      rintro e w' ⟨rfl, rfl⟩
      go_wp2_with fail
      refine (put_op _ G B ar cr raw (p + 1) vars props tempo out _ _ hg1 (by omega)).mono ?_
      rintro e w2 ⟨rfl, hg2, hb2⟩
      have hcond : ¬ (pk r.1 2 = 1 ∧ 0 < vars) := by omega
      have Hc := Lib.hid hcond
      clear hcond
      go_wp2
      go_end0
      exact Made.mk rfl hg2 (hb1.trans hb2) (by rw [← HRES.out, if_pos HKK2.out]) (by rw [← HRES.out, if_pos HKK2.out, HKK.out]; simp [numLeaf, Hc.out, Tm.flat])
  · have hkk : kk = pk r.1 5 := by rw [HK.out, if_neg hc]
    have HKK := Lib.hid hkk
    have hd0 : (0 : Int) ≤ d := by omega
    have hp5a := Hp5.out.1
    have e0 : ((d : Int) + 1 == 0) = false := by rw [beq_eq_false_iff_ne]; omega
    have hp5b := Hp5.out.2
    clear hkk
    go_enter Tryz.func57, Tryz.ntmps57
    go_wp2_with fail
    refine TK.out.mono ?_
    rintro e w1 ⟨rfl, g1, b1⟩
    have hg1 := g1.ext ((Ext.refl w1).alloc (Nat.le_refl _) (Obj.cells #[.int .i64 r.1, .int .i64 r.2] 130))
    have hb1 : Below B w (w1.alloc (Obj.cells #[.int .i64 r.1, .int .i64 r.2] 130)) := b1.alloc (by have := b1.size; omega) _
    have q0 : (w1.alloc (Obj.cells #[.int .i64 r.1, .int .i64 r.2] 130)).cell? ⟨w1.heap.size, 0, none⟩ = some (.int .i64 r.1) := by simp [go_sem]
    have q1 : (w1.alloc (Obj.cells #[.int .i64 r.1, .int .i64 r.2] 130)).cell? ⟨w1.heap.size, 1, none⟩ = some (.int .i64 r.2) := by simp [go_sem]
    have c1 := hg1.c1
    have c2 := hg1.c2
    clear TK g1 b1
    go_wp2_with fail
    refine (picked_any r.1 5 _ r1 r2 (by omega) (by omega)).mono ?_
    rintro e w' ⟨rfl, rfl⟩
    go_wp2_with fail
    · have hk : pk r.1 5 = 1 := by assumption
      have hv : 0 < vars := by assumption
      have hpv := pk_bd r.2 vars hv
      have HS := Lib.hid (fun wx : World => still_of (picked_any r.2 vars wx r3 r4 hv (by omega)))
      have Hk := Lib.hid hk
      clear hk
      refine region_tail 8 (by kernel_rfl) (by kernel_rfl) ?_
      generalize (w1.alloc (Obj.cells #[.int .i64 r.1, .int .i64 r.2] 130)) = W at *
      have hg1' := hg1.ext (Below.drew (Ext.refl W))
      have hb1' := hb1.drew
      have q0' : W.drew.cell? ⟨w1.heap.size, 1, none⟩ = some (.int .i64 r.2) := q1
      have c2' : W.drew.cell? ⟨G, 2, none⟩ = some (.int .i64 vars) := c2
      generalize W.drew = Wd at *
      clear hg1 hb1 q0 q1 c1 c2
      simp only [List.take_succ_cons, List.take_zero, List.drop_succ_cons, List.drop_zero]
      iterate 7 still_step
      still_call (HS.out Wd)
      refine wpStill_nil ?_
      go_wp2_with fail
      refine (put_op _ G B ar cr raw (p + 1) vars props tempo out _ _ hg1' (by omega)).mono ?_
      rintro e w2 ⟨rfl, hg2, hb2⟩
      go_wp2
      go_end0
      have HKK2 : kk < 2 := by rw [HKK.out, Hk.out]; omega
      exact Made.mk rfl hg2 (hb1'.trans hb2) (by rw [← HRES.out, if_pos HKK2]) (by rw [← HRES.out, if_pos HKK2, HKK.out]; simp [numLeaf, Hk.out, hv, Tm.flat])
    · refine (picked_any r.2 9 _ r3 r4 (by omega) (by omega)).mono ?_
      rintro e w' ⟨rfl, rfl⟩
      go_wp2_with fail
      refine (put_op _ G B ar cr raw (p + 1) vars props tempo out _ _ hg1 (by omega)).mono ?_
      rintro e w2 ⟨rfl, hg2, hb2⟩
      have HKK2 : Hid (kk < 2) := by show kk < 2; rw [HKK.out]; omega
      have hcond : ¬ (pk r.1 5 = 1 ∧ 0 < vars) := by omega
      have Hc := Lib.hid hcond
      clear hcond
      go_wp2
      go_end0
      exact Made.mk rfl hg2 (hb1.trans hb2) (by rw [← HRES.out, if_pos HKK2.out]) (by rw [← HRES.out, if_pos HKK2.out, HKK.out]; simp [numLeaf, Hc.out, Tm.flat])
    · refine (picked_any r.2 9 _ r3 r4 (by omega) (by omega)).mono ?_
      rintro e w' ⟨rfl, rfl⟩
      go_wp2_with fail
      refine (put_op _ G B ar cr raw (p + 1) vars props tempo out _ _ hg1 (by omega)).mono ?_
      rintro e w2 ⟨rfl, hg2, hb2⟩
      have HKK2 : Hid (kk < 2) := by show kk < 2; rw [HKK.out]; omega
      have hcond : ¬ (pk r.1 5 = 1 ∧ 0 < vars) := by omega
      have Hc := Lib.hid hcond
      clear hcond
      go_wp2
      go_end0
      exact Made.mk rfl hg2 (hb1.trans hb2) (by rw [← HRES.out, if_pos HKK2.out]) (by rw [← HRES.out, if_pos HKK2.out, HKK.out]; simp [numLeaf, Hc.out, Tm.flat])
    · have HKK3 : Hid (2 ≤ kk) := by show 2 ≤ kk; rw [HKK.out]; omega
      refine (put_op _ G B ar cr raw (p + 1) vars props tempo out _ _ hg1 (by omega)).mono ?_
      rintro e w2 ⟨rfl, hg2, hb2⟩
      go_wp2_with fail
      refine (IH1.out w2 _ hg2 (by omega) (by simp; omega)).mono ?_
      rintro e w3 ⟨rfl, hg3, hb3⟩
      go_wp2_with fail
      refine (IH2.out w3 _ hg3 (by have := HZ1.out; omega) (by have := HZ5.out; simp at this ⊢; omega)).mono ?_
      rintro e w4 ⟨rfl, hg4, hb4⟩
      go_wp2
      go_end0
      exact Made.mk rfl hg4 (((hb1.trans hb2).trans hb3).trans hb4) (by rw [← HRES.out, if_neg (by have := HKK3.out; omega)]) (by rw [← HRES.out, if_neg (by have := HKK3.out; omega), HKK.out]; simp [Tm.flat]; omega)
end Go.Proofs.YtciihiiacbnimaaGreatDoor
