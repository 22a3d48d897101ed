/- Several texts in one: Gen; GenA; GenB; GenC. No condition. -/
import Derived.Test.YtfcaomejbcjfgaaGreatDoorKx2
import Derived.Test.YtfcaomejbcjfgaaGreatDoorKx1
namespace Go.Proofs.YtfcaomejbcjfgaaGreatDoor
def rawAt (raw : List Op2) (p : Nat) : Op2 := raw.getD p (0, 0)
def numLeaf (r : Op2) (vars k : Int) : Tm := if k = 1 ∧ 0 < vars then .n0 2 (pk r.2 vars) else .n0 1 (pk r.2 9 - 4)
def numKind (r : Op2) (p : Nat) : Int := if 14 < p + 1 then pk r.1 2 else pk r.1 5
def numT (raw : List Op2) (vars : Int) : Nat → Nat → Tm × Nat
  | 0, p => (numLeaf (rawAt raw p) vars (pk (rawAt raw p).1 2), p + 1)
  | d + 1, p =>
    if numKind (rawAt raw p) p < 2 then (numLeaf (rawAt raw p) vars (numKind (rawAt raw p) p), p + 1)
    else (.n2 (numKind (rawAt raw p) p + 1) 0 (numT raw vars d (p + 1)).1 (numT raw vars d (numT raw vars d (p + 1)).2).1, (numT raw vars d (numT raw vars d (p + 1)).2).2)
def truKind (r : Op2) (d p : Nat) : Int := if d = 0 ∨ 10 < p + 1 then pk r.1 3 else pk r.1 9
def cmpT (raw : List Op2) (vars k : Int) (p : Nat) : Tm × Nat :=
  (.n2 (6 + k % 2) 0 (numT raw vars 1 (p + 1)).1 (numT raw vars 1 (numT raw vars 1 (p + 1)).2).1, (numT raw vars 1 (numT raw vars 1 (p + 1)).2).2)
def truT (raw : List Op2) (vars : Int) : Nat → Nat → Tm × Nat
  | 0, p =>
    if truKind (rawAt raw p) 0 p = 0 then (.n0 (11 + pk (rawAt raw p).2 2) 0, p + 1)
    else cmpT raw vars (truKind (rawAt raw p) 0 p) p
  | d + 1, p =>
    if truKind (rawAt raw p) (d + 1) p = 0 then (.n0 (11 + pk (rawAt raw p).2 2) 0, p + 1)
    else if truKind (rawAt raw p) (d + 1) p < 5 then cmpT raw vars (truKind (rawAt raw p) (d + 1) p) p
    else if truKind (rawAt raw p) (d + 1) p = 5 then (.n1 10 0 (truT raw vars d (p + 1)).1, (truT raw vars d (p + 1)).2)
    else (.n2 (8 + truKind (rawAt raw p) (d + 1) p % 2) 0 (truT raw vars d (p + 1)).1 (truT raw vars d (truT raw vars d (p + 1)).2).1, (truT raw vars d (truT raw vars d (p + 1)).2).2)
theorem numKind_bd (r : Op2) (p : Nat) : 0 ≤ numKind r p ∧ numKind r p < 5 := by
  unfold numKind
  have h1 := pk_bd r.1 2 (by omega)
  have h2 := pk_bd r.1 5 (by omega)
  split <;> omega
theorem numLeaf_size (r : Op2) (vars k : Int) : (numLeaf r vars k).size = 1 := by unfold numLeaf; split <;> rfl
theorem numT_size (raw : List Op2) (vars : Int) : ∀ d p, (numT raw vars d p).2 = p + (numT raw vars d p).1.size := by
  intro d
  induction d with
  | zero => intro p; simp [numT, numLeaf_size]
  | succ d ih =>
    intro p
    unfold numT
    split
    · simp [numLeaf_size]
    · have h1 := ih (p + 1)
      have h2 := ih (numT raw vars d (p + 1)).2
      simp only [Tm.size]
      omega
theorem numT_one (raw : List Op2) (vars : Int) (p : Nat) : ((numT raw vars 1 p).1.size = 1 ∨ (numT raw vars 1 p).1.size = 3) ∧ (14 ≤ p → (numT raw vars 1 p).1.size = 1) := by
  unfold numT
  split
  · simp [numLeaf_size]
  · refine ⟨.inr ?_, fun h => ?_⟩
    · simp [Tm.size, numT, numLeaf_size]
    · rename_i h2
      exfalso
      apply h2
      unfold numKind
      rw [if_pos (by omega)]
      exact (pk_bd _ 2 (by omega)).2
theorem numT_two (raw : List Op2) (vars : Int) (p : Nat) : (numT raw vars 2 p).1.size ≤ 7 := by
  rw [numT]
  split
  · simp [numLeaf_size]
  · have h1 := (numT_one raw vars (p + 1)).1
    have h2 := (numT_one raw vars (numT raw vars 1 (p + 1)).2).1
    simp only [Tm.size]
    omega
theorem numLeaf_ok (r : Op2) (vars k : Int) : (numLeaf r vars k).ok := by
  unfold numLeaf
  split <;> simp [Tm.ok, partsOf]
theorem numT_ok (raw : List Op2) (vars : Int) : ∀ d p, (numT raw vars d p).1.ok := by
  intro d
  induction d with
  | zero => intro p; exact numLeaf_ok _ _ _
  | succ d ih =>
    intro p
    unfold numT
    split
    · exact numLeaf_ok _ _ _
    · rename_i h
      have hb := numKind_bd (rawAt raw p) p
      refine ⟨by omega, by omega, ?_, ih _, ih _⟩
      unfold partsOf
      rw [if_pos (by omega)]
theorem truKind_bd (r : Op2) (d p : Nat) : 0 ≤ truKind r d p ∧ truKind r d p < 9 ∧ (d = 0 ∨ 10 ≤ p → truKind r d p < 3) := by
  unfold truKind
  have h1 := pk_bd r.1 3 (by omega)
  have h2 := pk_bd r.1 9 (by omega)
  split <;> omega
theorem cmpT_size (raw : List Op2) (vars k : Int) (p : Nat) : (cmpT raw vars k p).2 = p + (cmpT raw vars k p).1.size := by
  have h1 := numT_size raw vars 1 (p + 1)
  have h2 := numT_size raw vars 1 (numT raw vars 1 (p + 1)).2
  simp only [cmpT, Tm.size]
  omega
theorem truT_size (raw : List Op2) (vars : Int) : ∀ d p, (truT raw vars d p).2 = p + (truT raw vars d p).1.size := by
  intro d
  induction d with
  | zero => intro p; unfold truT; split; (· simp [Tm.size]); · exact cmpT_size _ _ _ _
  | succ d ih =>
    intro p
    unfold truT
    split
    · simp [Tm.size]
    · split
      · exact cmpT_size _ _ _ _
      · have h1 := ih (p + 1)
        have h2 := ih (truT raw vars d (p + 1)).2
        split <;> simp only [Tm.size] <;> omega
theorem cmpT_ok (raw : List Op2) (vars k : Int) (p : Nat) : (cmpT raw vars k p).1.ok := by
  refine ⟨by omega, by omega, ?_, numT_ok _ _ _ _, numT_ok _ _ _ _⟩
  unfold partsOf
  rw [if_pos (by omega)]
theorem truT_ok (raw : List Op2) (vars : Int) : ∀ d p, (truT raw vars d p).1.ok := by
  have leaf : ∀ p, (Tm.n0 (11 + pk (rawAt raw p).2 2) 0).ok := by
    intro p
    have := pk_bd (rawAt raw p).2 2 (by omega)
    refine ⟨by omega, by omega, ?_⟩
    unfold partsOf
    rw [if_neg (by omega), if_neg (by omega)]
  intro d
  induction d with
  | zero => intro p; unfold truT; split; (· exact leaf p); · exact cmpT_ok _ _ _ _
  | succ d ih =>
    intro p
    unfold truT
    split
    · exact leaf p
    · split
      · exact cmpT_ok _ _ _ _
      · split
        · exact ⟨by omega, by omega, by unfold partsOf; simp, ih _⟩
        · refine ⟨by omega, by omega, ?_, ih _, ih _⟩
          unfold partsOf
          rw [if_pos (by omega)]
theorem cmpT_end (raw : List Op2) (vars k : Int) (p : Nat) : (cmpT raw vars k p).2 ≤ p + 7 ∧ (10 ≤ p → (cmpT raw vars k p).2 ≤ p + 5) ∧ (13 ≤ p → (cmpT raw vars k p).2 ≤ p + 3) := by
  have h1 := numT_size raw vars 1 (p + 1)
  have h2 := numT_size raw vars 1 (numT raw vars 1 (p + 1)).2
  obtain ⟨h3, h4⟩ := numT_one raw vars (p + 1)
  obtain ⟨h5, h6⟩ := numT_one raw vars (numT raw vars 1 (p + 1)).2
  simp only [cmpT]
  omega
theorem truT_end (raw : List Op2) (vars : Int) : ∀ d p, (10 ≤ p → (truT raw vars d p).2 ≤ 17 ∨ (truT raw vars d p).2 ≤ p + 3) ∧ (p < 10 → (truT raw vars d p).2 ≤ 17 + 3 * d) := by
  intro d
  induction d with
  | zero =>
    intro p
    unfold truT
    have := cmpT_end raw vars (truKind (rawAt raw p) 0 p) p
    split
    · simp only; omega
    · omega
  | succ d ih =>
    intro p
    have hk := truKind_bd (rawAt raw p) (d + 1) p
    have hc := cmpT_end raw vars (truKind (rawAt raw p) (d + 1) p) p
    have h1 := ih (p + 1)
    have h2 := ih (truT raw vars d (p + 1)).2
    unfold truT
    split
    · simp only; omega
    · split
      · omega
      · split
        · simp only; omega
        · simp only; omega
theorem truT_small (raw : List Op2) (vars : Int) : (truT raw vars 3 0).1.size ≤ 26 := by
  have h1 := (truT_end raw vars 3 0).2 (by omega)
  have h2 := truT_size raw vars 3 0
  omega
end Go.Proofs.YtfcaomejbcjfgaaGreatDoor

namespace Go.Proofs.YtfcaomejbcjfgaaGreatDoor
open Go.RowKit
theorem Tryz.slOps : SlTy Tryz.prog 32 79 (.agg #[.int .i64 0, .int .i64 0]) 2 16 := SlTy.mk' Tryz.underlying32 (by kernel_rfl) (by rfl) (by omega)
structure Gr (w : World) (G B : Nat) (ar : Option Addr) (cr : Nat) (raw : List Op2) (p : Nat) (vars props tempo : Int) (out : List Op2) : Prop where
  c0 : w.cell? ⟨G, 0, none⟩ = some (.slice ar raw.length cr)
  c1 : w.cell? ⟨G, 1, none⟩ = some (.int .i64 p)
  c2 : w.cell? ⟨G, 2, none⟩ = some (.int .i64 vars)
  c3 : w.cell? ⟨G, 3, none⟩ = some (.int .i64 props)
  c4 : w.cell? ⟨G, 4, none⟩ = some (.int .i64 tempo)
  c5 : ∃ ao co, w.cell? ⟨G, 5, none⟩ = some (.slice ao out.length co) ∧ w.ownsRow B 79 2 (.slice ao out.length co) out.length (out.flatMap opc) ∧ (Value.slice ao out.length co).ownBlock ≠ some G
  fz : ∀ i, w.frozen? ⟨G, i, none⟩ = false
  row : Row w 2 ar raw.length cr (raw.flatMap opc)
  old : ∀ q, ar = some q → 0 < raw.length → q.block < B
  new : B ≤ G
theorem cells_of {w w' : World} {k i : Nat} {v : Value} (h : w.cell? ⟨k, i, none⟩ = some v) (hb : w'.heap[k]? = w.heap[k]?) : w'.cell? ⟨k, i, none⟩ = some v :=
  (World.cell?_of_block (w := w) (a := ⟨k, i, none⟩) hb).trans h
theorem Gr.ext {w w' : World} {G B : Nat} {ar : Option Addr} {cr : Nat} {raw : List Op2} {p : Nat} {vars props tempo : Int} {out : List Op2} (h : Gr w G B ar cr raw p vars props tempo out) (hb : Ext w w') : Gr w' G B ar cr raw p vars props tempo out := by
  have hG := World.block_lt_of_cell? _ _ h.c0
  have hk := hb.block G hG
  obtain ⟨ao, co, h5, h6, h7⟩ := h.c5
  exact ⟨cells_of h.c0 hk, cells_of h.c1 hk, cells_of h.c2 hk, cells_of h.c3 hk, cells_of h.c4 hk, ⟨ao, co, cells_of h5 hk, own_ext h6 hb, h7⟩,
    fun i => (World.frozen?_of_block (w := w) hk).trans (h.fz i), h.row.ext hb, h.old, h.new⟩
theorem cell_set {w : World} {k i : Nat} {v u : Value} (h : w.cell? ⟨k, i, none⟩ = some u) : (w.setCell ⟨k, i, none⟩ v).cell? ⟨k, i, none⟩ = some v := World.cell?_setCell_same _ _ _ h
theorem cell_set_ne {w : World} {k i j : Nat} {v u : Value} (h : w.cell? ⟨k, i, none⟩ = some u) (hn : i ≠ j) : (w.setCell ⟨k, j, none⟩ v).cell? ⟨k, i, none⟩ = some u := by
  rw [World.cell?_setCell_other _ _ _ _ (by intro e; simp only [Addr.mk.injEq] at e; exact hn e.2.1.symm)]; exact h
theorem ext_set {w X : World} (h : Ext w X) (a : Addr) (v : Value) : Ext (w.setCell a v) (X.setCell a v) := by
  refine ⟨h.os, h.tape, h.output, by simpa using h.size, fun k hk => ?_⟩
  have := h.block k (by simpa using hk)
  simp only [World.setCell, Array.getElem?_modify, this]
theorem row_setCell {w : World} {sz : Nat} {a : Option Addr} {n cap : Nat} {xs : List Value} (h : Row w sz a n cap xs) {q : Addr} (v : Value) (hq : ∀ p, a = some p → 0 < xs.length → p.block ≠ q.block) : Row (w.setCell q v) sz a n cap xs :=
  h.keep fun p hp hx => Below.heap_setCell _ _ _ _ (hq p hp hx)
theorem Gr.at' {w : World} {G B : Nat} {ar : Option Addr} {cr : Nat} {raw : List Op2} {p : Nat} {vars props tempo : Int} {out : List Op2} (h : Gr w G B ar cr raw p vars props tempo out) (p' : Nat) :
    Gr (w.setCell ⟨G, 1, none⟩ (.int .i64 p')) G B ar cr raw p' vars props tempo out := by
  obtain ⟨ao, co, h5, h6, h7⟩ := h.c5
  have hG := h.new
  exact ⟨cell_set_ne h.c0 (by omega), cell_set h.c1, cell_set_ne h.c2 (by omega), cell_set_ne h.c3 (by omega), cell_set_ne h.c4 (by omega), ⟨ao, co, cell_set_ne h5 (by omega), own_setCell h6 _ h7, h7⟩,
    fun i => (World.frozen?_setCell _ _ _ _).trans (h.fz i), row_setCell h.row _ (fun q hq hx => by have := h.old q hq (by rw [opc_len] at hx; omega); show q.block ≠ G; omega), h.old, h.new⟩
theorem Gr.tempo' {w : World} {G B : Nat} {ar : Option Addr} {cr : Nat} {raw : List Op2} {p : Nat} {vars props tempo : Int} {out : List Op2} (h : Gr w G B ar cr raw p vars props tempo out) (t : Int) :
    Gr (w.setCell ⟨G, 4, none⟩ (.int .i64 t)) G B ar cr raw p vars props t out := by
  obtain ⟨ao, co, h5, h6, h7⟩ := h.c5
  have hG := h.new
  exact ⟨cell_set_ne h.c0 (by omega), cell_set_ne h.c1 (by omega), cell_set_ne h.c2 (by omega), cell_set_ne h.c3 (by omega), cell_set h.c4, ⟨ao, co, cell_set_ne h5 (by omega), own_setCell h6 _ h7, h7⟩,
    fun i => (World.frozen?_setCell _ _ _ _).trans (h.fz i), row_setCell h.row _ (fun q hq hx => by have := h.old q hq (by rw [opc_len] at hx; omega); show q.block ≠ G; omega), h.old, h.new⟩
set_option maxRecDepth 100000 in
set_option maxHeartbeats 1000000 in
theorem take_any (w : World) (G B : Nat) (ar : Option Addr) (cr : Nat) (raw : List Op2) (p : Nat) (vars props tempo : Int) (out : List Op2) (h : Gr w G B ar cr raw p vars props tempo out) (hp : p ≤ 100000) :
    Calls Tryz.prog 40 #[.pointer (some ⟨G, 0, none⟩)] w fun e w' =>
      e = .returned (.agg #[.int .i64 (rawAt raw p).1, .int .i64 (rawAt raw p).2]) ∧ Gr w' G B ar cr raw (p + 1) vars props tempo out ∧ Below B w w' := by
  have hm : raw.length ≤ 9223372036854775807 := by have := h.row.le; have := h.row.max; unfold maxLen at this; omega
  have hw0 : B ≤ w.heap.size := by have := World.block_lt_of_cell? _ _ h.c0; have := h.new; simp at *; omega
  have hE : Ext w ((w.alloc (Obj.cells #[.int .i64 0, .int .i64 0] 100)).alloc (Obj.cells #[.int .i64 0, .int .i64 0] 100)) := ((Ext.refl w).alloc (Nat.le_refl _) _).alloc (by simp) _
  have g := h.ext hE
  have t0 : ((w.alloc (Obj.cells #[.int .i64 0, .int .i64 0] 100)).alloc (Obj.cells #[.int .i64 0, .int .i64 0] 100)).cell? ⟨w.heap.size, 0, none⟩ = some (.int .i64 0) := by simp [go_sem]
  have t1 : ((w.alloc (Obj.cells #[.int .i64 0, .int .i64 0] 100)).alloc (Obj.cells #[.int .i64 0, .int .i64 0] 100)).cell? ⟨w.heap.size, 1, none⟩ = some (.int .i64 0) := by simp [go_sem]
  have u0 : ((w.alloc (Obj.cells #[.int .i64 0, .int .i64 0] 100)).alloc (Obj.cells #[.int .i64 0, .int .i64 0] 100)).cell? ⟨w.heap.size + 1, 0, none⟩ = some (.int .i64 0) := by simp [go_sem]
  have u1 : ((w.alloc (Obj.cells #[.int .i64 0, .int .i64 0] 100)).alloc (Obj.cells #[.int .i64 0, .int .i64 0] 100)).cell? ⟨w.heap.size + 1, 1, none⟩ = some (.int .i64 0) := by simp [go_sem]
  have tz : ∀ i, ((w.alloc (Obj.cells #[.int .i64 0, .int .i64 0] 100)).alloc (Obj.cells #[.int .i64 0, .int .i64 0] 100)).frozen? ⟨w.heap.size, i, none⟩ = false := by intro i; simp [go_sem]
  have uz : ∀ i, ((w.alloc (Obj.cells #[.int .i64 0, .int .i64 0] 100)).alloc (Obj.cells #[.int .i64 0, .int .i64 0] 100)).frozen? ⟨w.heap.size + 1, i, none⟩ = false := by intro i; simp [go_sem]
  have hG : G < w.heap.size := World.block_lt_of_cell? _ _ h.c0
  have H := Lib.hid h
  clear h
  go_enter Tryz.func40, Tryz.ntmps40
  go_wp2_with fail
  generalize (w.alloc (Obj.cells #[.int .i64 0, .int .i64 0] 100)).alloc (Obj.cells #[.int .i64 0, .int .i64 0] 100) = W at *
  have c0 := g.c0
  have c1 := g.c1
  have gz := g.fz 1
  have tz0 := tz 0
  have tz1 := tz 1
  have uz0 := uz 0
  have uz1 := uz 1
  have hne1 : ¬ w.heap.size = G := by omega
  have hne2 : ¬ w.heap.size + 1 = G := by omega
  have hne3 : ¬ G = w.heap.size := by omega
  have hne4 : ¬ G = w.heap.size + 1 := by omega
  have Gg := Lib.hid g
  have HE := Lib.hid hE
  clear tz uz hE
  obtain ⟨b, off, ha, hc⟩ := g.row.ops
  have HC := Lib.hid hc
  clear hc
  go_quiet (fail)
  by_cases hlt : p < raw.length
  · obtain rfl := ha (by omega)
    have k0 := (HC.out p hlt).1
    have k1 := (HC.out p hlt).2
    have hrw : rawAt raw p = raw[p] := by unfold rawAt; simp [hlt]
    have Hrw := Lib.hid hrw
    generalize raw[p] = r at *
    clear HC hrw g ha
    go_wp2_with fail
    refine region_tail 10 (by kernel_rfl) (by kernel_rfl) ?_
    simp only [List.take_succ_cons, List.take_zero, List.drop_succ_cons, List.drop_zero]
    repeat still_step
    try refine wpStill_nil ?_
    go_wp2
    have x1 : Ext w (((W.drewN (nq + 1)).setCell ⟨w.heap.size + 1, 0, none⟩ (.int .i64 r.1)).setCell ⟨w.heap.size + 1, 1, none⟩ (.int .i64 r.2)) := (((HE.out.trans (below_drewN (Ext.refl W) _)).setCell (p := ⟨w.heap.size + 1, 0, none⟩) (by simp) (.int .i64 r.1)).setCell (p := ⟨w.heap.size + 1, 1, none⟩) (by simp) (.int .i64 r.2))
    have x2 := ext_set x1 ⟨G, 1, none⟩ (.int .i64 ((p + 1 : Nat) : Int))
    have x3 := (x2.setCell (p := ⟨w.heap.size, 0, none⟩) (by simp) (.int .i64 r.1)).setCell (p := ⟨w.heap.size, 1, none⟩) (by simp) (.int .i64 r.2)
    have g3 := (H.out.at' (p + 1)).ext x3
    have b3 : Below B w _ := ((((x1.mono hw0).setCell (p := ⟨G, 1, none⟩) H.out.new (.int .i64 ((p + 1 : Nat) : Int))).setCell (p := ⟨w.heap.size, 0, none⟩) hw0 (.int .i64 r.1)).setCell (p := ⟨w.heap.size, 1, none⟩) hw0 (.int .i64 r.2))
    refine bodyPost_ret (v := .agg #[.int .i64 r.1, .int .i64 r.2]) (by simp [results, Tryz.results40, go_sem, t0, t1]) rfl ⟨by rw [Hrw.out], g3, b3⟩
  · have hrw : rawAt raw p = (0, 0) := by unfold rawAt; simp [hlt]
    have Hrw := Lib.hid hrw
    clear HC hrw g ha
    go_wp2
    have x1 : Ext w (W.drewN nq) := HE.out.trans (below_drewN (Ext.refl W) _)
    have x2 := ext_set x1 ⟨G, 1, none⟩ (.int .i64 ((p + 1 : Nat) : Int))
    have x3 := (x2.setCell (p := ⟨w.heap.size, 0, none⟩) (by simp) (.int .i64 0)).setCell (p := ⟨w.heap.size, 1, none⟩) (by simp) (.int .i64 0)
    have g3 := (H.out.at' (p + 1)).ext x3
    have b3 : Below B w _ := ((((x1.mono hw0).setCell (p := ⟨G, 1, none⟩) H.out.new (.int .i64 ((p + 1 : Nat) : Int))).setCell (p := ⟨w.heap.size, 0, none⟩) hw0 (.int .i64 0)).setCell (p := ⟨w.heap.size, 1, none⟩) hw0 (.int .i64 0))
    refine bodyPost_ret (v := .agg #[.int .i64 0, .int .i64 0]) (by simp [results, Tryz.results40, go_sem, t0, t1]) rfl ⟨by rw [Hrw.out], g3, b3⟩
theorem opc_one (l : List Op2) : ∀ u ∈ l.flatMap opc, u.oneCell' = true := by
  intro u hu
  obtain ⟨o, _, ho⟩ := List.mem_flatMap.1 hu
  simp [opc] at ho
  rcases ho with rfl | rfl <;> rfl
theorem Row.newOp (w : World) (t : TypeId) (k v : Int) : Row (w.alloc (.cells #[.int .i64 k, .int .i64 v] t)) 2 (some ⟨w.heap.size, 0, none⟩) 1 1 (opc (k, v)) := by
  refine ⟨rfl, Nat.le_refl _, by unfold maxLen; omega, w.heap.size, 0, (by intro h; cases h), fun _ => rfl, fun j u hu => ?_⟩
  rw [Nat.zero_add, World.cell?_alloc_at _ _ _ _ rfl]
  simpa [opc] using hu
set_option maxRecDepth 100000 in
set_option maxHeartbeats 1000000 in
theorem put_op (w : World) (G B : Nat) (ar : Option Addr) (cr : Nat) (raw : List Op2) (p : Nat) (vars props tempo : Int) (out : List Op2) (k v : Int) (h : Gr w G B ar cr raw p vars props tempo out) (ho : out.length ≤ 10000) :
    Calls Tryz.prog 41 #[.pointer (some ⟨G, 0, none⟩), .int .i64 k, .int .i64 v] w fun e w' =>
      e = .returned (.tuple #[]) ∧ Gr w' G B ar cr raw p vars props tempo (out ++ [(k, v)]) ∧ Below B w w' := by
  have hG : G < w.heap.size := World.block_lt_of_cell? _ _ h.c0
  have hBG := h.new
  obtain ⟨ao, co, c5, h6, h7⟩ := h.c5
  have gz := h.fz 5
  have H := Lib.hid h
  have H6 := Lib.hid h6
  have H7 := Lib.hid h7
  clear h h7
  have h6a := h6.alloc (Obj.cells #[.int .i64 k, .int .i64 v] 79)
  clear h6
  go_enter Tryz.func41, Tryz.ntmps41
  go_wp2_with (at_builtin; go_must (refine wpl_append rfl rfl Tryz.slOps B rfl h6a rfl (Row.newOp _ _ _ _) (by simp [opc, Value.oneCell']) (by unfold maxLen; omega) (by omega) (by simp; omega) ?_))
  intro v1 w1 hown hg hb _
  obtain ⟨a1, d1, rfl, hr1⟩ := hown.row
  have hE1 : Below B w w1 := (((Ext.refl w).alloc (Nat.le_refl _) _).mono (by omega)).grown hg (by simp; omega) (fun k hk => (H6.out.lt k hk).1)
  have hnG : (Value.slice a1 (out.length + 1) d1).ownBlock ≠ some G := by
    rcases hb with hb | hb
    · rw [hb]; exact H7.out
    · rw [hb]; simp; omega
  have hblk : ∀ i, i < w.heap.size → some i ≠ (Value.slice ao out.length co).ownBlock → w1.heap[i]? = w.heap[i]? := fun i hi hn => (hg.block i (by simp; omega) hn).trans (Below.heap_alloc _ _ _ hi)
  have hGb := hblk G hG (fun e => H7.out e.symm)
  have hc5 := cells_of c5 hGb
  have hz5 : w1.frozen? ⟨G, 5, none⟩ = false := (World.frozen?_of_block (w := w) hGb).trans gz
  have Hown := Lib.hid hown
  clear hown hg hb hr1 c5 gz h6a
  go_wp2
  go_end0
  refine ⟨rfl, ?_, hE1.setCell hBG _⟩
  have hh := H.out
  refine ⟨cell_set_ne (cells_of hh.c0 hGb) (by omega), cell_set_ne (cells_of hh.c1 hGb) (by omega), cell_set_ne (cells_of hh.c2 hGb) (by omega), cell_set_ne (cells_of hh.c3 hGb) (by omega), cell_set_ne (cells_of hh.c4 hGb) (by omega), ⟨a1, d1, ?_, ?_, ?_⟩, fun i => ?_, ?_, hh.old, hh.new⟩
  · have := cell_set (v := .slice a1 (out.length + 1) d1) hc5
    simpa using this
  · have := own_setCell Hown.out (p := ⟨G, 5, none⟩) (.slice a1 (out.length + 1) d1) hnG
    simpa using this
  · simpa using hnG
  · exact (World.frozen?_setCell _ _ _ _).trans ((World.frozen?_of_block (w := w) hGb).trans (hh.fz i))
  · refine hh.row.keep fun q hq hx => ?_
    have hl : 0 < raw.length := by rw [opc_len] at hx; omega
    have hqB := hh.old q hq hl
    rw [Below.heap_setCell _ _ _ _ (show q.block ≠ G by omega)]
    refine hblk _ (by omega) (fun e => ?_)
    have := (H6.out.lt _ e.symm).1
    omega
end Go.Proofs.YtfcaomejbcjfgaaGreatDoor

namespace Go.Proofs.YtfcaomejbcjfgaaGreatDoor
open Go.RowKit
def RawI (raw : List Op2) : Prop := ∀ p, I64 (rawAt raw p).1 ∧ I64 (rawAt raw p).2
def Made (w : World) (G B : Nat) (ar : Option Addr) (cr : Nat) (raw : List Op2) (vars props tempo : Int) (out : List Op2) (r : Tm × Nat) (e : Ending) (w' : World) : Prop :=
  e = .returned (.tuple #[]) ∧ Gr w' G B ar cr raw r.2 vars props tempo (out ++ r.1.flat) ∧ Below B w w'
theorem Made.mk {w w' : World} {G B : Nat} {ar : Option Addr} {cr : Nat} {raw : List Op2} {vars props tempo : Int} {out out' : List Op2} {r : Tm × Nat} {e : Ending} {p : Nat}
    (he : e = .returned (.tuple #[])) (hg : Gr w' G B ar cr raw p vars props tempo out') (hb : Below B w w') (hp : p = r.2) (ho : out' = out ++ r.1.flat) : Made w G B ar cr raw vars props tempo out r e w' := by
  subst hp; subst ho; exact ⟨he, hg, hb⟩
set_option maxRecDepth 100000 in
set_option maxHeartbeats 2000000 in
theorem number_zero (w : World) (G B : Nat) (ar : Option Addr) (cr : Nat) (raw : List Op2) (p : Nat) (vars props tempo : Int) (out : List Op2) (h : Gr w G B ar cr raw p vars props tempo out)
    (hraw : RawI raw) (hp : p ≤ 1000) (ho : out.length ≤ 1000) (hv2 : vars ≤ 1000) :
    Calls Tryz.prog 39 #[.pointer (some ⟨G, 0, none⟩), .int .i64 0] w (Made w G B ar cr raw vars props tempo out (numT raw vars 0 p)) := by
  have TK := Lib.hid (take_any w G B ar cr raw p vars props tempo out h (by omega))
  have hBw : B ≤ w.heap.size := by have := World.block_lt_of_cell? _ _ h.c0; have := h.new; simp at *; omega
  have hr := hraw p
  have hfin : numT raw vars 0 p = (numLeaf (rawAt raw p) vars (pk (rawAt raw p).1 2), p + 1) := rfl
  rw [hfin]
  generalize rawAt raw p = r at *
  obtain ⟨⟨r1, r2⟩, r3, r4⟩ := hr
  have hp2 := pk_bd r.1 2 (by omega)
  have hp9 := pk_bd r.2 9 (by omega)
  obtain ⟨x1, x2⟩ := hp2
  obtain ⟨x3, x4⟩ := hp9
  have HF := Lib.hid hfin
  have Hp5 := Lib.hid (pk_bd r.1 5 (by omega))
  clear h hraw hfin
  go_enter Tryz.func39, Tryz.ntmps39
  go_wp2_with fail
  refine TK.out.mono ?_
  rintro e w1 ⟨rfl, g1, b1⟩
  have hg1 := g1.ext ((Ext.refl w1).alloc (Nat.le_refl _) (Obj.cells #[.int .i64 r.1, .int .i64 r.2] 100))
  have hb1 : Below B w (w1.alloc (Obj.cells #[.int .i64 r.1, .int .i64 r.2] 100)) := b1.alloc (by have := b1.size; omega) _
  have q0 : (w1.alloc (Obj.cells #[.int .i64 r.1, .int .i64 r.2] 100)).cell? ⟨w1.heap.size, 0, none⟩ = some (.int .i64 r.1) := by simp [go_sem]
  have q1 : (w1.alloc (Obj.cells #[.int .i64 r.1, .int .i64 r.2] 100)).cell? ⟨w1.heap.size, 1, none⟩ = some (.int .i64 r.2) := by simp [go_sem]
  have c1 := hg1.c1
  have c2 := hg1.c2
  clear TK g1 b1
  go_wp2_with fail
  refine (picked_any r.1 5 _ r1 r2 (by omega) (by omega)).mono ?_
  rintro e w' ⟨rfl, rfl⟩
  go_wp2_with fail
  refine (picked_any r.1 2 _ r1 r2 (by omega) (by omega)).mono ?_
  rintro e w' ⟨rfl, rfl⟩
  go_wp2_with fail
  · have hk : pk r.1 2 = 1 := by assumption
    have hv : 0 < vars := by assumption
    have hpv := pk_bd r.2 vars hv
    have HS := Lib.hid (fun wx : World => still_of (picked_any r.2 vars wx r3 r4 hv (by omega)))
    have Hk := Lib.hid hk
    clear hk
    refine region_tail 8 (by kernel_rfl) (by kernel_rfl) ?_
    generalize (w1.alloc (Obj.cells #[.int .i64 r.1, .int .i64 r.2] 100)) = W at *
    have hg1' := hg1.ext (Below.drew (Ext.refl W))
    have hb1' := hb1.drew
    have q0' : W.drew.cell? ⟨w1.heap.size, 1, none⟩ = some (.int .i64 r.2) := q1
    have c2' : W.drew.cell? ⟨G, 2, none⟩ = some (.int .i64 vars) := c2
    generalize W.drew = Wd at *
    clear hg1 hb1 q0 q1 c1 c2
    simp only [List.take_succ_cons, List.take_zero, List.drop_succ_cons, List.drop_zero]
    iterate 7 still_step
    still_call (HS.out Wd)
    refine wpStill_nil ?_
    go_wp2_with fail
    refine (put_op _ G B ar cr raw (p + 1) vars props tempo out _ _ hg1' (by omega)).mono ?_
    rintro e w2 ⟨rfl, hg2, hb2⟩
    go_wp2
    go_end0
    exact Made.mk rfl hg2 (hb1'.trans hb2) rfl (by simp [numLeaf, Hk.out, hv, Tm.flat])
  all_goals
    refine (picked_any r.2 9 _ r3 r4 (by omega) (by omega)).mono ?_
    rintro e w' ⟨rfl, rfl⟩
    go_wp2_with fail
    refine (put_op _ G B ar cr raw (p + 1) vars props tempo out _ _ hg1 (by omega)).mono ?_
    rintro e w2 ⟨rfl, hg2, hb2⟩
    have hcond : ¬ (pk r.1 2 = 1 ∧ 0 < vars) := by omega
    have Hc := Lib.hid hcond
    clear hcond
    go_wp2
    go_end0
    exact Made.mk rfl hg2 (hb1.trans hb2) rfl (by simp [numLeaf, Hc.out, Tm.flat])
set_option maxRecDepth 100000 in
set_option maxHeartbeats 2000000 in
theorem number_succ (w : World) (G B : Nat) (ar : Option Addr) (cr : Nat) (raw : List Op2) (p : Nat) (vars props tempo : Int) (out : List Op2) (h : Gr w G B ar cr raw p vars props tempo out)
    (hraw : RawI raw) (b : Nat) (hp : p + 200 ≤ b) (ho : out.length + 200 ≤ b) (hv2 : vars ≤ 1000) (d : Nat) (_hd : d ≤ 10) (hb8 : b ≤ 1000) (hs : ∀ q, (numT raw vars d q).1.size ≤ 100)
    (ih : ∀ (w : World) (p : Nat) (out : List Op2), Gr w G B ar cr raw p vars props tempo out → p ≤ b → out.length ≤ b → Calls Tryz.prog 39 #[.pointer (some ⟨G, 0, none⟩), .int .i64 d] w (Made w G B ar cr raw vars props tempo out (numT raw vars d p))) :
    Calls Tryz.prog 39 #[.pointer (some ⟨G, 0, none⟩), .int .i64 ((d + 1 : Nat) : Int)] w (Made w G B ar cr raw vars props tempo out (numT raw vars (d + 1) p)) := by
  have TK := Lib.hid (take_any w G B ar cr raw p vars props tempo out h (by omega))
  have hBw : B ≤ w.heap.size := by have := World.block_lt_of_cell? _ _ h.c0; have := h.new; simp at *; omega
  have hr := hraw p
  have hfin : numT raw vars (d + 1) p = if numKind (rawAt raw p) p < 2 then (numLeaf (rawAt raw p) vars (numKind (rawAt raw p) p), p + 1)
    else (.n2 (numKind (rawAt raw p) p + 1) 0 (numT raw vars d (p + 1)).1 (numT raw vars d (numT raw vars d (p + 1)).2).1, (numT raw vars d (numT raw vars d (p + 1)).2).2) := rfl
  rw [hfin]
  have hkb := numKind_bd (rawAt raw p) p
  have hk0 : numKind (rawAt raw p) p = if 14 < p + 1 then pk (rawAt raw p).1 2 else pk (rawAt raw p).1 5 := rfl
  have hz1 := numT_size raw vars d (p + 1)
  have hz2 := numT_size raw vars d (numT raw vars d (p + 1)).2
  have hz3 := hs (p + 1)
  have hz4 := hs (numT raw vars d (p + 1)).2
  have hz5 := Tm.flat_len (numT raw vars d (p + 1)).1
  have ih1 := fun w' out' g h1 h2 => ih w' (p + 1) out' g h1 h2
  have ih2 := fun w' out' g h1 h2 => ih w' (numT raw vars d (p + 1)).2 out' g h1 h2
  generalize rawAt raw p = r at *
  generalize numKind r p = kk at *
  obtain ⟨z1, z2⟩ := hkb
  generalize numT raw vars d (p + 1) = t1 at *
  generalize numT raw vars d t1.2 = t2 at *
  generalize hres : (if kk < 2 then (numLeaf r vars kk, p + 1) else (Tm.n2 (kk + 1) 0 t1.1 t2.1, t2.2)) = res at *
  have HRES := Lib.hid hres
  clear hres
  obtain ⟨tm1, p1⟩ := t1
  obtain ⟨tm2, p2⟩ := t2
  simp only at hz1 hz2 hz3 hz4 hz5 ih1 ih2
  have IH1 := Lib.hid ih1
  have IH2 := Lib.hid ih2
  have HZ1 := Lib.hid hz1
  have HZ2 := Lib.hid hz2
  have HZ5 := Lib.hid hz5
  have HZ := Lib.hid hs
  have HI := Lib.hid ih
  clear ih1 ih2 hz1 hz2 hz5 ih hs
  obtain ⟨⟨r1, r2⟩, r3, r4⟩ := hr
  have hp2 := pk_bd r.1 2 (by omega)
  have hp5 := pk_bd r.1 5 (by omega)
  have hp9 := pk_bd r.2 9 (by omega)
  obtain ⟨x1, x2⟩ := hp2
  obtain ⟨x3, x4⟩ := hp9
  have HF := Lib.hid hfin
  have Hp5 := Lib.hid hp5
  have HK := Lib.hid hk0
  clear hk0 hp5
  clear h hraw hfin
  by_cases hc : 14 < p + 1
  · have hkk : kk = pk r.1 2 := by rw [HK.out, if_pos hc]
    have HKK := Lib.hid hkk
    have HKK2 : Hid (kk < 2) := by show kk < 2; omega
    have hd0 : (0 : Int) ≤ d := by omega
    clear hkk
    go_enter Tryz.func39, Tryz.ntmps39
    go_wp2_with fail
    refine TK.out.mono ?_
    rintro e w1 ⟨rfl, g1, b1⟩
    have hg1 := g1.ext ((Ext.refl w1).alloc (Nat.le_refl _) (Obj.cells #[.int .i64 r.1, .int .i64 r.2] 100))
    have hb1 : Below B w (w1.alloc (Obj.cells #[.int .i64 r.1, .int .i64 r.2] 100)) := b1.alloc (by have := b1.size; omega) _
    have q0 : (w1.alloc (Obj.cells #[.int .i64 r.1, .int .i64 r.2] 100)).cell? ⟨w1.heap.size, 0, none⟩ = some (.int .i64 r.1) := by simp [go_sem]
    have q1 : (w1.alloc (Obj.cells #[.int .i64 r.1, .int .i64 r.2] 100)).cell? ⟨w1.heap.size, 1, none⟩ = some (.int .i64 r.2) := by simp [go_sem]
    have c1 := hg1.c1
    have c2 := hg1.c2
    clear TK g1 b1
    go_wp2_with fail
    refine (picked_any r.1 5 _ r1 r2 (by omega) (by omega)).mono ?_
    rintro e w' ⟨rfl, rfl⟩
    go_wp2_with fail
    refine (picked_any r.1 2 _ r1 r2 (by omega) (by omega)).mono ?_
    rintro e w' ⟨rfl, rfl⟩
    go_wp2_with fail
    · have hk : pk r.1 2 = 1 := by assumption
      have hv : 0 < vars := by assumption
      have hpv := pk_bd r.2 vars hv
      have HS := Lib.hid (fun wx : World => still_of (picked_any r.2 vars wx r3 r4 hv (by omega)))
      have Hk := Lib.hid hk
      clear hk
      refine region_tail 8 (by kernel_rfl) (by kernel_rfl) ?_
      generalize (w1.alloc (Obj.cells #[.int .i64 r.1, .int .i64 r.2] 100)) = W at *
      have hg1' := hg1.ext (Below.drew (Ext.refl W))
      have hb1' := hb1.drew
      have q0' : W.drew.cell? ⟨w1.heap.size, 1, none⟩ = some (.int .i64 r.2) := q1
      have c2' : W.drew.cell? ⟨G, 2, none⟩ = some (.int .i64 vars) := c2
      generalize W.drew = Wd at *
      clear hg1 hb1 q0 q1 c1 c2
      simp only [List.take_succ_cons, List.take_zero, List.drop_succ_cons, List.drop_zero]
      iterate 7 still_step
      still_call (HS.out Wd)
      refine wpStill_nil ?_
      go_wp2_with fail
      refine (put_op _ G B ar cr raw (p + 1) vars props tempo out _ _ hg1' (by omega)).mono ?_
      rintro e w2 ⟨rfl, hg2, hb2⟩
      go_wp2
      go_end0
      exact Made.mk rfl hg2 (hb1'.trans hb2) (by rw [← HRES.out, if_pos HKK2.out]) (by rw [← HRES.out, if_pos HKK2.out, HKK.out]; simp [numLeaf, Hk.out, hv, Tm.flat])
    all_goals
      refine (picked_any r.2 9 _ r3 r4 (by omega) (by omega)).mono ?_
      rintro e w' ⟨rfl, rfl⟩
      go_wp2_with fail
      refine (put_op _ G B ar cr raw (p + 1) vars props tempo out _ _ hg1 (by omega)).mono ?_
      rintro e w2 ⟨rfl, hg2, hb2⟩
      have hcond : ¬ (pk r.1 2 = 1 ∧ 0 < vars) := by omega
      have Hc := Lib.hid hcond
      clear hcond
      go_wp2
      go_end0
      exact Made.mk rfl hg2 (hb1.trans hb2) (by rw [← HRES.out, if_pos HKK2.out]) (by rw [← HRES.out, if_pos HKK2.out, HKK.out]; simp [numLeaf, Hc.out, Tm.flat])
  · have hkk : kk = pk r.1 5 := by rw [HK.out, if_neg hc]
    have HKK := Lib.hid hkk
    have hd0 : (0 : Int) ≤ d := by omega
    have hp5a := Hp5.out.1
    have e0 : ((d : Int) + 1 == 0) = false := by rw [beq_eq_false_iff_ne]; omega
    have hp5b := Hp5.out.2
    clear hkk
    go_enter Tryz.func39, Tryz.ntmps39
    go_wp2_with fail
    refine TK.out.mono ?_
    rintro e w1 ⟨rfl, g1, b1⟩
    have hg1 := g1.ext ((Ext.refl w1).alloc (Nat.le_refl _) (Obj.cells #[.int .i64 r.1, .int .i64 r.2] 100))
    have hb1 : Below B w (w1.alloc (Obj.cells #[.int .i64 r.1, .int .i64 r.2] 100)) := b1.alloc (by have := b1.size; omega) _
    have q0 : (w1.alloc (Obj.cells #[.int .i64 r.1, .int .i64 r.2] 100)).cell? ⟨w1.heap.size, 0, none⟩ = some (.int .i64 r.1) := by simp [go_sem]
    have q1 : (w1.alloc (Obj.cells #[.int .i64 r.1, .int .i64 r.2] 100)).cell? ⟨w1.heap.size, 1, none⟩ = some (.int .i64 r.2) := by simp [go_sem]
    have c1 := hg1.c1
    have c2 := hg1.c2
    clear TK g1 b1
    go_wp2_with fail
    refine (picked_any r.1 5 _ r1 r2 (by omega) (by omega)).mono ?_
    rintro e w' ⟨rfl, rfl⟩
    go_wp2_with fail
    · have hk : pk r.1 5 = 1 := by assumption
      have hv : 0 < vars := by assumption
      have hpv := pk_bd r.2 vars hv
      have HS := Lib.hid (fun wx : World => still_of (picked_any r.2 vars wx r3 r4 hv (by omega)))
      have Hk := Lib.hid hk
      clear hk
      refine region_tail 8 (by kernel_rfl) (by kernel_rfl) ?_
      generalize (w1.alloc (Obj.cells #[.int .i64 r.1, .int .i64 r.2] 100)) = W at *
      have hg1' := hg1.ext (Below.drew (Ext.refl W))
      have hb1' := hb1.drew
      have q0' : W.drew.cell? ⟨w1.heap.size, 1, none⟩ = some (.int .i64 r.2) := q1
      have c2' : W.drew.cell? ⟨G, 2, none⟩ = some (.int .i64 vars) := c2
      generalize W.drew = Wd at *
      clear hg1 hb1 q0 q1 c1 c2
      simp only [List.take_succ_cons, List.take_zero, List.drop_succ_cons, List.drop_zero]
      iterate 7 still_step
      still_call (HS.out Wd)
      refine wpStill_nil ?_
      go_wp2_with fail
      refine (put_op _ G B ar cr raw (p + 1) vars props tempo out _ _ hg1' (by omega)).mono ?_
      rintro e w2 ⟨rfl, hg2, hb2⟩
      go_wp2
      go_end0
      have HKK2 : kk < 2 := by rw [HKK.out, Hk.out]; omega
      exact Made.mk rfl hg2 (hb1'.trans hb2) (by rw [← HRES.out, if_pos HKK2]) (by rw [← HRES.out, if_pos HKK2, HKK.out]; simp [numLeaf, Hk.out, hv, Tm.flat])
    · refine (picked_any r.2 9 _ r3 r4 (by omega) (by omega)).mono ?_
      rintro e w' ⟨rfl, rfl⟩
      go_wp2_with fail
      refine (put_op _ G B ar cr raw (p + 1) vars props tempo out _ _ hg1 (by omega)).mono ?_
      rintro e w2 ⟨rfl, hg2, hb2⟩
      have HKK2 : Hid (kk < 2) := by show kk < 2; rw [HKK.out]; omega
      have hcond : ¬ (pk r.1 5 = 1 ∧ 0 < vars) := by omega
      have Hc := Lib.hid hcond
      clear hcond
      go_wp2
      go_end0
      exact Made.mk rfl hg2 (hb1.trans hb2) (by rw [← HRES.out, if_pos HKK2.out]) (by rw [← HRES.out, if_pos HKK2.out, HKK.out]; simp [numLeaf, Hc.out, Tm.flat])
    · refine (picked_any r.2 9 _ r3 r4 (by omega) (by omega)).mono ?_
      rintro e w' ⟨rfl, rfl⟩
      go_wp2_with fail
      refine (put_op _ G B ar cr raw (p + 1) vars props tempo out _ _ hg1 (by omega)).mono ?_
      rintro e w2 ⟨rfl, hg2, hb2⟩
      have HKK2 : Hid (kk < 2) := by show kk < 2; rw [HKK.out]; omega
      have hcond : ¬ (pk r.1 5 = 1 ∧ 0 < vars) := by omega
      have Hc := Lib.hid hcond
      clear hcond
      go_wp2
      go_end0
      exact Made.mk rfl hg2 (hb1.trans hb2) (by rw [← HRES.out, if_pos HKK2.out]) (by rw [← HRES.out, if_pos HKK2.out, HKK.out]; simp [numLeaf, Hc.out, Tm.flat])
    · have HKK3 : Hid (2 ≤ kk) := by show 2 ≤ kk; rw [HKK.out]; omega
      refine (put_op _ G B ar cr raw (p + 1) vars props tempo out _ _ hg1 (by omega)).mono ?_
      rintro e w2 ⟨rfl, hg2, hb2⟩
      go_wp2_with fail
      refine (IH1.out w2 _ hg2 (by omega) (by simp; omega)).mono ?_
      rintro e w3 ⟨rfl, hg3, hb3⟩
      go_wp2_with fail
      refine (IH2.out w3 _ hg3 (by have := HZ1.out; omega) (by have := HZ5.out; simp at this ⊢; omega)).mono ?_
      rintro e w4 ⟨rfl, hg4, hb4⟩
      go_wp2
      go_end0
      exact Made.mk rfl hg4 (((hb1.trans hb2).trans hb3).trans hb4) (by rw [← HRES.out, if_neg (by have := HKK3.out; omega)]) (by rw [← HRES.out, if_neg (by have := HKK3.out; omega), HKK.out]; simp [Tm.flat]; omega)
end Go.Proofs.YtfcaomejbcjfgaaGreatDoor

namespace Go.Proofs.YtfcaomejbcjfgaaGreatDoor
open Go.RowKit
theorem number_one (w : World) (G B : Nat) (ar : Option Addr) (cr : Nat) (raw : List Op2) (p : Nat) (vars props tempo : Int) (out : List Op2) (h : Gr w G B ar cr raw p vars props tempo out)
    (hraw : RawI raw) (hp : p ≤ 800) (ho : out.length ≤ 800) (hv2 : vars ≤ 1000) :
    Calls Tryz.prog 39 #[.pointer (some ⟨G, 0, none⟩), .int .i64 1] w (Made w G B ar cr raw vars props tempo out (numT raw vars 1 p)) := by
  have := number_succ w G B ar cr raw p vars props tempo out h hraw 1000 (by omega) (by omega) hv2 0 (by omega) (by omega) (fun q => by simp [numT, numLeaf_size]) (fun w p out h h1 h2 => number_zero w G B ar cr raw p vars props tempo out h hraw h1 h2 hv2)
  simpa using this
theorem number_two (w : World) (G B : Nat) (ar : Option Addr) (cr : Nat) (raw : List Op2) (p : Nat) (vars props tempo : Int) (out : List Op2) (h : Gr w G B ar cr raw p vars props tempo out)
    (hraw : RawI raw) (hp : p ≤ 600) (ho : out.length ≤ 600) (hv2 : vars ≤ 1000) :
    Calls Tryz.prog 39 #[.pointer (some ⟨G, 0, none⟩), .int .i64 2] w (Made w G B ar cr raw vars props tempo out (numT raw vars 2 p)) := by
  have := number_succ w G B ar cr raw p vars props tempo out h hraw 800 (by omega) (by omega) hv2 1 (by omega) (by omega) (fun q => by have := (numT_one raw vars q).1; omega) (fun w p out h h1 h2 => number_one w G B ar cr raw p vars props tempo out h hraw h1 h2 hv2)
  simpa using this
set_option maxRecDepth 100000 in
set_option maxHeartbeats 2000000 in
theorem truth_z0 (w : World) (G B : Nat) (ar : Option Addr) (cr : Nat) (raw : List Op2) (p : Nat) (vars props tempo : Int) (out : List Op2) (h : Gr w G B ar cr raw p vars props tempo out)
    (hraw : RawI raw) (_hp : p ≤ 700) (ho : out.length ≤ 700) (_hv2 : vars ≤ 1000) (kk : Int) (hk : pk (rawAt raw p).1 3 = kk) (hk2 : kk = 0) :
    Calls Tryz.prog 38 #[.pointer (some ⟨G, 0, none⟩), .int .i64 0] w (Made w G B ar cr raw vars props tempo out (.n0 (11 + pk (rawAt raw p).2 2) 0, p + 1)) := by
  have TK := Lib.hid (take_any w G B ar cr raw p vars props tempo out h (by omega))
  have hBw : B ≤ w.heap.size := by have := World.block_lt_of_cell? _ _ h.c0; have := h.new; simp at *; omega
  have hr := hraw p
  generalize rawAt raw p = r at *
  obtain ⟨⟨r1, r2⟩, r3, r4⟩ := hr
  have hx2 := pk_bd r.2 2 (by omega)
  obtain ⟨x1, x2⟩ := hx2
  have HP9 := Lib.hid (pk_bd r.1 9 (by omega))
  have HP3 := Lib.hid (pk_bd r.1 3 (by omega))
  have hkb : 0 ≤ kk ∧ kk < 3 := by rw [← hk]; exact HP3.out
  obtain ⟨hkb1, hkb2⟩ := hkb
  subst hk2
  go_enter Tryz.func38, Tryz.ntmps38
  go_wp2_with fail
  refine TK.out.mono ?_
  rintro e w1 ⟨rfl, g1, b1⟩
  have hg1 := g1.ext ((Ext.refl w1).alloc (Nat.le_refl _) (Obj.cells #[.int .i64 r.1, .int .i64 r.2] 100))
  have hb1 : Below B w (w1.alloc (Obj.cells #[.int .i64 r.1, .int .i64 r.2] 100)) := b1.alloc (by have := b1.size; omega) _
  have q0 : (w1.alloc (Obj.cells #[.int .i64 r.1, .int .i64 r.2] 100)).cell? ⟨w1.heap.size, 0, none⟩ = some (.int .i64 r.1) := by simp [go_sem]
  have q1 : (w1.alloc (Obj.cells #[.int .i64 r.1, .int .i64 r.2] 100)).cell? ⟨w1.heap.size, 1, none⟩ = some (.int .i64 r.2) := by simp [go_sem]
  have c1 := hg1.c1
  clear TK g1 b1
  go_wp2_with fail
  refine (picked_any r.1 9 _ r1 r2 (by omega) (by omega)).mono ?_
  rintro e w' ⟨rfl, rfl⟩
  go_wp2_with fail
  refine (picked_any r.1 3 _ r1 r2 (by omega) (by omega)).mono ?_
  rintro e w' ⟨rfl, rfl⟩
  go_wp2_with fail
  refine (picked_any r.2 2 _ r3 r4 (by omega) (by omega)).mono ?_
  rintro e w' ⟨rfl, rfl⟩
  go_wp2_with fail
  refine (put_op _ G B ar cr raw (p + 1) vars props tempo out _ _ hg1 (by omega)).mono ?_
  rintro e w2 ⟨rfl, hg2, hb2⟩
  go_wp2
  go_end0
  exact Made.mk rfl hg2 ((hb1.trans hb2)) rfl (by simp [Tm.flat])
set_option maxRecDepth 100000 in
set_option maxHeartbeats 2000000 in
theorem truth_zc (w : World) (G B : Nat) (ar : Option Addr) (cr : Nat) (raw : List Op2) (p : Nat) (vars props tempo : Int) (out : List Op2) (h : Gr w G B ar cr raw p vars props tempo out)
    (hraw : RawI raw) (_hp : p ≤ 700) (ho : out.length ≤ 700) (hv2 : vars ≤ 1000) (kk : Int) (hk : pk (rawAt raw p).1 3 = kk) (hk2 : 1 ≤ kk) :
    Calls Tryz.prog 38 #[.pointer (some ⟨G, 0, none⟩), .int .i64 0] w (Made w G B ar cr raw vars props tempo out (cmpT raw vars kk p)) := by
  have TK := Lib.hid (take_any w G B ar cr raw p vars props tempo out h (by omega))
  have hBw : B ≤ w.heap.size := by have := World.block_lt_of_cell? _ _ h.c0; have := h.new; simp at *; omega
  have hr := hraw p
  have NUM1 := Lib.hid (fun (w' : World) (out' : List Op2) (g : Gr w' G B ar cr raw (p + 1) vars props tempo out') (h2 : out'.length ≤ 800) => number_one w' G B ar cr raw (p + 1) vars props tempo out' g hraw (by omega) h2 hv2)
  have NUM2 := Lib.hid (fun (w' : World) (out' : List Op2) (g : Gr w' G B ar cr raw (numT raw vars 1 (p + 1)).2 vars props tempo out') (h2 : out'.length ≤ 800) => number_one w' G B ar cr raw (numT raw vars 1 (p + 1)).2 vars props tempo out' g hraw (by have := numT_size raw vars 1 (p + 1); have := (numT_one raw vars (p + 1)).1; omega) h2 hv2)
  have hz1 := (numT_one raw vars (p + 1)).1
  have hz5 := Tm.flat_len (numT raw vars 1 (p + 1)).1
  have hfin : cmpT raw vars kk p = (.n2 (6 + kk % 2) 0 (numT raw vars 1 (p + 1)).1 (numT raw vars 1 (numT raw vars 1 (p + 1)).2).1, (numT raw vars 1 (numT raw vars 1 (p + 1)).2).2) := rfl
  rw [hfin]
  clear hfin
  generalize numT raw vars 1 (p + 1) = t1 at *
  generalize numT raw vars 1 t1.2 = t2 at *
  obtain ⟨tm1, p1⟩ := t1
  obtain ⟨tm2, p2⟩ := t2
  simp only at hz1 hz5
  have HZ5 := Lib.hid hz5
  clear hz5
  generalize rawAt raw p = r at *
  obtain ⟨⟨r1, r2⟩, r3, r4⟩ := hr
  have hx2 := pk_bd r.2 2 (by omega)
  obtain ⟨x1, x2⟩ := hx2
  have HP9 := Lib.hid (pk_bd r.1 9 (by omega))
  have HP3 := Lib.hid (pk_bd r.1 3 (by omega))
  have hkb : 0 ≤ kk ∧ kk < 3 := by rw [← hk]; exact HP3.out
  obtain ⟨hkb1, hkb2⟩ := hkb
  have hv : kk = 1 ∨ kk = 2 := by omega
  rcases hv with rfl | rfl
  all_goals
    go_enter Tryz.func38, Tryz.ntmps38
    go_wp2_with fail
    refine TK.out.mono ?_
    rintro e w1 ⟨rfl, g1, b1⟩
    have hg1 := g1.ext ((Ext.refl w1).alloc (Nat.le_refl _) (Obj.cells #[.int .i64 r.1, .int .i64 r.2] 100))
    have hb1 : Below B w (w1.alloc (Obj.cells #[.int .i64 r.1, .int .i64 r.2] 100)) := b1.alloc (by have := b1.size; omega) _
    have q0 : (w1.alloc (Obj.cells #[.int .i64 r.1, .int .i64 r.2] 100)).cell? ⟨w1.heap.size, 0, none⟩ = some (.int .i64 r.1) := by simp [go_sem]
    have q1 : (w1.alloc (Obj.cells #[.int .i64 r.1, .int .i64 r.2] 100)).cell? ⟨w1.heap.size, 1, none⟩ = some (.int .i64 r.2) := by simp [go_sem]
    have c1 := hg1.c1
    clear TK g1 b1
    go_wp2_with fail
    refine (picked_any r.1 9 _ r1 r2 (by omega) (by omega)).mono ?_
    rintro e w' ⟨rfl, rfl⟩
    go_wp2_with fail
    refine (picked_any r.1 3 _ r1 r2 (by omega) (by omega)).mono ?_
    rintro e w' ⟨rfl, rfl⟩
    go_wp2_with fail
    refine (put_op _ G B ar cr raw (p + 1) vars props tempo out _ _ hg1 (by omega)).mono ?_
    rintro e w2 ⟨rfl, hg2, hb2⟩
    go_wp2_with fail
    refine (NUM1.out w2 _ hg2 (by simp; omega)).mono ?_
    rintro e w3 ⟨rfl, hg3, hb3⟩
    go_wp2_with fail
    refine (NUM2.out w3 _ hg3 (by have := HZ5.out; simp at this ⊢; omega)).mono ?_
    rintro e w4 ⟨rfl, hg4, hb4⟩
    go_wp2
    go_end0
    exact Made.mk rfl hg4 (((hb1.trans hb2).trans hb3).trans hb4) rfl (by simp [Tm.flat])
set_option maxRecDepth 100000 in
set_option maxHeartbeats 2000000 in
theorem truth_a0 (w : World) (G B : Nat) (ar : Option Addr) (cr : Nat) (raw : List Op2) (p : Nat) (vars props tempo : Int) (out : List Op2) (h : Gr w G B ar cr raw p vars props tempo out)
    (hraw : RawI raw) (d : Nat) (hd : d ≤ 10) (hc : 10 < p + 1) (_hp : p + 100 * (d + 1) ≤ 700) (ho : out.length + 100 * (d + 1) ≤ 700) (_hv2 : vars ≤ 1000) (kk : Int) (hk : pk (rawAt raw p).1 3 = kk) (hk2 : kk = 0) :
    Calls Tryz.prog 38 #[.pointer (some ⟨G, 0, none⟩), .int .i64 ((d + 1 : Nat) : Int)] w (Made w G B ar cr raw vars props tempo out (.n0 (11 + pk (rawAt raw p).2 2) 0, p + 1)) := by
  have TK := Lib.hid (take_any w G B ar cr raw p vars props tempo out h (by omega))
  have hBw : B ≤ w.heap.size := by have := World.block_lt_of_cell? _ _ h.c0; have := h.new; simp at *; omega
  have hr := hraw p
  generalize rawAt raw p = r at *
  obtain ⟨⟨r1, r2⟩, r3, r4⟩ := hr
  have hx2 := pk_bd r.2 2 (by omega)
  obtain ⟨x1, x2⟩ := hx2
  have HP9 := Lib.hid (pk_bd r.1 9 (by omega))
  have HP3 := Lib.hid (pk_bd r.1 3 (by omega))
  have e0 : ((d : Int) + 1 == 0) = false := by rw [beq_eq_false_iff_ne]; omega
  have e1 : (0 : Int) ≤ d := by omega
  have hkb : 0 ≤ kk ∧ kk < 3 := by rw [← hk]; exact HP3.out
  obtain ⟨hkb1, hkb2⟩ := hkb
  subst hk2
  go_enter Tryz.func38, Tryz.ntmps38
  go_wp2_with fail
  refine TK.out.mono ?_
  rintro e w1 ⟨rfl, g1, b1⟩
  have hg1 := g1.ext ((Ext.refl w1).alloc (Nat.le_refl _) (Obj.cells #[.int .i64 r.1, .int .i64 r.2] 100))
  have hb1 : Below B w (w1.alloc (Obj.cells #[.int .i64 r.1, .int .i64 r.2] 100)) := b1.alloc (by have := b1.size; omega) _
  have q0 : (w1.alloc (Obj.cells #[.int .i64 r.1, .int .i64 r.2] 100)).cell? ⟨w1.heap.size, 0, none⟩ = some (.int .i64 r.1) := by simp [go_sem]
  have q1 : (w1.alloc (Obj.cells #[.int .i64 r.1, .int .i64 r.2] 100)).cell? ⟨w1.heap.size, 1, none⟩ = some (.int .i64 r.2) := by simp [go_sem]
  have c1 := hg1.c1
  clear TK g1 b1
  go_wp2_with fail
  refine (picked_any r.1 9 _ r1 r2 (by omega) (by omega)).mono ?_
  rintro e w' ⟨rfl, rfl⟩
  go_wp2_with fail
  refine (picked_any r.1 3 _ r1 r2 (by omega) (by omega)).mono ?_
  rintro e w' ⟨rfl, rfl⟩
  go_wp2_with fail
  refine (picked_any r.2 2 _ r3 r4 (by omega) (by omega)).mono ?_
  rintro e w' ⟨rfl, rfl⟩
  go_wp2_with fail
  refine (put_op _ G B ar cr raw (p + 1) vars props tempo out _ _ hg1 (by omega)).mono ?_
  rintro e w2 ⟨rfl, hg2, hb2⟩
  go_wp2
  go_end0
  exact Made.mk rfl hg2 ((hb1.trans hb2)) rfl (by simp [Tm.flat])
set_option maxRecDepth 100000 in
set_option maxHeartbeats 2000000 in
theorem truth_ac (w : World) (G B : Nat) (ar : Option Addr) (cr : Nat) (raw : List Op2) (p : Nat) (vars props tempo : Int) (out : List Op2) (h : Gr w G B ar cr raw p vars props tempo out)
    (hraw : RawI raw) (d : Nat) (hd : d ≤ 10) (hc : 10 < p + 1) (_hp : p + 100 * (d + 1) ≤ 700) (ho : out.length + 100 * (d + 1) ≤ 700) (hv2 : vars ≤ 1000) (kk : Int) (hk : pk (rawAt raw p).1 3 = kk) (hk2 : 1 ≤ kk) :
    Calls Tryz.prog 38 #[.pointer (some ⟨G, 0, none⟩), .int .i64 ((d + 1 : Nat) : Int)] w (Made w G B ar cr raw vars props tempo out (cmpT raw vars kk p)) := by
  have TK := Lib.hid (take_any w G B ar cr raw p vars props tempo out h (by omega))
  have hBw : B ≤ w.heap.size := by have := World.block_lt_of_cell? _ _ h.c0; have := h.new; simp at *; omega
  have hr := hraw p
  have NUM1 := Lib.hid (fun (w' : World) (out' : List Op2) (g : Gr w' G B ar cr raw (p + 1) vars props tempo out') (h2 : out'.length ≤ 800) => number_one w' G B ar cr raw (p + 1) vars props tempo out' g hraw (by omega) h2 hv2)
  have NUM2 := Lib.hid (fun (w' : World) (out' : List Op2) (g : Gr w' G B ar cr raw (numT raw vars 1 (p + 1)).2 vars props tempo out') (h2 : out'.length ≤ 800) => number_one w' G B ar cr raw (numT raw vars 1 (p + 1)).2 vars props tempo out' g hraw (by have := numT_size raw vars 1 (p + 1); have := (numT_one raw vars (p + 1)).1; omega) h2 hv2)
  have hz1 := (numT_one raw vars (p + 1)).1
  have hz5 := Tm.flat_len (numT raw vars 1 (p + 1)).1
  have hfin : cmpT raw vars kk p = (.n2 (6 + kk % 2) 0 (numT raw vars 1 (p + 1)).1 (numT raw vars 1 (numT raw vars 1 (p + 1)).2).1, (numT raw vars 1 (numT raw vars 1 (p + 1)).2).2) := rfl
  rw [hfin]
  clear hfin
  generalize numT raw vars 1 (p + 1) = t1 at *
  generalize numT raw vars 1 t1.2 = t2 at *
  obtain ⟨tm1, p1⟩ := t1
  obtain ⟨tm2, p2⟩ := t2
  simp only at hz1 hz5
  have HZ5 := Lib.hid hz5
  clear hz5
  generalize rawAt raw p = r at *
  obtain ⟨⟨r1, r2⟩, r3, r4⟩ := hr
  have hx2 := pk_bd r.2 2 (by omega)
  obtain ⟨x1, x2⟩ := hx2
  have HP9 := Lib.hid (pk_bd r.1 9 (by omega))
  have HP3 := Lib.hid (pk_bd r.1 3 (by omega))
  have e0 : ((d : Int) + 1 == 0) = false := by rw [beq_eq_false_iff_ne]; omega
  have e1 : (0 : Int) ≤ d := by omega
  have hkb : 0 ≤ kk ∧ kk < 3 := by rw [← hk]; exact HP3.out
  obtain ⟨hkb1, hkb2⟩ := hkb
  have hv : kk = 1 ∨ kk = 2 := by omega
  rcases hv with rfl | rfl
  all_goals
    go_enter Tryz.func38, Tryz.ntmps38
    go_wp2_with fail
    refine TK.out.mono ?_
    rintro e w1 ⟨rfl, g1, b1⟩
    have hg1 := g1.ext ((Ext.refl w1).alloc (Nat.le_refl _) (Obj.cells #[.int .i64 r.1, .int .i64 r.2] 100))
    have hb1 : Below B w (w1.alloc (Obj.cells #[.int .i64 r.1, .int .i64 r.2] 100)) := b1.alloc (by have := b1.size; omega) _
    have q0 : (w1.alloc (Obj.cells #[.int .i64 r.1, .int .i64 r.2] 100)).cell? ⟨w1.heap.size, 0, none⟩ = some (.int .i64 r.1) := by simp [go_sem]
    have q1 : (w1.alloc (Obj.cells #[.int .i64 r.1, .int .i64 r.2] 100)).cell? ⟨w1.heap.size, 1, none⟩ = some (.int .i64 r.2) := by simp [go_sem]
    have c1 := hg1.c1
    clear TK g1 b1
    go_wp2_with fail
    refine (picked_any r.1 9 _ r1 r2 (by omega) (by omega)).mono ?_
    rintro e w' ⟨rfl, rfl⟩
    go_wp2_with fail
    refine (picked_any r.1 3 _ r1 r2 (by omega) (by omega)).mono ?_
    rintro e w' ⟨rfl, rfl⟩
    go_wp2_with fail
    refine (put_op _ G B ar cr raw (p + 1) vars props tempo out _ _ hg1 (by omega)).mono ?_
    rintro e w2 ⟨rfl, hg2, hb2⟩
    go_wp2_with fail
    refine (NUM1.out w2 _ hg2 (by simp; omega)).mono ?_
    rintro e w3 ⟨rfl, hg3, hb3⟩
    go_wp2_with fail
    refine (NUM2.out w3 _ hg3 (by have := HZ5.out; simp at this ⊢; omega)).mono ?_
    rintro e w4 ⟨rfl, hg4, hb4⟩
    go_wp2
    go_end0
    exact Made.mk rfl hg4 (((hb1.trans hb2).trans hb3).trans hb4) rfl (by simp [Tm.flat])
set_option maxRecDepth 100000 in
set_option maxHeartbeats 2000000 in
theorem truth_b0 (w : World) (G B : Nat) (ar : Option Addr) (cr : Nat) (raw : List Op2) (p : Nat) (vars props tempo : Int) (out : List Op2) (h : Gr w G B ar cr raw p vars props tempo out)
    (hraw : RawI raw) (d : Nat) (hd : d ≤ 10) (hc : ¬ 10 < p + 1) (_hp : p + 100 * (d + 1) ≤ 700) (ho : out.length + 100 * (d + 1) ≤ 700) (_hv2 : vars ≤ 1000) (kk : Int) (hk : pk (rawAt raw p).1 9 = kk) (hk2 : kk = 0) :
    Calls Tryz.prog 38 #[.pointer (some ⟨G, 0, none⟩), .int .i64 ((d + 1 : Nat) : Int)] w (Made w G B ar cr raw vars props tempo out (.n0 (11 + pk (rawAt raw p).2 2) 0, p + 1)) := by
  have TK := Lib.hid (take_any w G B ar cr raw p vars props tempo out h (by omega))
  have hBw : B ≤ w.heap.size := by have := World.block_lt_of_cell? _ _ h.c0; have := h.new; simp at *; omega
  have hr := hraw p
  generalize rawAt raw p = r at *
  obtain ⟨⟨r1, r2⟩, r3, r4⟩ := hr
  have hx2 := pk_bd r.2 2 (by omega)
  obtain ⟨x1, x2⟩ := hx2
  have HP9 := Lib.hid (pk_bd r.1 9 (by omega))
  have HP3 := Lib.hid (pk_bd r.1 3 (by omega))
  have e0 : ((d : Int) + 1 == 0) = false := by rw [beq_eq_false_iff_ne]; omega
  have e1 : (0 : Int) ≤ d := by omega
  have hkb : 0 ≤ kk ∧ kk < 9 := by rw [← hk]; exact HP9.out
  obtain ⟨hkb1, hkb2⟩ := hkb
  subst hk2
  go_enter Tryz.func38, Tryz.ntmps38
  go_wp2_with fail
  refine TK.out.mono ?_
  rintro e w1 ⟨rfl, g1, b1⟩
  have hg1 := g1.ext ((Ext.refl w1).alloc (Nat.le_refl _) (Obj.cells #[.int .i64 r.1, .int .i64 r.2] 100))
  have hb1 : Below B w (w1.alloc (Obj.cells #[.int .i64 r.1, .int .i64 r.2] 100)) := b1.alloc (by have := b1.size; omega) _
  have q0 : (w1.alloc (Obj.cells #[.int .i64 r.1, .int .i64 r.2] 100)).cell? ⟨w1.heap.size, 0, none⟩ = some (.int .i64 r.1) := by simp [go_sem]
  have q1 : (w1.alloc (Obj.cells #[.int .i64 r.1, .int .i64 r.2] 100)).cell? ⟨w1.heap.size, 1, none⟩ = some (.int .i64 r.2) := by simp [go_sem]
  have c1 := hg1.c1
  clear TK g1 b1
  go_wp2_with fail
  refine (picked_any r.1 9 _ r1 r2 (by omega) (by omega)).mono ?_
  rintro e w' ⟨rfl, rfl⟩
  go_wp2_with fail
  refine (picked_any r.2 2 _ r3 r4 (by omega) (by omega)).mono ?_
  rintro e w' ⟨rfl, rfl⟩
  go_wp2_with fail
  refine (put_op _ G B ar cr raw (p + 1) vars props tempo out _ _ hg1 (by omega)).mono ?_
  rintro e w2 ⟨rfl, hg2, hb2⟩
  go_wp2
  go_end0
  exact Made.mk rfl hg2 ((hb1.trans hb2)) rfl (by simp [Tm.flat])
set_option maxRecDepth 100000 in
set_option maxHeartbeats 2000000 in
theorem truth_bc (w : World) (G B : Nat) (ar : Option Addr) (cr : Nat) (raw : List Op2) (p : Nat) (vars props tempo : Int) (out : List Op2) (h : Gr w G B ar cr raw p vars props tempo out)
    (hraw : RawI raw) (d : Nat) (hd : d ≤ 10) (hc : ¬ 10 < p + 1) (_hp : p + 100 * (d + 1) ≤ 700) (ho : out.length + 100 * (d + 1) ≤ 700) (hv2 : vars ≤ 1000) (kk : Int) (hk : pk (rawAt raw p).1 9 = kk) (hk2 : 1 ≤ kk) (hk3 : kk < 5) :
    Calls Tryz.prog 38 #[.pointer (some ⟨G, 0, none⟩), .int .i64 ((d + 1 : Nat) : Int)] w (Made w G B ar cr raw vars props tempo out (cmpT raw vars kk p)) := by
  have TK := Lib.hid (take_any w G B ar cr raw p vars props tempo out h (by omega))
  have hBw : B ≤ w.heap.size := by have := World.block_lt_of_cell? _ _ h.c0; have := h.new; simp at *; omega
  have hr := hraw p
  have NUM1 := Lib.hid (fun (w' : World) (out' : List Op2) (g : Gr w' G B ar cr raw (p + 1) vars props tempo out') (h2 : out'.length ≤ 800) => number_one w' G B ar cr raw (p + 1) vars props tempo out' g hraw (by omega) h2 hv2)
  have NUM2 := Lib.hid (fun (w' : World) (out' : List Op2) (g : Gr w' G B ar cr raw (numT raw vars 1 (p + 1)).2 vars props tempo out') (h2 : out'.length ≤ 800) => number_one w' G B ar cr raw (numT raw vars 1 (p + 1)).2 vars props tempo out' g hraw (by have := numT_size raw vars 1 (p + 1); have := (numT_one raw vars (p + 1)).1; omega) h2 hv2)
  have hz1 := (numT_one raw vars (p + 1)).1
  have hz5 := Tm.flat_len (numT raw vars 1 (p + 1)).1
  have hfin : cmpT raw vars kk p = (.n2 (6 + kk % 2) 0 (numT raw vars 1 (p + 1)).1 (numT raw vars 1 (numT raw vars 1 (p + 1)).2).1, (numT raw vars 1 (numT raw vars 1 (p + 1)).2).2) := rfl
  rw [hfin]
  clear hfin
  generalize numT raw vars 1 (p + 1) = t1 at *
  generalize numT raw vars 1 t1.2 = t2 at *
  obtain ⟨tm1, p1⟩ := t1
  obtain ⟨tm2, p2⟩ := t2
  simp only at hz1 hz5
  have HZ5 := Lib.hid hz5
  clear hz5
  generalize rawAt raw p = r at *
  obtain ⟨⟨r1, r2⟩, r3, r4⟩ := hr
  have hx2 := pk_bd r.2 2 (by omega)
  obtain ⟨x1, x2⟩ := hx2
  have HP9 := Lib.hid (pk_bd r.1 9 (by omega))
  have HP3 := Lib.hid (pk_bd r.1 3 (by omega))
  have e0 : ((d : Int) + 1 == 0) = false := by rw [beq_eq_false_iff_ne]; omega
  have e1 : (0 : Int) ≤ d := by omega
  have hkb : 0 ≤ kk ∧ kk < 9 := by rw [← hk]; exact HP9.out
  obtain ⟨hkb1, hkb2⟩ := hkb
  have hv : kk = 1 ∨ kk = 2 ∨ kk = 3 ∨ kk = 4 := by omega
  rcases hv with rfl | rfl | rfl | rfl
  all_goals
    go_enter Tryz.func38, Tryz.ntmps38
    go_wp2_with fail
    refine TK.out.mono ?_
    rintro e w1 ⟨rfl, g1, b1⟩
    have hg1 := g1.ext ((Ext.refl w1).alloc (Nat.le_refl _) (Obj.cells #[.int .i64 r.1, .int .i64 r.2] 100))
    have hb1 : Below B w (w1.alloc (Obj.cells #[.int .i64 r.1, .int .i64 r.2] 100)) := b1.alloc (by have := b1.size; omega) _
    have q0 : (w1.alloc (Obj.cells #[.int .i64 r.1, .int .i64 r.2] 100)).cell? ⟨w1.heap.size, 0, none⟩ = some (.int .i64 r.1) := by simp [go_sem]
    have q1 : (w1.alloc (Obj.cells #[.int .i64 r.1, .int .i64 r.2] 100)).cell? ⟨w1.heap.size, 1, none⟩ = some (.int .i64 r.2) := by simp [go_sem]
    have c1 := hg1.c1
    clear TK g1 b1
    go_wp2_with fail
    refine (picked_any r.1 9 _ r1 r2 (by omega) (by omega)).mono ?_
    rintro e w' ⟨rfl, rfl⟩
    go_wp2_with fail
    refine (put_op _ G B ar cr raw (p + 1) vars props tempo out _ _ hg1 (by omega)).mono ?_
    rintro e w2 ⟨rfl, hg2, hb2⟩
    go_wp2_with fail
    refine (NUM1.out w2 _ hg2 (by simp; omega)).mono ?_
    rintro e w3 ⟨rfl, hg3, hb3⟩
    go_wp2_with fail
    refine (NUM2.out w3 _ hg3 (by have := HZ5.out; simp at this ⊢; omega)).mono ?_
    rintro e w4 ⟨rfl, hg4, hb4⟩
    go_wp2
    go_end0
    exact Made.mk rfl hg4 (((hb1.trans hb2).trans hb3).trans hb4) rfl (by simp [Tm.flat])
set_option maxRecDepth 100000 in
set_option maxHeartbeats 2000000 in
theorem truth_b5 (w : World) (G B : Nat) (ar : Option Addr) (cr : Nat) (raw : List Op2) (p : Nat) (vars props tempo : Int) (out : List Op2) (h : Gr w G B ar cr raw p vars props tempo out)
    (hraw : RawI raw) (d : Nat) (hd : d ≤ 10) (hc : ¬ 10 < p + 1) (_hp : p + 100 * (d + 1) ≤ 700) (ho : out.length + 100 * (d + 1) ≤ 700) (_hv2 : vars ≤ 1000) (kk : Int) (hk : pk (rawAt raw p).1 9 = kk) (hk2 : kk = 5) (ih : ∀ (w : World) (p : Nat) (out : List Op2), Gr w G B ar cr raw p vars props tempo out → p + 100 * d ≤ 700 → out.length + 100 * d ≤ 700 → Calls Tryz.prog 38 #[.pointer (some ⟨G, 0, none⟩), .int .i64 d] w (Made w G B ar cr raw vars props tempo out (truT raw vars d p))) (hs : ∀ q, (truT raw vars d q).1.size ≤ 60) :
    Calls Tryz.prog 38 #[.pointer (some ⟨G, 0, none⟩), .int .i64 ((d + 1 : Nat) : Int)] w (Made w G B ar cr raw vars props tempo out (.n1 10 0 (truT raw vars d (p + 1)).1, (truT raw vars d (p + 1)).2)) := by
  have TK := Lib.hid (take_any w G B ar cr raw p vars props tempo out h (by omega))
  have hBw : B ≤ w.heap.size := by have := World.block_lt_of_cell? _ _ h.c0; have := h.new; simp at *; omega
  have hr := hraw p
  have hz1 := truT_size raw vars d (p + 1)
  have hz3 := hs (p + 1)
  have hz5 := Tm.flat_len (truT raw vars d (p + 1)).1
  have ih1 := fun w' out' g h1 h2 => ih w' (p + 1) out' g h1 h2
  generalize truT raw vars d (p + 1) = t1 at *
  obtain ⟨tm1, p1⟩ := t1
  simp only at hz1 hz3 hz5 ih1
  have IH1 := Lib.hid ih1
  have HZ1 := Lib.hid hz1
  have HZ5 := Lib.hid hz5
  clear ih1 hz1 hz5 ih hs
  generalize rawAt raw p = r at *
  obtain ⟨⟨r1, r2⟩, r3, r4⟩ := hr
  have hx2 := pk_bd r.2 2 (by omega)
  obtain ⟨x1, x2⟩ := hx2
  have HP9 := Lib.hid (pk_bd r.1 9 (by omega))
  have HP3 := Lib.hid (pk_bd r.1 3 (by omega))
  have e0 : ((d : Int) + 1 == 0) = false := by rw [beq_eq_false_iff_ne]; omega
  have e1 : (0 : Int) ≤ d := by omega
  have hkb : 0 ≤ kk ∧ kk < 9 := by rw [← hk]; exact HP9.out
  obtain ⟨hkb1, hkb2⟩ := hkb
  subst hk2
  go_enter Tryz.func38, Tryz.ntmps38
  go_wp2_with fail
  refine TK.out.mono ?_
  rintro e w1 ⟨rfl, g1, b1⟩
  have hg1 := g1.ext ((Ext.refl w1).alloc (Nat.le_refl _) (Obj.cells #[.int .i64 r.1, .int .i64 r.2] 100))
  have hb1 : Below B w (w1.alloc (Obj.cells #[.int .i64 r.1, .int .i64 r.2] 100)) := b1.alloc (by have := b1.size; omega) _
  have q0 : (w1.alloc (Obj.cells #[.int .i64 r.1, .int .i64 r.2] 100)).cell? ⟨w1.heap.size, 0, none⟩ = some (.int .i64 r.1) := by simp [go_sem]
  have q1 : (w1.alloc (Obj.cells #[.int .i64 r.1, .int .i64 r.2] 100)).cell? ⟨w1.heap.size, 1, none⟩ = some (.int .i64 r.2) := by simp [go_sem]
  have c1 := hg1.c1
  clear TK g1 b1
  go_wp2_with fail
  refine (picked_any r.1 9 _ r1 r2 (by omega) (by omega)).mono ?_
  rintro e w' ⟨rfl, rfl⟩
  go_wp2_with fail
  refine (put_op _ G B ar cr raw (p + 1) vars props tempo out _ _ hg1 (by omega)).mono ?_
  rintro e w2 ⟨rfl, hg2, hb2⟩
  go_wp2_with fail
  refine (IH1.out w2 _ hg2 (by omega) (by simp; omega)).mono ?_
  rintro e w3 ⟨rfl, hg3, hb3⟩
  go_wp2
  go_end0
  exact Made.mk rfl hg3 ((hb1.trans hb2).trans hb3) rfl (by simp [Tm.flat])
set_option maxRecDepth 100000 in
set_option maxHeartbeats 2000000 in
theorem truth_bb (w : World) (G B : Nat) (ar : Option Addr) (cr : Nat) (raw : List Op2) (p : Nat) (vars props tempo : Int) (out : List Op2) (h : Gr w G B ar cr raw p vars props tempo out)
    (hraw : RawI raw) (d : Nat) (hd : d ≤ 10) (hc : ¬ 10 < p + 1) (_hp : p + 100 * (d + 1) ≤ 700) (ho : out.length + 100 * (d + 1) ≤ 700) (_hv2 : vars ≤ 1000) (kk : Int) (hk : pk (rawAt raw p).1 9 = kk) (hk2 : 5 < kk) (ih : ∀ (w : World) (p : Nat) (out : List Op2), Gr w G B ar cr raw p vars props tempo out → p + 100 * d ≤ 700 → out.length + 100 * d ≤ 700 → Calls Tryz.prog 38 #[.pointer (some ⟨G, 0, none⟩), .int .i64 d] w (Made w G B ar cr raw vars props tempo out (truT raw vars d p))) (hs : ∀ q, (truT raw vars d q).1.size ≤ 60) :
    Calls Tryz.prog 38 #[.pointer (some ⟨G, 0, none⟩), .int .i64 ((d + 1 : Nat) : Int)] w (Made w G B ar cr raw vars props tempo out (.n2 (8 + kk % 2) 0 (truT raw vars d (p + 1)).1 (truT raw vars d (truT raw vars d (p + 1)).2).1, (truT raw vars d (truT raw vars d (p + 1)).2).2)) := by
  have TK := Lib.hid (take_any w G B ar cr raw p vars props tempo out h (by omega))
  have hBw : B ≤ w.heap.size := by have := World.block_lt_of_cell? _ _ h.c0; have := h.new; simp at *; omega
  have hr := hraw p
  have hz1 := truT_size raw vars d (p + 1)
  have hz3 := hs (p + 1)
  have hz5 := Tm.flat_len (truT raw vars d (p + 1)).1
  have ih1 := fun w' out' g h1 h2 => ih w' (p + 1) out' g h1 h2
  have ih2 := fun w' out' g h1 h2 => ih w' (truT raw vars d (p + 1)).2 out' g h1 h2
  generalize truT raw vars d (p + 1) = t1 at *
  generalize truT raw vars d t1.2 = t2 at *
  obtain ⟨tm1, p1⟩ := t1
  obtain ⟨tm2, p2⟩ := t2
  simp only at hz1 hz3 hz5 ih1 ih2
  have IH2 := Lib.hid ih2
  clear ih2
  have IH1 := Lib.hid ih1
  have HZ1 := Lib.hid hz1
  have HZ5 := Lib.hid hz5
  clear ih1 hz1 hz5 ih hs
  generalize rawAt raw p = r at *
  obtain ⟨⟨r1, r2⟩, r3, r4⟩ := hr
  have hx2 := pk_bd r.2 2 (by omega)
  obtain ⟨x1, x2⟩ := hx2
  have HP9 := Lib.hid (pk_bd r.1 9 (by omega))
  have HP3 := Lib.hid (pk_bd r.1 3 (by omega))
  have e0 : ((d : Int) + 1 == 0) = false := by rw [beq_eq_false_iff_ne]; omega
  have e1 : (0 : Int) ≤ d := by omega
  have hkb : 0 ≤ kk ∧ kk < 9 := by rw [← hk]; exact HP9.out
  obtain ⟨hkb1, hkb2⟩ := hkb
  have hv : kk = 6 ∨ kk = 7 ∨ kk = 8 := by omega
  rcases hv with rfl | rfl | rfl
  all_goals
    go_enter Tryz.func38, Tryz.ntmps38
    go_wp2_with fail
    refine TK.out.mono ?_
    rintro e w1 ⟨rfl, g1, b1⟩
    have hg1 := g1.ext ((Ext.refl w1).alloc (Nat.le_refl _) (Obj.cells #[.int .i64 r.1, .int .i64 r.2] 100))
    have hb1 : Below B w (w1.alloc (Obj.cells #[.int .i64 r.1, .int .i64 r.2] 100)) := b1.alloc (by have := b1.size; omega) _
    have q0 : (w1.alloc (Obj.cells #[.int .i64 r.1, .int .i64 r.2] 100)).cell? ⟨w1.heap.size, 0, none⟩ = some (.int .i64 r.1) := by simp [go_sem]
    have q1 : (w1.alloc (Obj.cells #[.int .i64 r.1, .int .i64 r.2] 100)).cell? ⟨w1.heap.size, 1, none⟩ = some (.int .i64 r.2) := by simp [go_sem]
    have c1 := hg1.c1
    clear TK g1 b1
    go_wp2_with fail
    refine (picked_any r.1 9 _ r1 r2 (by omega) (by omega)).mono ?_
    rintro e w' ⟨rfl, rfl⟩
    go_wp2_with fail
    refine (put_op _ G B ar cr raw (p + 1) vars props tempo out _ _ hg1 (by omega)).mono ?_
    rintro e w2 ⟨rfl, hg2, hb2⟩
    go_wp2_with fail
    refine (IH1.out w2 _ hg2 (by omega) (by simp; omega)).mono ?_
    rintro e w3 ⟨rfl, hg3, hb3⟩
    go_wp2_with fail
    refine (IH2.out w3 _ hg3 (by have := HZ1.out; omega) (by have := HZ5.out; simp at this ⊢; omega)).mono ?_
    rintro e w4 ⟨rfl, hg4, hb4⟩
    go_wp2
    go_end0
    exact Made.mk rfl hg4 (((hb1.trans hb2).trans hb3).trans hb4) rfl (by simp [Tm.flat])
end Go.Proofs.YtfcaomejbcjfgaaGreatDoor
