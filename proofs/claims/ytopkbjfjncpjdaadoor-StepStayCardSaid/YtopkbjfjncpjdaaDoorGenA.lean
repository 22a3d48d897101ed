/- GenA: what is needed of it. No condition. -/
import Derived.Test.YtopkbjfjncpjdaaDoorGen
import Derived.Test.YtopkbjfjncpjdaaDoorPolC
namespace Go.Proofs.YtopkbjfjncpjdaaDoor
open Go.RowKit
theorem Tryd.slOps : SlTy Tryd.prog 37 36 (.agg #[.int .i64 0, .int .i64 0]) 2 16 := SlTy.mk' Tryd.underlying37 (by kernel_rfl) (by rfl) (by omega)
structure Gr (w : World) (G B : Nat) (ar : Option Addr) (cr : Nat) (raw : List Op2) (p : Nat) (vars props tempo : Int) (out : List Op2) : Prop where
  c0 : w.cell? ⟨G, 0, none⟩ = some (.slice ar raw.length cr)
  c1 : w.cell? ⟨G, 1, none⟩ = some (.int .i64 p)
  c2 : w.cell? ⟨G, 2, none⟩ = some (.int .i64 vars)
  c3 : w.cell? ⟨G, 3, none⟩ = some (.int .i64 props)
  c4 : w.cell? ⟨G, 4, none⟩ = some (.int .i64 tempo)
  c5 : ∃ ao co, w.cell? ⟨G, 5, none⟩ = some (.slice ao out.length co) ∧ w.ownsRow B 36 2 (.slice ao out.length co) out.length (out.flatMap opc) ∧ (Value.slice ao out.length co).ownBlock ≠ some G
  fz : ∀ i, w.frozen? ⟨G, i, none⟩ = false
  row : Row w 2 ar raw.length cr (raw.flatMap opc)
  old : ∀ q, ar = some q → 0 < raw.length → q.block < B
  new : B ≤ G
theorem cells_of {w w' : World} {k i : Nat} {v : Value} (h : w.cell? ⟨k, i, none⟩ = some v) (hb : w'.heap[k]? = w.heap[k]?) : w'.cell? ⟨k, i, none⟩ = some v :=
  (World.cell?_of_block (w := w) (a := ⟨k, i, none⟩) hb).trans h
theorem Gr.ext {w w' : World} {G B : Nat} {ar : Option Addr} {cr : Nat} {raw : List Op2} {p : Nat} {vars props tempo : Int} {out : List Op2} (h : Gr w G B ar cr raw p vars props tempo out) (hb : Ext w w') : Gr w' G B ar cr raw p vars props tempo out := by
  have hG := World.block_lt_of_cell? _ _ h.c0
  have hk := hb.block G hG
  obtain ⟨ao, co, h5, h6, h7⟩ := h.c5
  exact ⟨cells_of h.c0 hk, cells_of h.c1 hk, cells_of h.c2 hk, cells_of h.c3 hk, cells_of h.c4 hk, ⟨ao, co, cells_of h5 hk, own_ext h6 hb, h7⟩,
    fun i => (World.frozen?_of_block (w := w) hk).trans (h.fz i), h.row.ext hb, h.old, h.new⟩
theorem cell_set {w : World} {k i : Nat} {v u : Value} (h : w.cell? ⟨k, i, none⟩ = some u) : (w.setCell ⟨k, i, none⟩ v).cell? ⟨k, i, none⟩ = some v := World.cell?_setCell_same _ _ _ h
theorem cell_set_ne {w : World} {k i j : Nat} {v u : Value} (h : w.cell? ⟨k, i, none⟩ = some u) (hn : i ≠ j) : (w.setCell ⟨k, j, none⟩ v).cell? ⟨k, i, none⟩ = some u := by
  rw [World.cell?_setCell_other _ _ _ _ (by intro e; simp only [Addr.mk.injEq] at e; exact hn e.2.1.symm)]; exact h
theorem ext_set {w X : World} (h : Ext w X) (a : Addr) (v : Value) : Ext (w.setCell a v) (X.setCell a v) := by
  refine ⟨h.os, h.tape, h.output, by simpa using h.size, fun k hk => ?_⟩
  have := h.block k (by simpa using hk)
  simp only [World.setCell, Array.getElem?_modify, this]
theorem row_setCell {w : World} {sz : Nat} {a : Option Addr} {n cap : Nat} {xs : List Value} (h : Row w sz a n cap xs) {q : Addr} (v : Value) (hq : ∀ p, a = some p → 0 < xs.length → p.block ≠ q.block) : Row (w.setCell q v) sz a n cap xs :=
  h.keep fun p hp hx => Below.heap_setCell _ _ _ _ (hq p hp hx)
theorem Gr.at' {w : World} {G B : Nat} {ar : Option Addr} {cr : Nat} {raw : List Op2} {p : Nat} {vars props tempo : Int} {out : List Op2} (h : Gr w G B ar cr raw p vars props tempo out) (p' : Nat) :
    Gr (w.setCell ⟨G, 1, none⟩ (.int .i64 p')) G B ar cr raw p' vars props tempo out := by
  obtain ⟨ao, co, h5, h6, h7⟩ := h.c5
  have hG := h.new
  exact ⟨cell_set_ne h.c0 (by omega), cell_set h.c1, cell_set_ne h.c2 (by omega), cell_set_ne h.c3 (by omega), cell_set_ne h.c4 (by omega), ⟨ao, co, cell_set_ne h5 (by omega), own_setCell h6 _ h7, h7⟩,
    fun i => (World.frozen?_setCell _ _ _ _).trans (h.fz i), row_setCell h.row _ (fun q hq hx => by have := h.old q hq (by rw [opc_len] at hx; omega); show q.block ≠ G; omega), h.old, h.new⟩
set_option maxRecDepth 100000 in
set_option maxHeartbeats 1000000 in
theorem take_any (w : World) (G B : Nat) (ar : Option Addr) (cr : Nat) (raw : List Op2) (p : Nat) (vars props tempo : Int) (out : List Op2) (h : Gr w G B ar cr raw p vars props tempo out) (hp : p ≤ 100000) :
    Calls Tryd.prog 26 #[.pointer (some ⟨G, 0, none⟩)] w fun e w' =>
      e = .returned (.agg #[.int .i64 (rawAt raw p).1, .int .i64 (rawAt raw p).2]) ∧ Gr w' G B ar cr raw (p + 1) vars props tempo out ∧ Below B w w' := by
  have hm : raw.length ≤ 9223372036854775807 := by have := h.row.le; have := h.row.max; unfold maxLen at this; omega
  have hw0 : B ≤ w.heap.size := by have := World.block_lt_of_cell? _ _ h.c0; have := h.new; simp at *; omega
  have hE : Ext w ((w.alloc (Obj.cells #[.int .i64 0, .int .i64 0] 71)).alloc (Obj.cells #[.int .i64 0, .int .i64 0] 71)) := ((Ext.refl w).alloc (Nat.le_refl _) _).alloc (by simp) _
  have g := h.ext hE
  have t0 : ((w.alloc (Obj.cells #[.int .i64 0, .int .i64 0] 71)).alloc (Obj.cells #[.int .i64 0, .int .i64 0] 71)).cell? ⟨w.heap.size, 0, none⟩ = some (.int .i64 0) := by simp [go_sem]
  have t1 : ((w.alloc (Obj.cells #[.int .i64 0, .int .i64 0] 71)).alloc (Obj.cells #[.int .i64 0, .int .i64 0] 71)).cell? ⟨w.heap.size, 1, none⟩ = some (.int .i64 0) := by simp [go_sem]
  have u0 : ((w.alloc (Obj.cells #[.int .i64 0, .int .i64 0] 71)).alloc (Obj.cells #[.int .i64 0, .int .i64 0] 71)).cell? ⟨w.heap.size + 1, 0, none⟩ = some (.int .i64 0) := by simp [go_sem]
  have u1 : ((w.alloc (Obj.cells #[.int .i64 0, .int .i64 0] 71)).alloc (Obj.cells #[.int .i64 0, .int .i64 0] 71)).cell? ⟨w.heap.size + 1, 1, none⟩ = some (.int .i64 0) := by simp [go_sem]
  have tz : ∀ i, ((w.alloc (Obj.cells #[.int .i64 0, .int .i64 0] 71)).alloc (Obj.cells #[.int .i64 0, .int .i64 0] 71)).frozen? ⟨w.heap.size, i, none⟩ = false := by intro i; simp [go_sem]
  have uz : ∀ i, ((w.alloc (Obj.cells #[.int .i64 0, .int .i64 0] 71)).alloc (Obj.cells #[.int .i64 0, .int .i64 0] 71)).frozen? ⟨w.heap.size + 1, i, none⟩ = false := by intro i; simp [go_sem]
  have hG : G < w.heap.size := World.block_lt_of_cell? _ _ h.c0
  have H := Lib.hid h
  clear h
  go_enter Tryd.func26, Tryd.ntmps26
  go_wp2_with fail
  generalize (w.alloc (Obj.cells #[.int .i64 0, .int .i64 0] 71)).alloc (Obj.cells #[.int .i64 0, .int .i64 0] 71) = W at *
  have c0 := g.c0
  have c1 := g.c1
  have gz := g.fz 1
  have tz0 := tz 0
  have tz1 := tz 1
  have uz0 := uz 0
  have uz1 := uz 1
  have hne1 : ¬ w.heap.size = G := by omega
  have hne2 : ¬ w.heap.size + 1 = G := by omega
  have hne3 : ¬ G = w.heap.size := by omega
  have hne4 : ¬ G = w.heap.size + 1 := by omega
  have Gg := Lib.hid g
  have HE := Lib.hid hE
  clear tz uz hE
  obtain ⟨b, off, ha, hc⟩ := g.row.ops
  have HC := Lib.hid hc
  clear hc
  go_quiet (fail)
  by_cases hlt : p < raw.length
  · obtain rfl := ha (by omega)
    have k0 := (HC.out p hlt).1
    have k1 := (HC.out p hlt).2
    have hrw : rawAt raw p = raw[p] := by unfold rawAt; simp [hlt]
    have Hrw := Lib.hid hrw
    generalize raw[p] = r at *
    clear HC hrw g ha
    go_wp2_with fail
    refine region_tail 10 (by kernel_rfl) (by kernel_rfl) ?_
    simp only [List.take_succ_cons, List.take_zero, List.drop_succ_cons, List.drop_zero]
    repeat still_step
    try refine wpStill_nil ?_
    go_wp2
    have x1 : Ext w (((W.drewN (nq + 1)).setCell ⟨w.heap.size + 1, 0, none⟩ (.int .i64 r.1)).setCell ⟨w.heap.size + 1, 1, none⟩ (.int .i64 r.2)) := (((HE.out.trans (below_drewN (Ext.refl W) _)).setCell (p := ⟨w.heap.size + 1, 0, none⟩) (by simp) (.int .i64 r.1)).setCell (p := ⟨w.heap.size + 1, 1, none⟩) (by simp) (.int .i64 r.2))
    have x2 := ext_set x1 ⟨G, 1, none⟩ (.int .i64 ((p + 1 : Nat) : Int))
    have x3 := (x2.setCell (p := ⟨w.heap.size, 0, none⟩) (by simp) (.int .i64 r.1)).setCell (p := ⟨w.heap.size, 1, none⟩) (by simp) (.int .i64 r.2)
    have g3 := (H.out.at' (p + 1)).ext x3
    have b3 : Below B w _ := ((((x1.mono hw0).setCell (p := ⟨G, 1, none⟩) H.out.new (.int .i64 ((p + 1 : Nat) : Int))).setCell (p := ⟨w.heap.size, 0, none⟩) hw0 (.int .i64 r.1)).setCell (p := ⟨w.heap.size, 1, none⟩) hw0 (.int .i64 r.2))
    refine bodyPost_ret (v := .agg #[.int .i64 r.1, .int .i64 r.2]) (by simp [results, Tryd.results26, go_sem, t0, t1]) rfl ⟨by rw [Hrw.out], g3, b3⟩
  · have hrw : rawAt raw p = (0, 0) := by unfold rawAt; simp [hlt]
    have Hrw := Lib.hid hrw
    clear HC hrw g ha
    go_wp2
    have x1 : Ext w (W.drewN nq) := HE.out.trans (below_drewN (Ext.refl W) _)
    have x2 := ext_set x1 ⟨G, 1, none⟩ (.int .i64 ((p + 1 : Nat) : Int))
    have x3 := (x2.setCell (p := ⟨w.heap.size, 0, none⟩) (by simp) (.int .i64 0)).setCell (p := ⟨w.heap.size, 1, none⟩) (by simp) (.int .i64 0)
    have g3 := (H.out.at' (p + 1)).ext x3
    have b3 : Below B w _ := ((((x1.mono hw0).setCell (p := ⟨G, 1, none⟩) H.out.new (.int .i64 ((p + 1 : Nat) : Int))).setCell (p := ⟨w.heap.size, 0, none⟩) hw0 (.int .i64 0)).setCell (p := ⟨w.heap.size, 1, none⟩) hw0 (.int .i64 0))
    refine bodyPost_ret (v := .agg #[.int .i64 0, .int .i64 0]) (by simp [results, Tryd.results26, go_sem, t0, t1]) rfl ⟨by rw [Hrw.out], g3, b3⟩
theorem Row.newOp (w : World) (t : TypeId) (k v : Int) : Row (w.alloc (.cells #[.int .i64 k, .int .i64 v] t)) 2 (some ⟨w.heap.size, 0, none⟩) 1 1 (opc (k, v)) := by
  refine ⟨rfl, Nat.le_refl _, by unfold maxLen; omega, w.heap.size, 0, (by intro h; cases h), fun _ => rfl, fun j u hu => ?_⟩
  rw [Nat.zero_add, World.cell?_alloc_at _ _ _ _ rfl]
  simpa [opc] using hu
set_option maxRecDepth 100000 in
set_option maxHeartbeats 1000000 in
theorem put_op (w : World) (G B : Nat) (ar : Option Addr) (cr : Nat) (raw : List Op2) (p : Nat) (vars props tempo : Int) (out : List Op2) (k v : Int) (h : Gr w G B ar cr raw p vars props tempo out) (ho : out.length ≤ 10000) :
    Calls Tryd.prog 27 #[.pointer (some ⟨G, 0, none⟩), .int .i64 k, .int .i64 v] w fun e w' =>
      e = .returned (.tuple #[]) ∧ Gr w' G B ar cr raw p vars props tempo (out ++ [(k, v)]) ∧ Below B w w' := by
  have hG : G < w.heap.size := World.block_lt_of_cell? _ _ h.c0
  have hBG := h.new
  obtain ⟨ao, co, c5, h6, h7⟩ := h.c5
  have gz := h.fz 5
  have H := Lib.hid h
  have H6 := Lib.hid h6
  have H7 := Lib.hid h7
  clear h h7
  have h6a := h6.alloc (Obj.cells #[.int .i64 k, .int .i64 v] 36)
  clear h6
  go_enter Tryd.func27, Tryd.ntmps27
  go_wp2_with (at_builtin; go_must (refine wpl_append rfl rfl Tryd.slOps B rfl h6a rfl (Row.newOp _ _ _ _) (by simp [opc, Value.oneCell']) (by unfold maxLen; omega) (by omega) (by simp; omega) ?_))
  intro v1 w1 hown hg hb _
  obtain ⟨a1, d1, rfl, hr1⟩ := hown.row
  have hE1 : Below B w w1 := (((Ext.refl w).alloc (Nat.le_refl _) _).mono (by omega)).grown hg (by simp; omega) (fun k hk => (H6.out.lt k hk).1)
  have hnG : (Value.slice a1 (out.length + 1) d1).ownBlock ≠ some G := by
    rcases hb with hb | hb
    · rw [hb]; exact H7.out
    · rw [hb]; simp; omega
  have hblk : ∀ i, i < w.heap.size → some i ≠ (Value.slice ao out.length co).ownBlock → w1.heap[i]? = w.heap[i]? := fun i hi hn => (hg.block i (by simp; omega) hn).trans (Below.heap_alloc _ _ _ hi)
  have hGb := hblk G hG (fun e => H7.out e.symm)
  have hc5 := cells_of c5 hGb
  have hz5 : w1.frozen? ⟨G, 5, none⟩ = false := (World.frozen?_of_block (w := w) hGb).trans gz
  have Hown := Lib.hid hown
  clear hown hg hb hr1 c5 gz h6a
  go_wp2
  go_end0
  refine ⟨rfl, ?_, hE1.setCell hBG _⟩
  have hh := H.out
  refine ⟨cell_set_ne (cells_of hh.c0 hGb) (by omega), cell_set_ne (cells_of hh.c1 hGb) (by omega), cell_set_ne (cells_of hh.c2 hGb) (by omega), cell_set_ne (cells_of hh.c3 hGb) (by omega), cell_set_ne (cells_of hh.c4 hGb) (by omega), ⟨a1, d1, ?_, ?_, ?_⟩, fun i => ?_, ?_, hh.old, hh.new⟩
  · have := cell_set (v := .slice a1 (out.length + 1) d1) hc5
    simpa using this
  · have := own_setCell Hown.out (p := ⟨G, 5, none⟩) (.slice a1 (out.length + 1) d1) hnG
    simpa using this
  · simpa using hnG
  · exact (World.frozen?_setCell _ _ _ _).trans ((World.frozen?_of_block (w := w) hGb).trans (hh.fz i))
  · refine hh.row.keep fun q hq hx => ?_
    have hl : 0 < raw.length := by rw [opc_len] at hx; omega
    have hqB := hh.old q hq hl
    rw [Below.heap_setCell _ _ _ _ (show q.block ≠ G by omega)]
    refine hblk _ (by omega) (fun e => ?_)
    have := (H6.out.lt _ e.symm).1
    omega
end Go.Proofs.YtopkbjfjncpjdaaDoor
