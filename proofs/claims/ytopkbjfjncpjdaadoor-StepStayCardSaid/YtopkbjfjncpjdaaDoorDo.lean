/- Do: what is needed of it. No condition. -/
import Derived.Test.YtopkbjfjncpjdaaDoorClo
import Derived.Test.YtopkbjfjncpjdaaDoorMaps
namespace Go.Proofs.YtopkbjfjncpjdaaDoor
open Go.RowKit
def opV (k a b : Int) : Int :=
  if k = 3 then a + b else if k = 4 then a - b else if k = 5 then a * b
  else if k = 6 then (if a = b then 1 else 0) else if k = 7 then (if a < b then 1 else 0)
  else if k = 8 then (if a = 1 ∧ b = 1 then 1 else 0) else (if a = 1 ∨ b = 1 then 1 else 0)
def Small (n : Int) : Prop := -1000000 ≤ n ∧ n ≤ 1000000
instance (n : Int) : Decidable (Small n) := by unfold Small; infer_instance
def DoPost (w : World) (M B : Nat) (ar : Option Addr) (cr : Nat) (env s : List Int) (n : Int) (e : Ending) (w' : World) : Prop :=
  Below B w w' ∧ if Small n then e = .returned (.tuple #[]) ∧ Mc w' M B ar cr env (s ++ [n]) else e = .panicked [{ v := errV 8, recovered := false }]
theorem Row.oneAt (w : World) (t : TypeId) (x : Value) (k : Nat) (hk : k = w.heap.size) : Row (w.alloc (.cells #[x] t)) 1 (some ⟨k, 0, none⟩) 1 1 [x] := by subst hk; exact Row.one w t x
theorem do_tail (w W w1 : World) (M B : Nat) (ar : Option Addr) (cr : Nat) (env s : List Int) (n : Int) (ao a1 : Option Addr) (co d1 k : Nat) (h : Mc W M B ar cr env s) (hB : Below B w W) (hsm : Small n)
    (c0 : W.cell? ⟨M, 0, none⟩ = some (.slice ao s.length co)) (h6 : W.ownsRow B 3 1 (.slice ao s.length co) s.length (s.map (.int .i64))) (h7 : (Value.slice ao s.length co).ownBlock ≠ some M)
    (hown : w1.ownsRow B 3 1 (.slice a1 (s.length + 1) d1) (s.length + 1) (s.map (.int .i64) ++ [.int .i64 n])) (hg : (W.alloc (.cells #[.int .i64 n] 3)).grownBy w1 (Value.slice ao s.length co).ownBlock)
    (hb : (Value.slice a1 (s.length + 1) d1).ownBlock = (Value.slice ao s.length co).ownBlock ∨ (Value.slice a1 (s.length + 1) d1).ownBlock = some k) (hk : M < k) :
    w1.cell? ⟨M, 0, none⟩ = some (.slice ao s.length co) ∧ w1.frozen? ⟨M, 0, none⟩ = false ∧ DoPost w M B ar cr env s n (.returned (.tuple #[])) (w1.setCell ⟨M, 0, none⟩ (.slice a1 (s.length + 1) d1)) := by
  have hM := h.lt
  have hnew := h.new
  have hnG : (Value.slice a1 (s.length + 1) d1).ownBlock ≠ some M := by
    rcases hb with hb | hb
    · rw [hb]; exact h7
    · rw [hb]; intro e; injection e; omega
  have hblk : ∀ i, i < W.heap.size → some i ≠ (Value.slice ao s.length co).ownBlock → w1.heap[i]? = W.heap[i]? := fun i hi hn => (hg.block i (by simp; omega) hn).trans (Below.heap_alloc _ _ _ hi)
  have hGb := hblk M hM (fun e => h7 e.symm)
  have hz : ∀ i, w1.frozen? ⟨M, i, none⟩ = false := fun i => (World.frozen?_of_block (w := W) hGb).trans (h.fz i)
  refine ⟨cells_of c0 hGb, hz 0, ?_, ?_⟩
  · have h1 : Below B W w1 := (((Ext.refl W).alloc (Nat.le_refl _) _).mono (by omega)).grown hg (by simp; omega) (fun k hk => (h6.lt k hk).1)
    exact (hB.trans h1).setCell hnew _
  · rw [if_pos hsm]
    refine ⟨rfl, ⟨a1, d1, ?_, ?_, ?_⟩, ?_, fun i => (World.frozen?_setCell _ _ _ _).trans (hz i), ?_, h.old, hnew⟩
    · have := cell_set (v := .slice a1 (s.length + 1) d1) (cells_of c0 hGb)
      simpa using this
    · have := own_setCell hown (p := ⟨M, 0, none⟩) (.slice a1 (s.length + 1) d1) hnG
      simpa using this
    · simpa using hnG
    · exact cell_set_ne (cells_of h.c1 hGb) (by omega)
    · refine h.row.keep fun q hq hx => ?_
      have hqB := h.old q hq (by simpa using hx)
      rw [Below.heap_setCell _ _ _ _ (show q.block ≠ M by omega)]
      refine hblk _ (by omega) (fun e => ?_)
      have := (h6.lt _ e.symm).1
      omega
theorem do_over (w W : World) (M B : Nat) (ar : Option Addr) (cr : Nat) (env s : List Int) (n : Int) (hB : Below B w W) (hn : ¬ Small n) : DoPost w M B ar cr env s n (.panicked [{ v := errV 8, recovered := false }]) W := by
  refine ⟨hB, ?_⟩
  rw [if_neg hn]
set_option maxRecDepth 100000 in
set_option maxHeartbeats 2000000 in
theorem do_num (w : World) (M B : Nat) (ar : Option Addr) (cr : Nat) (env s : List Int) (n : Int) (h : Mc w M B ar cr env s) (hs : s.length ≤ 900) (hn : I64 n) :
    Calls Tryd.prog 32 #[.pointer (some ⟨M, 0, none⟩), .agg #[.int .i64 1, .int .i64 n]] w (DoPost w M B ar cr env s n) := by
  have hMw := h.lt
  have hE : Ext w (w.alloc (Obj.cells #[.int .i64 1, .int .i64 n] 36)) := (Ext.refl w).alloc (Nat.le_refl _) _
  have g := h.ext hE
  have hBM := h.new
  have HB := Lib.hid (hE.mono (by omega : B ≤ w.heap.size))
  clear hE h
  unfold I64 at hn
  go_enter Tryd.func32, Tryd.ntmps32
  obtain ⟨ao, co, c0, h6, h7⟩ := g.c0
  have gz := g.fz 0
  have G := Lib.hid g
  have H6 := Lib.hid h6
  have H7 := Lib.hid h7
  have hM := g.lt
  have h6a := h6.alloc (Obj.cells #[.int .i64 n] 3)
  clear g h6 h7
  go_wp2_with (at_builtin; go_must (refine wpl_append rfl rfl Tryd.slInts B rfl h6a rfl (Row.oneAt _ _ _ _ (by simp)) (by simp [Value.oneCell']) (by unfold maxLen; omega) (by omega) (by simp; omega) ?_))
  all_goals first
    | exact ⟨rfl, do_over _ _ _ _ _ _ _ _ _ HB.out (by unfold Small; omega)⟩
    | (intro v1 w1 hown hg hb _
       obtain ⟨a1, d1, rfl, hr1⟩ := hown.row
       have hsm : Small n := by unfold Small; omega
       obtain ⟨hc, hz, hP⟩ := do_tail w _ w1 M B _ cr env s n ao a1 co d1 _ G.out HB.out hsm c0 H6.out H7.out hown hg hb (by omega)
       have HP := Lib.hid hP
       clear hown hg hb hr1 c0 gz h6a hP
       go_wp2
       go_end0
       exact HP.out)
set_option maxRecDepth 100000 in
set_option maxHeartbeats 2000000 in
theorem do_yes (w : World) (M B : Nat) (ar : Option Addr) (cr : Nat) (env s : List Int)  (h : Mc w M B ar cr env s) (hs : s.length ≤ 900)  :
    Calls Tryd.prog 32 #[.pointer (some ⟨M, 0, none⟩), .agg #[.int .i64 11, .int .i64 0]] w (DoPost w M B ar cr env s 1) := by
  have hMw := h.lt
  have hE : Ext w (w.alloc (Obj.cells #[.int .i64 11, .int .i64 0] 36)) := (Ext.refl w).alloc (Nat.le_refl _) _
  have g := h.ext hE
  have hBM := h.new
  have HB := Lib.hid (hE.mono (by omega : B ≤ w.heap.size))
  clear hE h
  go_enter Tryd.func32, Tryd.ntmps32
  obtain ⟨ao, co, c0, h6, h7⟩ := g.c0
  have gz := g.fz 0
  have G := Lib.hid g
  have H6 := Lib.hid h6
  have H7 := Lib.hid h7
  have hM := g.lt
  have h6a := h6.alloc (Obj.cells #[.int .i64 1] 3)
  clear g h6 h7
  go_wp2_with (at_builtin; go_must (refine wpl_append rfl rfl Tryd.slInts B rfl h6a rfl (Row.oneAt _ _ _ _ (by simp)) (by simp [Value.oneCell']) (by unfold maxLen; omega) (by omega) (by simp; omega) ?_))
  all_goals first
    | exact ⟨rfl, do_over _ _ _ _ _ _ _ _ _ HB.out (by unfold Small; omega)⟩
    | (intro v1 w1 hown hg hb _
       obtain ⟨a1, d1, rfl, hr1⟩ := hown.row
       have hsm : Small 1 := by unfold Small; omega
       obtain ⟨hc, hz, hP⟩ := do_tail w _ w1 M B _ cr env s 1 ao a1 co d1 _ G.out HB.out hsm c0 H6.out H7.out hown hg hb (by omega)
       have HP := Lib.hid hP
       clear hown hg hb hr1 c0 gz h6a hP
       go_wp2
       go_end0
       exact HP.out)
set_option maxRecDepth 100000 in
set_option maxHeartbeats 2000000 in
theorem do_no (w : World) (M B : Nat) (ar : Option Addr) (cr : Nat) (env s : List Int)  (h : Mc w M B ar cr env s) (hs : s.length ≤ 900)  :
    Calls Tryd.prog 32 #[.pointer (some ⟨M, 0, none⟩), .agg #[.int .i64 12, .int .i64 0]] w (DoPost w M B ar cr env s 0) := by
  have hMw := h.lt
  have hE : Ext w (w.alloc (Obj.cells #[.int .i64 12, .int .i64 0] 36)) := (Ext.refl w).alloc (Nat.le_refl _) _
  have g := h.ext hE
  have hBM := h.new
  have HB := Lib.hid (hE.mono (by omega : B ≤ w.heap.size))
  clear hE h
  go_enter Tryd.func32, Tryd.ntmps32
  obtain ⟨ao, co, c0, h6, h7⟩ := g.c0
  have gz := g.fz 0
  have G := Lib.hid g
  have H6 := Lib.hid h6
  have H7 := Lib.hid h7
  have hM := g.lt
  have h6a := h6.alloc (Obj.cells #[.int .i64 0] 3)
  clear g h6 h7
  go_wp2_with (at_builtin; go_must (refine wpl_append rfl rfl Tryd.slInts B rfl h6a rfl (Row.oneAt _ _ _ _ (by simp)) (by simp [Value.oneCell']) (by unfold maxLen; omega) (by omega) (by simp; omega) ?_))
  all_goals first
    | exact ⟨rfl, do_over _ _ _ _ _ _ _ _ _ HB.out (by unfold Small; omega)⟩
    | (intro v1 w1 hown hg hb _
       obtain ⟨a1, d1, rfl, hr1⟩ := hown.row
       have hsm : Small 0 := by unfold Small; omega
       obtain ⟨hc, hz, hP⟩ := do_tail w _ w1 M B _ cr env s 0 ao a1 co d1 _ G.out HB.out hsm c0 H6.out H7.out hown hg hb (by omega)
       have HP := Lib.hid hP
       clear hown hg hb hr1 c0 gz h6a hP
       go_wp2
       go_end0
       exact HP.out)
set_option maxRecDepth 100000 in
set_option maxHeartbeats 2000000 in
theorem do_var (w : World) (M B : Nat) (ar : Option Addr) (cr : Nat) (env s : List Int) (v : Nat) (hv : v < env.length) (h : Mc w M B ar cr env s) (hs : s.length ≤ 900) (hn : I64 env[v]) :
    Calls Tryd.prog 32 #[.pointer (some ⟨M, 0, none⟩), .agg #[.int .i64 2, .int .i64 (v : Int)]] w (DoPost w M B ar cr env s env[v]) := by
  have hMw := h.lt
  have hE : Ext w (w.alloc (Obj.cells #[.int .i64 2, .int .i64 (v : Int)] 36)) := (Ext.refl w).alloc (Nat.le_refl _) _
  have g := h.ext hE
  have hBM := h.new
  have HB := Lib.hid (hE.mono (by omega : B ≤ w.heap.size))
  clear hE h
  obtain ⟨b, off, ha, hc⟩ := int_row g.row
  obtain rfl := ha (by omega)
  have ce := hc v hv
  have c1 := g.c1
  have fz1 := g.fz 1
  have hlen : env.length ≤ 9223372036854775807 := by have := g.row.le; have := g.row.max; unfold maxLen at this; omega
  have H0 := Lib.hid g
  clear hc ha g
  generalize hx : env[v] = x at *
  unfold I64 at hn
  go_enter Tryd.func32, Tryd.ntmps32
  go_wp2_with fail
  go_quiet (fail)
  have g := H0.out.ext (below_drewN (Ext.refl _) nq)
  have hE := Below.trans HB.out (below_drewN (Below.refl B _) nq)
  clear H0 HB ce c1 fz1
  have HB := Lib.hid hE
  clear hE
  generalize (w.alloc (Obj.cells #[.int .i64 2, .int .i64 v] 36)).drewN nq = W at *
  obtain ⟨ao, co, c0, h6, h7⟩ := g.c0
  have gz := g.fz 0
  have G := Lib.hid g
  have H6 := Lib.hid h6
  have H7 := Lib.hid h7
  have hM := g.lt
  have h6a := h6.alloc (Obj.cells #[.int .i64 x] 3)
  clear g h6 h7
  go_wp2_with (at_builtin; go_must (refine wpl_append rfl rfl Tryd.slInts B rfl h6a rfl (Row.oneAt _ _ _ _ (by simp)) (by simp [Value.oneCell']) (by unfold maxLen; omega) (by omega) (by simp; omega) ?_))
  all_goals first
    | exact ⟨rfl, do_over _ _ _ _ _ _ _ _ _ HB.out (by unfold Small; omega)⟩
    | (intro v1 w1 hown hg hb _
       obtain ⟨a1, d1, rfl, hr1⟩ := hown.row
       have hsm : Small x := by unfold Small; omega
       obtain ⟨hc, hz, hP⟩ := do_tail w _ w1 M B _ cr env s x ao a1 co d1 _ G.out HB.out hsm c0 H6.out H7.out hown hg hb (by omega)
       have HP := Lib.hid hP
       clear hown hg hb hr1 c0 gz h6a hP
       go_wp2
       go_end0
       exact HP.out)
set_option maxRecDepth 100000 in
set_option maxHeartbeats 2000000 in
theorem do_not (w : World) (M B : Nat) (ar : Option Addr) (cr : Nat) (env s : List Int) (x : Int) (h : Mc w M B ar cr env (s ++ [x])) (hs : s.length ≤ 900) (hx : Small x) :
    Calls Tryd.prog 32 #[.pointer (some ⟨M, 0, none⟩), .agg #[.int .i64 10, .int .i64 0]] w (DoPost w M B ar cr env s (1 - x)) := by
  have hMw := h.lt
  have hE : Ext w (w.alloc (Obj.cells #[.int .i64 10, .int .i64 0] 36)) := (Ext.refl w).alloc (Nat.le_refl _) _
  have g := h.ext hE
  have hBM := h.new
  have HB := Lib.hid (hE.mono (by omega : B ≤ w.heap.size))
  clear hE h
  unfold Small at hx
  go_enter Tryd.func32, Tryd.ntmps32
  go_wp2_with fail
  refine (pop_any _ M B ar cr env s x g (by omega)).mono ?_
  rintro e W ⟨rfl, h, hb⟩
  have hE := HB.out.grown hb (by simp; omega) (fun k hk => by cases hk; omega)
  clear HB hb g
  have HB := Lib.hid hE
  have g := h
  clear hE h
  obtain ⟨ao, co, c0, h6, h7⟩ := g.c0
  have gz := g.fz 0
  have G := Lib.hid g
  have H6 := Lib.hid h6
  have H7 := Lib.hid h7
  have hM := g.lt
  have h6a := h6.alloc (Obj.cells #[.int .i64 (1 - x)] 3)
  clear g h6 h7
  go_wp2_with (at_builtin; go_must (refine wpl_append rfl rfl Tryd.slInts B rfl h6a rfl (Row.oneAt _ _ _ _ (by simp)) (by simp [Value.oneCell']) (by unfold maxLen; omega) (by omega) (by simp; omega) ?_))
  all_goals first
    | exact ⟨rfl, do_over _ _ _ _ _ _ _ _ _ HB.out (by unfold Small; omega)⟩
    | (intro v1 w1 hown hg hb _
       obtain ⟨a1, d1, rfl, hr1⟩ := hown.row
       have hsm : Small (1 - x) := by unfold Small; omega
       obtain ⟨hc, hz, hP⟩ := do_tail w _ w1 M B _ cr env s (1 - x) ao a1 co d1 _ G.out HB.out hsm c0 H6.out H7.out hown hg hb (by omega)
       have HP := Lib.hid hP
       clear hown hg hb hr1 c0 gz h6a hP
       go_wp2
       go_end0
       exact HP.out)
set_option maxRecDepth 100000 in
set_option maxHeartbeats 2000000 in
theorem do_add (w : World) (M B : Nat) (ar : Option Addr) (cr : Nat) (env s : List Int) (a b : Int) (h : Mc w M B ar cr env (s ++ [b] ++ [a])) (hs : s.length ≤ 900) (ha : Small a) (hb : Small b) :
    Calls Tryd.prog 32 #[.pointer (some ⟨M, 0, none⟩), .agg #[.int .i64 3, .int .i64 0]] w (DoPost w M B ar cr env s (a + b)) := by
  have hMw := h.lt
  have hE : Ext w (w.alloc (Obj.cells #[.int .i64 3, .int .i64 0] 36)) := (Ext.refl w).alloc (Nat.le_refl _) _
  have g := h.ext hE
  have hBM := h.new
  have HB := Lib.hid (hE.mono (by omega : B ≤ w.heap.size))
  clear hE h
  unfold Small at ha hb
  have hn2 : -2000000 ≤ a + b ∧ a + b ≤ 2000000 := by omega
  generalize hn : ((a + b) : Int) = n at *
  have Hn := Lib.hid hn
  clear hn
  have hmm := @run_makeMap Tryd.prog
  have ko : (w.alloc (Obj.cells #[.int .i64 3, .int .i64 0] 36)).cell? ⟨w.heap.size, 0, none⟩ = some (.int .i64 3) := by simp [go_sem]
  have hmf : ∀ (fn : Fn) (first cap : Array Value) (w : World), (Instr.makeFunc fn first cap).run Tryd.prog w = .ok (.func fn first cap) w := fun _ _ _ _ => rfl
  go_enter Tryd.func32, Tryd.ntmps32
  go_wp2_with fail
  refine (pop_any _ M B ar cr env (s ++ [b]) a g (by simp; omega)).mono ?_
  rintro e W1 ⟨rfl, h, hbb⟩
  have hE := HB.out.grown hbb (by simp; omega) (fun k hk => by cases hk; omega)
  have ko1 := hbb.cell ko (by simp; omega)
  have hW1 : w.heap.size < W1.heap.size := World.block_lt_of_cell? _ _ ko1
  clear HB hbb g ko
  have HB := Lib.hid hE
  have g := h
  clear hE h
  go_wp2_with fail
  refine (pop_any _ M B ar cr env s b g (by omega)).mono ?_
  rintro e W ⟨rfl, h, hbb⟩
  have hE := HB.out.grown hbb (by omega) (fun k hk => by cases hk; omega)
  have ko2 := hbb.cell ko1 (by simp; omega)
  have hW2 : w.heap.size < W.heap.size := World.block_lt_of_cell? _ _ ko2
  clear HB hbb g ko1
  have hMW := h.lt
  have hE2 : Ext W (((W.alloc (Obj.cells #[.int .i64 a] 3)).alloc (Obj.cells #[.int .i64 b] 3)).alloc (Obj.map #[] 0)) := ((((Ext.refl W).alloc (Nat.le_refl _) _).alloc (by simp) _).alloc (by simp; omega) _)
  have hm := MapI.new ((W.alloc (Obj.cells #[.int .i64 a] 3)).alloc (Obj.cells #[.int .i64 b] 3))
  have h5 : (((W.alloc (Obj.cells #[.int .i64 a] 3)).alloc (Obj.cells #[.int .i64 b] 3)).alloc (Obj.map #[] 0)).cell? ⟨W.heap.size, 0, none⟩ = some (.int .i64 a) := by simp [go_sem]
  have h6 : (((W.alloc (Obj.cells #[.int .i64 a] 3)).alloc (Obj.cells #[.int .i64 b] 3)).alloc (Obj.map #[] 0)).cell? ⟨W.heap.size + 1, 0, none⟩ = some (.int .i64 b) := by simp [go_sem]
  simp only [heap_alloc2] at hm
  have ko3 := cells_of (w := W) ko2 (hE2.block _ hW2)
  clear ko2
  have HB := Lib.hid hE
  have HG := Lib.hid h
  have HE2 := Lib.hid hE2
  clear hE h hE2
  have hsX : W.heap.size + 1 + 1 < (((W.alloc (Obj.cells #[.int .i64 a] 3)).alloc (Obj.cells #[.int .i64 b] 3)).alloc (Obj.map #[] 0)).heap.size := by simp
  go_wp2_with (refine wpl_insert rfl rfl Tryd.underlying96 Tryd.underlying3 hm rfl rfl rfl ?_)
  generalize ((W.alloc (Obj.cells #[.int .i64 a] 3)).alloc (Obj.cells #[.int .i64 b] 3)).alloc (Obj.map #[] 0) = X at *
  intro X1 m1 g1
  have G1 := Lib.hid g1
  clear g1 hm
  go_wp2_with (refine wpl_insert rfl rfl Tryd.underlying96 Tryd.underlying3 m1 rfl rfl rfl ?_)
  intro X2 m2 g2
  have G2 := Lib.hid (G1.out.trans' g2)
  clear g2 m1 G1
  go_wp2_with (refine wpl_insert rfl rfl Tryd.underlying96 Tryd.underlying3 m2 rfl rfl rfl ?_)
  intro X3 m3 g3
  have G3 := Lib.hid (G2.out.trans' g3)
  clear g3 m2 G2
  go_wp2_with (refine wpl_insert rfl rfl Tryd.underlying96 Tryd.underlying3 m3 rfl rfl rfl ?_)
  intro X4 m4 g4
  have G4 := Lib.hid (G3.out.trans' g4)
  clear g4 m3 G3
  go_wp2_with (refine wpl_insert rfl rfl Tryd.underlying96 Tryd.underlying3 m4 rfl rfl rfl ?_)
  intro X5 m5 g5
  have G5 := Lib.hid (G4.out.trans' g5)
  clear g5 m4 G4
  go_wp2_with (refine wpl_insert rfl rfl Tryd.underlying96 Tryd.underlying3 m5 rfl rfl rfl ?_)
  intro X6 m6 g6
  have G6 := Lib.hid (G5.out.trans' g6)
  clear g6 m5 G5
  go_wp2_with (refine wpl_insert rfl rfl Tryd.underlying96 Tryd.underlying3 m6 rfl rfl rfl ?_)
  intro X7 m7 g7
  have G7 := Lib.hid (G6.out.trans' g7)
  clear g7 m6 G6
  have ko4 := G7.out.cell ko3 (by simp; omega)
  clear ko3
  have k5 := G7.out.cell h5 (by simp; omega)
  have k6 := G7.out.cell h6 (by simp)
  clear h5 h6
  go_wp2_with (refine wpl_lookup rfl rfl Tryd.underlying96 Tryd.underlying3 m7 rfl rfl rfl ?_)
  clear m7
  go_wp2_with fail
  refine (clo_add _ _ a b _ k5 k6 ha hb).mono ?_
  rintro e Y ⟨rfl, rfl⟩
  rw [Hn.out]
  have hEY := HE2.out.grown G7.out (by omega) (fun k hk => by cases hk; omega)
  have g := HG.out.ext hEY
  clear ko4
  have hE := Below.trans HB.out (hEY.mono (by omega))
  clear HB HE2 hEY HG G7 k5 k6
  have HB := Lib.hid hE
  clear hE
  obtain ⟨ao, co, c0, h6, h7⟩ := g.c0
  have gz := g.fz 0
  have G := Lib.hid g
  have H6 := Lib.hid h6
  have H7 := Lib.hid h7
  have hM := g.lt
  have h6a := h6.alloc (Obj.cells #[.int .i64 n] 3)
  clear g h6 h7
  go_wp2_with (at_builtin; go_must (refine wpl_append rfl rfl Tryd.slInts B rfl h6a rfl (Row.oneAt _ _ _ _ (by simp)) (by simp [Value.oneCell']) (by unfold maxLen; omega) (by omega) (by simp; omega) ?_))
  all_goals first
    | exact ⟨rfl, do_over _ _ _ _ _ _ _ _ _ HB.out (by unfold Small; omega)⟩
    | (intro v1 w1 hown hg hb _
       obtain ⟨a1, d1, rfl, hr1⟩ := hown.row
       have hsm : Small n := by unfold Small; omega
       obtain ⟨hc, hz, hP⟩ := do_tail w _ w1 M B _ cr env s n ao a1 co d1 _ G.out HB.out hsm c0 H6.out H7.out hown hg hb (by omega)
       have HP := Lib.hid hP
       clear hown hg hb hr1 c0 gz h6a hP
       go_wp2
       go_end0
       exact HP.out)
set_option maxRecDepth 100000 in
set_option maxHeartbeats 2000000 in
theorem do_sub (w : World) (M B : Nat) (ar : Option Addr) (cr : Nat) (env s : List Int) (a b : Int) (h : Mc w M B ar cr env (s ++ [b] ++ [a])) (hs : s.length ≤ 900) (ha : Small a) (hb : Small b) :
    Calls Tryd.prog 32 #[.pointer (some ⟨M, 0, none⟩), .agg #[.int .i64 4, .int .i64 0]] w (DoPost w M B ar cr env s (a - b)) := by
  have hMw := h.lt
  have hE : Ext w (w.alloc (Obj.cells #[.int .i64 4, .int .i64 0] 36)) := (Ext.refl w).alloc (Nat.le_refl _) _
  have g := h.ext hE
  have hBM := h.new
  have HB := Lib.hid (hE.mono (by omega : B ≤ w.heap.size))
  clear hE h
  unfold Small at ha hb
  have hn2 : -2000000 ≤ a - b ∧ a - b ≤ 2000000 := by omega
  generalize hn : ((a - b) : Int) = n at *
  have Hn := Lib.hid hn
  clear hn
  have hmm := @run_makeMap Tryd.prog
  have ko : (w.alloc (Obj.cells #[.int .i64 4, .int .i64 0] 36)).cell? ⟨w.heap.size, 0, none⟩ = some (.int .i64 4) := by simp [go_sem]
  have hmf : ∀ (fn : Fn) (first cap : Array Value) (w : World), (Instr.makeFunc fn first cap).run Tryd.prog w = .ok (.func fn first cap) w := fun _ _ _ _ => rfl
  go_enter Tryd.func32, Tryd.ntmps32
  go_wp2_with fail
  refine (pop_any _ M B ar cr env (s ++ [b]) a g (by simp; omega)).mono ?_
  rintro e W1 ⟨rfl, h, hbb⟩
  have hE := HB.out.grown hbb (by simp; omega) (fun k hk => by cases hk; omega)
  have ko1 := hbb.cell ko (by simp; omega)
  have hW1 : w.heap.size < W1.heap.size := World.block_lt_of_cell? _ _ ko1
  clear HB hbb g ko
  have HB := Lib.hid hE
  have g := h
  clear hE h
  go_wp2_with fail
  refine (pop_any _ M B ar cr env s b g (by omega)).mono ?_
  rintro e W ⟨rfl, h, hbb⟩
  have hE := HB.out.grown hbb (by omega) (fun k hk => by cases hk; omega)
  have ko2 := hbb.cell ko1 (by simp; omega)
  have hW2 : w.heap.size < W.heap.size := World.block_lt_of_cell? _ _ ko2
  clear HB hbb g ko1
  have hMW := h.lt
  have hE2 : Ext W (((W.alloc (Obj.cells #[.int .i64 a] 3)).alloc (Obj.cells #[.int .i64 b] 3)).alloc (Obj.map #[] 0)) := ((((Ext.refl W).alloc (Nat.le_refl _) _).alloc (by simp) _).alloc (by simp; omega) _)
  have hm := MapI.new ((W.alloc (Obj.cells #[.int .i64 a] 3)).alloc (Obj.cells #[.int .i64 b] 3))
  have h5 : (((W.alloc (Obj.cells #[.int .i64 a] 3)).alloc (Obj.cells #[.int .i64 b] 3)).alloc (Obj.map #[] 0)).cell? ⟨W.heap.size, 0, none⟩ = some (.int .i64 a) := by simp [go_sem]
  have h6 : (((W.alloc (Obj.cells #[.int .i64 a] 3)).alloc (Obj.cells #[.int .i64 b] 3)).alloc (Obj.map #[] 0)).cell? ⟨W.heap.size + 1, 0, none⟩ = some (.int .i64 b) := by simp [go_sem]
  simp only [heap_alloc2] at hm
  have ko3 := cells_of (w := W) ko2 (hE2.block _ hW2)
  clear ko2
  have HB := Lib.hid hE
  have HG := Lib.hid h
  have HE2 := Lib.hid hE2
  clear hE h hE2
  have hsX : W.heap.size + 1 + 1 < (((W.alloc (Obj.cells #[.int .i64 a] 3)).alloc (Obj.cells #[.int .i64 b] 3)).alloc (Obj.map #[] 0)).heap.size := by simp
  go_wp2_with (refine wpl_insert rfl rfl Tryd.underlying96 Tryd.underlying3 hm rfl rfl rfl ?_)
  generalize ((W.alloc (Obj.cells #[.int .i64 a] 3)).alloc (Obj.cells #[.int .i64 b] 3)).alloc (Obj.map #[] 0) = X at *
  intro X1 m1 g1
  have G1 := Lib.hid g1
  clear g1 hm
  go_wp2_with (refine wpl_insert rfl rfl Tryd.underlying96 Tryd.underlying3 m1 rfl rfl rfl ?_)
  intro X2 m2 g2
  have G2 := Lib.hid (G1.out.trans' g2)
  clear g2 m1 G1
  go_wp2_with (refine wpl_insert rfl rfl Tryd.underlying96 Tryd.underlying3 m2 rfl rfl rfl ?_)
  intro X3 m3 g3
  have G3 := Lib.hid (G2.out.trans' g3)
  clear g3 m2 G2
  go_wp2_with (refine wpl_insert rfl rfl Tryd.underlying96 Tryd.underlying3 m3 rfl rfl rfl ?_)
  intro X4 m4 g4
  have G4 := Lib.hid (G3.out.trans' g4)
  clear g4 m3 G3
  go_wp2_with (refine wpl_insert rfl rfl Tryd.underlying96 Tryd.underlying3 m4 rfl rfl rfl ?_)
  intro X5 m5 g5
  have G5 := Lib.hid (G4.out.trans' g5)
  clear g5 m4 G4
  go_wp2_with (refine wpl_insert rfl rfl Tryd.underlying96 Tryd.underlying3 m5 rfl rfl rfl ?_)
  intro X6 m6 g6
  have G6 := Lib.hid (G5.out.trans' g6)
  clear g6 m5 G5
  go_wp2_with (refine wpl_insert rfl rfl Tryd.underlying96 Tryd.underlying3 m6 rfl rfl rfl ?_)
  intro X7 m7 g7
  have G7 := Lib.hid (G6.out.trans' g7)
  clear g7 m6 G6
  have ko4 := G7.out.cell ko3 (by simp; omega)
  clear ko3
  have k5 := G7.out.cell h5 (by simp; omega)
  have k6 := G7.out.cell h6 (by simp)
  clear h5 h6
  go_wp2_with (refine wpl_lookup rfl rfl Tryd.underlying96 Tryd.underlying3 m7 rfl rfl rfl ?_)
  clear m7
  go_wp2_with fail
  refine (clo_sub _ _ a b _ k5 k6 ha hb).mono ?_
  rintro e Y ⟨rfl, rfl⟩
  rw [Hn.out]
  have hEY := HE2.out.grown G7.out (by omega) (fun k hk => by cases hk; omega)
  have g := HG.out.ext hEY
  clear ko4
  have hE := Below.trans HB.out (hEY.mono (by omega))
  clear HB HE2 hEY HG G7 k5 k6
  have HB := Lib.hid hE
  clear hE
  obtain ⟨ao, co, c0, h6, h7⟩ := g.c0
  have gz := g.fz 0
  have G := Lib.hid g
  have H6 := Lib.hid h6
  have H7 := Lib.hid h7
  have hM := g.lt
  have h6a := h6.alloc (Obj.cells #[.int .i64 n] 3)
  clear g h6 h7
  go_wp2_with (at_builtin; go_must (refine wpl_append rfl rfl Tryd.slInts B rfl h6a rfl (Row.oneAt _ _ _ _ (by simp)) (by simp [Value.oneCell']) (by unfold maxLen; omega) (by omega) (by simp; omega) ?_))
  all_goals first
    | exact ⟨rfl, do_over _ _ _ _ _ _ _ _ _ HB.out (by unfold Small; omega)⟩
    | (intro v1 w1 hown hg hb _
       obtain ⟨a1, d1, rfl, hr1⟩ := hown.row
       have hsm : Small n := by unfold Small; omega
       obtain ⟨hc, hz, hP⟩ := do_tail w _ w1 M B _ cr env s n ao a1 co d1 _ G.out HB.out hsm c0 H6.out H7.out hown hg hb (by omega)
       have HP := Lib.hid hP
       clear hown hg hb hr1 c0 gz h6a hP
       go_wp2
       go_end0
       exact HP.out)
set_option maxRecDepth 100000 in
set_option maxHeartbeats 2000000 in
theorem do_mul (w : World) (M B : Nat) (ar : Option Addr) (cr : Nat) (env s : List Int) (a b : Int) (h : Mc w M B ar cr env (s ++ [b] ++ [a])) (hs : s.length ≤ 900) (ha : Small a) (hb : Small b) :
    Calls Tryd.prog 32 #[.pointer (some ⟨M, 0, none⟩), .agg #[.int .i64 5, .int .i64 0]] w (DoPost w M B ar cr env s (a * b)) := by
  have hMw := h.lt
  have hE : Ext w (w.alloc (Obj.cells #[.int .i64 5, .int .i64 0] 36)) := (Ext.refl w).alloc (Nat.le_refl _) _
  have g := h.ext hE
  have hBM := h.new
  have HB := Lib.hid (hE.mono (by omega : B ≤ w.heap.size))
  clear hE h
  unfold Small at ha hb
  have hn2 : -1000000000000 ≤ a * b ∧ a * b ≤ 1000000000000 := by
    have h2 : (a * b).natAbs ≤ 1000000 * 1000000 := by rw [Int.natAbs_mul]; exact Nat.mul_le_mul (by omega) (by omega)
    omega
  generalize hn : ((a * b) : Int) = n at *
  have Hn := Lib.hid hn
  clear hn
  have hmm := @run_makeMap Tryd.prog
  have ko : (w.alloc (Obj.cells #[.int .i64 5, .int .i64 0] 36)).cell? ⟨w.heap.size, 0, none⟩ = some (.int .i64 5) := by simp [go_sem]
  have hmf : ∀ (fn : Fn) (first cap : Array Value) (w : World), (Instr.makeFunc fn first cap).run Tryd.prog w = .ok (.func fn first cap) w := fun _ _ _ _ => rfl
  go_enter Tryd.func32, Tryd.ntmps32
  go_wp2_with fail
  refine (pop_any _ M B ar cr env (s ++ [b]) a g (by simp; omega)).mono ?_
  rintro e W1 ⟨rfl, h, hbb⟩
  have hE := HB.out.grown hbb (by simp; omega) (fun k hk => by cases hk; omega)
  have ko1 := hbb.cell ko (by simp; omega)
  have hW1 : w.heap.size < W1.heap.size := World.block_lt_of_cell? _ _ ko1
  clear HB hbb g ko
  have HB := Lib.hid hE
  have g := h
  clear hE h
  go_wp2_with fail
  refine (pop_any _ M B ar cr env s b g (by omega)).mono ?_
  rintro e W ⟨rfl, h, hbb⟩
  have hE := HB.out.grown hbb (by omega) (fun k hk => by cases hk; omega)
  have ko2 := hbb.cell ko1 (by simp; omega)
  have hW2 : w.heap.size < W.heap.size := World.block_lt_of_cell? _ _ ko2
  clear HB hbb g ko1
  have hMW := h.lt
  have hE2 : Ext W (((W.alloc (Obj.cells #[.int .i64 a] 3)).alloc (Obj.cells #[.int .i64 b] 3)).alloc (Obj.map #[] 0)) := ((((Ext.refl W).alloc (Nat.le_refl _) _).alloc (by simp) _).alloc (by simp; omega) _)
  have hm := MapI.new ((W.alloc (Obj.cells #[.int .i64 a] 3)).alloc (Obj.cells #[.int .i64 b] 3))
  have h5 : (((W.alloc (Obj.cells #[.int .i64 a] 3)).alloc (Obj.cells #[.int .i64 b] 3)).alloc (Obj.map #[] 0)).cell? ⟨W.heap.size, 0, none⟩ = some (.int .i64 a) := by simp [go_sem]
  have h6 : (((W.alloc (Obj.cells #[.int .i64 a] 3)).alloc (Obj.cells #[.int .i64 b] 3)).alloc (Obj.map #[] 0)).cell? ⟨W.heap.size + 1, 0, none⟩ = some (.int .i64 b) := by simp [go_sem]
  simp only [heap_alloc2] at hm
  have ko3 := cells_of (w := W) ko2 (hE2.block _ hW2)
  clear ko2
  have HB := Lib.hid hE
  have HG := Lib.hid h
  have HE2 := Lib.hid hE2
  clear hE h hE2
  have hsX : W.heap.size + 1 + 1 < (((W.alloc (Obj.cells #[.int .i64 a] 3)).alloc (Obj.cells #[.int .i64 b] 3)).alloc (Obj.map #[] 0)).heap.size := by simp
  go_wp2_with (refine wpl_insert rfl rfl Tryd.underlying96 Tryd.underlying3 hm rfl rfl rfl ?_)
  generalize ((W.alloc (Obj.cells #[.int .i64 a] 3)).alloc (Obj.cells #[.int .i64 b] 3)).alloc (Obj.map #[] 0) = X at *
  intro X1 m1 g1
  have G1 := Lib.hid g1
  clear g1 hm
  go_wp2_with (refine wpl_insert rfl rfl Tryd.underlying96 Tryd.underlying3 m1 rfl rfl rfl ?_)
  intro X2 m2 g2
  have G2 := Lib.hid (G1.out.trans' g2)
  clear g2 m1 G1
  go_wp2_with (refine wpl_insert rfl rfl Tryd.underlying96 Tryd.underlying3 m2 rfl rfl rfl ?_)
  intro X3 m3 g3
  have G3 := Lib.hid (G2.out.trans' g3)
  clear g3 m2 G2
  go_wp2_with (refine wpl_insert rfl rfl Tryd.underlying96 Tryd.underlying3 m3 rfl rfl rfl ?_)
  intro X4 m4 g4
  have G4 := Lib.hid (G3.out.trans' g4)
  clear g4 m3 G3
  go_wp2_with (refine wpl_insert rfl rfl Tryd.underlying96 Tryd.underlying3 m4 rfl rfl rfl ?_)
  intro X5 m5 g5
  have G5 := Lib.hid (G4.out.trans' g5)
  clear g5 m4 G4
  go_wp2_with (refine wpl_insert rfl rfl Tryd.underlying96 Tryd.underlying3 m5 rfl rfl rfl ?_)
  intro X6 m6 g6
  have G6 := Lib.hid (G5.out.trans' g6)
  clear g6 m5 G5
  go_wp2_with (refine wpl_insert rfl rfl Tryd.underlying96 Tryd.underlying3 m6 rfl rfl rfl ?_)
  intro X7 m7 g7
  have G7 := Lib.hid (G6.out.trans' g7)
  clear g7 m6 G6
  have ko4 := G7.out.cell ko3 (by simp; omega)
  clear ko3
  have k5 := G7.out.cell h5 (by simp; omega)
  have k6 := G7.out.cell h6 (by simp)
  clear h5 h6
  go_wp2_with (refine wpl_lookup rfl rfl Tryd.underlying96 Tryd.underlying3 m7 rfl rfl rfl ?_)
  clear m7
  go_wp2_with fail
  refine (clo_mul _ _ a b _ k5 k6 ha hb).mono ?_
  rintro e Y ⟨rfl, rfl⟩
  rw [Hn.out]
  have hEY := HE2.out.grown G7.out (by omega) (fun k hk => by cases hk; omega)
  have g := HG.out.ext hEY
  clear ko4
  have hE := Below.trans HB.out (hEY.mono (by omega))
  clear HB HE2 hEY HG G7 k5 k6
  have HB := Lib.hid hE
  clear hE
  obtain ⟨ao, co, c0, h6, h7⟩ := g.c0
  have gz := g.fz 0
  have G := Lib.hid g
  have H6 := Lib.hid h6
  have H7 := Lib.hid h7
  have hM := g.lt
  have h6a := h6.alloc (Obj.cells #[.int .i64 n] 3)
  clear g h6 h7
  go_wp2_with (at_builtin; go_must (refine wpl_append rfl rfl Tryd.slInts B rfl h6a rfl (Row.oneAt _ _ _ _ (by simp)) (by simp [Value.oneCell']) (by unfold maxLen; omega) (by omega) (by simp; omega) ?_))
  all_goals first
    | exact ⟨rfl, do_over _ _ _ _ _ _ _ _ _ HB.out (by unfold Small; omega)⟩
    | (intro v1 w1 hown hg hb _
       obtain ⟨a1, d1, rfl, hr1⟩ := hown.row
       have hsm : Small n := by unfold Small; omega
       obtain ⟨hc, hz, hP⟩ := do_tail w _ w1 M B _ cr env s n ao a1 co d1 _ G.out HB.out hsm c0 H6.out H7.out hown hg hb (by omega)
       have HP := Lib.hid hP
       clear hown hg hb hr1 c0 gz h6a hP
       go_wp2
       go_end0
       exact HP.out)
set_option maxRecDepth 100000 in
set_option maxHeartbeats 2000000 in
theorem do_eq (w : World) (M B : Nat) (ar : Option Addr) (cr : Nat) (env s : List Int) (a b : Int) (h : Mc w M B ar cr env (s ++ [b] ++ [a])) (hs : s.length ≤ 900)  :
    Calls Tryd.prog 32 #[.pointer (some ⟨M, 0, none⟩), .agg #[.int .i64 6, .int .i64 0]] w (DoPost w M B ar cr env s (if a = b then 1 else 0)) := by
  have hMw := h.lt
  have hE : Ext w (w.alloc (Obj.cells #[.int .i64 6, .int .i64 0] 36)) := (Ext.refl w).alloc (Nat.le_refl _) _
  have g := h.ext hE
  have hBM := h.new
  have HB := Lib.hid (hE.mono (by omega : B ≤ w.heap.size))
  clear hE h
  have hn2 : 0 ≤ (if a = b then 1 else 0 : Int) ∧ (if a = b then 1 else 0 : Int) ≤ 1 := by split <;> omega
  generalize hn : ((if a = b then 1 else 0) : Int) = n at *
  have Hn := Lib.hid hn
  clear hn
  have hmm := @run_makeMap Tryd.prog
  have ko : (w.alloc (Obj.cells #[.int .i64 6, .int .i64 0] 36)).cell? ⟨w.heap.size, 0, none⟩ = some (.int .i64 6) := by simp [go_sem]
  have hmf : ∀ (fn : Fn) (first cap : Array Value) (w : World), (Instr.makeFunc fn first cap).run Tryd.prog w = .ok (.func fn first cap) w := fun _ _ _ _ => rfl
  go_enter Tryd.func32, Tryd.ntmps32
  go_wp2_with fail
  refine (pop_any _ M B ar cr env (s ++ [b]) a g (by simp; omega)).mono ?_
  rintro e W1 ⟨rfl, h, hbb⟩
  have hE := HB.out.grown hbb (by simp; omega) (fun k hk => by cases hk; omega)
  have ko1 := hbb.cell ko (by simp; omega)
  have hW1 : w.heap.size < W1.heap.size := World.block_lt_of_cell? _ _ ko1
  clear HB hbb g ko
  have HB := Lib.hid hE
  have g := h
  clear hE h
  go_wp2_with fail
  refine (pop_any _ M B ar cr env s b g (by omega)).mono ?_
  rintro e W ⟨rfl, h, hbb⟩
  have hE := HB.out.grown hbb (by omega) (fun k hk => by cases hk; omega)
  have ko2 := hbb.cell ko1 (by simp; omega)
  have hW2 : w.heap.size < W.heap.size := World.block_lt_of_cell? _ _ ko2
  clear HB hbb g ko1
  have hMW := h.lt
  have hE2 : Ext W (((W.alloc (Obj.cells #[.int .i64 a] 3)).alloc (Obj.cells #[.int .i64 b] 3)).alloc (Obj.map #[] 0)) := ((((Ext.refl W).alloc (Nat.le_refl _) _).alloc (by simp) _).alloc (by simp; omega) _)
  have hm := MapI.new ((W.alloc (Obj.cells #[.int .i64 a] 3)).alloc (Obj.cells #[.int .i64 b] 3))
  have h5 : (((W.alloc (Obj.cells #[.int .i64 a] 3)).alloc (Obj.cells #[.int .i64 b] 3)).alloc (Obj.map #[] 0)).cell? ⟨W.heap.size, 0, none⟩ = some (.int .i64 a) := by simp [go_sem]
  have h6 : (((W.alloc (Obj.cells #[.int .i64 a] 3)).alloc (Obj.cells #[.int .i64 b] 3)).alloc (Obj.map #[] 0)).cell? ⟨W.heap.size + 1, 0, none⟩ = some (.int .i64 b) := by simp [go_sem]
  simp only [heap_alloc2] at hm
  have ko3 := cells_of (w := W) ko2 (hE2.block _ hW2)
  clear ko2
  have HB := Lib.hid hE
  have HG := Lib.hid h
  have HE2 := Lib.hid hE2
  clear hE h hE2
  have hsX : W.heap.size + 1 + 1 < (((W.alloc (Obj.cells #[.int .i64 a] 3)).alloc (Obj.cells #[.int .i64 b] 3)).alloc (Obj.map #[] 0)).heap.size := by simp
  go_wp2_with (refine wpl_insert rfl rfl Tryd.underlying96 Tryd.underlying3 hm rfl rfl rfl ?_)
  generalize ((W.alloc (Obj.cells #[.int .i64 a] 3)).alloc (Obj.cells #[.int .i64 b] 3)).alloc (Obj.map #[] 0) = X at *
  intro X1 m1 g1
  have G1 := Lib.hid g1
  clear g1 hm
  go_wp2_with (refine wpl_insert rfl rfl Tryd.underlying96 Tryd.underlying3 m1 rfl rfl rfl ?_)
  intro X2 m2 g2
  have G2 := Lib.hid (G1.out.trans' g2)
  clear g2 m1 G1
  go_wp2_with (refine wpl_insert rfl rfl Tryd.underlying96 Tryd.underlying3 m2 rfl rfl rfl ?_)
  intro X3 m3 g3
  have G3 := Lib.hid (G2.out.trans' g3)
  clear g3 m2 G2
  go_wp2_with (refine wpl_insert rfl rfl Tryd.underlying96 Tryd.underlying3 m3 rfl rfl rfl ?_)
  intro X4 m4 g4
  have G4 := Lib.hid (G3.out.trans' g4)
  clear g4 m3 G3
  go_wp2_with (refine wpl_insert rfl rfl Tryd.underlying96 Tryd.underlying3 m4 rfl rfl rfl ?_)
  intro X5 m5 g5
  have G5 := Lib.hid (G4.out.trans' g5)
  clear g5 m4 G4
  go_wp2_with (refine wpl_insert rfl rfl Tryd.underlying96 Tryd.underlying3 m5 rfl rfl rfl ?_)
  intro X6 m6 g6
  have G6 := Lib.hid (G5.out.trans' g6)
  clear g6 m5 G5
  go_wp2_with (refine wpl_insert rfl rfl Tryd.underlying96 Tryd.underlying3 m6 rfl rfl rfl ?_)
  intro X7 m7 g7
  have G7 := Lib.hid (G6.out.trans' g7)
  clear g7 m6 G6
  have ko4 := G7.out.cell ko3 (by simp; omega)
  clear ko3
  have k5 := G7.out.cell h5 (by simp; omega)
  have k6 := G7.out.cell h6 (by simp)
  clear h5 h6
  go_wp2_with (refine wpl_lookup rfl rfl Tryd.underlying96 Tryd.underlying3 m7 rfl rfl rfl ?_)
  clear m7
  go_wp2_with fail
  refine (clo_eq _ _ a b _ k5 k6).mono ?_
  rintro e Y ⟨rfl, rfl⟩
  rw [Hn.out]
  have hEY := HE2.out.grown G7.out (by omega) (fun k hk => by cases hk; omega)
  have g := HG.out.ext hEY
  clear ko4
  have hE := Below.trans HB.out (hEY.mono (by omega))
  clear HB HE2 hEY HG G7 k5 k6
  have HB := Lib.hid hE
  clear hE
  obtain ⟨ao, co, c0, h6, h7⟩ := g.c0
  have gz := g.fz 0
  have G := Lib.hid g
  have H6 := Lib.hid h6
  have H7 := Lib.hid h7
  have hM := g.lt
  have h6a := h6.alloc (Obj.cells #[.int .i64 n] 3)
  clear g h6 h7
  go_wp2_with (at_builtin; go_must (refine wpl_append rfl rfl Tryd.slInts B rfl h6a rfl (Row.oneAt _ _ _ _ (by simp)) (by simp [Value.oneCell']) (by unfold maxLen; omega) (by omega) (by simp; omega) ?_))
  all_goals first
    | exact ⟨rfl, do_over _ _ _ _ _ _ _ _ _ HB.out (by unfold Small; omega)⟩
    | (intro v1 w1 hown hg hb _
       obtain ⟨a1, d1, rfl, hr1⟩ := hown.row
       have hsm : Small n := by unfold Small; omega
       obtain ⟨hc, hz, hP⟩ := do_tail w _ w1 M B _ cr env s n ao a1 co d1 _ G.out HB.out hsm c0 H6.out H7.out hown hg hb (by omega)
       have HP := Lib.hid hP
       clear hown hg hb hr1 c0 gz h6a hP
       go_wp2
       go_end0
       exact HP.out)
set_option maxRecDepth 100000 in
set_option maxHeartbeats 2000000 in
theorem do_lt (w : World) (M B : Nat) (ar : Option Addr) (cr : Nat) (env s : List Int) (a b : Int) (h : Mc w M B ar cr env (s ++ [b] ++ [a])) (hs : s.length ≤ 900)  :
    Calls Tryd.prog 32 #[.pointer (some ⟨M, 0, none⟩), .agg #[.int .i64 7, .int .i64 0]] w (DoPost w M B ar cr env s (if a < b then 1 else 0)) := by
  have hMw := h.lt
  have hE : Ext w (w.alloc (Obj.cells #[.int .i64 7, .int .i64 0] 36)) := (Ext.refl w).alloc (Nat.le_refl _) _
  have g := h.ext hE
  have hBM := h.new
  have HB := Lib.hid (hE.mono (by omega : B ≤ w.heap.size))
  clear hE h
  have hn2 : 0 ≤ (if a < b then 1 else 0 : Int) ∧ (if a < b then 1 else 0 : Int) ≤ 1 := by split <;> omega
  generalize hn : ((if a < b then 1 else 0) : Int) = n at *
  have Hn := Lib.hid hn
  clear hn
  have hmm := @run_makeMap Tryd.prog
  have ko : (w.alloc (Obj.cells #[.int .i64 7, .int .i64 0] 36)).cell? ⟨w.heap.size, 0, none⟩ = some (.int .i64 7) := by simp [go_sem]
  have hmf : ∀ (fn : Fn) (first cap : Array Value) (w : World), (Instr.makeFunc fn first cap).run Tryd.prog w = .ok (.func fn first cap) w := fun _ _ _ _ => rfl
  go_enter Tryd.func32, Tryd.ntmps32
  go_wp2_with fail
  refine (pop_any _ M B ar cr env (s ++ [b]) a g (by simp; omega)).mono ?_
  rintro e W1 ⟨rfl, h, hbb⟩
  have hE := HB.out.grown hbb (by simp; omega) (fun k hk => by cases hk; omega)
  have ko1 := hbb.cell ko (by simp; omega)
  have hW1 : w.heap.size < W1.heap.size := World.block_lt_of_cell? _ _ ko1
  clear HB hbb g ko
  have HB := Lib.hid hE
  have g := h
  clear hE h
  go_wp2_with fail
  refine (pop_any _ M B ar cr env s b g (by omega)).mono ?_
  rintro e W ⟨rfl, h, hbb⟩
  have hE := HB.out.grown hbb (by omega) (fun k hk => by cases hk; omega)
  have ko2 := hbb.cell ko1 (by simp; omega)
  have hW2 : w.heap.size < W.heap.size := World.block_lt_of_cell? _ _ ko2
  clear HB hbb g ko1
  have hMW := h.lt
  have hE2 : Ext W (((W.alloc (Obj.cells #[.int .i64 a] 3)).alloc (Obj.cells #[.int .i64 b] 3)).alloc (Obj.map #[] 0)) := ((((Ext.refl W).alloc (Nat.le_refl _) _).alloc (by simp) _).alloc (by simp; omega) _)
  have hm := MapI.new ((W.alloc (Obj.cells #[.int .i64 a] 3)).alloc (Obj.cells #[.int .i64 b] 3))
  have h5 : (((W.alloc (Obj.cells #[.int .i64 a] 3)).alloc (Obj.cells #[.int .i64 b] 3)).alloc (Obj.map #[] 0)).cell? ⟨W.heap.size, 0, none⟩ = some (.int .i64 a) := by simp [go_sem]
  have h6 : (((W.alloc (Obj.cells #[.int .i64 a] 3)).alloc (Obj.cells #[.int .i64 b] 3)).alloc (Obj.map #[] 0)).cell? ⟨W.heap.size + 1, 0, none⟩ = some (.int .i64 b) := by simp [go_sem]
  simp only [heap_alloc2] at hm
  have ko3 := cells_of (w := W) ko2 (hE2.block _ hW2)
  clear ko2
  have HB := Lib.hid hE
  have HG := Lib.hid h
  have HE2 := Lib.hid hE2
  clear hE h hE2
  have hsX : W.heap.size + 1 + 1 < (((W.alloc (Obj.cells #[.int .i64 a] 3)).alloc (Obj.cells #[.int .i64 b] 3)).alloc (Obj.map #[] 0)).heap.size := by simp
  go_wp2_with (refine wpl_insert rfl rfl Tryd.underlying96 Tryd.underlying3 hm rfl rfl rfl ?_)
  generalize ((W.alloc (Obj.cells #[.int .i64 a] 3)).alloc (Obj.cells #[.int .i64 b] 3)).alloc (Obj.map #[] 0) = X at *
  intro X1 m1 g1
  have G1 := Lib.hid g1
  clear g1 hm
  go_wp2_with (refine wpl_insert rfl rfl Tryd.underlying96 Tryd.underlying3 m1 rfl rfl rfl ?_)
  intro X2 m2 g2
  have G2 := Lib.hid (G1.out.trans' g2)
  clear g2 m1 G1
  go_wp2_with (refine wpl_insert rfl rfl Tryd.underlying96 Tryd.underlying3 m2 rfl rfl rfl ?_)
  intro X3 m3 g3
  have G3 := Lib.hid (G2.out.trans' g3)
  clear g3 m2 G2
  go_wp2_with (refine wpl_insert rfl rfl Tryd.underlying96 Tryd.underlying3 m3 rfl rfl rfl ?_)
  intro X4 m4 g4
  have G4 := Lib.hid (G3.out.trans' g4)
  clear g4 m3 G3
  go_wp2_with (refine wpl_insert rfl rfl Tryd.underlying96 Tryd.underlying3 m4 rfl rfl rfl ?_)
  intro X5 m5 g5
  have G5 := Lib.hid (G4.out.trans' g5)
  clear g5 m4 G4
  go_wp2_with (refine wpl_insert rfl rfl Tryd.underlying96 Tryd.underlying3 m5 rfl rfl rfl ?_)
  intro X6 m6 g6
  have G6 := Lib.hid (G5.out.trans' g6)
  clear g6 m5 G5
  go_wp2_with (refine wpl_insert rfl rfl Tryd.underlying96 Tryd.underlying3 m6 rfl rfl rfl ?_)
  intro X7 m7 g7
  have G7 := Lib.hid (G6.out.trans' g7)
  clear g7 m6 G6
  have ko4 := G7.out.cell ko3 (by simp; omega)
  clear ko3
  have k5 := G7.out.cell h5 (by simp; omega)
  have k6 := G7.out.cell h6 (by simp)
  clear h5 h6
  go_wp2_with (refine wpl_lookup rfl rfl Tryd.underlying96 Tryd.underlying3 m7 rfl rfl rfl ?_)
  clear m7
  go_wp2_with fail
  refine (clo_lt _ _ a b _ k5 k6).mono ?_
  rintro e Y ⟨rfl, rfl⟩
  rw [Hn.out]
  have hEY := HE2.out.grown G7.out (by omega) (fun k hk => by cases hk; omega)
  have g := HG.out.ext hEY
  clear ko4
  have hE := Below.trans HB.out (hEY.mono (by omega))
  clear HB HE2 hEY HG G7 k5 k6
  have HB := Lib.hid hE
  clear hE
  obtain ⟨ao, co, c0, h6, h7⟩ := g.c0
  have gz := g.fz 0
  have G := Lib.hid g
  have H6 := Lib.hid h6
  have H7 := Lib.hid h7
  have hM := g.lt
  have h6a := h6.alloc (Obj.cells #[.int .i64 n] 3)
  clear g h6 h7
  go_wp2_with (at_builtin; go_must (refine wpl_append rfl rfl Tryd.slInts B rfl h6a rfl (Row.oneAt _ _ _ _ (by simp)) (by simp [Value.oneCell']) (by unfold maxLen; omega) (by omega) (by simp; omega) ?_))
  all_goals first
    | exact ⟨rfl, do_over _ _ _ _ _ _ _ _ _ HB.out (by unfold Small; omega)⟩
    | (intro v1 w1 hown hg hb _
       obtain ⟨a1, d1, rfl, hr1⟩ := hown.row
       have hsm : Small n := by unfold Small; omega
       obtain ⟨hc, hz, hP⟩ := do_tail w _ w1 M B _ cr env s n ao a1 co d1 _ G.out HB.out hsm c0 H6.out H7.out hown hg hb (by omega)
       have HP := Lib.hid hP
       clear hown hg hb hr1 c0 gz h6a hP
       go_wp2
       go_end0
       exact HP.out)
set_option maxRecDepth 100000 in
set_option maxHeartbeats 2000000 in
theorem do_and (w : World) (M B : Nat) (ar : Option Addr) (cr : Nat) (env s : List Int) (a b : Int) (h : Mc w M B ar cr env (s ++ [b] ++ [a])) (hs : s.length ≤ 900) (ha : a = 0 ∨ a = 1) (hb : b = 0 ∨ b = 1) :
    Calls Tryd.prog 32 #[.pointer (some ⟨M, 0, none⟩), .agg #[.int .i64 8, .int .i64 0]] w (DoPost w M B ar cr env s (if a = 1 ∧ b = 1 then 1 else 0)) := by
  have hMw := h.lt
  have hE : Ext w (w.alloc (Obj.cells #[.int .i64 8, .int .i64 0] 36)) := (Ext.refl w).alloc (Nat.le_refl _) _
  have g := h.ext hE
  have hBM := h.new
  have HB := Lib.hid (hE.mono (by omega : B ≤ w.heap.size))
  clear hE h
  have hn2 : 0 ≤ (if a = 1 ∧ b = 1 then 1 else 0 : Int) ∧ (if a = 1 ∧ b = 1 then 1 else 0 : Int) ≤ 1 := by split <;> omega
  generalize hn : ((if a = 1 ∧ b = 1 then 1 else 0) : Int) = n at *
  have Hn := Lib.hid hn
  clear hn
  have hmm := @run_makeMap Tryd.prog
  have ko : (w.alloc (Obj.cells #[.int .i64 8, .int .i64 0] 36)).cell? ⟨w.heap.size, 0, none⟩ = some (.int .i64 8) := by simp [go_sem]
  have hmf : ∀ (fn : Fn) (first cap : Array Value) (w : World), (Instr.makeFunc fn first cap).run Tryd.prog w = .ok (.func fn first cap) w := fun _ _ _ _ => rfl
  go_enter Tryd.func32, Tryd.ntmps32
  go_wp2_with fail
  refine (pop_any _ M B ar cr env (s ++ [b]) a g (by simp; omega)).mono ?_
  rintro e W1 ⟨rfl, h, hbb⟩
  have hE := HB.out.grown hbb (by simp; omega) (fun k hk => by cases hk; omega)
  have ko1 := hbb.cell ko (by simp; omega)
  have hW1 : w.heap.size < W1.heap.size := World.block_lt_of_cell? _ _ ko1
  clear HB hbb g ko
  have HB := Lib.hid hE
  have g := h
  clear hE h
  go_wp2_with fail
  refine (pop_any _ M B ar cr env s b g (by omega)).mono ?_
  rintro e W ⟨rfl, h, hbb⟩
  have hE := HB.out.grown hbb (by omega) (fun k hk => by cases hk; omega)
  have ko2 := hbb.cell ko1 (by simp; omega)
  have hW2 : w.heap.size < W.heap.size := World.block_lt_of_cell? _ _ ko2
  clear HB hbb g ko1
  have hMW := h.lt
  have hE2 : Ext W (((W.alloc (Obj.cells #[.int .i64 a] 3)).alloc (Obj.cells #[.int .i64 b] 3)).alloc (Obj.map #[] 0)) := ((((Ext.refl W).alloc (Nat.le_refl _) _).alloc (by simp) _).alloc (by simp; omega) _)
  have hm := MapI.new ((W.alloc (Obj.cells #[.int .i64 a] 3)).alloc (Obj.cells #[.int .i64 b] 3))
  have h5 : (((W.alloc (Obj.cells #[.int .i64 a] 3)).alloc (Obj.cells #[.int .i64 b] 3)).alloc (Obj.map #[] 0)).cell? ⟨W.heap.size, 0, none⟩ = some (.int .i64 a) := by simp [go_sem]
  have h6 : (((W.alloc (Obj.cells #[.int .i64 a] 3)).alloc (Obj.cells #[.int .i64 b] 3)).alloc (Obj.map #[] 0)).cell? ⟨W.heap.size + 1, 0, none⟩ = some (.int .i64 b) := by simp [go_sem]
  simp only [heap_alloc2] at hm
  have ko3 := cells_of (w := W) ko2 (hE2.block _ hW2)
  clear ko2
  have HB := Lib.hid hE
  have HG := Lib.hid h
  have HE2 := Lib.hid hE2
  clear hE h hE2
  have hsX : W.heap.size + 1 + 1 < (((W.alloc (Obj.cells #[.int .i64 a] 3)).alloc (Obj.cells #[.int .i64 b] 3)).alloc (Obj.map #[] 0)).heap.size := by simp
  go_wp2_with (refine wpl_insert rfl rfl Tryd.underlying96 Tryd.underlying3 hm rfl rfl rfl ?_)
  generalize ((W.alloc (Obj.cells #[.int .i64 a] 3)).alloc (Obj.cells #[.int .i64 b] 3)).alloc (Obj.map #[] 0) = X at *
  intro X1 m1 g1
  have G1 := Lib.hid g1
  clear g1 hm
  go_wp2_with (refine wpl_insert rfl rfl Tryd.underlying96 Tryd.underlying3 m1 rfl rfl rfl ?_)
  intro X2 m2 g2
  have G2 := Lib.hid (G1.out.trans' g2)
  clear g2 m1 G1
  go_wp2_with (refine wpl_insert rfl rfl Tryd.underlying96 Tryd.underlying3 m2 rfl rfl rfl ?_)
  intro X3 m3 g3
  have G3 := Lib.hid (G2.out.trans' g3)
  clear g3 m2 G2
  go_wp2_with (refine wpl_insert rfl rfl Tryd.underlying96 Tryd.underlying3 m3 rfl rfl rfl ?_)
  intro X4 m4 g4
  have G4 := Lib.hid (G3.out.trans' g4)
  clear g4 m3 G3
  go_wp2_with (refine wpl_insert rfl rfl Tryd.underlying96 Tryd.underlying3 m4 rfl rfl rfl ?_)
  intro X5 m5 g5
  have G5 := Lib.hid (G4.out.trans' g5)
  clear g5 m4 G4
  go_wp2_with (refine wpl_insert rfl rfl Tryd.underlying96 Tryd.underlying3 m5 rfl rfl rfl ?_)
  intro X6 m6 g6
  have G6 := Lib.hid (G5.out.trans' g6)
  clear g6 m5 G5
  go_wp2_with (refine wpl_insert rfl rfl Tryd.underlying96 Tryd.underlying3 m6 rfl rfl rfl ?_)
  intro X7 m7 g7
  have G7 := Lib.hid (G6.out.trans' g7)
  clear g7 m6 G6
  have ko4 := G7.out.cell ko3 (by simp; omega)
  clear ko3
  have k5 := G7.out.cell h5 (by simp; omega)
  have k6 := G7.out.cell h6 (by simp)
  clear h5 h6
  go_wp2_with (refine wpl_lookup rfl rfl Tryd.underlying96 Tryd.underlying3 m7 rfl rfl rfl ?_)
  clear m7
  go_wp2_with fail
  refine (clo_and _ _ a b _ k5 k6 ha hb).mono ?_
  rintro e Y ⟨rfl, rfl⟩
  rw [Hn.out]
  have hEY := HE2.out.grown G7.out (by omega) (fun k hk => by cases hk; omega)
  have g := HG.out.ext hEY
  clear ko4
  have hE := Below.trans HB.out (hEY.mono (by omega))
  clear HB HE2 hEY HG G7 k5 k6
  have HB := Lib.hid hE
  clear hE
  obtain ⟨ao, co, c0, h6, h7⟩ := g.c0
  have gz := g.fz 0
  have G := Lib.hid g
  have H6 := Lib.hid h6
  have H7 := Lib.hid h7
  have hM := g.lt
  have h6a := h6.alloc (Obj.cells #[.int .i64 n] 3)
  clear g h6 h7
  go_wp2_with (at_builtin; go_must (refine wpl_append rfl rfl Tryd.slInts B rfl h6a rfl (Row.oneAt _ _ _ _ (by simp)) (by simp [Value.oneCell']) (by unfold maxLen; omega) (by omega) (by simp; omega) ?_))
  all_goals first
    | exact ⟨rfl, do_over _ _ _ _ _ _ _ _ _ HB.out (by unfold Small; omega)⟩
    | (intro v1 w1 hown hg hb _
       obtain ⟨a1, d1, rfl, hr1⟩ := hown.row
       have hsm : Small n := by unfold Small; omega
       obtain ⟨hc, hz, hP⟩ := do_tail w _ w1 M B _ cr env s n ao a1 co d1 _ G.out HB.out hsm c0 H6.out H7.out hown hg hb (by omega)
       have HP := Lib.hid hP
       clear hown hg hb hr1 c0 gz h6a hP
       go_wp2
       go_end0
       exact HP.out)
set_option maxRecDepth 100000 in
set_option maxHeartbeats 2000000 in
theorem do_or (w : World) (M B : Nat) (ar : Option Addr) (cr : Nat) (env s : List Int) (a b : Int) (h : Mc w M B ar cr env (s ++ [b] ++ [a])) (hs : s.length ≤ 900) (ha : a = 0 ∨ a = 1) (hb : b = 0 ∨ b = 1) :
    Calls Tryd.prog 32 #[.pointer (some ⟨M, 0, none⟩), .agg #[.int .i64 9, .int .i64 0]] w (DoPost w M B ar cr env s (if a = 1 ∨ b = 1 then 1 else 0)) := by
  have hMw := h.lt
  have hE : Ext w (w.alloc (Obj.cells #[.int .i64 9, .int .i64 0] 36)) := (Ext.refl w).alloc (Nat.le_refl _) _
  have g := h.ext hE
  have hBM := h.new
  have HB := Lib.hid (hE.mono (by omega : B ≤ w.heap.size))
  clear hE h
  have hn2 : 0 ≤ (if a = 1 ∨ b = 1 then 1 else 0 : Int) ∧ (if a = 1 ∨ b = 1 then 1 else 0 : Int) ≤ 1 := by split <;> omega
  generalize hn : ((if a = 1 ∨ b = 1 then 1 else 0) : Int) = n at *
  have Hn := Lib.hid hn
  clear hn
  have hmm := @run_makeMap Tryd.prog
  have ko : (w.alloc (Obj.cells #[.int .i64 9, .int .i64 0] 36)).cell? ⟨w.heap.size, 0, none⟩ = some (.int .i64 9) := by simp [go_sem]
  have hmf : ∀ (fn : Fn) (first cap : Array Value) (w : World), (Instr.makeFunc fn first cap).run Tryd.prog w = .ok (.func fn first cap) w := fun _ _ _ _ => rfl
  go_enter Tryd.func32, Tryd.ntmps32
  go_wp2_with fail
  refine (pop_any _ M B ar cr env (s ++ [b]) a g (by simp; omega)).mono ?_
  rintro e W1 ⟨rfl, h, hbb⟩
  have hE := HB.out.grown hbb (by simp; omega) (fun k hk => by cases hk; omega)
  have ko1 := hbb.cell ko (by simp; omega)
  have hW1 : w.heap.size < W1.heap.size := World.block_lt_of_cell? _ _ ko1
  clear HB hbb g ko
  have HB := Lib.hid hE
  have g := h
  clear hE h
  go_wp2_with fail
  refine (pop_any _ M B ar cr env s b g (by omega)).mono ?_
  rintro e W ⟨rfl, h, hbb⟩
  have hE := HB.out.grown hbb (by omega) (fun k hk => by cases hk; omega)
  have ko2 := hbb.cell ko1 (by simp; omega)
  have hW2 : w.heap.size < W.heap.size := World.block_lt_of_cell? _ _ ko2
  clear HB hbb g ko1
  have hMW := h.lt
  have hE2 : Ext W (((W.alloc (Obj.cells #[.int .i64 a] 3)).alloc (Obj.cells #[.int .i64 b] 3)).alloc (Obj.map #[] 0)) := ((((Ext.refl W).alloc (Nat.le_refl _) _).alloc (by simp) _).alloc (by simp; omega) _)
  have hm := MapI.new ((W.alloc (Obj.cells #[.int .i64 a] 3)).alloc (Obj.cells #[.int .i64 b] 3))
  have h5 : (((W.alloc (Obj.cells #[.int .i64 a] 3)).alloc (Obj.cells #[.int .i64 b] 3)).alloc (Obj.map #[] 0)).cell? ⟨W.heap.size, 0, none⟩ = some (.int .i64 a) := by simp [go_sem]
  have h6 : (((W.alloc (Obj.cells #[.int .i64 a] 3)).alloc (Obj.cells #[.int .i64 b] 3)).alloc (Obj.map #[] 0)).cell? ⟨W.heap.size + 1, 0, none⟩ = some (.int .i64 b) := by simp [go_sem]
  simp only [heap_alloc2] at hm
  have ko3 := cells_of (w := W) ko2 (hE2.block _ hW2)
  clear ko2
  have HB := Lib.hid hE
  have HG := Lib.hid h
  have HE2 := Lib.hid hE2
  clear hE h hE2
  have hsX : W.heap.size + 1 + 1 < (((W.alloc (Obj.cells #[.int .i64 a] 3)).alloc (Obj.cells #[.int .i64 b] 3)).alloc (Obj.map #[] 0)).heap.size := by simp
  go_wp2_with (refine wpl_insert rfl rfl Tryd.underlying96 Tryd.underlying3 hm rfl rfl rfl ?_)
  generalize ((W.alloc (Obj.cells #[.int .i64 a] 3)).alloc (Obj.cells #[.int .i64 b] 3)).alloc (Obj.map #[] 0) = X at *
  intro X1 m1 g1
  have G1 := Lib.hid g1
  clear g1 hm
  go_wp2_with (refine wpl_insert rfl rfl Tryd.underlying96 Tryd.underlying3 m1 rfl rfl rfl ?_)
  intro X2 m2 g2
  have G2 := Lib.hid (G1.out.trans' g2)
  clear g2 m1 G1
  go_wp2_with (refine wpl_insert rfl rfl Tryd.underlying96 Tryd.underlying3 m2 rfl rfl rfl ?_)
  intro X3 m3 g3
  have G3 := Lib.hid (G2.out.trans' g3)
  clear g3 m2 G2
  go_wp2_with (refine wpl_insert rfl rfl Tryd.underlying96 Tryd.underlying3 m3 rfl rfl rfl ?_)
  intro X4 m4 g4
  have G4 := Lib.hid (G3.out.trans' g4)
  clear g4 m3 G3
  go_wp2_with (refine wpl_insert rfl rfl Tryd.underlying96 Tryd.underlying3 m4 rfl rfl rfl ?_)
  intro X5 m5 g5
  have G5 := Lib.hid (G4.out.trans' g5)
  clear g5 m4 G4
  go_wp2_with (refine wpl_insert rfl rfl Tryd.underlying96 Tryd.underlying3 m5 rfl rfl rfl ?_)
  intro X6 m6 g6
  have G6 := Lib.hid (G5.out.trans' g6)
  clear g6 m5 G5
  go_wp2_with (refine wpl_insert rfl rfl Tryd.underlying96 Tryd.underlying3 m6 rfl rfl rfl ?_)
  intro X7 m7 g7
  have G7 := Lib.hid (G6.out.trans' g7)
  clear g7 m6 G6
  have ko4 := G7.out.cell ko3 (by simp; omega)
  clear ko3
  have k5 := G7.out.cell h5 (by simp; omega)
  have k6 := G7.out.cell h6 (by simp)
  clear h5 h6
  go_wp2_with (refine wpl_lookup rfl rfl Tryd.underlying96 Tryd.underlying3 m7 rfl rfl rfl ?_)
  clear m7
  go_wp2_with fail
  refine (clo_or _ _ a b _ k5 k6 ha hb).mono ?_
  rintro e Y ⟨rfl, rfl⟩
  rw [Hn.out]
  have hEY := HE2.out.grown G7.out (by omega) (fun k hk => by cases hk; omega)
  have g := HG.out.ext hEY
  clear ko4
  have hE := Below.trans HB.out (hEY.mono (by omega))
  clear HB HE2 hEY HG G7 k5 k6
  have HB := Lib.hid hE
  clear hE
  obtain ⟨ao, co, c0, h6, h7⟩ := g.c0
  have gz := g.fz 0
  have G := Lib.hid g
  have H6 := Lib.hid h6
  have H7 := Lib.hid h7
  have hM := g.lt
  have h6a := h6.alloc (Obj.cells #[.int .i64 n] 3)
  clear g h6 h7
  go_wp2_with (at_builtin; go_must (refine wpl_append rfl rfl Tryd.slInts B rfl h6a rfl (Row.oneAt _ _ _ _ (by simp)) (by simp [Value.oneCell']) (by unfold maxLen; omega) (by omega) (by simp; omega) ?_))
  all_goals first
    | exact ⟨rfl, do_over _ _ _ _ _ _ _ _ _ HB.out (by unfold Small; omega)⟩
    | (intro v1 w1 hown hg hb _
       obtain ⟨a1, d1, rfl, hr1⟩ := hown.row
       have hsm : Small n := by unfold Small; omega
       obtain ⟨hc, hz, hP⟩ := do_tail w _ w1 M B _ cr env s n ao a1 co d1 _ G.out HB.out hsm c0 H6.out H7.out hown hg hb (by omega)
       have HP := Lib.hid hP
       clear hown hg hb hr1 c0 gz h6a hP
       go_wp2
       go_end0
       exact HP.out)
end Go.Proofs.YtopkbjfjncpjdaaDoor
