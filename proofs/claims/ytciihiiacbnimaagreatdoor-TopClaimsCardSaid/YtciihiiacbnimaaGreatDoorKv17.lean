/- Several texts in one: Do; Eval; EvalA; EvalB. No condition. -/
import Derived.Test.YtciihiiacbnimaaGreatDoorKv13
import Derived.Test.YtciihiiacbnimaaGreatDoorKv6
namespace Go.Proofs.YtciihiiacbnimaaGreatDoor
open Go.RowKit
def opV (k a b : Int) : Int :=
  if k = 3 then a + b else if k = 4 then a - b else if k = 5 then a * b
  else if k = 6 then (if a = b then 1 else 0) else if k = 7 then (if a < b then 1 else 0)
  else if k = 8 then (if a = 1 ∧ b = 1 then 1 else 0) else (if a = 1 ∨ b = 1 then 1 else 0)
def Small (n : Int) : Prop := -1000000 ≤ n ∧ n ≤ 1000000
instance (n : Int) : Decidable (Small n) := by unfold Small; infer_instance
def DoPost (w : World) (M B : Nat) (ar : Option Addr) (cr : Nat) (env s : List Int) (n : Int) (e : Ending) (w' : World) : Prop :=
  Below B w w' ∧ if Small n then e = .returned (.tuple #[]) ∧ Mc w' M B ar cr env (s ++ [n]) else e = .panicked [{ v := errV 8, recovered := false }]
theorem Row.oneAt (w : World) (t : TypeId) (x : Value) (k : Nat) (hk : k = w.heap.size) : Row (w.alloc (.cells #[x] t)) 1 (some ⟨k, 0, none⟩) 1 1 [x] := by subst hk; exact Row.one w t x
theorem do_tail (w W w1 : World) (M B : Nat) (ar : Option Addr) (cr : Nat) (env s : List Int) (n : Int) (ao a1 : Option Addr) (co d1 k : Nat) (h : Mc W M B ar cr env s) (hB : Below B w W) (hsm : Small n)
    (c0 : W.cell? ⟨M, 0, none⟩ = some (.slice ao s.length co)) (h6 : W.ownsRow B 3 1 (.slice ao s.length co) s.length (s.map (.int .i64))) (h7 : (Value.slice ao s.length co).ownBlock ≠ some M)
    (hown : w1.ownsRow B 3 1 (.slice a1 (s.length + 1) d1) (s.length + 1) (s.map (.int .i64) ++ [.int .i64 n])) (hg : (W.alloc (.cells #[.int .i64 n] 3)).grownBy w1 (Value.slice ao s.length co).ownBlock)
    (hb : (Value.slice a1 (s.length + 1) d1).ownBlock = (Value.slice ao s.length co).ownBlock ∨ (Value.slice a1 (s.length + 1) d1).ownBlock = some k) (hk : M < k) :
    w1.cell? ⟨M, 0, none⟩ = some (.slice ao s.length co) ∧ w1.frozen? ⟨M, 0, none⟩ = false ∧ DoPost w M B ar cr env s n (.returned (.tuple #[])) (w1.setCell ⟨M, 0, none⟩ (.slice a1 (s.length + 1) d1)) := by
  have hM := h.lt
  have hnew := h.new
  have hnG : (Value.slice a1 (s.length + 1) d1).ownBlock ≠ some M := by
    rcases hb with hb | hb
    · rw [hb]; exact h7
    · rw [hb]; intro e; injection e; omega
  have hblk : ∀ i, i < W.heap.size → some i ≠ (Value.slice ao s.length co).ownBlock → w1.heap[i]? = W.heap[i]? := fun i hi hn => (hg.block i (by simp; omega) hn).trans (Below.heap_alloc _ _ _ hi)
  have hGb := hblk M hM (fun e => h7 e.symm)
  have hz : ∀ i, w1.frozen? ⟨M, i, none⟩ = false := fun i => (World.frozen?_of_block (w := W) hGb).trans (h.fz i)
  refine ⟨cells_of c0 hGb, hz 0, ?_, ?_⟩
  · have h1 : Below B W w1 := (((Ext.refl W).alloc (Nat.le_refl _) _).mono (by omega)).grown hg (by simp; omega) (fun k hk => (h6.lt k hk).1)
    exact (hB.trans h1).setCell hnew _
  · rw [if_pos hsm]
    refine ⟨rfl, ⟨a1, d1, ?_, ?_, ?_⟩, ?_, fun i => (World.frozen?_setCell _ _ _ _).trans (hz i), ?_, h.old, hnew⟩
    · have := cell_set (v := .slice a1 (s.length + 1) d1) (cells_of c0 hGb)
      simpa using this
    · have := own_setCell hown (p := ⟨M, 0, none⟩) (.slice a1 (s.length + 1) d1) hnG
      simpa using this
    · simpa using hnG
    · exact cell_set_ne (cells_of h.c1 hGb) (by omega)
    · refine h.row.keep fun q hq hx => ?_
      have hqB := h.old q hq (by simpa using hx)
      rw [Below.heap_setCell _ _ _ _ (show q.block ≠ M by omega)]
      refine hblk _ (by omega) (fun e => ?_)
      have := (h6.lt _ e.symm).1
      omega
theorem do_over (w W : World) (M B : Nat) (ar : Option Addr) (cr : Nat) (env s : List Int) (n : Int) (hB : Below B w W) (hn : ¬ Small n) : DoPost w M B ar cr env s n (.panicked [{ v := errV 8, recovered := false }]) W := by
  refine ⟨hB, ?_⟩
  rw [if_neg hn]
set_option maxRecDepth 100000 in
set_option maxHeartbeats 2000000 in
theorem do_num (w : World) (M B : Nat) (ar : Option Addr) (cr : Nat) (env s : List Int) (n : Int) (h : Mc w M B ar cr env s) (hs : s.length ≤ 900) (hn : I64 n) :
    Calls Tryz.prog 51 #[.pointer (some ⟨M, 0, none⟩), .agg #[.int .i64 1, .int .i64 n]] w (DoPost w M B ar cr env s n) := by
  have hMw := h.lt
  have hE : Ext w (w.alloc (Obj.cells #[.int .i64 1, .int .i64 n] 102)) := (Ext.refl w).alloc (Nat.le_refl _) _
  have g := h.ext hE
  have hBM := h.new
  have HB := Lib.hid (hE.mono (by omega : B ≤ w.heap.size))
  clear hE h
  unfold I64 at hn
  go_enter Tryz.func51, Tryz.ntmps51
  obtain ⟨ao, co, c0, h6, h7⟩ := g.c0
  have gz := g.fz 0
  have G := Lib.hid g
  have H6 := Lib.hid h6
  have H7 := Lib.hid h7
  have hM := g.lt
  have h6a := h6.alloc (Obj.cells #[.int .i64 n] 3)
  clear g h6 h7
  go_wp2_with (at_builtin; go_must (refine wpl_append rfl rfl Tryz.slInts B rfl h6a rfl (Row.oneAt _ _ _ _ (by simp)) (by simp [Value.oneCell']) (by unfold maxLen; omega) (by omega) (by simp; omega) ?_))
  all_goals first
    | exact ⟨rfl, do_over _ _ _ _ _ _ _ _ _ HB.out (by unfold Small; omega)⟩
    | (intro v1 w1 hown hg hb _
       obtain ⟨a1, d1, rfl, hr1⟩ := hown.row
       have hsm : Small n := by unfold Small; omega
       obtain ⟨hc, hz, hP⟩ := do_tail w _ w1 M B _ cr env s n ao a1 co d1 _ G.out HB.out hsm c0 H6.out H7.out hown hg hb (by omega)
       have HP := Lib.hid hP
       clear hown hg hb hr1 c0 gz h6a hP
       go_wp2
       go_end0
       exact HP.out)
set_option maxRecDepth 100000 in
set_option maxHeartbeats 2000000 in
theorem do_yes (w : World) (M B : Nat) (ar : Option Addr) (cr : Nat) (env s : List Int)  (h : Mc w M B ar cr env s) (hs : s.length ≤ 900)  :
    Calls Tryz.prog 51 #[.pointer (some ⟨M, 0, none⟩), .agg #[.int .i64 11, .int .i64 0]] w (DoPost w M B ar cr env s 1) := by
  have hMw := h.lt
  have hE : Ext w (w.alloc (Obj.cells #[.int .i64 11, .int .i64 0] 102)) := (Ext.refl w).alloc (Nat.le_refl _) _
  have g := h.ext hE
  have hBM := h.new
  have HB := Lib.hid (hE.mono (by omega : B ≤ w.heap.size))
  clear hE h
  go_enter Tryz.func51, Tryz.ntmps51
  obtain ⟨ao, co, c0, h6, h7⟩ := g.c0
  have gz := g.fz 0
  have G := Lib.hid g
  have H6 := Lib.hid h6
  have H7 := Lib.hid h7
  have hM := g.lt
  have h6a := h6.alloc (Obj.cells #[.int .i64 1] 3)
  clear g h6 h7
  go_wp2_with (at_builtin; go_must (refine wpl_append rfl rfl Tryz.slInts B rfl h6a rfl (Row.oneAt _ _ _ _ (by simp)) (by simp [Value.oneCell']) (by unfold maxLen; omega) (by omega) (by simp; omega) ?_))
  all_goals first
    | exact ⟨rfl, do_over _ _ _ _ _ _ _ _ _ HB.out (by unfold Small; omega)⟩
    | (intro v1 w1 hown hg hb _
       obtain ⟨a1, d1, rfl, hr1⟩ := hown.row
       have hsm : Small 1 := by unfold Small; omega
       obtain ⟨hc, hz, hP⟩ := do_tail w _ w1 M B _ cr env s 1 ao a1 co d1 _ G.out HB.out hsm c0 H6.out H7.out hown hg hb (by omega)
       have HP := Lib.hid hP
       clear hown hg hb hr1 c0 gz h6a hP
       go_wp2
       go_end0
       exact HP.out)
set_option maxRecDepth 100000 in
set_option maxHeartbeats 2000000 in
theorem do_no (w : World) (M B : Nat) (ar : Option Addr) (cr : Nat) (env s : List Int)  (h : Mc w M B ar cr env s) (hs : s.length ≤ 900)  :
    Calls Tryz.prog 51 #[.pointer (some ⟨M, 0, none⟩), .agg #[.int .i64 12, .int .i64 0]] w (DoPost w M B ar cr env s 0) := by
  have hMw := h.lt
  have hE : Ext w (w.alloc (Obj.cells #[.int .i64 12, .int .i64 0] 102)) := (Ext.refl w).alloc (Nat.le_refl _) _
  have g := h.ext hE
  have hBM := h.new
  have HB := Lib.hid (hE.mono (by omega : B ≤ w.heap.size))
  clear hE h
  go_enter Tryz.func51, Tryz.ntmps51
  obtain ⟨ao, co, c0, h6, h7⟩ := g.c0
  have gz := g.fz 0
  have G := Lib.hid g
  have H6 := Lib.hid h6
  have H7 := Lib.hid h7
  have hM := g.lt
  have h6a := h6.alloc (Obj.cells #[.int .i64 0] 3)
  clear g h6 h7
  go_wp2_with (at_builtin; go_must (refine wpl_append rfl rfl Tryz.slInts B rfl h6a rfl (Row.oneAt _ _ _ _ (by simp)) (by simp [Value.oneCell']) (by unfold maxLen; omega) (by omega) (by simp; omega) ?_))
  all_goals first
    | exact ⟨rfl, do_over _ _ _ _ _ _ _ _ _ HB.out (by unfold Small; omega)⟩
    | (intro v1 w1 hown hg hb _
       obtain ⟨a1, d1, rfl, hr1⟩ := hown.row
       have hsm : Small 0 := by unfold Small; omega
       obtain ⟨hc, hz, hP⟩ := do_tail w _ w1 M B _ cr env s 0 ao a1 co d1 _ G.out HB.out hsm c0 H6.out H7.out hown hg hb (by omega)
       have HP := Lib.hid hP
       clear hown hg hb hr1 c0 gz h6a hP
       go_wp2
       go_end0
       exact HP.out)
set_option maxRecDepth 100000 in
set_option maxHeartbeats 2000000 in
theorem do_var (w : World) (M B : Nat) (ar : Option Addr) (cr : Nat) (env s : List Int) (v : Nat) (hv : v < env.length) (h : Mc w M B ar cr env s) (hs : s.length ≤ 900) (hn : I64 env[v]) :
    Calls Tryz.prog 51 #[.pointer (some ⟨M, 0, none⟩), .agg #[.int .i64 2, .int .i64 (v : Int)]] w (DoPost w M B ar cr env s env[v]) := by
  have hMw := h.lt
  have hE : Ext w (w.alloc (Obj.cells #[.int .i64 2, .int .i64 (v : Int)] 102)) := (Ext.refl w).alloc (Nat.le_refl _) _
  have g := h.ext hE
  have hBM := h.new
  have HB := Lib.hid (hE.mono (by omega : B ≤ w.heap.size))
  clear hE h
  obtain ⟨b, off, ha, hc⟩ := int_row g.row
  obtain rfl := ha (by omega)
  have ce := hc v hv
  have c1 := g.c1
  have fz1 := g.fz 1
  have hlen : env.length ≤ 9223372036854775807 := by have := g.row.le; have := g.row.max; unfold maxLen at this; omega
  have H0 := Lib.hid g
  clear hc ha g
  generalize hx : env[v] = x at *
  unfold I64 at hn
  go_enter Tryz.func51, Tryz.ntmps51
  go_wp2_with fail
  go_quiet (fail)
  have g := H0.out.ext (below_drewN (Ext.refl _) nq)
  have hE := Below.trans HB.out (below_drewN (Below.refl B _) nq)
  clear H0 HB ce c1 fz1
  have HB := Lib.hid hE
  clear hE
  generalize (w.alloc (Obj.cells #[.int .i64 2, .int .i64 v] 102)).drewN nq = W at *
  obtain ⟨ao, co, c0, h6, h7⟩ := g.c0
  have gz := g.fz 0
  have G := Lib.hid g
  have H6 := Lib.hid h6
  have H7 := Lib.hid h7
  have hM := g.lt
  have h6a := h6.alloc (Obj.cells #[.int .i64 x] 3)
  clear g h6 h7
  go_wp2_with (at_builtin; go_must (refine wpl_append rfl rfl Tryz.slInts B rfl h6a rfl (Row.oneAt _ _ _ _ (by simp)) (by simp [Value.oneCell']) (by unfold maxLen; omega) (by omega) (by simp; omega) ?_))
  all_goals first
    | exact ⟨rfl, do_over _ _ _ _ _ _ _ _ _ HB.out (by unfold Small; omega)⟩
    | (intro v1 w1 hown hg hb _
       obtain ⟨a1, d1, rfl, hr1⟩ := hown.row
       have hsm : Small x := by unfold Small; omega
       obtain ⟨hc, hz, hP⟩ := do_tail w _ w1 M B _ cr env s x ao a1 co d1 _ G.out HB.out hsm c0 H6.out H7.out hown hg hb (by omega)
       have HP := Lib.hid hP
       clear hown hg hb hr1 c0 gz h6a hP
       go_wp2
       go_end0
       exact HP.out)
set_option maxRecDepth 100000 in
set_option maxHeartbeats 2000000 in
theorem do_not (w : World) (M B : Nat) (ar : Option Addr) (cr : Nat) (env s : List Int) (x : Int) (h : Mc w M B ar cr env (s ++ [x])) (hs : s.length ≤ 900) (hx : Small x) :
    Calls Tryz.prog 51 #[.pointer (some ⟨M, 0, none⟩), .agg #[.int .i64 10, .int .i64 0]] w (DoPost w M B ar cr env s (1 - x)) := by
  have hMw := h.lt
  have hE : Ext w (w.alloc (Obj.cells #[.int .i64 10, .int .i64 0] 102)) := (Ext.refl w).alloc (Nat.le_refl _) _
  have g := h.ext hE
  have hBM := h.new
  have HB := Lib.hid (hE.mono (by omega : B ≤ w.heap.size))
  clear hE h
  unfold Small at hx
  go_enter Tryz.func51, Tryz.ntmps51
  go_wp2_with fail
  refine (pop_any _ M B ar cr env s x g (by omega)).mono ?_
  rintro e W ⟨rfl, h, hb⟩
  have hE := HB.out.grown hb (by simp; omega) (fun k hk => by cases hk; omega)
  clear HB hb g
  have HB := Lib.hid hE
  have g := h
  clear hE h
  obtain ⟨ao, co, c0, h6, h7⟩ := g.c0
  have gz := g.fz 0
  have G := Lib.hid g
  have H6 := Lib.hid h6
  have H7 := Lib.hid h7
  have hM := g.lt
  have h6a := h6.alloc (Obj.cells #[.int .i64 (1 - x)] 3)
  clear g h6 h7
  go_wp2_with (at_builtin; go_must (refine wpl_append rfl rfl Tryz.slInts B rfl h6a rfl (Row.oneAt _ _ _ _ (by simp)) (by simp [Value.oneCell']) (by unfold maxLen; omega) (by omega) (by simp; omega) ?_))
  all_goals first
    | exact ⟨rfl, do_over _ _ _ _ _ _ _ _ _ HB.out (by unfold Small; omega)⟩
    | (intro v1 w1 hown hg hb _
       obtain ⟨a1, d1, rfl, hr1⟩ := hown.row
       have hsm : Small (1 - x) := by unfold Small; omega
       obtain ⟨hc, hz, hP⟩ := do_tail w _ w1 M B _ cr env s (1 - x) ao a1 co d1 _ G.out HB.out hsm c0 H6.out H7.out hown hg hb (by omega)
       have HP := Lib.hid hP
       clear hown hg hb hr1 c0 gz h6a hP
       go_wp2
       go_end0
       exact HP.out)
set_option maxRecDepth 100000 in
set_option maxHeartbeats 2000000 in
theorem do_add (w : World) (M B : Nat) (ar : Option Addr) (cr : Nat) (env s : List Int) (a b : Int) (h : Mc w M B ar cr env (s ++ [b] ++ [a])) (hs : s.length ≤ 900) (ha : Small a) (hb : Small b) :
    Calls Tryz.prog 51 #[.pointer (some ⟨M, 0, none⟩), .agg #[.int .i64 3, .int .i64 0]] w (DoPost w M B ar cr env s (a + b)) := by
  have hMw := h.lt
  have hE : Ext w (w.alloc (Obj.cells #[.int .i64 3, .int .i64 0] 102)) := (Ext.refl w).alloc (Nat.le_refl _) _
  have g := h.ext hE
  have hBM := h.new
  have HB := Lib.hid (hE.mono (by omega : B ≤ w.heap.size))
  clear hE h
  unfold Small at ha hb
  have hn2 : -2000000 ≤ a + b ∧ a + b ≤ 2000000 := by omega
  generalize hn : ((a + b) : Int) = n at *
  have Hn := Lib.hid hn
  clear hn
  have hmm := @run_makeMap Tryz.prog
  have ko : (w.alloc (Obj.cells #[.int .i64 3, .int .i64 0] 102)).cell? ⟨w.heap.size, 0, none⟩ = some (.int .i64 3) := by simp [go_sem]
  have hmf : ∀ (fn : Fn) (first cap : Array Value) (w : World), (Instr.makeFunc fn first cap).run Tryz.prog w = .ok (.func fn first cap) w := fun _ _ _ _ => rfl
  go_enter Tryz.func51, Tryz.ntmps51
  go_wp2_with fail
  refine (pop_any _ M B ar cr env (s ++ [b]) a g (by simp; omega)).mono ?_
  rintro e W1 ⟨rfl, h, hbb⟩
  have hE := HB.out.grown hbb (by simp; omega) (fun k hk => by cases hk; omega)
  have ko1 := hbb.cell ko (by simp; omega)
  have hW1 : w.heap.size < W1.heap.size := World.block_lt_of_cell? _ _ ko1
  clear HB hbb g ko
  have HB := Lib.hid hE
  have g := h
  clear hE h
  go_wp2_with fail
  refine (pop_any _ M B ar cr env s b g (by omega)).mono ?_
  rintro e W ⟨rfl, h, hbb⟩
  have hE := HB.out.grown hbb (by omega) (fun k hk => by cases hk; omega)
  have ko2 := hbb.cell ko1 (by simp; omega)
  have hW2 : w.heap.size < W.heap.size := World.block_lt_of_cell? _ _ ko2
  clear HB hbb g ko1
  have hMW := h.lt
  have hE2 : Ext W (((W.alloc (Obj.cells #[.int .i64 a] 3)).alloc (Obj.cells #[.int .i64 b] 3)).alloc (Obj.map #[] 0)) := ((((Ext.refl W).alloc (Nat.le_refl _) _).alloc (by simp) _).alloc (by simp; omega) _)
  have hm := MapI.new ((W.alloc (Obj.cells #[.int .i64 a] 3)).alloc (Obj.cells #[.int .i64 b] 3))
  have h5 : (((W.alloc (Obj.cells #[.int .i64 a] 3)).alloc (Obj.cells #[.int .i64 b] 3)).alloc (Obj.map #[] 0)).cell? ⟨W.heap.size, 0, none⟩ = some (.int .i64 a) := by simp [go_sem]
  have h6 : (((W.alloc (Obj.cells #[.int .i64 a] 3)).alloc (Obj.cells #[.int .i64 b] 3)).alloc (Obj.map #[] 0)).cell? ⟨W.heap.size + 1, 0, none⟩ = some (.int .i64 b) := by simp [go_sem]
  simp only [heap_alloc2] at hm
  have ko3 := cells_of (w := W) ko2 (hE2.block _ hW2)
  clear ko2
  have HB := Lib.hid hE
  have HG := Lib.hid h
  have HE2 := Lib.hid hE2
  clear hE h hE2
  have hsX : W.heap.size + 1 + 1 < (((W.alloc (Obj.cells #[.int .i64 a] 3)).alloc (Obj.cells #[.int .i64 b] 3)).alloc (Obj.map #[] 0)).heap.size := by simp
  go_wp2_with (refine wpl_insert rfl rfl Tryz.underlying153 Tryz.underlying3 hm rfl rfl rfl ?_)
  generalize ((W.alloc (Obj.cells #[.int .i64 a] 3)).alloc (Obj.cells #[.int .i64 b] 3)).alloc (Obj.map #[] 0) = X at *
  intro X1 m1 g1
  have G1 := Lib.hid g1
  clear g1 hm
  go_wp2_with (refine wpl_insert rfl rfl Tryz.underlying153 Tryz.underlying3 m1 rfl rfl rfl ?_)
  intro X2 m2 g2
  have G2 := Lib.hid (G1.out.trans' g2)
  clear g2 m1 G1
  go_wp2_with (refine wpl_insert rfl rfl Tryz.underlying153 Tryz.underlying3 m2 rfl rfl rfl ?_)
  intro X3 m3 g3
  have G3 := Lib.hid (G2.out.trans' g3)
  clear g3 m2 G2
  go_wp2_with (refine wpl_insert rfl rfl Tryz.underlying153 Tryz.underlying3 m3 rfl rfl rfl ?_)
  intro X4 m4 g4
  have G4 := Lib.hid (G3.out.trans' g4)
  clear g4 m3 G3
  go_wp2_with (refine wpl_insert rfl rfl Tryz.underlying153 Tryz.underlying3 m4 rfl rfl rfl ?_)
  intro X5 m5 g5
  have G5 := Lib.hid (G4.out.trans' g5)
  clear g5 m4 G4
  go_wp2_with (refine wpl_insert rfl rfl Tryz.underlying153 Tryz.underlying3 m5 rfl rfl rfl ?_)
  intro X6 m6 g6
  have G6 := Lib.hid (G5.out.trans' g6)
  clear g6 m5 G5
  go_wp2_with (refine wpl_insert rfl rfl Tryz.underlying153 Tryz.underlying3 m6 rfl rfl rfl ?_)
  intro X7 m7 g7
  have G7 := Lib.hid (G6.out.trans' g7)
  clear g7 m6 G6
  have ko4 := G7.out.cell ko3 (by simp; omega)
  clear ko3
  have k5 := G7.out.cell h5 (by simp; omega)
  have k6 := G7.out.cell h6 (by simp)
  clear h5 h6
  go_wp2_with (refine wpl_lookup rfl rfl Tryz.underlying153 Tryz.underlying3 m7 rfl rfl rfl ?_)
  clear m7
  go_wp2_with fail
  refine (clo_add _ _ a b _ k5 k6 ha hb).mono ?_
  rintro e Y ⟨rfl, rfl⟩
  rw [Hn.out]
  have hEY := HE2.out.grown G7.out (by omega) (fun k hk => by cases hk; omega)
  have g := HG.out.ext hEY
  clear ko4
  have hE := Below.trans HB.out (hEY.mono (by omega))
  clear HB HE2 hEY HG G7 k5 k6
  have HB := Lib.hid hE
  clear hE
  obtain ⟨ao, co, c0, h6, h7⟩ := g.c0
  have gz := g.fz 0
  have G := Lib.hid g
  have H6 := Lib.hid h6
  have H7 := Lib.hid h7
  have hM := g.lt
  have h6a := h6.alloc (Obj.cells #[.int .i64 n] 3)
  clear g h6 h7
  go_wp2_with (at_builtin; go_must (refine wpl_append rfl rfl Tryz.slInts B rfl h6a rfl (Row.oneAt _ _ _ _ (by simp)) (by simp [Value.oneCell']) (by unfold maxLen; omega) (by omega) (by simp; omega) ?_))
  all_goals first
    | exact ⟨rfl, do_over _ _ _ _ _ _ _ _ _ HB.out (by unfold Small; omega)⟩
    | (intro v1 w1 hown hg hb _
       obtain ⟨a1, d1, rfl, hr1⟩ := hown.row
       have hsm : Small n := by unfold Small; omega
       obtain ⟨hc, hz, hP⟩ := do_tail w _ w1 M B _ cr env s n ao a1 co d1 _ G.out HB.out hsm c0 H6.out H7.out hown hg hb (by omega)
       have HP := Lib.hid hP
       clear hown hg hb hr1 c0 gz h6a hP
       go_wp2
       go_end0
       exact HP.out)
set_option maxRecDepth 100000 in
set_option maxHeartbeats 2000000 in
theorem do_sub (w : World) (M B : Nat) (ar : Option Addr) (cr : Nat) (env s : List Int) (a b : Int) (h : Mc w M B ar cr env (s ++ [b] ++ [a])) (hs : s.length ≤ 900) (ha : Small a) (hb : Small b) :
    Calls Tryz.prog 51 #[.pointer (some ⟨M, 0, none⟩), .agg #[.int .i64 4, .int .i64 0]] w (DoPost w M B ar cr env s (a - b)) := by
  have hMw := h.lt
  have hE : Ext w (w.alloc (Obj.cells #[.int .i64 4, .int .i64 0] 102)) := (Ext.refl w).alloc (Nat.le_refl _) _
  have g := h.ext hE
  have hBM := h.new
  have HB := Lib.hid (hE.mono (by omega : B ≤ w.heap.size))
  clear hE h
  unfold Small at ha hb
  have hn2 : -2000000 ≤ a - b ∧ a - b ≤ 2000000 := by omega
  generalize hn : ((a - b) : Int) = n at *
  have Hn := Lib.hid hn
  clear hn
  have hmm := @run_makeMap Tryz.prog
  have ko : (w.alloc (Obj.cells #[.int .i64 4, .int .i64 0] 102)).cell? ⟨w.heap.size, 0, none⟩ = some (.int .i64 4) := by simp [go_sem]
  have hmf : ∀ (fn : Fn) (first cap : Array Value) (w : World), (Instr.makeFunc fn first cap).run Tryz.prog w = .ok (.func fn first cap) w := fun _ _ _ _ => rfl
  go_enter Tryz.func51, Tryz.ntmps51
  go_wp2_with fail
  refine (pop_any _ M B ar cr env (s ++ [b]) a g (by simp; omega)).mono ?_
  rintro e W1 ⟨rfl, h, hbb⟩
  have hE := HB.out.grown hbb (by simp; omega) (fun k hk => by cases hk; omega)
  have ko1 := hbb.cell ko (by simp; omega)
  have hW1 : w.heap.size < W1.heap.size := World.block_lt_of_cell? _ _ ko1
  clear HB hbb g ko
  have HB := Lib.hid hE
  have g := h
  clear hE h
  go_wp2_with fail
  refine (pop_any _ M B ar cr env s b g (by omega)).mono ?_
  rintro e W ⟨rfl, h, hbb⟩
  have hE := HB.out.grown hbb (by omega) (fun k hk => by cases hk; omega)
  have ko2 := hbb.cell ko1 (by simp; omega)
  have hW2 : w.heap.size < W.heap.size := World.block_lt_of_cell? _ _ ko2
  clear HB hbb g ko1
  have hMW := h.lt
  have hE2 : Ext W (((W.alloc (Obj.cells #[.int .i64 a] 3)).alloc (Obj.cells #[.int .i64 b] 3)).alloc (Obj.map #[] 0)) := ((((Ext.refl W).alloc (Nat.le_refl _) _).alloc (by simp) _).alloc (by simp; omega) _)
  have hm := MapI.new ((W.alloc (Obj.cells #[.int .i64 a] 3)).alloc (Obj.cells #[.int .i64 b] 3))
  have h5 : (((W.alloc (Obj.cells #[.int .i64 a] 3)).alloc (Obj.cells #[.int .i64 b] 3)).alloc (Obj.map #[] 0)).cell? ⟨W.heap.size, 0, none⟩ = some (.int .i64 a) := by simp [go_sem]
  have h6 : (((W.alloc (Obj.cells #[.int .i64 a] 3)).alloc (Obj.cells #[.int .i64 b] 3)).alloc (Obj.map #[] 0)).cell? ⟨W.heap.size + 1, 0, none⟩ = some (.int .i64 b) := by simp [go_sem]
  simp only [heap_alloc2] at hm
  have ko3 := cells_of (w := W) ko2 (hE2.block _ hW2)
  clear ko2
  have HB := Lib.hid hE
  have HG := Lib.hid h
  have HE2 := Lib.hid hE2
  clear hE h hE2
  have hsX : W.heap.size + 1 + 1 < (((W.alloc (Obj.cells #[.int .i64 a] 3)).alloc (Obj.cells #[.int .i64 b] 3)).alloc (Obj.map #[] 0)).heap.size := by simp
  go_wp2_with (refine wpl_insert rfl rfl Tryz.underlying153 Tryz.underlying3 hm rfl rfl rfl ?_)
  generalize ((W.alloc (Obj.cells #[.int .i64 a] 3)).alloc (Obj.cells #[.int .i64 b] 3)).alloc (Obj.map #[] 0) = X at *
  intro X1 m1 g1
  have G1 := Lib.hid g1
  clear g1 hm
  go_wp2_with (refine wpl_insert rfl rfl Tryz.underlying153 Tryz.underlying3 m1 rfl rfl rfl ?_)
  intro X2 m2 g2
  have G2 := Lib.hid (G1.out.trans' g2)
  clear g2 m1 G1
  go_wp2_with (refine wpl_insert rfl rfl Tryz.underlying153 Tryz.underlying3 m2 rfl rfl rfl ?_)
  intro X3 m3 g3
  have G3 := Lib.hid (G2.out.trans' g3)
  clear g3 m2 G2
  go_wp2_with (refine wpl_insert rfl rfl Tryz.underlying153 Tryz.underlying3 m3 rfl rfl rfl ?_)
  intro X4 m4 g4
  have G4 := Lib.hid (G3.out.trans' g4)
  clear g4 m3 G3
  go_wp2_with (refine wpl_insert rfl rfl Tryz.underlying153 Tryz.underlying3 m4 rfl rfl rfl ?_)
  intro X5 m5 g5
  have G5 := Lib.hid (G4.out.trans' g5)
  clear g5 m4 G4
  go_wp2_with (refine wpl_insert rfl rfl Tryz.underlying153 Tryz.underlying3 m5 rfl rfl rfl ?_)
  intro X6 m6 g6
  have G6 := Lib.hid (G5.out.trans' g6)
  clear g6 m5 G5
  go_wp2_with (refine wpl_insert rfl rfl Tryz.underlying153 Tryz.underlying3 m6 rfl rfl rfl ?_)
  intro X7 m7 g7
  have G7 := Lib.hid (G6.out.trans' g7)
  clear g7 m6 G6
  have ko4 := G7.out.cell ko3 (by simp; omega)
  clear ko3
  have k5 := G7.out.cell h5 (by simp; omega)
  have k6 := G7.out.cell h6 (by simp)
  clear h5 h6
  go_wp2_with (refine wpl_lookup rfl rfl Tryz.underlying153 Tryz.underlying3 m7 rfl rfl rfl ?_)
  clear m7
  go_wp2_with fail
  refine (clo_sub _ _ a b _ k5 k6 ha hb).mono ?_
  rintro e Y ⟨rfl, rfl⟩
  rw [Hn.out]
  have hEY := HE2.out.grown G7.out (by omega) (fun k hk => by cases hk; omega)
  have g := HG.out.ext hEY
  clear ko4
  have hE := Below.trans HB.out (hEY.mono (by omega))
  clear HB HE2 hEY HG G7 k5 k6
  have HB := Lib.hid hE
  clear hE
  obtain ⟨ao, co, c0, h6, h7⟩ := g.c0
  have gz := g.fz 0
  have G := Lib.hid g
  have H6 := Lib.hid h6
  have H7 := Lib.hid h7
  have hM := g.lt
  have h6a := h6.alloc (Obj.cells #[.int .i64 n] 3)
  clear g h6 h7
  go_wp2_with (at_builtin; go_must (refine wpl_append rfl rfl Tryz.slInts B rfl h6a rfl (Row.oneAt _ _ _ _ (by simp)) (by simp [Value.oneCell']) (by unfold maxLen; omega) (by omega) (by simp; omega) ?_))
  all_goals first
    | exact ⟨rfl, do_over _ _ _ _ _ _ _ _ _ HB.out (by unfold Small; omega)⟩
    | (intro v1 w1 hown hg hb _
       obtain ⟨a1, d1, rfl, hr1⟩ := hown.row
       have hsm : Small n := by unfold Small; omega
       obtain ⟨hc, hz, hP⟩ := do_tail w _ w1 M B _ cr env s n ao a1 co d1 _ G.out HB.out hsm c0 H6.out H7.out hown hg hb (by omega)
       have HP := Lib.hid hP
       clear hown hg hb hr1 c0 gz h6a hP
       go_wp2
       go_end0
       exact HP.out)
set_option maxRecDepth 100000 in
set_option maxHeartbeats 2000000 in
theorem do_mul (w : World) (M B : Nat) (ar : Option Addr) (cr : Nat) (env s : List Int) (a b : Int) (h : Mc w M B ar cr env (s ++ [b] ++ [a])) (hs : s.length ≤ 900) (ha : Small a) (hb : Small b) :
    Calls Tryz.prog 51 #[.pointer (some ⟨M, 0, none⟩), .agg #[.int .i64 5, .int .i64 0]] w (DoPost w M B ar cr env s (a * b)) := by
  have hMw := h.lt
  have hE : Ext w (w.alloc (Obj.cells #[.int .i64 5, .int .i64 0] 102)) := (Ext.refl w).alloc (Nat.le_refl _) _
  have g := h.ext hE
  have hBM := h.new
  have HB := Lib.hid (hE.mono (by omega : B ≤ w.heap.size))
  clear hE h
  unfold Small at ha hb
  have hn2 : -1000000000000 ≤ a * b ∧ a * b ≤ 1000000000000 := by
    have h2 : (a * b).natAbs ≤ 1000000 * 1000000 := by rw [Int.natAbs_mul]; exact Nat.mul_le_mul (by omega) (by omega)
    omega
  generalize hn : ((a * b) : Int) = n at *
  have Hn := Lib.hid hn
  clear hn
  have hmm := @run_makeMap Tryz.prog
  have ko : (w.alloc (Obj.cells #[.int .i64 5, .int .i64 0] 102)).cell? ⟨w.heap.size, 0, none⟩ = some (.int .i64 5) := by simp [go_sem]
  have hmf : ∀ (fn : Fn) (first cap : Array Value) (w : World), (Instr.makeFunc fn first cap).run Tryz.prog w = .ok (.func fn first cap) w := fun _ _ _ _ => rfl
  go_enter Tryz.func51, Tryz.ntmps51
  go_wp2_with fail
  refine (pop_any _ M B ar cr env (s ++ [b]) a g (by simp; omega)).mono ?_
  rintro e W1 ⟨rfl, h, hbb⟩
  have hE := HB.out.grown hbb (by simp; omega) (fun k hk => by cases hk; omega)
  have ko1 := hbb.cell ko (by simp; omega)
  have hW1 : w.heap.size < W1.heap.size := World.block_lt_of_cell? _ _ ko1
  clear HB hbb g ko
  have HB := Lib.hid hE
  have g := h
  clear hE h
  go_wp2_with fail
  refine (pop_any _ M B ar cr env s b g (by omega)).mono ?_
  rintro e W ⟨rfl, h, hbb⟩
  have hE := HB.out.grown hbb (by omega) (fun k hk => by cases hk; omega)
  have ko2 := hbb.cell ko1 (by simp; omega)
  have hW2 : w.heap.size < W.heap.size := World.block_lt_of_cell? _ _ ko2
  clear HB hbb g ko1
  have hMW := h.lt
  have hE2 : Ext W (((W.alloc (Obj.cells #[.int .i64 a] 3)).alloc (Obj.cells #[.int .i64 b] 3)).alloc (Obj.map #[] 0)) := ((((Ext.refl W).alloc (Nat.le_refl _) _).alloc (by simp) _).alloc (by simp; omega) _)
  have hm := MapI.new ((W.alloc (Obj.cells #[.int .i64 a] 3)).alloc (Obj.cells #[.int .i64 b] 3))
  have h5 : (((W.alloc (Obj.cells #[.int .i64 a] 3)).alloc (Obj.cells #[.int .i64 b] 3)).alloc (Obj.map #[] 0)).cell? ⟨W.heap.size, 0, none⟩ = some (.int .i64 a) := by simp [go_sem]
  have h6 : (((W.alloc (Obj.cells #[.int .i64 a] 3)).alloc (Obj.cells #[.int .i64 b] 3)).alloc (Obj.map #[] 0)).cell? ⟨W.heap.size + 1, 0, none⟩ = some (.int .i64 b) := by simp [go_sem]
  simp only [heap_alloc2] at hm
  have ko3 := cells_of (w := W) ko2 (hE2.block _ hW2)
  clear ko2
  have HB := Lib.hid hE
  have HG := Lib.hid h
  have HE2 := Lib.hid hE2
  clear hE h hE2
  have hsX : W.heap.size + 1 + 1 < (((W.alloc (Obj.cells #[.int .i64 a] 3)).alloc (Obj.cells #[.int .i64 b] 3)).alloc (Obj.map #[] 0)).heap.size := by simp
  go_wp2_with (refine wpl_insert rfl rfl Tryz.underlying153 Tryz.underlying3 hm rfl rfl rfl ?_)
  generalize ((W.alloc (Obj.cells #[.int .i64 a] 3)).alloc (Obj.cells #[.int .i64 b] 3)).alloc (Obj.map #[] 0) = X at *
  intro X1 m1 g1
  have G1 := Lib.hid g1
  clear g1 hm
  go_wp2_with (refine wpl_insert rfl rfl Tryz.underlying153 Tryz.underlying3 m1 rfl rfl rfl ?_)
  intro X2 m2 g2
  have G2 := Lib.hid (G1.out.trans' g2)
  clear g2 m1 G1
  go_wp2_with (refine wpl_insert rfl rfl Tryz.underlying153 Tryz.underlying3 m2 rfl rfl rfl ?_)
  intro X3 m3 g3
  have G3 := Lib.hid (G2.out.trans' g3)
  clear g3 m2 G2
  go_wp2_with (refine wpl_insert rfl rfl Tryz.underlying153 Tryz.underlying3 m3 rfl rfl rfl ?_)
  intro X4 m4 g4
  have G4 := Lib.hid (G3.out.trans' g4)
  clear g4 m3 G3
  go_wp2_with (refine wpl_insert rfl rfl Tryz.underlying153 Tryz.underlying3 m4 rfl rfl rfl ?_)
  intro X5 m5 g5
  have G5 := Lib.hid (G4.out.trans' g5)
  clear g5 m4 G4
  go_wp2_with (refine wpl_insert rfl rfl Tryz.underlying153 Tryz.underlying3 m5 rfl rfl rfl ?_)
  intro X6 m6 g6
  have G6 := Lib.hid (G5.out.trans' g6)
  clear g6 m5 G5
  go_wp2_with (refine wpl_insert rfl rfl Tryz.underlying153 Tryz.underlying3 m6 rfl rfl rfl ?_)
  intro X7 m7 g7
  have G7 := Lib.hid (G6.out.trans' g7)
  clear g7 m6 G6
  have ko4 := G7.out.cell ko3 (by simp; omega)
  clear ko3
  have k5 := G7.out.cell h5 (by simp; omega)
  have k6 := G7.out.cell h6 (by simp)
  clear h5 h6
  go_wp2_with (refine wpl_lookup rfl rfl Tryz.underlying153 Tryz.underlying3 m7 rfl rfl rfl ?_)
  clear m7
  go_wp2_with fail
  refine (clo_mul _ _ a b _ k5 k6 ha hb).mono ?_
  rintro e Y ⟨rfl, rfl⟩
  rw [Hn.out]
  have hEY := HE2.out.grown G7.out (by omega) (fun k hk => by cases hk; omega)
  have g := HG.out.ext hEY
  clear ko4
  have hE := Below.trans HB.out (hEY.mono (by omega))
  clear HB HE2 hEY HG G7 k5 k6
  have HB := Lib.hid hE
  clear hE
  obtain ⟨ao, co, c0, h6, h7⟩ := g.c0
  have gz := g.fz 0
  have G := Lib.hid g
  have H6 := Lib.hid h6
  have H7 := Lib.hid h7
  have hM := g.lt
  have h6a := h6.alloc (Obj.cells #[.int .i64 n] 3)
  clear g h6 h7
  go_wp2_with (at_builtin; go_must (refine wpl_append rfl rfl Tryz.slInts B rfl h6a rfl (Row.oneAt _ _ _ _ (by simp)) (by simp [Value.oneCell']) (by unfold maxLen; omega) (by omega) (by simp; omega) ?_))
  all_goals first
    | exact ⟨rfl, do_over _ _ _ _ _ _ _ _ _ HB.out (by unfold Small; omega)⟩
    | (intro v1 w1 hown hg hb _
       obtain ⟨a1, d1, rfl, hr1⟩ := hown.row
       have hsm : Small n := by unfold Small; omega
       obtain ⟨hc, hz, hP⟩ := do_tail w _ w1 M B _ cr env s n ao a1 co d1 _ G.out HB.out hsm c0 H6.out H7.out hown hg hb (by omega)
       have HP := Lib.hid hP
       clear hown hg hb hr1 c0 gz h6a hP
       go_wp2
       go_end0
       exact HP.out)
set_option maxRecDepth 100000 in
set_option maxHeartbeats 2000000 in
theorem do_eq (w : World) (M B : Nat) (ar : Option Addr) (cr : Nat) (env s : List Int) (a b : Int) (h : Mc w M B ar cr env (s ++ [b] ++ [a])) (hs : s.length ≤ 900)  :
    Calls Tryz.prog 51 #[.pointer (some ⟨M, 0, none⟩), .agg #[.int .i64 6, .int .i64 0]] w (DoPost w M B ar cr env s (if a = b then 1 else 0)) := by
  have hMw := h.lt
  have hE : Ext w (w.alloc (Obj.cells #[.int .i64 6, .int .i64 0] 102)) := (Ext.refl w).alloc (Nat.le_refl _) _
  have g := h.ext hE
  have hBM := h.new
  have HB := Lib.hid (hE.mono (by omega : B ≤ w.heap.size))
  clear hE h
  have hn2 : 0 ≤ (if a = b then 1 else 0 : Int) ∧ (if a = b then 1 else 0 : Int) ≤ 1 := by split <;> omega
  generalize hn : ((if a = b then 1 else 0) : Int) = n at *
  have Hn := Lib.hid hn
  clear hn
  have hmm := @run_makeMap Tryz.prog
  have ko : (w.alloc (Obj.cells #[.int .i64 6, .int .i64 0] 102)).cell? ⟨w.heap.size, 0, none⟩ = some (.int .i64 6) := by simp [go_sem]
  have hmf : ∀ (fn : Fn) (first cap : Array Value) (w : World), (Instr.makeFunc fn first cap).run Tryz.prog w = .ok (.func fn first cap) w := fun _ _ _ _ => rfl
  go_enter Tryz.func51, Tryz.ntmps51
  go_wp2_with fail
  refine (pop_any _ M B ar cr env (s ++ [b]) a g (by simp; omega)).mono ?_
  rintro e W1 ⟨rfl, h, hbb⟩
  have hE := HB.out.grown hbb (by simp; omega) (fun k hk => by cases hk; omega)
  have ko1 := hbb.cell ko (by simp; omega)
  have hW1 : w.heap.size < W1.heap.size := World.block_lt_of_cell? _ _ ko1
  clear HB hbb g ko
  have HB := Lib.hid hE
  have g := h
  clear hE h
  go_wp2_with fail
  refine (pop_any _ M B ar cr env s b g (by omega)).mono ?_
  rintro e W ⟨rfl, h, hbb⟩
  have hE := HB.out.grown hbb (by omega) (fun k hk => by cases hk; omega)
  have ko2 := hbb.cell ko1 (by simp; omega)
  have hW2 : w.heap.size < W.heap.size := World.block_lt_of_cell? _ _ ko2
  clear HB hbb g ko1
  have hMW := h.lt
  have hE2 : Ext W (((W.alloc (Obj.cells #[.int .i64 a] 3)).alloc (Obj.cells #[.int .i64 b] 3)).alloc (Obj.map #[] 0)) := ((((Ext.refl W).alloc (Nat.le_refl _) _).alloc (by simp) _).alloc (by simp; omega) _)
  have hm := MapI.new ((W.alloc (Obj.cells #[.int .i64 a] 3)).alloc (Obj.cells #[.int .i64 b] 3))
  have h5 : (((W.alloc (Obj.cells #[.int .i64 a] 3)).alloc (Obj.cells #[.int .i64 b] 3)).alloc (Obj.map #[] 0)).cell? ⟨W.heap.size, 0, none⟩ = some (.int .i64 a) := by simp [go_sem]
  have h6 : (((W.alloc (Obj.cells #[.int .i64 a] 3)).alloc (Obj.cells #[.int .i64 b] 3)).alloc (Obj.map #[] 0)).cell? ⟨W.heap.size + 1, 0, none⟩ = some (.int .i64 b) := by simp [go_sem]
  simp only [heap_alloc2] at hm
  have ko3 := cells_of (w := W) ko2 (hE2.block _ hW2)
  clear ko2
  have HB := Lib.hid hE
  have HG := Lib.hid h
  have HE2 := Lib.hid hE2
  clear hE h hE2
  have hsX : W.heap.size + 1 + 1 < (((W.alloc (Obj.cells #[.int .i64 a] 3)).alloc (Obj.cells #[.int .i64 b] 3)).alloc (Obj.map #[] 0)).heap.size := by simp
  go_wp2_with (refine wpl_insert rfl rfl Tryz.underlying153 Tryz.underlying3 hm rfl rfl rfl ?_)
  generalize ((W.alloc (Obj.cells #[.int .i64 a] 3)).alloc (Obj.cells #[.int .i64 b] 3)).alloc (Obj.map #[] 0) = X at *
  intro X1 m1 g1
  have G1 := Lib.hid g1
  clear g1 hm
  go_wp2_with (refine wpl_insert rfl rfl Tryz.underlying153 Tryz.underlying3 m1 rfl rfl rfl ?_)
  intro X2 m2 g2
  have G2 := Lib.hid (G1.out.trans' g2)
  clear g2 m1 G1
  go_wp2_with (refine wpl_insert rfl rfl Tryz.underlying153 Tryz.underlying3 m2 rfl rfl rfl ?_)
  intro X3 m3 g3
  have G3 := Lib.hid (G2.out.trans' g3)
  clear g3 m2 G2
  go_wp2_with (refine wpl_insert rfl rfl Tryz.underlying153 Tryz.underlying3 m3 rfl rfl rfl ?_)
  intro X4 m4 g4
  have G4 := Lib.hid (G3.out.trans' g4)
  clear g4 m3 G3
  go_wp2_with (refine wpl_insert rfl rfl Tryz.underlying153 Tryz.underlying3 m4 rfl rfl rfl ?_)
  intro X5 m5 g5
  have G5 := Lib.hid (G4.out.trans' g5)
  clear g5 m4 G4
  go_wp2_with (refine wpl_insert rfl rfl Tryz.underlying153 Tryz.underlying3 m5 rfl rfl rfl ?_)
  intro X6 m6 g6
  have G6 := Lib.hid (G5.out.trans' g6)
  clear g6 m5 G5
  go_wp2_with (refine wpl_insert rfl rfl Tryz.underlying153 Tryz.underlying3 m6 rfl rfl rfl ?_)
  intro X7 m7 g7
  have G7 := Lib.hid (G6.out.trans' g7)
  clear g7 m6 G6
  have ko4 := G7.out.cell ko3 (by simp; omega)
  clear ko3
  have k5 := G7.out.cell h5 (by simp; omega)
  have k6 := G7.out.cell h6 (by simp)
  clear h5 h6
  go_wp2_with (refine wpl_lookup rfl rfl Tryz.underlying153 Tryz.underlying3 m7 rfl rfl rfl ?_)
  clear m7
  go_wp2_with fail
  refine (clo_eq _ _ a b _ k5 k6).mono ?_
  rintro e Y ⟨rfl, rfl⟩
  rw [Hn.out]
  have hEY := HE2.out.grown G7.out (by omega) (fun k hk => by cases hk; omega)
  have g := HG.out.ext hEY
  clear ko4
  have hE := Below.trans HB.out (hEY.mono (by omega))
  clear HB HE2 hEY HG G7 k5 k6
  have HB := Lib.hid hE
  clear hE
  obtain ⟨ao, co, c0, h6, h7⟩ := g.c0
  have gz := g.fz 0
  have G := Lib.hid g
  have H6 := Lib.hid h6
  have H7 := Lib.hid h7
  have hM := g.lt
  have h6a := h6.alloc (Obj.cells #[.int .i64 n] 3)
  clear g h6 h7
  go_wp2_with (at_builtin; go_must (refine wpl_append rfl rfl Tryz.slInts B rfl h6a rfl (Row.oneAt _ _ _ _ (by simp)) (by simp [Value.oneCell']) (by unfold maxLen; omega) (by omega) (by simp; omega) ?_))
  all_goals first
    | exact ⟨rfl, do_over _ _ _ _ _ _ _ _ _ HB.out (by unfold Small; omega)⟩
    | (intro v1 w1 hown hg hb _
       obtain ⟨a1, d1, rfl, hr1⟩ := hown.row
       have hsm : Small n := by unfold Small; omega
       obtain ⟨hc, hz, hP⟩ := do_tail w _ w1 M B _ cr env s n ao a1 co d1 _ G.out HB.out hsm c0 H6.out H7.out hown hg hb (by omega)
       have HP := Lib.hid hP
       clear hown hg hb hr1 c0 gz h6a hP
       go_wp2
       go_end0
       exact HP.out)
set_option maxRecDepth 100000 in
set_option maxHeartbeats 2000000 in
theorem do_lt (w : World) (M B : Nat) (ar : Option Addr) (cr : Nat) (env s : List Int) (a b : Int) (h : Mc w M B ar cr env (s ++ [b] ++ [a])) (hs : s.length ≤ 900)  :
    Calls Tryz.prog 51 #[.pointer (some ⟨M, 0, none⟩), .agg #[.int .i64 7, .int .i64 0]] w (DoPost w M B ar cr env s (if a < b then 1 else 0)) := by
  have hMw := h.lt
  have hE : Ext w (w.alloc (Obj.cells #[.int .i64 7, .int .i64 0] 102)) := (Ext.refl w).alloc (Nat.le_refl _) _
  have g := h.ext hE
  have hBM := h.new
  have HB := Lib.hid (hE.mono (by omega : B ≤ w.heap.size))
  clear hE h
  have hn2 : 0 ≤ (if a < b then 1 else 0 : Int) ∧ (if a < b then 1 else 0 : Int) ≤ 1 := by split <;> omega
  generalize hn : ((if a < b then 1 else 0) : Int) = n at *
  have Hn := Lib.hid hn
  clear hn
  have hmm := @run_makeMap Tryz.prog
  have ko : (w.alloc (Obj.cells #[.int .i64 7, .int .i64 0] 102)).cell? ⟨w.heap.size, 0, none⟩ = some (.int .i64 7) := by simp [go_sem]
  have hmf : ∀ (fn : Fn) (first cap : Array Value) (w : World), (Instr.makeFunc fn first cap).run Tryz.prog w = .ok (.func fn first cap) w := fun _ _ _ _ => rfl
  go_enter Tryz.func51, Tryz.ntmps51
  go_wp2_with fail
  refine (pop_any _ M B ar cr env (s ++ [b]) a g (by simp; omega)).mono ?_
  rintro e W1 ⟨rfl, h, hbb⟩
  have hE := HB.out.grown hbb (by simp; omega) (fun k hk => by cases hk; omega)
  have ko1 := hbb.cell ko (by simp; omega)
  have hW1 : w.heap.size < W1.heap.size := World.block_lt_of_cell? _ _ ko1
  clear HB hbb g ko
  have HB := Lib.hid hE
  have g := h
  clear hE h
  go_wp2_with fail
  refine (pop_any _ M B ar cr env s b g (by omega)).mono ?_
  rintro e W ⟨rfl, h, hbb⟩
  have hE := HB.out.grown hbb (by omega) (fun k hk => by cases hk; omega)
  have ko2 := hbb.cell ko1 (by simp; omega)
  have hW2 : w.heap.size < W.heap.size := World.block_lt_of_cell? _ _ ko2
  clear HB hbb g ko1
  have hMW := h.lt
  have hE2 : Ext W (((W.alloc (Obj.cells #[.int .i64 a] 3)).alloc (Obj.cells #[.int .i64 b] 3)).alloc (Obj.map #[] 0)) := ((((Ext.refl W).alloc (Nat.le_refl _) _).alloc (by simp) _).alloc (by simp; omega) _)
  have hm := MapI.new ((W.alloc (Obj.cells #[.int .i64 a] 3)).alloc (Obj.cells #[.int .i64 b] 3))
  have h5 : (((W.alloc (Obj.cells #[.int .i64 a] 3)).alloc (Obj.cells #[.int .i64 b] 3)).alloc (Obj.map #[] 0)).cell? ⟨W.heap.size, 0, none⟩ = some (.int .i64 a) := by simp [go_sem]
  have h6 : (((W.alloc (Obj.cells #[.int .i64 a] 3)).alloc (Obj.cells #[.int .i64 b] 3)).alloc (Obj.map #[] 0)).cell? ⟨W.heap.size + 1, 0, none⟩ = some (.int .i64 b) := by simp [go_sem]
  simp only [heap_alloc2] at hm
  have ko3 := cells_of (w := W) ko2 (hE2.block _ hW2)
  clear ko2
  have HB := Lib.hid hE
  have HG := Lib.hid h
  have HE2 := Lib.hid hE2
  clear hE h hE2
  have hsX : W.heap.size + 1 + 1 < (((W.alloc (Obj.cells #[.int .i64 a] 3)).alloc (Obj.cells #[.int .i64 b] 3)).alloc (Obj.map #[] 0)).heap.size := by simp
  go_wp2_with (refine wpl_insert rfl rfl Tryz.underlying153 Tryz.underlying3 hm rfl rfl rfl ?_)
  generalize ((W.alloc (Obj.cells #[.int .i64 a] 3)).alloc (Obj.cells #[.int .i64 b] 3)).alloc (Obj.map #[] 0) = X at *
  intro X1 m1 g1
  have G1 := Lib.hid g1
  clear g1 hm
  go_wp2_with (refine wpl_insert rfl rfl Tryz.underlying153 Tryz.underlying3 m1 rfl rfl rfl ?_)
  intro X2 m2 g2
  have G2 := Lib.hid (G1.out.trans' g2)
  clear g2 m1 G1
  go_wp2_with (refine wpl_insert rfl rfl Tryz.underlying153 Tryz.underlying3 m2 rfl rfl rfl ?_)
  intro X3 m3 g3
  have G3 := Lib.hid (G2.out.trans' g3)
  clear g3 m2 G2
  go_wp2_with (refine wpl_insert rfl rfl Tryz.underlying153 Tryz.underlying3 m3 rfl rfl rfl ?_)
  intro X4 m4 g4
  have G4 := Lib.hid (G3.out.trans' g4)
  clear g4 m3 G3
  go_wp2_with (refine wpl_insert rfl rfl Tryz.underlying153 Tryz.underlying3 m4 rfl rfl rfl ?_)
  intro X5 m5 g5
  have G5 := Lib.hid (G4.out.trans' g5)
  clear g5 m4 G4
  go_wp2_with (refine wpl_insert rfl rfl Tryz.underlying153 Tryz.underlying3 m5 rfl rfl rfl ?_)
  intro X6 m6 g6
  have G6 := Lib.hid (G5.out.trans' g6)
  clear g6 m5 G5
  go_wp2_with (refine wpl_insert rfl rfl Tryz.underlying153 Tryz.underlying3 m6 rfl rfl rfl ?_)
  intro X7 m7 g7
  have G7 := Lib.hid (G6.out.trans' g7)
  clear g7 m6 G6
  have ko4 := G7.out.cell ko3 (by simp; omega)
  clear ko3
  have k5 := G7.out.cell h5 (by simp; omega)
  have k6 := G7.out.cell h6 (by simp)
  clear h5 h6
  go_wp2_with (refine wpl_lookup rfl rfl Tryz.underlying153 Tryz.underlying3 m7 rfl rfl rfl ?_)
  clear m7
  go_wp2_with fail
  refine (clo_lt _ _ a b _ k5 k6).mono ?_
  rintro e Y ⟨rfl, rfl⟩
  rw [Hn.out]
  have hEY := HE2.out.grown G7.out (by omega) (fun k hk => by cases hk; omega)
  have g := HG.out.ext hEY
  clear ko4
  have hE := Below.trans HB.out (hEY.mono (by omega))
  clear HB HE2 hEY HG G7 k5 k6
  have HB := Lib.hid hE
  clear hE
  obtain ⟨ao, co, c0, h6, h7⟩ := g.c0
  have gz := g.fz 0
  have G := Lib.hid g
  have H6 := Lib.hid h6
  have H7 := Lib.hid h7
  have hM := g.lt
  have h6a := h6.alloc (Obj.cells #[.int .i64 n] 3)
  clear g h6 h7
  go_wp2_with (at_builtin; go_must (refine wpl_append rfl rfl Tryz.slInts B rfl h6a rfl (Row.oneAt _ _ _ _ (by simp)) (by simp [Value.oneCell']) (by unfold maxLen; omega) (by omega) (by simp; omega) ?_))
  all_goals first
    | exact ⟨rfl, do_over _ _ _ _ _ _ _ _ _ HB.out (by unfold Small; omega)⟩
    | (intro v1 w1 hown hg hb _
       obtain ⟨a1, d1, rfl, hr1⟩ := hown.row
       have hsm : Small n := by unfold Small; omega
       obtain ⟨hc, hz, hP⟩ := do_tail w _ w1 M B _ cr env s n ao a1 co d1 _ G.out HB.out hsm c0 H6.out H7.out hown hg hb (by omega)
       have HP := Lib.hid hP
       clear hown hg hb hr1 c0 gz h6a hP
       go_wp2
       go_end0
       exact HP.out)
set_option maxRecDepth 100000 in
set_option maxHeartbeats 2000000 in
theorem do_and (w : World) (M B : Nat) (ar : Option Addr) (cr : Nat) (env s : List Int) (a b : Int) (h : Mc w M B ar cr env (s ++ [b] ++ [a])) (hs : s.length ≤ 900) (ha : a = 0 ∨ a = 1) (hb : b = 0 ∨ b = 1) :
    Calls Tryz.prog 51 #[.pointer (some ⟨M, 0, none⟩), .agg #[.int .i64 8, .int .i64 0]] w (DoPost w M B ar cr env s (if a = 1 ∧ b = 1 then 1 else 0)) := by
  have hMw := h.lt
  have hE : Ext w (w.alloc (Obj.cells #[.int .i64 8, .int .i64 0] 102)) := (Ext.refl w).alloc (Nat.le_refl _) _
  have g := h.ext hE
  have hBM := h.new
  have HB := Lib.hid (hE.mono (by omega : B ≤ w.heap.size))
  clear hE h
  have hn2 : 0 ≤ (if a = 1 ∧ b = 1 then 1 else 0 : Int) ∧ (if a = 1 ∧ b = 1 then 1 else 0 : Int) ≤ 1 := by split <;> omega
  generalize hn : ((if a = 1 ∧ b = 1 then 1 else 0) : Int) = n at *
  have Hn := Lib.hid hn
  clear hn
  have hmm := @run_makeMap Tryz.prog
  have ko : (w.alloc (Obj.cells #[.int .i64 8, .int .i64 0] 102)).cell? ⟨w.heap.size, 0, none⟩ = some (.int .i64 8) := by simp [go_sem]
  have hmf : ∀ (fn : Fn) (first cap : Array Value) (w : World), (Instr.makeFunc fn first cap).run Tryz.prog w = .ok (.func fn first cap) w := fun _ _ _ _ => rfl
  go_enter Tryz.func51, Tryz.ntmps51
  go_wp2_with fail
  refine (pop_any _ M B ar cr env (s ++ [b]) a g (by simp; omega)).mono ?_
  rintro e W1 ⟨rfl, h, hbb⟩
  have hE := HB.out.grown hbb (by simp; omega) (fun k hk => by cases hk; omega)
  have ko1 := hbb.cell ko (by simp; omega)
  have hW1 : w.heap.size < W1.heap.size := World.block_lt_of_cell? _ _ ko1
  clear HB hbb g ko
  have HB := Lib.hid hE
  have g := h
  clear hE h
  go_wp2_with fail
  refine (pop_any _ M B ar cr env s b g (by omega)).mono ?_
  rintro e W ⟨rfl, h, hbb⟩
  have hE := HB.out.grown hbb (by omega) (fun k hk => by cases hk; omega)
  have ko2 := hbb.cell ko1 (by simp; omega)
  have hW2 : w.heap.size < W.heap.size := World.block_lt_of_cell? _ _ ko2
  clear HB hbb g ko1
  have hMW := h.lt
  have hE2 : Ext W (((W.alloc (Obj.cells #[.int .i64 a] 3)).alloc (Obj.cells #[.int .i64 b] 3)).alloc (Obj.map #[] 0)) := ((((Ext.refl W).alloc (Nat.le_refl _) _).alloc (by simp) _).alloc (by simp; omega) _)
  have hm := MapI.new ((W.alloc (Obj.cells #[.int .i64 a] 3)).alloc (Obj.cells #[.int .i64 b] 3))
  have h5 : (((W.alloc (Obj.cells #[.int .i64 a] 3)).alloc (Obj.cells #[.int .i64 b] 3)).alloc (Obj.map #[] 0)).cell? ⟨W.heap.size, 0, none⟩ = some (.int .i64 a) := by simp [go_sem]
  have h6 : (((W.alloc (Obj.cells #[.int .i64 a] 3)).alloc (Obj.cells #[.int .i64 b] 3)).alloc (Obj.map #[] 0)).cell? ⟨W.heap.size + 1, 0, none⟩ = some (.int .i64 b) := by simp [go_sem]
  simp only [heap_alloc2] at hm
  have ko3 := cells_of (w := W) ko2 (hE2.block _ hW2)
  clear ko2
  have HB := Lib.hid hE
  have HG := Lib.hid h
  have HE2 := Lib.hid hE2
  clear hE h hE2
  have hsX : W.heap.size + 1 + 1 < (((W.alloc (Obj.cells #[.int .i64 a] 3)).alloc (Obj.cells #[.int .i64 b] 3)).alloc (Obj.map #[] 0)).heap.size := by simp
  go_wp2_with (refine wpl_insert rfl rfl Tryz.underlying153 Tryz.underlying3 hm rfl rfl rfl ?_)
  generalize ((W.alloc (Obj.cells #[.int .i64 a] 3)).alloc (Obj.cells #[.int .i64 b] 3)).alloc (Obj.map #[] 0) = X at *
  intro X1 m1 g1
  have G1 := Lib.hid g1
  clear g1 hm
  go_wp2_with (refine wpl_insert rfl rfl Tryz.underlying153 Tryz.underlying3 m1 rfl rfl rfl ?_)
  intro X2 m2 g2
  have G2 := Lib.hid (G1.out.trans' g2)
  clear g2 m1 G1
  go_wp2_with (refine wpl_insert rfl rfl Tryz.underlying153 Tryz.underlying3 m2 rfl rfl rfl ?_)
  intro X3 m3 g3
  have G3 := Lib.hid (G2.out.trans' g3)
  clear g3 m2 G2
  go_wp2_with (refine wpl_insert rfl rfl Tryz.underlying153 Tryz.underlying3 m3 rfl rfl rfl ?_)
  intro X4 m4 g4
  have G4 := Lib.hid (G3.out.trans' g4)
  clear g4 m3 G3
  go_wp2_with (refine wpl_insert rfl rfl Tryz.underlying153 Tryz.underlying3 m4 rfl rfl rfl ?_)
  intro X5 m5 g5
  have G5 := Lib.hid (G4.out.trans' g5)
  clear g5 m4 G4
  go_wp2_with (refine wpl_insert rfl rfl Tryz.underlying153 Tryz.underlying3 m5 rfl rfl rfl ?_)
  intro X6 m6 g6
  have G6 := Lib.hid (G5.out.trans' g6)
  clear g6 m5 G5
  go_wp2_with (refine wpl_insert rfl rfl Tryz.underlying153 Tryz.underlying3 m6 rfl rfl rfl ?_)
  intro X7 m7 g7
  have G7 := Lib.hid (G6.out.trans' g7)
  clear g7 m6 G6
  have ko4 := G7.out.cell ko3 (by simp; omega)
  clear ko3
  have k5 := G7.out.cell h5 (by simp; omega)
  have k6 := G7.out.cell h6 (by simp)
  clear h5 h6
  go_wp2_with (refine wpl_lookup rfl rfl Tryz.underlying153 Tryz.underlying3 m7 rfl rfl rfl ?_)
  clear m7
  go_wp2_with fail
  refine (clo_and _ _ a b _ k5 k6 ha hb).mono ?_
  rintro e Y ⟨rfl, rfl⟩
  rw [Hn.out]
  have hEY := HE2.out.grown G7.out (by omega) (fun k hk => by cases hk; omega)
  have g := HG.out.ext hEY
  clear ko4
  have hE := Below.trans HB.out (hEY.mono (by omega))
  clear HB HE2 hEY HG G7 k5 k6
  have HB := Lib.hid hE
  clear hE
  obtain ⟨ao, co, c0, h6, h7⟩ := g.c0
  have gz := g.fz 0
  have G := Lib.hid g
  have H6 := Lib.hid h6
  have H7 := Lib.hid h7
  have hM := g.lt
  have h6a := h6.alloc (Obj.cells #[.int .i64 n] 3)
  clear g h6 h7
  go_wp2_with (at_builtin; go_must (refine wpl_append rfl rfl Tryz.slInts B rfl h6a rfl (Row.oneAt _ _ _ _ (by simp)) (by simp [Value.oneCell']) (by unfold maxLen; omega) (by omega) (by simp; omega) ?_))
  all_goals first
    | exact ⟨rfl, do_over _ _ _ _ _ _ _ _ _ HB.out (by unfold Small; omega)⟩
    | (intro v1 w1 hown hg hb _
       obtain ⟨a1, d1, rfl, hr1⟩ := hown.row
       have hsm : Small n := by unfold Small; omega
       obtain ⟨hc, hz, hP⟩ := do_tail w _ w1 M B _ cr env s n ao a1 co d1 _ G.out HB.out hsm c0 H6.out H7.out hown hg hb (by omega)
       have HP := Lib.hid hP
       clear hown hg hb hr1 c0 gz h6a hP
       go_wp2
       go_end0
       exact HP.out)
set_option maxRecDepth 100000 in
set_option maxHeartbeats 2000000 in
theorem do_or (w : World) (M B : Nat) (ar : Option Addr) (cr : Nat) (env s : List Int) (a b : Int) (h : Mc w M B ar cr env (s ++ [b] ++ [a])) (hs : s.length ≤ 900) (ha : a = 0 ∨ a = 1) (hb : b = 0 ∨ b = 1) :
    Calls Tryz.prog 51 #[.pointer (some ⟨M, 0, none⟩), .agg #[.int .i64 9, .int .i64 0]] w (DoPost w M B ar cr env s (if a = 1 ∨ b = 1 then 1 else 0)) := by
  have hMw := h.lt
  have hE : Ext w (w.alloc (Obj.cells #[.int .i64 9, .int .i64 0] 102)) := (Ext.refl w).alloc (Nat.le_refl _) _
  have g := h.ext hE
  have hBM := h.new
  have HB := Lib.hid (hE.mono (by omega : B ≤ w.heap.size))
  clear hE h
  have hn2 : 0 ≤ (if a = 1 ∨ b = 1 then 1 else 0 : Int) ∧ (if a = 1 ∨ b = 1 then 1 else 0 : Int) ≤ 1 := by split <;> omega
  generalize hn : ((if a = 1 ∨ b = 1 then 1 else 0) : Int) = n at *
  have Hn := Lib.hid hn
  clear hn
  have hmm := @run_makeMap Tryz.prog
  have ko : (w.alloc (Obj.cells #[.int .i64 9, .int .i64 0] 102)).cell? ⟨w.heap.size, 0, none⟩ = some (.int .i64 9) := by simp [go_sem]
  have hmf : ∀ (fn : Fn) (first cap : Array Value) (w : World), (Instr.makeFunc fn first cap).run Tryz.prog w = .ok (.func fn first cap) w := fun _ _ _ _ => rfl
  go_enter Tryz.func51, Tryz.ntmps51
  go_wp2_with fail
  refine (pop_any _ M B ar cr env (s ++ [b]) a g (by simp; omega)).mono ?_
  rintro e W1 ⟨rfl, h, hbb⟩
  have hE := HB.out.grown hbb (by simp; omega) (fun k hk => by cases hk; omega)
  have ko1 := hbb.cell ko (by simp; omega)
  have hW1 : w.heap.size < W1.heap.size := World.block_lt_of_cell? _ _ ko1
  clear HB hbb g ko
  have HB := Lib.hid hE
  have g := h
  clear hE h
  go_wp2_with fail
  refine (pop_any _ M B ar cr env s b g (by omega)).mono ?_
  rintro e W ⟨rfl, h, hbb⟩
  have hE := HB.out.grown hbb (by omega) (fun k hk => by cases hk; omega)
  have ko2 := hbb.cell ko1 (by simp; omega)
  have hW2 : w.heap.size < W.heap.size := World.block_lt_of_cell? _ _ ko2
  clear HB hbb g ko1
  have hMW := h.lt
  have hE2 : Ext W (((W.alloc (Obj.cells #[.int .i64 a] 3)).alloc (Obj.cells #[.int .i64 b] 3)).alloc (Obj.map #[] 0)) := ((((Ext.refl W).alloc (Nat.le_refl _) _).alloc (by simp) _).alloc (by simp; omega) _)
  have hm := MapI.new ((W.alloc (Obj.cells #[.int .i64 a] 3)).alloc (Obj.cells #[.int .i64 b] 3))
  have h5 : (((W.alloc (Obj.cells #[.int .i64 a] 3)).alloc (Obj.cells #[.int .i64 b] 3)).alloc (Obj.map #[] 0)).cell? ⟨W.heap.size, 0, none⟩ = some (.int .i64 a) := by simp [go_sem]
  have h6 : (((W.alloc (Obj.cells #[.int .i64 a] 3)).alloc (Obj.cells #[.int .i64 b] 3)).alloc (Obj.map #[] 0)).cell? ⟨W.heap.size + 1, 0, none⟩ = some (.int .i64 b) := by simp [go_sem]
  simp only [heap_alloc2] at hm
  have ko3 := cells_of (w := W) ko2 (hE2.block _ hW2)
  clear ko2
  have HB := Lib.hid hE
  have HG := Lib.hid h
  have HE2 := Lib.hid hE2
  clear hE h hE2
  have hsX : W.heap.size + 1 + 1 < (((W.alloc (Obj.cells #[.int .i64 a] 3)).alloc (Obj.cells #[.int .i64 b] 3)).alloc (Obj.map #[] 0)).heap.size := by simp
  go_wp2_with (refine wpl_insert rfl rfl Tryz.underlying153 Tryz.underlying3 hm rfl rfl rfl ?_)
  generalize ((W.alloc (Obj.cells #[.int .i64 a] 3)).alloc (Obj.cells #[.int .i64 b] 3)).alloc (Obj.map #[] 0) = X at *
  intro X1 m1 g1
  have G1 := Lib.hid g1
  clear g1 hm
  go_wp2_with (refine wpl_insert rfl rfl Tryz.underlying153 Tryz.underlying3 m1 rfl rfl rfl ?_)
  intro X2 m2 g2
  have G2 := Lib.hid (G1.out.trans' g2)
  clear g2 m1 G1
  go_wp2_with (refine wpl_insert rfl rfl Tryz.underlying153 Tryz.underlying3 m2 rfl rfl rfl ?_)
  intro X3 m3 g3
  have G3 := Lib.hid (G2.out.trans' g3)
  clear g3 m2 G2
  go_wp2_with (refine wpl_insert rfl rfl Tryz.underlying153 Tryz.underlying3 m3 rfl rfl rfl ?_)
  intro X4 m4 g4
  have G4 := Lib.hid (G3.out.trans' g4)
  clear g4 m3 G3
  go_wp2_with (refine wpl_insert rfl rfl Tryz.underlying153 Tryz.underlying3 m4 rfl rfl rfl ?_)
  intro X5 m5 g5
  have G5 := Lib.hid (G4.out.trans' g5)
  clear g5 m4 G4
  go_wp2_with (refine wpl_insert rfl rfl Tryz.underlying153 Tryz.underlying3 m5 rfl rfl rfl ?_)
  intro X6 m6 g6
  have G6 := Lib.hid (G5.out.trans' g6)
  clear g6 m5 G5
  go_wp2_with (refine wpl_insert rfl rfl Tryz.underlying153 Tryz.underlying3 m6 rfl rfl rfl ?_)
  intro X7 m7 g7
  have G7 := Lib.hid (G6.out.trans' g7)
  clear g7 m6 G6
  have ko4 := G7.out.cell ko3 (by simp; omega)
  clear ko3
  have k5 := G7.out.cell h5 (by simp; omega)
  have k6 := G7.out.cell h6 (by simp)
  clear h5 h6
  go_wp2_with (refine wpl_lookup rfl rfl Tryz.underlying153 Tryz.underlying3 m7 rfl rfl rfl ?_)
  clear m7
  go_wp2_with fail
  refine (clo_or _ _ a b _ k5 k6 ha hb).mono ?_
  rintro e Y ⟨rfl, rfl⟩
  rw [Hn.out]
  have hEY := HE2.out.grown G7.out (by omega) (fun k hk => by cases hk; omega)
  have g := HG.out.ext hEY
  clear ko4
  have hE := Below.trans HB.out (hEY.mono (by omega))
  clear HB HE2 hEY HG G7 k5 k6
  have HB := Lib.hid hE
  clear hE
  obtain ⟨ao, co, c0, h6, h7⟩ := g.c0
  have gz := g.fz 0
  have G := Lib.hid g
  have H6 := Lib.hid h6
  have H7 := Lib.hid h7
  have hM := g.lt
  have h6a := h6.alloc (Obj.cells #[.int .i64 n] 3)
  clear g h6 h7
  go_wp2_with (at_builtin; go_must (refine wpl_append rfl rfl Tryz.slInts B rfl h6a rfl (Row.oneAt _ _ _ _ (by simp)) (by simp [Value.oneCell']) (by unfold maxLen; omega) (by omega) (by simp; omega) ?_))
  all_goals first
    | exact ⟨rfl, do_over _ _ _ _ _ _ _ _ _ HB.out (by unfold Small; omega)⟩
    | (intro v1 w1 hown hg hb _
       obtain ⟨a1, d1, rfl, hr1⟩ := hown.row
       have hsm : Small n := by unfold Small; omega
       obtain ⟨hc, hz, hP⟩ := do_tail w _ w1 M B _ cr env s n ao a1 co d1 _ G.out HB.out hsm c0 H6.out H7.out hown hg hb (by omega)
       have HP := Lib.hid hP
       clear hown hg hb hr1 c0 gz h6a hP
       go_wp2
       go_end0
       exact HP.out)
end Go.Proofs.YtciihiiacbnimaaGreatDoor

namespace Go.Proofs.YtciihiiacbnimaaGreatDoor
def over (n : Int) : Option Int := if Small n then some n else none
theorem over_small {n m : Int} (h : over n = some m) : m = n ∧ Small m := by
  unfold over at h
  split at h
  · rename_i hs
    injection h with h
    subst h
    exact ⟨rfl, hs⟩
  · cases h
def leafV (env : List Int) (k v : Int) : Int := if k = 1 then v else if k = 2 then env.getD v.toNat 0 else if k = 11 then 1 else 0
def evalT (env : List Int) : Tm → Option Int
  | .n0 k v => over (leafV env k v)
  | .n1 _ _ a => (evalT env a).bind fun x => over (1 - x)
  | .n2 k _ a b => (evalT env b).bind fun y => (evalT env a).bind fun x => over (opV k x y)
def doS (env : List Int) (k v : Int) (st : List Int) : Option (List Int) :=
  if partsOf k = 0 then (over (leafV env k v)).map (· :: st)
  else if partsOf k = 1 then match st with
    | x :: s => (over (1 - x)).map (· :: s)
    | _ => none
  else match st with
    | x :: y :: s => (over (opV k x y)).map (· :: s)
    | _ => none
def runR (env : List Int) : List Op2 → Option (List Int)
  | [] => some []
  | o :: r => (runR env r).bind (doS env o.1 o.2)
theorem run_flat (env : List Int) (t : Tm) (h : t.ok) : ∀ r, runR env (t.flat ++ r) = (runR env r).bind fun s => (evalT env t).map (· :: s) := by
  induction t with
  | n0 k v =>
    intro r
    obtain ⟨_, _, h3⟩ := h
    simp only [Tm.flat, List.cons_append, List.nil_append, runR, evalT]
    congr 1
    funext s
    simp [doS, h3]
  | n1 k v a ih =>
    intro r
    obtain ⟨_, _, h3, h4⟩ := h
    simp only [Tm.flat, List.cons_append, runR, evalT]
    rw [ih h4]
    cases runR env r with
    | none => rfl
    | some s =>
      cases evalT env a with
      | none => rfl
      | some x => simp [doS, h3]
  | n2 k v a b ih1 ih2 =>
    intro r
    obtain ⟨_, _, h3, h4, h5⟩ := h
    simp only [Tm.flat, List.cons_append, List.append_assoc, runR, evalT]
    rw [ih1 h4, ih2 h5]
    cases runR env r with
    | none => rfl
    | some s =>
      cases evalT env b with
      | none => rfl
      | some y =>
        cases evalT env a with
        | none => rfl
        | some x => simp [doS, h3]
theorem run_term (env : List Int) (t : Tm) (h : t.ok) : runR env t.flat = (evalT env t).map (fun x => [x]) := by
  have := run_flat env t h []
  rw [List.append_nil] at this
  rw [this]
  rfl
theorem run_len (env : List Int) : ∀ (l : List Op2) (st : List Int), runR env l = some st → st.length ≤ l.length
  | [], st, h => by simp [runR] at h; subst h; simp
  | o :: r, st, h => by
    simp only [runR, Option.bind_eq_some_iff] at h
    obtain ⟨s, hs, hd⟩ := h
    have ih := run_len env r s hs
    unfold doS at hd
    split at hd
    · simp only [Option.map_eq_some_iff] at hd
      obtain ⟨n, _, rfl⟩ := hd
      simpa using ih
    · split at hd
      · split at hd
        · simp only [Option.map_eq_some_iff] at hd
          obtain ⟨n, _, rfl⟩ := hd
          simp at ih ⊢; omega
        · cases hd
      · split at hd
        · simp only [Option.map_eq_some_iff] at hd
          obtain ⟨n, _, rfl⟩ := hd
          simp at ih ⊢; omega
        · cases hd
theorem evalT_small (env : List Int) (t : Tm) (n : Int) (h : evalT env t = some n) : Small n := by
  cases t with
  | n0 k v => exact (over_small h).1 ▸ (over_small h).2
  | n1 k v a =>
    simp only [evalT, Option.bind_eq_some_iff] at h
    obtain ⟨x, _, h⟩ := h
    exact (over_small h).1 ▸ (over_small h).2
  | n2 k v a b =>
    simp only [evalT, Option.bind_eq_some_iff] at h
    obtain ⟨y, _, x, _, h⟩ := h
    exact (over_small h).1 ▸ (over_small h).2
theorem good_kind {t : Tm} {vars : Int} (h : t.good vars) : 1 ≤ t.kind ∧ t.kind ≤ 12 := by
  obtain ⟨v, r, hf⟩ := flat_head t
  have := h (t.kind, v) (by rw [hf]; simp)
  unfold opE at this
  split at this
  · cases this
  · rename_i hk
    simpa [okK] using hk
theorem good_1 {k v : Int} {a : Tm} {vars : Int} (h : (Tm.n1 k v a).good vars) : a.good vars := fun o ho => h o (by simp [Tm.flat, ho])
theorem good_2 {k v : Int} {a b : Tm} {vars : Int} (h : (Tm.n2 k v a b).good vars) : a.good vars ∧ b.good vars := ⟨fun o ho => h o (by simp [Tm.flat, ho]), fun o ho => h o (by simp [Tm.flat, ho])⟩
theorem parts_kind {k : Int} (h1 : 1 ≤ k) (h2 : k ≤ 12) : (partsOf k = 0 ∧ (k = 1 ∨ k = 2 ∨ k = 11 ∨ k = 12)) ∨ (partsOf k = 1 ∧ k = 10) ∨ (partsOf k = 2 ∧ 3 ≤ k ∧ k ≤ 9) := by
  unfold partsOf
  by_cases h : k = 10
  · subst h; simp
  · by_cases h3 : 3 ≤ k ∧ k ≤ 9
    · rw [if_pos (by omega)]; exact .inr (.inr ⟨rfl, h3⟩)
    · rw [if_neg (by omega), if_neg (by omega)]; left; exact ⟨rfl, by omega⟩
theorem truth_01 (env : List Int) (t : Tm) (vars : Int) (n : Int) (hok : t.ok) (hg : t.good vars) (ht : t.typed = true) (hk : mkK t.kind = true) (h : evalT env t = some n) : n = 0 ∨ n = 1 := by
  induction t generalizing n with
  | n0 k v =>
    have hb := good_kind hg
    obtain ⟨_, _, h3⟩ := hok
    obtain ⟨rfl, _⟩ := over_small h
    simp only [Tm.kind] at hk hb
    rcases parts_kind hb.1 hb.2 with ⟨_, e⟩ | ⟨e, _⟩ | ⟨e, _⟩
    · rcases e with rfl | rfl | rfl | rfl
      · simp [mkK] at hk
      · simp [mkK] at hk
      · right; rfl
      · left; rfl
    · omega
    · omega
  | n1 k v a ih =>
    have hb := good_kind hg
    obtain ⟨_, _, h3, h4⟩ := hok
    simp only [evalT, Option.bind_eq_some_iff] at h
    obtain ⟨x, hx, h⟩ := h
    obtain ⟨rfl, _⟩ := over_small h
    simp only [Tm.kind] at hk hb
    simp only [Tm.typed, Bool.and_eq_true, beq_iff_eq] at ht
    rcases parts_kind hb.1 hb.2 with ⟨e, _⟩ | ⟨_, rfl⟩ | ⟨e, _⟩
    · omega
    · have := ih x h4 (good_1 hg) ht.2 (by rw [ht.1]; rfl) hx
      omega
    · omega
  | n2 k v a b ih1 ih2 =>
    have hb := good_kind hg
    obtain ⟨_, _, h3, h4, h5⟩ := hok
    simp only [evalT, Option.bind_eq_some_iff] at h
    obtain ⟨y, hy, x, hx, h⟩ := h
    obtain ⟨rfl, _⟩ := over_small h
    simp only [Tm.kind] at hk hb
    have hk' : 6 ≤ k := by simp [mkK] at hk; omega
    unfold opV
    rw [if_neg (by omega), if_neg (by omega), if_neg (by omega)]
    split
    · split <;> simp
    · split
      · split <;> simp
      · split
        · split <;> simp
        · split <;> simp
structure Sub (t : Tm) (vars : Int) : Prop where
  ok : t.ok
  good : t.good vars
  typed : t.typed = true
theorem Sub.one {k v : Int} {a : Tm} {vars : Int} (h : Sub (.n1 k v a) vars) : Sub a vars ∧ mkK a.kind = tkK k := by
  have := h.typed
  simp only [Tm.typed, Bool.and_eq_true, beq_iff_eq] at this
  exact ⟨⟨h.ok.2.2.2, good_1 h.good, this.2⟩, this.1⟩
theorem Sub.two {k v : Int} {a b : Tm} {vars : Int} (h : Sub (.n2 k v a b) vars) : Sub a vars ∧ Sub b vars ∧ mkK a.kind = tkK k ∧ mkK b.kind = tkK k := by
  have := h.typed
  simp only [Tm.typed, Bool.and_eq_true, beq_iff_eq] at this
  exact ⟨⟨h.ok.2.2.2.1, (good_2 h.good).1, this.1.2⟩, ⟨h.ok.2.2.2.2, (good_2 h.good).2, this.2⟩, this.1.1.1, this.1.1.2⟩
theorem suffix (t : Tm) (vars : Int) (h : Sub t vars) : ∀ (i : Nat), i < t.size → ∀ R : List Op2, ∃ (u : Tm) (r : List Op2), Sub u vars ∧ (t.flat ++ R).drop i = u.flat ++ r := by
  induction t with
  | n0 k v =>
    intro i hi R
    simp only [Tm.size] at hi
    obtain rfl : i = 0 := by omega
    exact ⟨_, R, h, rfl⟩
  | n1 k v a ih =>
    intro i hi R
    simp only [Tm.size] at hi
    cases i with
    | zero => exact ⟨_, R, h, rfl⟩
    | succ i =>
      obtain ⟨u, r, hu, hd⟩ := ih h.one.1 i (by omega) R
      exact ⟨u, r, hu, by simpa [Tm.flat] using hd⟩
  | n2 k v a b ih1 ih2 =>
    intro i hi R
    simp only [Tm.size] at hi
    cases i with
    | zero => exact ⟨_, R, h, rfl⟩
    | succ i =>
      by_cases hl : i < a.size
      · obtain ⟨u, r, hu, hd⟩ := ih1 h.two.1 i hl (b.flat ++ R)
        exact ⟨u, r, hu, by simpa [Tm.flat] using hd⟩
      · obtain ⟨u, r, hu, hd⟩ := ih2 h.two.2.1 (i - a.size) (by omega) R
        refine ⟨u, r, hu, ?_⟩
        rw [← hd]
        simp only [Tm.flat, List.cons_append, List.append_assoc, List.drop_succ_cons]
        rw [List.drop_append, Tm.flat_len, List.drop_eq_nil_of_le (by rw [Tm.flat_len]; omega)]
        simp
theorem stack_at (env : List Int) (t : Tm) (vars : Int) (h : Sub t vars) (i : Nat) (hi : i < t.flat.length) (st : List Int) (hst : runR env (t.flat.drop (i + 1)) = some st) :
    ∃ k v, t.flat[i] = (k, v) ∧ 1 ≤ k ∧ k ≤ 12 ∧ opE (k, v) vars = 0 ∧
      ((partsOf k = 0 ∧ (k = 1 ∨ k = 2 ∨ k = 11 ∨ k = 12)) ∨ (k = 10 ∧ ∃ x s, st = x :: s ∧ Small x) ∨
        (3 ≤ k ∧ k ≤ 9 ∧ ∃ x y s, st = x :: y :: s ∧ Small x ∧ Small y ∧ (8 ≤ k → (x = 0 ∨ x = 1) ∧ (y = 0 ∨ y = 1)))) := by
  obtain ⟨u, r, hu, hd⟩ := suffix t vars h i (by rwa [Tm.flat_len] at hi) []
  rw [List.append_nil, List.drop_eq_getElem_cons hi] at hd
  have hb := good_kind hu.good
  have hval : ∀ a : Tm, ∀ x, evalT env a = some x → Small x := fun a x => evalT_small env a x
  cases u with
  | n0 k v =>
    simp only [Tm.flat, List.cons_append, List.nil_append, List.cons.injEq] at hd
    refine ⟨k, v, hd.1, hb.1, hb.2, hu.good (k, v) (by simp [Tm.flat]), ?_⟩
    have h3 := hu.ok.2.2
    rcases parts_kind hb.1 hb.2 with e | ⟨e, _⟩ | ⟨e, _⟩
    · exact .inl e
    · simp only [Tm.kind] at e; omega
    · simp only [Tm.kind] at e; omega
  | n1 k v a =>
    simp only [Tm.flat, List.cons_append, List.cons.injEq] at hd
    refine ⟨k, v, hd.1, hb.1, hb.2, hu.good (k, v) (by simp [Tm.flat]), ?_⟩
    have h3 := hu.ok.2.2.1
    rw [hd.2, run_flat env a hu.one.1.ok, Option.bind_eq_some_iff] at hst
    obtain ⟨s, _, he⟩ := hst
    rw [Option.map_eq_some_iff] at he
    obtain ⟨x, hx, rfl⟩ := he
    simp only [Tm.kind] at hb
    rcases parts_kind hb.1 hb.2 with ⟨e, _⟩ | ⟨_, e⟩ | ⟨e, _⟩
    · omega
    · exact .inr (.inl ⟨e, x, s, rfl, hval a x hx⟩)
    · omega
  | n2 k v a b =>
    simp only [Tm.flat, List.cons_append, List.append_assoc, List.cons.injEq] at hd
    refine ⟨k, v, hd.1, hb.1, hb.2, hu.good (k, v) (by simp [Tm.flat]), ?_⟩
    have h3 := hu.ok.2.2.1
    obtain ⟨ha, hbb, ka, kb⟩ := hu.two
    rw [hd.2, run_flat env a ha.ok, run_flat env b hbb.ok, Option.bind_eq_some_iff] at hst
    obtain ⟨s1, h1, he⟩ := hst
    rw [Option.map_eq_some_iff] at he
    obtain ⟨x, hx, rfl⟩ := he
    rw [Option.bind_eq_some_iff] at h1
    obtain ⟨s, _, he⟩ := h1
    rw [Option.map_eq_some_iff] at he
    obtain ⟨y, hy, rfl⟩ := he
    simp only [Tm.kind] at hb
    rcases parts_kind hb.1 hb.2 with ⟨e, _⟩ | ⟨e, _⟩ | ⟨_, e⟩
    · omega
    · omega
    · refine .inr (.inr ⟨e.1, e.2, x, y, s, rfl, hval a x hx, hval b y hy, fun h8 => ?_⟩)
      have hm := (log_kinds k h8 (by omega)).2
      exact ⟨truth_01 env a vars x ha.ok ha.good ha.typed (by rw [ka, hm]) hx, truth_01 env b vars y hbb.ok hbb.good hbb.typed (by rw [kb, hm]) hy⟩
end Go.Proofs.YtciihiiacbnimaaGreatDoor

namespace Go.Proofs.YtciihiiacbnimaaGreatDoor
open Go.RowKit
def AtPost (w : World) (M B : Nat) (ar : Option Addr) (cr : Nat) (env : List Int) (r : Option (List Int)) (e : Ending) (w' : World) : Prop :=
  Below B w w' ∧ match r with
    | some st => e = .returned (.tuple #[]) ∧ Mc w' M B ar cr env st.reverse
    | none => e = .panicked [{ v := errV 8, recovered := false }]
theorem at_of {w : World} {M B : Nat} {ar : Option Addr} {cr : Nat} {env s : List Int} {n : Int} {e : Ending} {w' : World} (h : DoPost w M B ar cr env s.reverse n e w') : AtPost w M B ar cr env ((over n).map (· :: s)) e w' := by
  refine ⟨h.1, ?_⟩
  have := h.2
  unfold over
  split at this
  · rename_i hs
    rw [if_pos hs]
    simpa using this
  · rename_i hs
    rw [if_neg hs]
    exact this
theorem i64_small {n : Int} (h : Small n) : I64 n := by unfold Small at h; unfold I64; omega
theorem do_at (w : World) (M B : Nat) (ar : Option Addr) (cr : Nat) (env st : List Int) (k v : Int) (h : Mc w M B ar cr env st.reverse) (hs : st.length ≤ 800) (henv : ∀ x ∈ env, Small x) (h1 : 1 ≤ k) (h2 : k ≤ 12) (ho : opE (k, v) env.length = 0)
    (hst : (partsOf k = 0 ∧ (k = 1 ∨ k = 2 ∨ k = 11 ∨ k = 12)) ∨ (k = 10 ∧ ∃ x s, st = x :: s ∧ Small x) ∨
        (3 ≤ k ∧ k ≤ 9 ∧ ∃ x y s, st = x :: y :: s ∧ Small x ∧ Small y ∧ (8 ≤ k → (x = 0 ∨ x = 1) ∧ (y = 0 ∨ y = 1)))) :
    Calls Tryz.prog 51 #[.pointer (some ⟨M, 0, none⟩), .agg #[.int .i64 k, .int .i64 v]] w (AtPost w M B ar cr env (doS env k v st)) := by
  have hop : okK k = true := by simp [okK]; omega
  simp only [opE, hop, Bool.true_eq_false, if_false] at ho
  rcases hst with ⟨hp, hk⟩ | ⟨rfl, x, s, rfl, hx⟩ | ⟨hk3, hk9, x, y, s, rfl, hx, hy, h8⟩
  · have hd : doS env k v st = (over (leafV env k v)).map (· :: st) := by unfold doS; rw [if_pos hp]
    rw [hd]
    have hl : st.reverse.length ≤ 900 := by simp; omega
    rcases hk with rfl | rfl | rfl | rfl
    · simp only [if_true] at ho
      exact (do_num w M B ar cr env st.reverse v h hl (by unfold I64; split at ho <;> omega)).mono fun e w' hh => at_of hh
    · simp only [show ¬ (2 : Int) = 1 by omega, if_false, if_true] at ho
      have hv : 0 ≤ v ∧ v < env.length := by split at ho <;> omega
      obtain ⟨n, rfl⟩ : ∃ n : Nat, v = n := ⟨v.toNat, by omega⟩
      have hn : n < env.length := by omega
      have he : leafV env 2 (n : Int) = env[n] := by simp [leafV, hn]
      rw [he]
      exact (do_var w M B ar cr env st.reverse n hn h hl (i64_small (henv _ (by simp)))).mono fun e w' hh => at_of hh
    · simp only [show ¬ (11 : Int) = 1 by omega, show ¬ (11 : Int) = 2 by omega, if_false] at ho
      obtain rfl : v = 0 := by split at ho <;> omega
      exact (do_yes w M B ar cr env st.reverse h hl).mono fun e w' hh => at_of hh
    · simp only [show ¬ (12 : Int) = 1 by omega, show ¬ (12 : Int) = 2 by omega, if_false] at ho
      obtain rfl : v = 0 := by split at ho <;> omega
      exact (do_no w M B ar cr env st.reverse h hl).mono fun e w' hh => at_of hh
  · simp only [show ¬ (10 : Int) = 1 by omega, show ¬ (10 : Int) = 2 by omega, if_false] at ho
    obtain rfl : v = 0 := by split at ho <;> omega
    have hd : doS env 10 0 (x :: s) = (over (1 - x)).map (· :: s) := rfl
    rw [hd]
    rw [List.reverse_cons] at h
    exact (do_not w M B ar cr env s.reverse x h (by simp at hs ⊢; omega) hx).mono fun e w' hh => at_of hh
  · have k1 : ¬ k = 1 := by omega
    have k2 : ¬ k = 2 := by omega
    simp only [k1, k2, if_false] at ho
    obtain rfl : v = 0 := by split at ho <;> omega
    have hl : s.reverse.length ≤ 900 := by simp at hs ⊢; omega
    have hp : partsOf k = 2 := by
      rcases parts_kind h1 h2 with ⟨e, _⟩ | ⟨e, _⟩ | ⟨e, _⟩
      · unfold partsOf at e; rw [if_pos (by omega)] at e; cases e
      · unfold partsOf at e; rw [if_pos (by omega)] at e; cases e
      · exact e
    have hd : doS env k 0 (x :: y :: s) = (over (opV k x y)).map (· :: s) := by unfold doS; rw [if_neg (by omega), if_neg (by omega)]
    rw [hd]
    rw [List.reverse_cons, List.reverse_cons] at h
    have hk : k = 3 ∨ k = 4 ∨ k = 5 ∨ k = 6 ∨ k = 7 ∨ k = 8 ∨ k = 9 := by omega
    rcases hk with rfl | rfl | rfl | rfl | rfl | rfl | rfl
    · exact (do_add w M B ar cr env s.reverse x y h hl hx hy).mono fun e w' hh => at_of hh
    · exact (do_sub w M B ar cr env s.reverse x y h hl hx hy).mono fun e w' hh => at_of hh
    · exact (do_mul w M B ar cr env s.reverse x y h hl hx hy).mono fun e w' hh => at_of hh
    · exact (do_eq w M B ar cr env s.reverse x y h hl).mono fun e w' hh => at_of hh
    · exact (do_lt w M B ar cr env s.reverse x y h hl).mono fun e w' hh => at_of hh
    · exact (do_and w M B ar cr env s.reverse x y h hl (h8 (by omega)).1 (h8 (by omega)).2).mono fun e w' hh => at_of hh
    · exact (do_or w M B ar cr env s.reverse x y h hl (h8 (by omega)).1 (h8 (by omega)).2).mono fun e w' hh => at_of hh
theorem catch_eval (p q : Addr) (c z y : Int) (older : List PanicEntry) (w : World) (hpq : p.block ≠ q.block) (hc : w.cell? p = some (.int .i64 y)) (hz : w.frozen? p = false) (hc2 : w.cell? q = some (.int .i64 z)) (hz2 : w.frozen? q = false) :
    CallsD Tryz.prog 50 #[.pointer (some p), .pointer (some q)] (.panicking ({ v := errV c, recovered := false } :: older)) w fun e u' w' =>
      e = .returned (.tuple #[]) ∧ u' = .panicking ({ v := errV c, recovered := true } :: older) ∧ Two w w' p q (.int .i64 0) (.int .i64 c) := by
  refine callsD_of_wpS Tryz.func50 rfl fun c₀ cs hu => ?_
  apply wpS_seq
  apply wpS_region
  simp [wpOpsS, go_sem, recoverD, hu, Tryz.ntmps50, Exit.thenS]
  refine wpS_of_wp ?_
  rw [show (#[Value.pointer (some p), .pointer (some q)] ++ ((Array.replicate 6 undef).setIfInBounds 1 (errV c)).setIfInBounds 0 (errV c)) = #[.pointer (some p), .pointer (some q), errV c, errV c, undef, undef, undef, undef] from rfl]
  unfold errV
  have hne : p ≠ q := fun e => hpq (by rw [e])
  have hne2 : q ≠ p := Ne.symm hne
  have x1 : (w.setCell p (.int .i64 0)).cell? q = some (.int .i64 z) := by rw [World.cell?_setCell_other (h := hne)]; exact hc2
  have x2 : (w.setCell q (.int .i64 c)).cell? p = some (.int .i64 y) := by rw [World.cell?_setCell_other (h := hne2)]; exact hc
  have hta : ∀ wx : World, (Instr.typeAssert (.iface 45 (.int .i64 c)) 20 45 false).run Tryz.prog wx = .ok (.int .i64 c) wx := fun _ => by kernel_rfl
  go_wp2
  go_region
  exact ⟨rfl, _, rfl, _, by simp [results, Tryz.results50], rfl, rfl, (Two.of hpq hc hc2).drew⟩
theorem idle_eval (p q : Addr) (w : World) :
    CallsD Tryz.prog 50 #[.pointer (some p), .pointer (some q)] .returning w fun e u' w' => e = .returned (.tuple #[]) ∧ u' = .returning ∧ w = w' := by
  refine callsD_of_wpS Tryz.func50 rfl fun c₀ cs hu => ?_
  apply wpS_seq
  apply wpS_region
  simp [wpOpsS, go_sem, recoverD, hu, Tryz.ntmps50, Exit.thenS]
  refine wpS_of_wp ?_
  go_wp2
  cases c₀
  simp_all [bodyPostS, results, Tryz.results50]
end Go.Proofs.YtciihiiacbnimaaGreatDoor

namespace Go.Proofs.YtciihiiacbnimaaGreatDoor
open Go.RowKit
theorem run_none (env : List Int) : ∀ (l : List Op2) (i : Nat), runR env (l.drop i) = none → runR env l = none
  | l, 0, h => by simpa using h
  | [], i + 1, h => by simpa using h
  | o :: l, i + 1, h => by
    have := run_none env l i (by simpa using h)
    simp [runR, this]
theorem run_at (env : List Int) (l : List Op2) (i : Nat) (hi : i < l.length) (st : List Int) (h : runR env (l.drop (i + 1)) = some st) : runR env (l.drop i) = doS env l[i].1 l[i].2 st := by
  rw [List.drop_eq_getElem_cons hi, runR, h]
  rfl
def EvalPost (w : World) (r : Option Int) (e : Ending) (w' : World) : Prop :=
  Ext w w' ∧ e = .returned (match r with
    | some n => .tuple #[.int .i64 n, .int .i64 0]
    | none => .tuple #[.int .i64 0, .int .i64 8])
set_option maxRecDepth 100000 in
set_option maxHeartbeats 4000000 in
theorem eval_t (v ve : Value) (t : Tm) (env : List Int) (w : World) (h : IsT w v t) (he : Ints w ve env) (ht : Tab w) (hs : Sub t env.length) (hsz : t.size ≤ 60) (hvl : env.length ≤ 6) (henv : ∀ x ∈ env, Small x) :
    Calls Tryz.prog 27 #[v, ve] w (EvalPost w (evalT env t)) := by
  obtain ⟨ae, ce, rfl, hre⟩ := he
  have HT := Lib.hid ((check_t v t env.length ((w.alloc (Obj.cells #[.int .i64 0] 3)).alloc (Obj.cells #[.int .i64 0] 45)) (h.ext (((Ext.refl w).alloc (Nat.le_refl _) _).alloc (by simp) _)) (ht.ext (((Ext.refl w).alloc (Nat.le_refl _) _).alloc (by simp) _)) (by omega) (by omega) hs.ok hsz hs.good))
  rw [hs.typed] at HT
  obtain ⟨a, cap, rfl, hr⟩ := h
  have hmf : ∀ (fn : Fn) (first cap : Array Value) (w : World), (Instr.makeFunc fn first cap).run Tryz.prog w = .ok (.func fn first cap) w := fun _ _ _ _ => rfl
  have hstack : ∀ (i : Nat) (hi : i < t.flat.length) (st : List Int), runR env (t.flat.drop (i + 1)) = some st → _ := fun i hi st hst => stack_at env t env.length hs i hi st hst
  have hrun : runR env t.flat = (evalT env t).map (fun x => [x]) := run_term env t hs.ok
  have hlen : t.flat.length = t.size := Tm.flat_len t
  have hpos := t.size_pos
  have hl60 : t.flat.length ≤ 60 := by omega
  have hlpos : 0 < t.flat.length := by omega
  obtain ⟨b, off, ha, hc⟩ := hr.ops
  obtain rfl := ha hlpos
  generalize mkK t.kind = tk at *
  generalize evalT env t = res at *
  generalize t.flat = l at *
  have HSTACK := Lib.hid hstack
  have HRUN := Lib.hid hrun
  have HOC := Lib.hid hc
  have HRE := Lib.hid hre
  have HENV := Lib.hid henv
  obtain ⟨be, offe, hae, hce⟩ := int_row hre
  have HCE := Lib.hid hce
  have HAE := Lib.hid hae
  clear hstack hrun hc hre henv hce hr ha hlen hpos hs hsz ht hae
  go_enter_defers Tryz.func27, Tryz.ntmps27
  go_wp2_with fail
  have hE0 : Ext w ((w.alloc (Obj.cells #[.int .i64 0] 3)).alloc (Obj.cells #[.int .i64 0] 45)) := ((Ext.refl w).alloc (Nat.le_refl _) _).alloc (by simp) _
  have p0 : ((w.alloc (Obj.cells #[.int .i64 0] 3)).alloc (Obj.cells #[.int .i64 0] 45)).cell? ⟨w.heap.size, 0, none⟩ = some (.int .i64 0) := by simp [go_sem]
  have q0 : ((w.alloc (Obj.cells #[.int .i64 0] 3)).alloc (Obj.cells #[.int .i64 0] 45)).cell? ⟨w.heap.size + 1, 0, none⟩ = some (.int .i64 0) := by simp [go_sem]
  have pz : ((w.alloc (Obj.cells #[.int .i64 0] 3)).alloc (Obj.cells #[.int .i64 0] 45)).frozen? ⟨w.heap.size, 0, none⟩ = false := by simp [go_sem]
  have qz : ((w.alloc (Obj.cells #[.int .i64 0] 3)).alloc (Obj.cells #[.int .i64 0] 45)).frozen? ⟨w.heap.size + 1, 0, none⟩ = false := by simp [go_sem]
  have hsz0 : ((w.alloc (Obj.cells #[.int .i64 0] 3)).alloc (Obj.cells #[.int .i64 0] 45)).heap.size = w.heap.size + 1 + 1 := by simp
  generalize (w.alloc (Obj.cells #[.int .i64 0] 3)).alloc (Obj.cells #[.int .i64 0] 45) = w0 at *
  refine HT.out.mono ?_
  simp only [if_true, Bool.true_and]
  rintro e w1 ⟨rfl, hE1⟩
  have hs1 := hE1.size
  have p1 := cell_later hE1 p0
  have q1 := cell_later hE1 q0
  have pz1 : w1.frozen? ⟨w.heap.size, 0, none⟩ = false := (World.frozen?_of_block (hE1.block w.heap.size (by omega))).trans pz
  have qz1 : w1.frozen? ⟨w.heap.size + 1, 0, none⟩ = false := (World.frozen?_of_block (hE1.block (w.heap.size + 1) (by omega))).trans qz
  have HE := Lib.hid (hE0.trans hE1)
  clear HT hE0 hE1 p0 q0 pz qz
  go_wp2_with fail
  go_loopw [24] (fun i wr => ∃ ii : Nat, ii ≤ env.length ∧ i = .int .i64 ii ∧ wr = w1) (fun i _ => env.length - (intOf i).toNat)
  case atStart => exact ⟨0, by omega, rfl, rfl⟩
  case round =>
    obtain ⟨ii, hii, rfl, rfl⟩ := hrel
    by_cases hlt : ii < env.length
    · have hc1 := cell_later HE.out (HCE.out ii hlt)
      obtain rfl := HAE.out (by omega)
      have hsm := HENV.out env[ii] (by simp)
      unfold Small at hsm
      generalize env[ii] = x at *
      go_wp2_with fail
      go_roundw
      case rel => exact ⟨ii + 1, by omega, by go_num, trivial⟩
      case measure => simp [intOf]; omega
    · obtain rfl : ii = env.length := by omega
      rename World => wE
      have hEM : Below wE.heap.size wE (wE.alloc (Obj.cells #[.slice none 0 0, .slice ae env.length ce] 125)) := (Ext.refl wE).alloc (Nat.le_refl _) _
      have hM0 : Mc (wE.alloc (Obj.cells #[.slice none 0 0, .slice ae env.length ce] 125)) wE.heap.size wE.heap.size ae ce env [] := by
        refine ⟨⟨none, 0, by simp [go_sem], ⟨rfl, .inl ⟨rfl, rfl⟩⟩, by simp [Value.ownBlock]⟩, by simp [go_sem], fun i => by simp [go_sem], (HRE.out.ext HE.out).ext hEM, fun q hq hx => ?_, Nat.le_refl _⟩
        subst hq
        exact (HRE.out.ext HE.out).blk (by simpa using hx)
      clear hlt hii
      have HEM := Lib.hid hEM
      have HM0 := Lib.hid hM0
      clear hEM hM0
      go_wp2_with fail
      generalize wE.alloc (Obj.cells #[.slice none 0 0, .slice ae env.length ce] 125) = w2 at *
      go_loopw [11] (fun x wx => ∃ (ii : Nat) (st : List Int), x = .int .i64 ((ii : Int) - 1) ∧ ii ≤ l.length ∧ Hid (runR env (l.drop ii) = some st) ∧ Hid (Mc wx wE.heap.size wE.heap.size ae ce env st.reverse) ∧ Hid (Below wE.heap.size wE wx)) (fun x _ => (intOf x + 1).toNat)
      case atStart => exact ⟨l.length, [], by go_num, by omega, Lib.hid (by rw [List.drop_length]; rfl), HM0, HEM⟩
      case round =>
        obtain ⟨ii, st, rfl, hil, HST, HM, HB⟩ := hrel
        cases ii with
        | succ i =>
          have hi : i < l.length := by omega
          have hext : Ext w wr := HE.out.trans HB.out
          have hc1 := cell_later hext (HOC.out i hi).1
          have hc2 := cell_later hext (HOC.out i hi).2
          obtain ⟨k, v, hkv, hk1, hk2, ho, hcase⟩ := HSTACK.out i hi st HST.out
          have hra := run_at env l i hi st HST.out
          rw [hkv] at hc1 hc2 hra
          have hstl : st.length ≤ 800 := by have := run_len env _ st HST.out; simp at this; omega
          have HD := Lib.hid (do_at wr wE.heap.size wE.heap.size ae ce env st k v HM.out hstl HENV.out hk1 hk2 ho hcase)
          have HRA := Lib.hid hra
          clear hkv ho hcase hra hext
          go_wp2_with fail
          refine HD.out.mono ?_
          rintro e w3 ⟨hB3, hm⟩
          rw [← HRA.out] at hm
          have HB3 := Lib.hid (HB.out.trans hB3)
          clear hB3 HD HRA HM HB
          rcases hr2 : runR env (l.drop i) with _ | st2
          · rw [hr2] at hm
            obtain rfl : e = _ := hm
            have hres : res = none := by
              have := run_none env l i hr2
              rw [HRUN.out] at this
              simpa using this
            subst hres
            have p3 := (HB3.out.cell (p := ⟨w.heap.size, 0, none⟩) (by show w.heap.size < _; omega)).trans p1
            have q3 := (HB3.out.cell (p := ⟨w.heap.size + 1, 0, none⟩) (by show w.heap.size + 1 < _; omega)).trans q1
            have pz3 : w3.frozen? ⟨w.heap.size, 0, none⟩ = false := (World.frozen?_of_block (HB3.out.block w.heap.size (by omega))).trans pz1
            have qz3 : w3.frozen? ⟨w.heap.size + 1, 0, none⟩ = false := (World.frozen?_of_block (HB3.out.block (w.heap.size + 1) (by omega))).trans qz1
            have hE3 : Ext w w3 := HE.out.trans HB3.out
            clear hr2 hc1 hc2
            go_wp2
            refine leaves_cons (f := 50) (args := #[.pointer (some ⟨w.heap.size, 0, none⟩), .pointer (some ⟨w.heap.size + 1, 0, none⟩)]) (by simp) (by simp [go_sem]) ?_
            refine (catch_eval ⟨w.heap.size, 0, none⟩ ⟨w.heap.size + 1, 0, none⟩ 8 0 0 [] w3 (by simp) p3 pz3 q3 qz3).mono ?_
            rintro e u' w4 ⟨rfl, rfl, hT⟩
            have r0 := hT.c0
            have r1 := hT.c1
            have hE4 : Ext w w4 := Below.trans hE3 ⟨hT.os, hT.tape, hT.output, by rw [hT.size]; exact Nat.le_refl _, fun k hk => hT.block k (by simp; omega) (by simp; omega)⟩
            refine ⟨.tuple #[.int .i64 0, .int .i64 8], ?_, hE4, rfl⟩
            simp [results, Tryz.results27, go_sem, r0, r1]
          · rw [hr2] at hm
            obtain ⟨rfl, hm3⟩ := hm
            have HM3 := Lib.hid hm3
            have HR3 := Lib.hid hr2
            clear hm3 hr2
            go_wp2_with fail
            go_roundw
            case rel => exact ⟨i, st2, by go_num, by omega, HR3, HM3, HB3⟩
            case measure => simp [intOf]
        | zero =>
          have hres := HRUN.out
          have hst0 := HST.out
          rw [List.drop_zero, hres] at hst0
          rw [Option.map_eq_some_iff] at hst0
          obtain ⟨n, hn, rfl⟩ := hst0
          have HP := Lib.hid (pop_any wr wE.heap.size wE.heap.size ae ce env [] n HM.out (by simp))
          clear hres
          subst hn
          simp only [Int.natCast_zero, Int.zero_sub] at *
          go_wp2_with fail
          refine HP.out.mono ?_
          rintro e w3 ⟨rfl, _, hg3⟩
          have hB3 : Below wE.heap.size wE w3 := HB.out.grown hg3 (by have := HB.out.size; omega) (fun k hk => by cases hk; exact Nat.le_refl _)
          have p3 := (hB3.cell (p := ⟨w.heap.size, 0, none⟩) (by show w.heap.size < _; omega)).trans p1
          have q3 := (hB3.cell (p := ⟨w.heap.size + 1, 0, none⟩) (by show w.heap.size + 1 < _; omega)).trans q1
          have pz3 : w3.frozen? ⟨w.heap.size, 0, none⟩ = false := (World.frozen?_of_block (hB3.block w.heap.size (by omega))).trans pz1
          have qz3 : w3.frozen? ⟨w.heap.size + 1, 0, none⟩ = false := (World.frozen?_of_block (hB3.block (w.heap.size + 1) (by omega))).trans qz1
          have hE3 : Ext w w3 := HE.out.trans hB3
          have HE3 := Lib.hid hE3
          clear hB3 hg3 hE3 HB HM HST HP HRUN
          go_wp2
          refine leaves_cons (f := 50) (args := #[.pointer (some ⟨w.heap.size, 0, none⟩), .pointer (some ⟨w.heap.size + 1, 0, none⟩)]) (by simp) (by simp [go_sem]) ?_
          refine (idle_eval _ _ _).mono ?_
          rintro e u' w'' ⟨rfl, rfl, rfl⟩
          have hT := Two.of (w := w3) (p := ⟨w.heap.size, 0, none⟩) (q := ⟨w.heap.size + 1, 0, none⟩) (x := .int .i64 n) (y := .int .i64 0) (by simp) p3 q3
          have hE4 : Ext w ((w3.setCell ⟨w.heap.size, 0, none⟩ (.int .i64 n)).setCell ⟨w.heap.size + 1, 0, none⟩ (.int .i64 0)) := (HE3.out.setCell (by simp) _).setCell (by simp) _
          generalize (w3.setCell ⟨w.heap.size, 0, none⟩ (.int .i64 n)).setCell ⟨w.heap.size + 1, 0, none⟩ (.int .i64 0) = w4 at *
          have r0 := hT.c0
          have r1 := hT.c1
          refine ⟨.tuple #[.int .i64 n, .int .i64 0], ?_, hE4, rfl⟩
          simp [results, Tryz.results27, go_sem, r0, r1]
end Go.Proofs.YtciihiiacbnimaaGreatDoor
