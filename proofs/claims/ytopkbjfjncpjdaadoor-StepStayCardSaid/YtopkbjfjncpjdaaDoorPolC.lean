/- PolC: what is needed of it. No condition. -/
import Derived.Test.YtopkbjfjncpjdaaDoorPolB
import Derived.Recover
import Derived.RegionTactic
namespace Go.Proofs.YtopkbjfjncpjdaaDoor
open Go.RowKit
theorem Tryd.slInts : SlTy Tryd.prog 47 3 (.int .i64 0) 1 8 := SlTy.mk' Tryd.underlying47 (by kernel_rfl) (by rfl) (by omega)
theorem skip_any (R g cap : Nat) (a : Option Addr) (l : List Op2) (hb : l.length ≤ 1000) : ∀ (f at' : Nat) (es : List Int) (w : World), l.length < at' + f → es.length = l.length → Rd w R g a cap l → EndsRow w g l.length es →
    Calls Tryd.prog 59 #[.pointer (some ⟨R, 0, none⟩), .int .i64 at'] w (SkipPost w g l.length (skipL l f at' es)) := by
  intro f
  induction f with
  | zero => intro at' es w hf hes hr he; exact skip_short R g cap a l at' es w (by omega) hr he
  | succ f ih =>
    intro at' es w hf hes hr he
    unfold skipL
    split
    · rename_i hl
      split
      · rename_i hk
        exact skip_step R g cap a l at' es w hl hb hr he hk.1 hk.2 (skipL l f) hes (fun p es' _ => skipL_bd l f p es') (fun p es' w' hp _ hes' hr' he' => ih p es' w' (by omega) hes' hr' he')
      · rename_i hk
        exact skip_kind R g cap a l at' es w hl hb hr he (by omega)
    · exact skip_short R g cap a l at' es w (by omega) hr he
structure Two (w w' : World) (p q : Addr) (x y : Value) : Prop where
  os : w'.os = w.os
  tape : w'.tape = w.tape
  output : w'.output = w.output
  size : w.heap.size = w'.heap.size
  block : ∀ k, k ≠ p.block → k ≠ q.block → w'.heap[k]? = w.heap[k]?
  c0 : w'.cell? p = some x
  c1 : w'.cell? q = some y
theorem Two.of {w : World} {p q : Addr} {x y v0 z : Value} (hpq : p.block ≠ q.block) (hc : w.cell? p = some v0) (hc2 : w.cell? q = some z) : Two w ((w.setCell p x).setCell q y) p q x y := by
  have hne : q ≠ p := fun e => hpq (by rw [e])
  refine ⟨rfl, rfl, rfl, by simp, fun k h1 h2 => ?_, ?_, ?_⟩
  · rw [Below.heap_setCell _ _ _ _ h2, Below.heap_setCell _ _ _ _ h1]
  · rw [World.cell?_setCell_other (h := hne)]; exact World.cell?_setCell_same _ _ _ hc
  · exact World.cell?_setCell_same _ _ _ (u := z) (by rw [World.cell?_setCell_other (h := (Ne.symm hne))]; exact hc2)
theorem Two.drew {w w' : World} {p q : Addr} {x y : Value} (h : Two w w' p q x y) : Two w w'.drew p q x y := ⟨h.os, h.tape, h.output, h.size, h.block, h.c0, h.c1⟩
theorem catch_panicking (p q : Addr) (c z : Int) (v0 : Value) (older : List PanicEntry) (w : World) (hpq : p.block ≠ q.block) (hc : w.cell? p = some v0) (hz : w.frozen? p = false) (hc2 : w.cell? q = some (.int .i64 z)) (hz2 : w.frozen? q = false) :
    CallsD Tryd.prog 58 #[.pointer (some p), .pointer (some q)] (.panicking ({ v := errV c, recovered := false } :: older)) w fun e u' w' =>
      e = .returned (.tuple #[]) ∧ u' = .panicking ({ v := errV c, recovered := true } :: older) ∧ Two w w' p q (.slice none 0 0) (.int .i64 c) := by
  refine callsD_of_wpS Tryd.func58 rfl fun c₀ cs hu => ?_
  apply wpS_seq
  apply wpS_region
  simp [wpOpsS, go_sem, recoverD, hu, Tryd.ntmps58, Exit.thenS]
  refine wpS_of_wp ?_
  rw [show (#[Value.pointer (some p), .pointer (some q)] ++ ((Array.replicate 6 undef).setIfInBounds 1 (errV c)).setIfInBounds 0 (errV c)) = #[.pointer (some p), .pointer (some q), errV c, errV c, undef, undef, undef, undef] from rfl]
  unfold errV
  have hne : p ≠ q := fun e => hpq (by rw [e])
  have hne2 : q ≠ p := Ne.symm hne
  have x1 : (w.setCell p (.slice none 0 0)).cell? q = some (.int .i64 z) := by rw [World.cell?_setCell_other (h := hne)]; exact hc2
  have x2 : (w.setCell q (.int .i64 c)).cell? p = some v0 := by rw [World.cell?_setCell_other (h := hne2)]; exact hc
  have hta : ∀ wx : World, (Instr.typeAssert (.iface 31 (.int .i64 c)) 20 31 false).run Tryd.prog wx = .ok (.int .i64 c) wx := fun _ => by kernel_rfl
  go_wp2
  go_region
  exact ⟨rfl, _, rfl, _, by simp [results, Tryd.results58], rfl, rfl, (Two.of hpq hc hc2).drew⟩
theorem catch_idle (p q : Addr) (w : World) :
    CallsD Tryd.prog 58 #[.pointer (some p), .pointer (some q)] .returning w fun e u' w' => e = .returned (.tuple #[]) ∧ u' = .returning ∧ w = w' := by
  refine callsD_of_wpS Tryd.func58 rfl fun c₀ cs hu => ?_
  apply wpS_seq
  apply wpS_region
  simp [wpOpsS, go_sem, recoverD, hu, Tryd.ntmps58, Exit.thenS]
  refine wpS_of_wp ?_
  go_wp2
  cases c₀
  simp_all [bodyPostS, results, Tryd.results58]
def EndsPost (w : World) (r : Except Int (List Int)) (e : Ending) (w' : World) : Prop :=
  Ext w w' ∧ match r with
    | .ok es => ∃ v', e = .returned (.tuple #[v', .int .i64 0]) ∧ w'.ownsRow w.heap.size 3 1 v' es.length (es.map (.int .i64))
    | .error c => e = .returned (.tuple #[.slice none 0 0, .int .i64 c])
set_option maxRecDepth 100000 in
set_option maxHeartbeats 1000000 in
theorem ends_long (v : Value) (l : List Op2) (w : World) (h : Ops w v l) (hl : 60 < l.length) :
    Calls Tryd.prog 36 #[v] w fun e w' => e = .returned (.tuple #[.slice none 0 0, .int .i64 1]) ∧ Ext w w' := by
  obtain ⟨a, cap, rfl, hr⟩ := h
  have hm : l.length ≤ 9223372036854775807 := by have := hr.le; have := hr.max; unfold maxLen at this; omega
  clear hr
  go_enter_defers Tryd.func36, Tryd.ntmps36
  go_wp2
  simp [bodyPostD, Leaves, results, Tryd.results36, go_sem]
  exact ((Ext.refl w).alloc (Nat.le_refl _) _).alloc (by simp) _
set_option maxRecDepth 100000 in
set_option maxHeartbeats 2000000 in
theorem ends_ok (v : Value) (l : List Op2) (w : World) (h : Ops w v l) (ht : Tab w) (hl : l.length ≤ 60) (es : List Int) (hsk : skipL l (l.length + 1) 0 (List.replicate l.length 0) = (.ok l.length, es)) :
    Calls Tryd.prog 36 #[v] w fun e w' => ∃ v', e = .returned (.tuple #[v', .int .i64 0]) ∧ w'.ownsRow w.heap.size 3 1 v' l.length (es.map (.int .i64)) ∧ Ext w w' := by
  obtain ⟨a, cap, rfl, hr⟩ := h
  have hmf : ∀ (fn : Fn) (first cap : Array Value) (w : World), (Instr.makeFunc fn first cap).run Tryd.prog w = .ok (.func fn first cap) w := fun _ _ _ _ => rfl
  have HT := Lib.hid ht
  have Hr := Lib.hid hr
  have Hsk := Lib.hid hsk
  clear ht hr hsk
  go_enter_defers Tryd.func36, Tryd.ntmps36
  go_wp2_with (at_make; go_must (refine wpList_make_full _ rfl _ _ 47 rfl 0 3 (Tryd.slInts.inf.choose) (.int .i64 0) 1 Tryd.underlying47 Tryd.slInts.inf.choose_spec.1 Tryd.slInts.inf.choose_spec.2.1 Tryd.slInts.inf.choose_spec.2.2.1 .i64 .i64 l.length l.length l.length rfl rfl rfl rfl (by rw [Tryd.slInts.inf.choose_spec.2.2.2]; omega) (by unfold maxLen; omega) (Nat.zero_le _) ?_))
  intro w1 hown hg
  rw [toList_madeCells_one] at hown
  have hE0 : Ext w ((w.alloc (Obj.cells #[.slice none 0 0] 47)).alloc (Obj.cells #[.int .i64 0] 31)) := ((Ext.refl w).alloc (Nat.le_refl _) _).alloc (by simp) _
  have hE1 : Ext w w1 := hE0.grown hg (by simp; omega) (by simp)
  have hs1 : w.heap.size + 1 + 1 < w1.heap.size := (hown.lt _ rfl).2
  have p0 : w1.cell? ⟨w.heap.size, 0, none⟩ = some (.slice none 0 0) := hg.cell (by simp [go_sem]) (by simp)
  have q0 : w1.cell? ⟨w.heap.size + 1, 0, none⟩ = some (.int .i64 0) := hg.cell (by simp [go_sem]) (by simp)
  have pz : w1.frozen? ⟨w.heap.size, 0, none⟩ = false := (World.frozen?_of_block (hg.block w.heap.size (by simp; omega) (by simp))).trans (by simp [go_sem])
  have qz : w1.frozen? ⟨w.heap.size + 1, 0, none⟩ = false := (World.frozen?_of_block (hg.block (w.heap.size + 1) (by simp) (by simp))).trans (by simp [go_sem])
  go_wp2_with fail
  have hrow2 : EndsRow (w1.alloc (Obj.cells #[.slice a l.length cap, .slice (some ⟨w.heap.size + 1 + 1, 0, none⟩) l.length l.length] 112)) (w.heap.size + 1 + 1) l.length (List.replicate l.length 0) := by
    have := hown.alloc (Obj.cells #[.slice a l.length cap, .slice (some ⟨w.heap.size + 1 + 1, 0, none⟩) l.length l.length] 112)
    unfold EndsRow
    simpa using this
  have hE2 : Ext w (w1.alloc (Obj.cells #[.slice a l.length cap, .slice (some ⟨w.heap.size + 1 + 1, 0, none⟩) l.length l.length] 112)) := hE1.alloc (by omega) _
  have hrd : Rd (w1.alloc (Obj.cells #[.slice a l.length cap, .slice (some ⟨w.heap.size + 1 + 1, 0, none⟩) l.length l.length] 112)) w1.heap.size (w.heap.size + 1 + 1) a cap l := by
    refine ⟨by simp [go_sem], by simp [go_sem], by omega, Hr.out.ext hE2, fun p hp hx => ?_, HT.out.ext hE2, by have := HT.out.lt; omega⟩
    subst hp
    have := Hr.out.blk (by rw [opc_len]; omega)
    omega
  have p1 : (w1.alloc (Obj.cells #[.slice a l.length cap, .slice (some ⟨w.heap.size + 1 + 1, 0, none⟩) l.length l.length] 112)).cell? ⟨w.heap.size, 0, none⟩ = some (.slice none 0 0) := by rw [World.cell?_alloc_past _ _ _ (by omega)]; exact p0
  have q1 : (w1.alloc (Obj.cells #[.slice a l.length cap, .slice (some ⟨w.heap.size + 1 + 1, 0, none⟩) l.length l.length] 112)).cell? ⟨w.heap.size + 1, 0, none⟩ = some (.int .i64 0) := by rw [World.cell?_alloc_past _ _ _ (by omega)]; exact q0
  have pz1 : (w1.alloc (Obj.cells #[.slice a l.length cap, .slice (some ⟨w.heap.size + 1 + 1, 0, none⟩) l.length l.length] 112)).frozen? ⟨w.heap.size, 0, none⟩ = false := by rw [World.frozen?_alloc_past _ _ _ (by omega)]; exact pz
  have qz1 : (w1.alloc (Obj.cells #[.slice a l.length cap, .slice (some ⟨w.heap.size + 1 + 1, 0, none⟩) l.length l.length] 112)).frozen? ⟨w.heap.size + 1, 0, none⟩ = false := by rw [World.frozen?_alloc_past _ _ _ (by omega)]; exact qz
  have hs2 : w1.heap.size < (w1.alloc (Obj.cells #[.slice a l.length cap, .slice (some ⟨w.heap.size + 1 + 1, 0, none⟩) l.length l.length] 112)).heap.size := by simp
  generalize w1.alloc (Obj.cells #[.slice a l.length cap, .slice (some ⟨w.heap.size + 1 + 1, 0, none⟩) l.length l.length] 112) = W2 at *
  clear p0 q0 pz qz hown hg hE0 hE1
  refine (skip_any w1.heap.size (w.heap.size + 1 + 1) cap a l (by omega) (l.length + 1) 0 (List.replicate l.length 0) W2 (by omega) (by simp) hrd hrow2).mono ?_
  rw [Hsk.out]
  rintro e w3 ⟨he, hrow3, hg3⟩
  have hE3 : Ext w w3 := hE2.grown hg3 (by omega) (fun k hk => by cases hk; omega)
  have p3 := hg3.cell p1 (by simp; omega)
  have q3 := hg3.cell q1 (by simp)
  have pz3 : w3.frozen? ⟨w.heap.size, 0, none⟩ = false := (World.frozen?_of_block (hg3.block w.heap.size (by omega) (by simp; omega))).trans pz1
  have qz3 : w3.frozen? ⟨w.heap.size + 1, 0, none⟩ = false := (World.frozen?_of_block (hg3.block (w.heap.size + 1) (by omega) (by simp))).trans qz1
  have d1 := (hrd.grown hg3).c1
  have Hrow3 := Lib.hid hrow3
  clear p1 q1 pz1 qz1 hrd hrow2 hrow3 hg3 hE2
  obtain rfl : e = .returned (.int .i64 (l.length : Int)) := he
  go_wp2
  refine leaves_cons (f := 58) (args := #[.pointer (some ⟨w.heap.size, 0, none⟩), .pointer (some ⟨w.heap.size + 1, 0, none⟩)]) (by simp) (by simp [go_sem]) ?_
  refine (catch_idle _ _ _).mono ?_
  rintro e u' w'' ⟨rfl, rfl, rfl⟩
  have hT := Two.of (w := w3) (p := ⟨w.heap.size, 0, none⟩) (q := ⟨w.heap.size + 1, 0, none⟩) (x := .slice (some ⟨w.heap.size + 1 + 1, 0, none⟩) l.length l.length) (y := .int .i64 0) (by simp) p3 q3
  have hrow4 := own_setCell (own_setCell (show w3.ownsRow 0 3 1 (.slice (some ⟨w.heap.size + 1 + 1, 0, none⟩) l.length l.length) l.length (es.map (.int .i64)) from Hrow3.out) (p := ⟨w.heap.size, 0, none⟩) (.slice (some ⟨w.heap.size + 1 + 1, 0, none⟩) l.length l.length) (by simp [Value.ownBlock]; omega)) (p := ⟨w.heap.size + 1, 0, none⟩) (.int .i64 0) (by simp [Value.ownBlock])
  have hE4 : Ext w ((w3.setCell ⟨w.heap.size, 0, none⟩ (.slice (some ⟨w.heap.size + 1 + 1, 0, none⟩) l.length l.length)).setCell ⟨w.heap.size + 1, 0, none⟩ (.int .i64 0)) := (hE3.setCell (by simp) _).setCell (by simp) _
  generalize (w3.setCell ⟨w.heap.size, 0, none⟩ (.slice (some ⟨w.heap.size + 1 + 1, 0, none⟩) l.length l.length)).setCell ⟨w.heap.size + 1, 0, none⟩ (.int .i64 0) = w4 at *
  have r0 := hT.c0
  have r1 := hT.c1
  refine ⟨.tuple #[.slice (some ⟨w.heap.size + 1 + 1, 0, none⟩) l.length l.length, .int .i64 0], ?_, _, rfl, hrow4.weaken (fun k hk => by simp [Value.ownBlock] at hk; omega), hE4⟩
  simp [results, Tryd.results36, go_sem, r0, r1]
set_option maxRecDepth 100000 in
set_option maxHeartbeats 2000000 in
theorem ends_form (v : Value) (l : List Op2) (w : World) (h : Ops w v l) (ht : Tab w) (hl : l.length ≤ 60) (n : Nat) (hn : n ≠ l.length) (es : List Int) (hsk : skipL l (l.length + 1) 0 (List.replicate l.length 0) = (.ok n, es)) :
    Calls Tryd.prog 36 #[v] w fun e w' => e = .returned (.tuple #[.slice none 0 0, .int .i64 3]) ∧ Ext w w' := by
  obtain ⟨a, cap, rfl, hr⟩ := h
  have hmf : ∀ (fn : Fn) (first cap : Array Value) (w : World), (Instr.makeFunc fn first cap).run Tryd.prog w = .ok (.func fn first cap) w := fun _ _ _ _ => rfl
  have HT := Lib.hid ht
  have Hr := Lib.hid hr
  have Hsk := Lib.hid hsk
  clear ht hr hsk
  go_enter_defers Tryd.func36, Tryd.ntmps36
  go_wp2_with (at_make; go_must (refine wpList_make_full _ rfl _ _ 47 rfl 0 3 (Tryd.slInts.inf.choose) (.int .i64 0) 1 Tryd.underlying47 Tryd.slInts.inf.choose_spec.1 Tryd.slInts.inf.choose_spec.2.1 Tryd.slInts.inf.choose_spec.2.2.1 .i64 .i64 l.length l.length l.length rfl rfl rfl rfl (by rw [Tryd.slInts.inf.choose_spec.2.2.2]; omega) (by unfold maxLen; omega) (Nat.zero_le _) ?_))
  intro w1 hown hg
  rw [toList_madeCells_one] at hown
  have hE0 : Ext w ((w.alloc (Obj.cells #[.slice none 0 0] 47)).alloc (Obj.cells #[.int .i64 0] 31)) := ((Ext.refl w).alloc (Nat.le_refl _) _).alloc (by simp) _
  have hE1 : Ext w w1 := hE0.grown hg (by simp; omega) (by simp)
  have hs1 : w.heap.size + 1 + 1 < w1.heap.size := (hown.lt _ rfl).2
  have p0 : w1.cell? ⟨w.heap.size, 0, none⟩ = some (.slice none 0 0) := hg.cell (by simp [go_sem]) (by simp)
  have q0 : w1.cell? ⟨w.heap.size + 1, 0, none⟩ = some (.int .i64 0) := hg.cell (by simp [go_sem]) (by simp)
  have pz : w1.frozen? ⟨w.heap.size, 0, none⟩ = false := (World.frozen?_of_block (hg.block w.heap.size (by simp; omega) (by simp))).trans (by simp [go_sem])
  have qz : w1.frozen? ⟨w.heap.size + 1, 0, none⟩ = false := (World.frozen?_of_block (hg.block (w.heap.size + 1) (by simp) (by simp))).trans (by simp [go_sem])
  go_wp2_with fail
  have hrow2 : EndsRow (w1.alloc (Obj.cells #[.slice a l.length cap, .slice (some ⟨w.heap.size + 1 + 1, 0, none⟩) l.length l.length] 112)) (w.heap.size + 1 + 1) l.length (List.replicate l.length 0) := by
    have := hown.alloc (Obj.cells #[.slice a l.length cap, .slice (some ⟨w.heap.size + 1 + 1, 0, none⟩) l.length l.length] 112)
    unfold EndsRow
    simpa using this
  have hE2 : Ext w (w1.alloc (Obj.cells #[.slice a l.length cap, .slice (some ⟨w.heap.size + 1 + 1, 0, none⟩) l.length l.length] 112)) := hE1.alloc (by omega) _
  have hrd : Rd (w1.alloc (Obj.cells #[.slice a l.length cap, .slice (some ⟨w.heap.size + 1 + 1, 0, none⟩) l.length l.length] 112)) w1.heap.size (w.heap.size + 1 + 1) a cap l := by
    refine ⟨by simp [go_sem], by simp [go_sem], by omega, Hr.out.ext hE2, fun p hp hx => ?_, HT.out.ext hE2, by have := HT.out.lt; omega⟩
    subst hp
    have := Hr.out.blk (by rw [opc_len]; omega)
    omega
  have p1 : (w1.alloc (Obj.cells #[.slice a l.length cap, .slice (some ⟨w.heap.size + 1 + 1, 0, none⟩) l.length l.length] 112)).cell? ⟨w.heap.size, 0, none⟩ = some (.slice none 0 0) := by rw [World.cell?_alloc_past _ _ _ (by omega)]; exact p0
  have q1 : (w1.alloc (Obj.cells #[.slice a l.length cap, .slice (some ⟨w.heap.size + 1 + 1, 0, none⟩) l.length l.length] 112)).cell? ⟨w.heap.size + 1, 0, none⟩ = some (.int .i64 0) := by rw [World.cell?_alloc_past _ _ _ (by omega)]; exact q0
  have pz1 : (w1.alloc (Obj.cells #[.slice a l.length cap, .slice (some ⟨w.heap.size + 1 + 1, 0, none⟩) l.length l.length] 112)).frozen? ⟨w.heap.size, 0, none⟩ = false := by rw [World.frozen?_alloc_past _ _ _ (by omega)]; exact pz
  have qz1 : (w1.alloc (Obj.cells #[.slice a l.length cap, .slice (some ⟨w.heap.size + 1 + 1, 0, none⟩) l.length l.length] 112)).frozen? ⟨w.heap.size + 1, 0, none⟩ = false := by rw [World.frozen?_alloc_past _ _ _ (by omega)]; exact qz
  have hs2 : w1.heap.size < (w1.alloc (Obj.cells #[.slice a l.length cap, .slice (some ⟨w.heap.size + 1 + 1, 0, none⟩) l.length l.length] 112)).heap.size := by simp
  generalize w1.alloc (Obj.cells #[.slice a l.length cap, .slice (some ⟨w.heap.size + 1 + 1, 0, none⟩) l.length l.length] 112) = W2 at *
  clear p0 q0 pz qz hown hg hE0 hE1
  refine (skip_any w1.heap.size (w.heap.size + 1 + 1) cap a l (by omega) (l.length + 1) 0 (List.replicate l.length 0) W2 (by omega) (by simp) hrd hrow2).mono ?_
  rw [Hsk.out]
  rintro e w3 ⟨he, hrow3, hg3⟩
  have hE3 : Ext w w3 := hE2.grown hg3 (by omega) (fun k hk => by cases hk; omega)
  have p3 := hg3.cell p1 (by simp; omega)
  have q3 := hg3.cell q1 (by simp)
  have pz3 : w3.frozen? ⟨w.heap.size, 0, none⟩ = false := (World.frozen?_of_block (hg3.block w.heap.size (by omega) (by simp; omega))).trans pz1
  have qz3 : w3.frozen? ⟨w.heap.size + 1, 0, none⟩ = false := (World.frozen?_of_block (hg3.block (w.heap.size + 1) (by omega) (by simp))).trans qz1
  have d1 := (hrd.grown hg3).c1
  have Hrow3 := Lib.hid hrow3
  clear p1 q1 pz1 qz1 hrd hrow2 hrow3 hg3 hE2
  obtain rfl : e = .returned (.int .i64 (n : Int)) := he
  have hne : ((n : Int) != (l.length : Int)) = true := by rw [bne_iff_ne]; omega
  go_wp2
  refine leaves_cons (f := 58) (args := #[.pointer (some ⟨w.heap.size, 0, none⟩), .pointer (some ⟨w.heap.size + 1, 0, none⟩)]) (by simp) (by simp [go_sem]) ?_
  refine (catch_panicking ⟨w.heap.size, 0, none⟩ ⟨w.heap.size + 1, 0, none⟩ 3 0 _ [] w3 (by simp) p3 pz3 q3 qz3).mono ?_
  rintro e u' w4 ⟨rfl, rfl, hT⟩
  have r0 := hT.c0
  have r1 := hT.c1
  have hE4 : Ext w w4 := Below.trans hE3 ⟨hT.os, hT.tape, hT.output, by rw [hT.size]; exact Nat.le_refl _, fun k hk => hT.block k (by simp; omega) (by simp; omega)⟩
  refine ⟨.tuple #[.slice none 0 0, .int .i64 3], ?_, rfl, hE4⟩
  simp [results, Tryd.results36, go_sem, r0, r1]
set_option maxRecDepth 100000 in
set_option maxHeartbeats 2000000 in
theorem ends_err (v : Value) (l : List Op2) (w : World) (h : Ops w v l) (ht : Tab w) (hl : l.length ≤ 60) (c : Int) (es : List Int) (hsk : skipL l (l.length + 1) 0 (List.replicate l.length 0) = (.error c, es)) :
    Calls Tryd.prog 36 #[v] w fun e w' => e = .returned (.tuple #[.slice none 0 0, .int .i64 c]) ∧ Ext w w' := by
  obtain ⟨a, cap, rfl, hr⟩ := h
  have hmf : ∀ (fn : Fn) (first cap : Array Value) (w : World), (Instr.makeFunc fn first cap).run Tryd.prog w = .ok (.func fn first cap) w := fun _ _ _ _ => rfl
  have HT := Lib.hid ht
  have Hr := Lib.hid hr
  have Hsk := Lib.hid hsk
  clear ht hr hsk
  go_enter_defers Tryd.func36, Tryd.ntmps36
  go_wp2_with (at_make; go_must (refine wpList_make_full _ rfl _ _ 47 rfl 0 3 (Tryd.slInts.inf.choose) (.int .i64 0) 1 Tryd.underlying47 Tryd.slInts.inf.choose_spec.1 Tryd.slInts.inf.choose_spec.2.1 Tryd.slInts.inf.choose_spec.2.2.1 .i64 .i64 l.length l.length l.length rfl rfl rfl rfl (by rw [Tryd.slInts.inf.choose_spec.2.2.2]; omega) (by unfold maxLen; omega) (Nat.zero_le _) ?_))
  intro w1 hown hg
  rw [toList_madeCells_one] at hown
  have hE0 : Ext w ((w.alloc (Obj.cells #[.slice none 0 0] 47)).alloc (Obj.cells #[.int .i64 0] 31)) := ((Ext.refl w).alloc (Nat.le_refl _) _).alloc (by simp) _
  have hE1 : Ext w w1 := hE0.grown hg (by simp; omega) (by simp)
  have hs1 : w.heap.size + 1 + 1 < w1.heap.size := (hown.lt _ rfl).2
  have p0 : w1.cell? ⟨w.heap.size, 0, none⟩ = some (.slice none 0 0) := hg.cell (by simp [go_sem]) (by simp)
  have q0 : w1.cell? ⟨w.heap.size + 1, 0, none⟩ = some (.int .i64 0) := hg.cell (by simp [go_sem]) (by simp)
  have pz : w1.frozen? ⟨w.heap.size, 0, none⟩ = false := (World.frozen?_of_block (hg.block w.heap.size (by simp; omega) (by simp))).trans (by simp [go_sem])
  have qz : w1.frozen? ⟨w.heap.size + 1, 0, none⟩ = false := (World.frozen?_of_block (hg.block (w.heap.size + 1) (by simp) (by simp))).trans (by simp [go_sem])
  go_wp2_with fail
  have hrow2 : EndsRow (w1.alloc (Obj.cells #[.slice a l.length cap, .slice (some ⟨w.heap.size + 1 + 1, 0, none⟩) l.length l.length] 112)) (w.heap.size + 1 + 1) l.length (List.replicate l.length 0) := by
    have := hown.alloc (Obj.cells #[.slice a l.length cap, .slice (some ⟨w.heap.size + 1 + 1, 0, none⟩) l.length l.length] 112)
    unfold EndsRow
    simpa using this
  have hE2 : Ext w (w1.alloc (Obj.cells #[.slice a l.length cap, .slice (some ⟨w.heap.size + 1 + 1, 0, none⟩) l.length l.length] 112)) := hE1.alloc (by omega) _
  have hrd : Rd (w1.alloc (Obj.cells #[.slice a l.length cap, .slice (some ⟨w.heap.size + 1 + 1, 0, none⟩) l.length l.length] 112)) w1.heap.size (w.heap.size + 1 + 1) a cap l := by
    refine ⟨by simp [go_sem], by simp [go_sem], by omega, Hr.out.ext hE2, fun p hp hx => ?_, HT.out.ext hE2, by have := HT.out.lt; omega⟩
    subst hp
    have := Hr.out.blk (by rw [opc_len]; omega)
    omega
  have p1 : (w1.alloc (Obj.cells #[.slice a l.length cap, .slice (some ⟨w.heap.size + 1 + 1, 0, none⟩) l.length l.length] 112)).cell? ⟨w.heap.size, 0, none⟩ = some (.slice none 0 0) := by rw [World.cell?_alloc_past _ _ _ (by omega)]; exact p0
  have q1 : (w1.alloc (Obj.cells #[.slice a l.length cap, .slice (some ⟨w.heap.size + 1 + 1, 0, none⟩) l.length l.length] 112)).cell? ⟨w.heap.size + 1, 0, none⟩ = some (.int .i64 0) := by rw [World.cell?_alloc_past _ _ _ (by omega)]; exact q0
  have pz1 : (w1.alloc (Obj.cells #[.slice a l.length cap, .slice (some ⟨w.heap.size + 1 + 1, 0, none⟩) l.length l.length] 112)).frozen? ⟨w.heap.size, 0, none⟩ = false := by rw [World.frozen?_alloc_past _ _ _ (by omega)]; exact pz
  have qz1 : (w1.alloc (Obj.cells #[.slice a l.length cap, .slice (some ⟨w.heap.size + 1 + 1, 0, none⟩) l.length l.length] 112)).frozen? ⟨w.heap.size + 1, 0, none⟩ = false := by rw [World.frozen?_alloc_past _ _ _ (by omega)]; exact qz
  have hs2 : w1.heap.size < (w1.alloc (Obj.cells #[.slice a l.length cap, .slice (some ⟨w.heap.size + 1 + 1, 0, none⟩) l.length l.length] 112)).heap.size := by simp
  generalize w1.alloc (Obj.cells #[.slice a l.length cap, .slice (some ⟨w.heap.size + 1 + 1, 0, none⟩) l.length l.length] 112) = W2 at *
  clear p0 q0 pz qz hown hg hE0 hE1
  refine (skip_any w1.heap.size (w.heap.size + 1 + 1) cap a l (by omega) (l.length + 1) 0 (List.replicate l.length 0) W2 (by omega) (by simp) hrd hrow2).mono ?_
  rw [Hsk.out]
  rintro e w3 ⟨he, hrow3, hg3⟩
  have hE3 : Ext w w3 := hE2.grown hg3 (by omega) (fun k hk => by cases hk; omega)
  have p3 := hg3.cell p1 (by simp; omega)
  have q3 := hg3.cell q1 (by simp)
  have pz3 : w3.frozen? ⟨w.heap.size, 0, none⟩ = false := (World.frozen?_of_block (hg3.block w.heap.size (by omega) (by simp; omega))).trans pz1
  have qz3 : w3.frozen? ⟨w.heap.size + 1, 0, none⟩ = false := (World.frozen?_of_block (hg3.block (w.heap.size + 1) (by omega) (by simp))).trans qz1
  have d1 := (hrd.grown hg3).c1
  have Hrow3 := Lib.hid hrow3
  clear p1 q1 pz1 qz1 hrd hrow2 hrow3 hg3 hE2
  obtain rfl : e = .panicked [{ v := errV c, recovered := false }] := he
  go_wp2
  refine leaves_cons (f := 58) (args := #[.pointer (some ⟨w.heap.size, 0, none⟩), .pointer (some ⟨w.heap.size + 1, 0, none⟩)]) (by simp) (by simp [go_sem]) ?_
  refine (catch_panicking ⟨w.heap.size, 0, none⟩ ⟨w.heap.size + 1, 0, none⟩ c 0 _ [] w3 (by simp) p3 pz3 q3 qz3).mono ?_
  rintro e u' w4 ⟨rfl, rfl, hT⟩
  have r0 := hT.c0
  have r1 := hT.c1
  have hE4 : Ext w w4 := Below.trans hE3 ⟨hT.os, hT.tape, hT.output, by rw [hT.size]; exact Nat.le_refl _, fun k hk => hT.block k (by simp; omega) (by simp; omega)⟩
  refine ⟨.tuple #[.slice none 0 0, .int .i64 c], ?_, rfl, hE4⟩
  simp [results, Tryd.results36, go_sem, r0, r1]
theorem ends_any (v : Value) (l : List Op2) (w : World) (h : Ops w v l) (ht : Tab w) :
    Calls Tryd.prog 36 #[v] w (EndsPost w (endsL l)) := by
  unfold endsL
  split
  · rename_i hl
    exact (ends_long v l w h hl).mono fun e w' ⟨h1, h2⟩ => ⟨h2, h1⟩
  · rename_i hl
    rcases hsk : skipL l (l.length + 1) 0 (List.replicate l.length 0) with ⟨r, es⟩
    have hbd := skipL_bd l (l.length + 1) 0 (List.replicate l.length 0)
    rw [hsk] at hbd
    cases r with
    | error c => exact (ends_err v l w h ht (by omega) c es hsk).mono fun e w' ⟨h1, h2⟩ => ⟨h2, h1⟩
    | ok n =>
      have hn := hbd.1 n rfl
      have hes : es.length = l.length := by simpa using hbd.2
      by_cases hnl : n = l.length
      · subst hnl
        simp only [if_true]
        refine (ends_ok v l w h ht (by omega) es hsk).mono ?_
        rintro e w' ⟨v', h1, h2, h3⟩
        exact ⟨h3, v', h1, by rw [hes]; exact h2⟩
      · simp only [hnl, if_false]
        exact (ends_form v l w h ht (by omega) n hnl es hsk).mono fun e w' ⟨h1, h2⟩ => ⟨h2, h1⟩
end Go.Proofs.YtopkbjfjncpjdaaDoor
