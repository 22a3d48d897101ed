/- EvalB: what is needed of it. No condition. -/
import Derived.Test.YtopkbjfjncpjdaaDoorEvalA
namespace Go.Proofs.YtopkbjfjncpjdaaDoor
open Go.RowKit
theorem run_none (env : List Int) : ∀ (l : List Op2) (i : Nat), runR env (l.drop i) = none → runR env l = none
  | l, 0, h => by simpa using h
  | [], i + 1, h => by simpa using h
  | o :: l, i + 1, h => by
    have := run_none env l i (by simpa using h)
    simp [runR, this]
theorem run_at (env : List Int) (l : List Op2) (i : Nat) (hi : i < l.length) (st : List Int) (h : runR env (l.drop (i + 1)) = some st) : runR env (l.drop i) = doS env l[i].1 l[i].2 st := by
  rw [List.drop_eq_getElem_cons hi, runR, h]
  rfl
def EvalPost (w : World) (r : Option Int) (e : Ending) (w' : World) : Prop :=
  Ext w w' ∧ e = .returned (match r with
    | some n => .tuple #[.int .i64 n, .int .i64 0]
    | none => .tuple #[.int .i64 0, .int .i64 8])
set_option maxRecDepth 100000 in
set_option maxHeartbeats 4000000 in
theorem eval_t (v ve : Value) (t : Tm) (env : List Int) (w : World) (h : IsT w v t) (he : Ints w ve env) (ht : Tab w) (hs : Sub t env.length) (hsz : t.size ≤ 60) (hvl : env.length ≤ 6) (henv : ∀ x ∈ env, Small x) :
    Calls Tryd.prog 22 #[v, ve] w (EvalPost w (evalT env t)) := by
  obtain ⟨ae, ce, rfl, hre⟩ := he
  have HT := Lib.hid ((check_t v t env.length ((w.alloc (Obj.cells #[.int .i64 0] 3)).alloc (Obj.cells #[.int .i64 0] 31)) (h.ext (((Ext.refl w).alloc (Nat.le_refl _) _).alloc (by simp) _)) (ht.ext (((Ext.refl w).alloc (Nat.le_refl _) _).alloc (by simp) _)) (by omega) (by omega) hs.ok hsz hs.good))
  rw [hs.typed] at HT
  obtain ⟨a, cap, rfl, hr⟩ := h
  have hmf : ∀ (fn : Fn) (first cap : Array Value) (w : World), (Instr.makeFunc fn first cap).run Tryd.prog w = .ok (.func fn first cap) w := fun _ _ _ _ => rfl
  have hstack : ∀ (i : Nat) (hi : i < t.flat.length) (st : List Int), runR env (t.flat.drop (i + 1)) = some st → _ := fun i hi st hst => stack_at env t env.length hs i hi st hst
  have hrun : runR env t.flat = (evalT env t).map (fun x => [x]) := run_term env t hs.ok
  have hlen : t.flat.length = t.size := Tm.flat_len t
  have hpos := t.size_pos
  have hl60 : t.flat.length ≤ 60 := by omega
  have hlpos : 0 < t.flat.length := by omega
  obtain ⟨b, off, ha, hc⟩ := hr.ops
  obtain rfl := ha hlpos
  generalize mkK t.kind = tk at *
  generalize evalT env t = res at *
  generalize t.flat = l at *
  have HSTACK := Lib.hid hstack
  have HRUN := Lib.hid hrun
  have HOC := Lib.hid hc
  have HRE := Lib.hid hre
  have HENV := Lib.hid henv
  obtain ⟨be, offe, hae, hce⟩ := int_row hre
  have HCE := Lib.hid hce
  have HAE := Lib.hid hae
  clear hstack hrun hc hre henv hce hr ha hlen hpos hs hsz ht hae
  go_enter_defers Tryd.func22, Tryd.ntmps22
  go_wp2_with fail
  have hE0 : Ext w ((w.alloc (Obj.cells #[.int .i64 0] 3)).alloc (Obj.cells #[.int .i64 0] 31)) := ((Ext.refl w).alloc (Nat.le_refl _) _).alloc (by simp) _
  have p0 : ((w.alloc (Obj.cells #[.int .i64 0] 3)).alloc (Obj.cells #[.int .i64 0] 31)).cell? ⟨w.heap.size, 0, none⟩ = some (.int .i64 0) := by simp [go_sem]
  have q0 : ((w.alloc (Obj.cells #[.int .i64 0] 3)).alloc (Obj.cells #[.int .i64 0] 31)).cell? ⟨w.heap.size + 1, 0, none⟩ = some (.int .i64 0) := by simp [go_sem]
  have pz : ((w.alloc (Obj.cells #[.int .i64 0] 3)).alloc (Obj.cells #[.int .i64 0] 31)).frozen? ⟨w.heap.size, 0, none⟩ = false := by simp [go_sem]
  have qz : ((w.alloc (Obj.cells #[.int .i64 0] 3)).alloc (Obj.cells #[.int .i64 0] 31)).frozen? ⟨w.heap.size + 1, 0, none⟩ = false := by simp [go_sem]
  have hsz0 : ((w.alloc (Obj.cells #[.int .i64 0] 3)).alloc (Obj.cells #[.int .i64 0] 31)).heap.size = w.heap.size + 1 + 1 := by simp
  generalize (w.alloc (Obj.cells #[.int .i64 0] 3)).alloc (Obj.cells #[.int .i64 0] 31) = w0 at *
  refine HT.out.mono ?_
  simp only [if_true, Bool.true_and]
  rintro e w1 ⟨rfl, hE1⟩
  have hs1 := hE1.size
  have p1 := cell_later hE1 p0
  have q1 := cell_later hE1 q0
  have pz1 : w1.frozen? ⟨w.heap.size, 0, none⟩ = false := (World.frozen?_of_block (hE1.block w.heap.size (by omega))).trans pz
  have qz1 : w1.frozen? ⟨w.heap.size + 1, 0, none⟩ = false := (World.frozen?_of_block (hE1.block (w.heap.size + 1) (by omega))).trans qz
  have HE := Lib.hid (hE0.trans hE1)
  clear HT hE0 hE1 p0 q0 pz qz
  go_wp2_with fail
  go_loopw [24] (fun i wr => ∃ ii : Nat, ii ≤ env.length ∧ i = .int .i64 ii ∧ wr = w1) (fun i _ => env.length - (intOf i).toNat)
  case atStart => exact ⟨0, by omega, rfl, rfl⟩
  case round =>
    obtain ⟨ii, hii, rfl, rfl⟩ := hrel
    by_cases hlt : ii < env.length
    · have hc1 := cell_later HE.out (HCE.out ii hlt)
      obtain rfl := HAE.out (by omega)
      have hsm := HENV.out env[ii] (by simp)
      unfold Small at hsm
      generalize env[ii] = x at *
      go_wp2_with fail
      go_roundw
      case rel => exact ⟨ii + 1, by omega, by go_num, trivial⟩
      case measure => simp [intOf]; omega
    · obtain rfl : ii = env.length := by omega
      rename World => wE
      have hEM : Below wE.heap.size wE (wE.alloc (Obj.cells #[.slice none 0 0, .slice ae env.length ce] 84)) := (Ext.refl wE).alloc (Nat.le_refl _) _
      have hM0 : Mc (wE.alloc (Obj.cells #[.slice none 0 0, .slice ae env.length ce] 84)) wE.heap.size wE.heap.size ae ce env [] := by
        refine ⟨⟨none, 0, by simp [go_sem], ⟨rfl, .inl ⟨rfl, rfl⟩⟩, by simp [Value.ownBlock]⟩, by simp [go_sem], fun i => by simp [go_sem], (HRE.out.ext HE.out).ext hEM, fun q hq hx => ?_, Nat.le_refl _⟩
        subst hq
        exact (HRE.out.ext HE.out).blk (by simpa using hx)
      clear hlt hii
      have HEM := Lib.hid hEM
      have HM0 := Lib.hid hM0
      clear hEM hM0
      go_wp2_with fail
      generalize wE.alloc (Obj.cells #[.slice none 0 0, .slice ae env.length ce] 84) = w2 at *
      go_loopw [11] (fun x wx => ∃ (ii : Nat) (st : List Int), x = .int .i64 ((ii : Int) - 1) ∧ ii ≤ l.length ∧ Hid (runR env (l.drop ii) = some st) ∧ Hid (Mc wx wE.heap.size wE.heap.size ae ce env st.reverse) ∧ Hid (Below wE.heap.size wE wx)) (fun x _ => (intOf x + 1).toNat)
      case atStart => exact ⟨l.length, [], by go_num, by omega, Lib.hid (by rw [List.drop_length]; rfl), HM0, HEM⟩
      case round =>
        obtain ⟨ii, st, rfl, hil, HST, HM, HB⟩ := hrel
        cases ii with
        | succ i =>
          have hi : i < l.length := by omega
          have hext : Ext w wr := HE.out.trans HB.out
          have hc1 := cell_later hext (HOC.out i hi).1
          have hc2 := cell_later hext (HOC.out i hi).2
          obtain ⟨k, v, hkv, hk1, hk2, ho, hcase⟩ := HSTACK.out i hi st HST.out
          have hra := run_at env l i hi st HST.out
          rw [hkv] at hc1 hc2 hra
          have hstl : st.length ≤ 800 := by have := run_len env _ st HST.out; simp at this; omega
          have HD := Lib.hid (do_at wr wE.heap.size wE.heap.size ae ce env st k v HM.out hstl HENV.out hk1 hk2 ho hcase)
          have HRA := Lib.hid hra
          clear hkv ho hcase hra hext
          go_wp2_with fail
          refine HD.out.mono ?_
          rintro e w3 ⟨hB3, hm⟩
          rw [← HRA.out] at hm
          have HB3 := Lib.hid (HB.out.trans hB3)
          clear hB3 HD HRA HM HB
          rcases hr2 : runR env (l.drop i) with _ | st2
          · rw [hr2] at hm
            obtain rfl : e = _ := hm
            have hres : res = none := by
              have := run_none env l i hr2
              rw [HRUN.out] at this
              simpa using this
            subst hres
            have p3 := (HB3.out.cell (p := ⟨w.heap.size, 0, none⟩) (by show w.heap.size < _; omega)).trans p1
            have q3 := (HB3.out.cell (p := ⟨w.heap.size + 1, 0, none⟩) (by show w.heap.size + 1 < _; omega)).trans q1
            have pz3 : w3.frozen? ⟨w.heap.size, 0, none⟩ = false := (World.frozen?_of_block (HB3.out.block w.heap.size (by omega))).trans pz1
            have qz3 : w3.frozen? ⟨w.heap.size + 1, 0, none⟩ = false := (World.frozen?_of_block (HB3.out.block (w.heap.size + 1) (by omega))).trans qz1
            have hE3 : Ext w w3 := HE.out.trans HB3.out
            clear hr2 hc1 hc2
            go_wp2
            refine leaves_cons (f := 31) (args := #[.pointer (some ⟨w.heap.size, 0, none⟩), .pointer (some ⟨w.heap.size + 1, 0, none⟩)]) (by simp) (by simp [go_sem]) ?_
            refine (catch_eval ⟨w.heap.size, 0, none⟩ ⟨w.heap.size + 1, 0, none⟩ 8 0 0 [] w3 (by simp) p3 pz3 q3 qz3).mono ?_
            rintro e u' w4 ⟨rfl, rfl, hT⟩
            have r0 := hT.c0
            have r1 := hT.c1
            have hE4 : Ext w w4 := Below.trans hE3 ⟨hT.os, hT.tape, hT.output, by rw [hT.size]; exact Nat.le_refl _, fun k hk => hT.block k (by simp; omega) (by simp; omega)⟩
            refine ⟨.tuple #[.int .i64 0, .int .i64 8], ?_, hE4, rfl⟩
            simp [results, Tryd.results22, go_sem, r0, r1]
          · rw [hr2] at hm
            obtain ⟨rfl, hm3⟩ := hm
            have HM3 := Lib.hid hm3
            have HR3 := Lib.hid hr2
            clear hm3 hr2
            go_wp2_with fail
            go_roundw
            case rel => exact ⟨i, st2, by go_num, by omega, HR3, HM3, HB3⟩
            case measure => simp [intOf]
        | zero =>
          have hres := HRUN.out
          have hst0 := HST.out
          rw [List.drop_zero, hres] at hst0
          rw [Option.map_eq_some_iff] at hst0
          obtain ⟨n, hn, rfl⟩ := hst0
          have HP := Lib.hid (pop_any wr wE.heap.size wE.heap.size ae ce env [] n HM.out (by simp))
          clear hres
          subst hn
          simp only [Int.natCast_zero, Int.zero_sub] at *
          go_wp2_with fail
          refine HP.out.mono ?_
          rintro e w3 ⟨rfl, _, hg3⟩
          have hB3 : Below wE.heap.size wE w3 := HB.out.grown hg3 (by have := HB.out.size; omega) (fun k hk => by cases hk; exact Nat.le_refl _)
          have p3 := (hB3.cell (p := ⟨w.heap.size, 0, none⟩) (by show w.heap.size < _; omega)).trans p1
          have q3 := (hB3.cell (p := ⟨w.heap.size + 1, 0, none⟩) (by show w.heap.size + 1 < _; omega)).trans q1
          have pz3 : w3.frozen? ⟨w.heap.size, 0, none⟩ = false := (World.frozen?_of_block (hB3.block w.heap.size (by omega))).trans pz1
          have qz3 : w3.frozen? ⟨w.heap.size + 1, 0, none⟩ = false := (World.frozen?_of_block (hB3.block (w.heap.size + 1) (by omega))).trans qz1
          have hE3 : Ext w w3 := HE.out.trans hB3
          have HE3 := Lib.hid hE3
          clear hB3 hg3 hE3 HB HM HST HP HRUN
          go_wp2
          refine leaves_cons (f := 31) (args := #[.pointer (some ⟨w.heap.size, 0, none⟩), .pointer (some ⟨w.heap.size + 1, 0, none⟩)]) (by simp) (by simp [go_sem]) ?_
          refine (idle_eval _ _ _).mono ?_
          rintro e u' w'' ⟨rfl, rfl, rfl⟩
          have hT := Two.of (w := w3) (p := ⟨w.heap.size, 0, none⟩) (q := ⟨w.heap.size + 1, 0, none⟩) (x := .int .i64 n) (y := .int .i64 0) (by simp) p3 q3
          have hE4 : Ext w ((w3.setCell ⟨w.heap.size, 0, none⟩ (.int .i64 n)).setCell ⟨w.heap.size + 1, 0, none⟩ (.int .i64 0)) := (HE3.out.setCell (by simp) _).setCell (by simp) _
          generalize (w3.setCell ⟨w.heap.size, 0, none⟩ (.int .i64 n)).setCell ⟨w.heap.size + 1, 0, none⟩ (.int .i64 0) = w4 at *
          have r0 := hT.c0
          have r1 := hT.c1
          refine ⟨.tuple #[.int .i64 n, .int .i64 0], ?_, hE4, rfl⟩
          simp [results, Tryd.results22, go_sem, r0, r1]
end Go.Proofs.YtopkbjfjncpjdaaDoor
