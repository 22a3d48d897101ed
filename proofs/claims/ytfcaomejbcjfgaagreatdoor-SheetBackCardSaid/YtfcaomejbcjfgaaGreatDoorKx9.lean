/- Several texts in one: GenD; RawT; Join; JoinG; ExpA; FormP; TruP; Form; FormB. No condition. -/
import Derived.Test.YtfcaomejbcjfgaaGreatDoorKx8
import Derived.Test.YtfcaomejbcjfgaaGreatDoorKx2
namespace Go.Proofs.YtfcaomejbcjfgaaGreatDoor
open Go.RowKit
theorem truT_sizeb (raw : List Op2) (vars : Int) (d q : Nat) (hd : d ≤ 10) : (truT raw vars d q).1.size ≤ 60 := by
  have h1 := truT_end raw vars d q
  have h2 := truT_size raw vars d q
  by_cases h : 10 ≤ q
  · have := h1.1 h; omega
  · have := h1.2 (by omega); omega
theorem truth_any (G B : Nat) (ar : Option Addr) (cr : Nat) (raw : List Op2) (vars props tempo : Int) (hraw : RawI raw) (hv2 : vars ≤ 1000) :
    ∀ (d : Nat), d ≤ 5 → ∀ (w : World) (p : Nat) (out : List Op2), Gr w G B ar cr raw p vars props tempo out → p + 100 * d ≤ 700 → out.length + 100 * d ≤ 700 →
    Calls Tryz.prog 38 #[.pointer (some ⟨G, 0, none⟩), .int .i64 d] w (Made w G B ar cr raw vars props tempo out (truT raw vars d p)) := by
  intro d
  induction d with
  | zero =>
    intro _ w p out h hp ho
    have hb := truKind_bd (rawAt raw p) 0 p
    have hk : pk (rawAt raw p).1 3 = truKind (rawAt raw p) 0 p := by unfold truKind; simp
    unfold truT
    split
    · rename_i h0
      exact truth_z0 w G B ar cr raw p vars props tempo out h hraw (by omega) (by omega) hv2 _ hk h0
    · exact truth_zc w G B ar cr raw p vars props tempo out h hraw (by omega) (by omega) hv2 _ hk (by omega)
  | succ d ih =>
    intro hd w p out h hp ho
    have hb := truKind_bd (rawAt raw p) (d + 1) p
    have hs := fun q => truT_sizeb raw vars d q (by omega)
    have ih' := ih (by omega)
    unfold truT
    by_cases hc : 10 < p + 1
    · have hk : pk (rawAt raw p).1 3 = truKind (rawAt raw p) (d + 1) p := by unfold truKind; simp [hc]
      split
      · rename_i h0
        exact truth_a0 w G B ar cr raw p vars props tempo out h hraw d (by omega) hc hp ho hv2 _ hk h0
      · rw [if_pos (by omega)]
        exact truth_ac w G B ar cr raw p vars props tempo out h hraw d (by omega) hc hp ho hv2 _ hk (by omega)
    · have hk : pk (rawAt raw p).1 9 = truKind (rawAt raw p) (d + 1) p := by unfold truKind; simp [hc]
      split
      · rename_i h0
        exact truth_b0 w G B ar cr raw p vars props tempo out h hraw d (by omega) hc hp ho hv2 _ hk h0
      · split
        · exact truth_bc w G B ar cr raw p vars props tempo out h hraw d (by omega) hc hp ho hv2 _ hk (by omega) (by omega)
        · split
          · rename_i h5
            exact truth_b5 w G B ar cr raw p vars props tempo out h hraw d (by omega) hc hp ho hv2 _ hk h5 ih' hs
          · exact truth_bb w G B ar cr raw p vars props tempo out h hraw d (by omega) hc hp ho hv2 _ hk (by omega) ih' hs
def truO (raw : List Op2) (vars : Int) : Tm := (truT raw vars 3 0).1
def numO (raw : List Op2) (vars : Int) : Tm := (numT raw vars 2 0).1
set_option maxRecDepth 100000 in
set_option maxHeartbeats 1000000 in
theorem mkTruth (v : Value) (raw : List Op2) (vars : Int) (w : World) (h : Ops w v raw) (hraw : RawI raw) (hv2 : vars ≤ 1000) :
    Calls Tryz.prog 23 #[v, .int .i64 vars] w fun e w' => ∃ v', e = .returned v' ∧ w'.ownsRow w.heap.size 79 2 v' (truO raw vars).flat.length ((truO raw vars).flat.flatMap opc) ∧ Ext w w' := by
  obtain ⟨ar, cr, rfl, hr⟩ := h
  have hE : Ext w (w.alloc (Obj.cells #[.slice ar raw.length cr, .int .i64 0, .int .i64 vars, .int .i64 0, .int .i64 0, .slice none 0 0] 87)) := (Ext.refl w).alloc (Nat.le_refl _) _
  have hg : Gr (w.alloc (Obj.cells #[.slice ar raw.length cr, .int .i64 0, .int .i64 vars, .int .i64 0, .int .i64 0, .slice none 0 0] 87)) w.heap.size w.heap.size ar cr raw 0 vars 0 0 [] :=
    ⟨by simp [go_sem], by simp [go_sem], by simp [go_sem], by simp [go_sem], by simp [go_sem], ⟨none, 0, by simp [go_sem], World.ownsRow_nil _ _ _ _, by simp [Value.ownBlock]⟩, fun i => by simp [go_sem], hr.ext hE,
      fun q hq hx => by subst hq; exact hr.blk (by rw [opc_len]; omega), Nat.le_refl _⟩
  have HC := Lib.hid (truth_any w.heap.size w.heap.size ar cr raw vars 0 0 hraw hv2 3 (by omega) _ 0 [] hg (by omega) (by simp))
  have hbel := hE
  clear hr
  go_enter Tryz.func23, Tryz.ntmps23
  go_wp2_with fail
  refine HC.out.mono ?_
  rintro e w2 ⟨rfl, g2, b2⟩
  obtain ⟨ao, co, c5, h6, _⟩ := g2.c5
  have H6 := Lib.hid h6
  have HE2 : Hid (Ext w w2) := Below.trans hE b2
  clear h6 g2 b2 hg hE hbel
  go_wp2
  go_ret
  exact ⟨_, rfl, H6.out, HE2.out⟩
set_option maxRecDepth 100000 in
set_option maxHeartbeats 1000000 in
theorem mkNumber (v : Value) (raw : List Op2) (vars : Int) (w : World) (h : Ops w v raw) (hraw : RawI raw) (hv2 : vars ≤ 1000) :
    Calls Tryz.prog 24 #[v, .int .i64 vars] w fun e w' => ∃ v', e = .returned v' ∧ w'.ownsRow w.heap.size 79 2 v' (numO raw vars).flat.length ((numO raw vars).flat.flatMap opc) ∧ Ext w w' := by
  obtain ⟨ar, cr, rfl, hr⟩ := h
  have hE : Ext w (w.alloc (Obj.cells #[.slice ar raw.length cr, .int .i64 0, .int .i64 vars, .int .i64 0, .int .i64 0, .slice none 0 0] 87)) := (Ext.refl w).alloc (Nat.le_refl _) _
  have hg : Gr (w.alloc (Obj.cells #[.slice ar raw.length cr, .int .i64 0, .int .i64 vars, .int .i64 0, .int .i64 0, .slice none 0 0] 87)) w.heap.size w.heap.size ar cr raw 0 vars 0 0 [] :=
    ⟨by simp [go_sem], by simp [go_sem], by simp [go_sem], by simp [go_sem], by simp [go_sem], ⟨none, 0, by simp [go_sem], World.ownsRow_nil _ _ _ _, by simp [Value.ownBlock]⟩, fun i => by simp [go_sem], hr.ext hE,
      fun q hq hx => by subst hq; exact hr.blk (by rw [opc_len]; omega), Nat.le_refl _⟩
  have HC := Lib.hid (number_two _ w.heap.size w.heap.size ar cr raw 0 vars 0 0 [] hg hraw (by omega) (by simp) hv2)
  have hbel := hE
  clear hr
  go_enter Tryz.func24, Tryz.ntmps24
  go_wp2_with fail
  refine HC.out.mono ?_
  rintro e w2 ⟨rfl, g2, b2⟩
  obtain ⟨ao, co, c5, h6, _⟩ := g2.c5
  have H6 := Lib.hid h6
  have HE2 : Hid (Ext w w2) := Below.trans hE b2
  clear h6 g2 b2 hg hE hbel
  go_wp2
  go_ret
  exact ⟨_, rfl, H6.out, HE2.out⟩
end Go.Proofs.YtfcaomejbcjfgaaGreatDoor

namespace Go.Proofs.YtfcaomejbcjfgaaGreatDoor
open Go.RowKit
set_option maxRecDepth 100000 in

theorem raw_of {W : World} {v : Value} (h : Cells Tryz.prog W 26 [v]) : ∃ raw, Ops W v raw ∧ RawI raw := by
  obtain ⟨a, cap, xss, hv, hr, hx⟩ := h.slice (sz := 2) Tryz.underlying26 (by kernel_rfl)
  have each : ∀ xs ∈ xss, ∃ o : { o : Op2 // I64 o.1 ∧ I64 o.2 }, xs = opc o.val := by
    intro xs hxs
    obtain ⟨hl, hc⟩ := hx xs hxs
    obtain ⟨_, hf⟩ := hc.field Tryz.underlying100
    match xs, hl with
    | [x, y], _ =>
      have c1 : Tryz.prog.cellsOf 3 = 1 := by kernel_rfl
      have f0 : Cells Tryz.prog W 3 [x] := by have := hf 0 _ rfl; simpa [c1] using this
      have f1 : Cells Tryz.prog W 3 [y] := by have := hf 1 _ rfl; simpa [c1] using this
      obtain ⟨m, e0, i0⟩ := Cells.i64 Tryz.underlying3 f0
      obtain ⟨n, e1, i1⟩ := Cells.i64 Tryz.underlying3 f1
      simp at e0 e1
      subst e0; subst e1
      exact ⟨⟨(m, n), i0, i1⟩, rfl⟩
  have build : ∀ yss : List (List Value), (∀ xs ∈ yss, ∃ o : { o : Op2 // I64 o.1 ∧ I64 o.2 }, xs = opc o.val) → ∃ raw : List Op2, yss.length = raw.length ∧ yss.flatten = raw.flatMap opc ∧ ∀ o ∈ raw, I64 o.1 ∧ I64 o.2 := by
    intro yss
    induction yss with
    | nil => intro _; exact ⟨[], rfl, rfl, by simp⟩
    | cons ys yss ih =>
      intro h
      obtain ⟨o, rfl⟩ := h ys (by simp)
      obtain ⟨raw, h1, h2, h3⟩ := ih (fun xs hxs => h xs (by simp [hxs]))
      refine ⟨o.val :: raw, by simp [h1], by simp [h2], ?_⟩
      intro q hq
      rcases List.mem_cons.1 hq with rfl | hq
      · exact o.property
      · exact h3 q hq
  obtain ⟨raw, h1, h2, h3⟩ := build xss each
  simp only [List.cons.injEq, and_true] at hv
  rw [h1, h2] at hr
  refine ⟨raw, ⟨a, cap, by rw [hv, h1], hr⟩, fun p => ?_⟩
  unfold rawAt
  rw [List.getD_eq_getElem?_getD]
  by_cases hp : p < raw.length
  · rw [List.getElem?_eq_getElem hp]; exact h3 _ (by simp)
  · rw [List.getElem?_eq_none (by omega)]; simp [I64]
end Go.Proofs.YtfcaomejbcjfgaaGreatDoor

namespace Go.Proofs.YtfcaomejbcjfgaaGreatDoor
open Go.RowKit
def OpsL (w : World) (v : Value) (ll : List (List Op2)) : Prop :=
  ∃ vs : List Value, vs.length = ll.length ∧ Reads w 1 v ll.length vs ∧ ∀ (i : Nat) (x : Value) (l : List Op2), vs[i]? = some x → ll[i]? = some l → Ops w x l
theorem OpsL.ext {w w' : World} {v : Value} {ll : List (List Op2)} (h : OpsL w v ll) (hb : Ext w w') : OpsL w' v ll := by
  obtain ⟨vs, h1, h2, h3⟩ := h
  exact ⟨vs, h1, h2.ext hb, fun i x l hx hl => (h3 i x l hx hl).ext hb⟩
def joinL (k : Int) (ll : List (List Op2)) : List Op2 := (k, 0) :: ll.flatten
theorem join_succ (k : Int) (ll : List (List Op2)) (i : Nat) (h : i < ll.length) : joinL k (ll.take (i + 1)) = joinL k (ll.take i) ++ ll[i] := by
  unfold joinL
  rw [List.take_succ_eq_append_getElem h, List.flatten_append]
  simp
theorem take_flat_le (ll : List (List Op2)) (i : Nat) : (ll.take i).flatten.length ≤ ll.flatten.length := by
  have := List.take_append_drop i ll
  have h2 := congrArg (fun l => (List.flatten l).length) this
  simp only [List.flatten_append, List.length_append] at h2
  omega
set_option maxRecDepth 100000 in
set_option maxHeartbeats 1000000 in
theorem joined_any (k : Int) (v : Value) (ll : List (List Op2)) (w : World) (h : OpsL w v ll) (hl : ll.flatten.length ≤ 10000) (hn : ll.length ≤ 1000) :
    Calls Tryz.prog 25 #[.int .i64 k, v] w fun e w' => ∃ v', e = .returned v' ∧ w'.ownsRow w.heap.size 79 2 v' (joinL k ll).length ((joinL k ll).flatMap opc) ∧ Ext w w' := by
  obtain ⟨vs, hvl, ⟨a, cap, rfl, hr⟩, hops⟩ := h
  obtain ⟨b, off, hnil, ha, hc⟩ := hr.lie
  have HA := Lib.hid ha
  have HC := Lib.hid hc
  have HV := Lib.hid hvl
  have HO := Lib.hid hops
  clear ha hc hvl hops hnil hr
  have hown0 : (w.alloc (.cells #[.int .i64 k, .int .i64 0] 79)).ownsRow w.heap.size 79 2 (.slice (some ⟨w.heap.size, 0, none⟩) 1 1) (joinL k []).length ((joinL k []).flatMap opc) := by
    have := World.ownsRow_lit (e := 79) (size := 2) (base := w.heap.size) w #[.int .i64 k, .int .i64 0] 1 (Nat.le_refl _) (by unfold maxLen; omega) rfl
    simpa [joinL, opc] using this
  have hE0 : Ext w (w.alloc (.cells #[.int .i64 k, .int .i64 0] 79)) := (Ext.refl w).alloc (Nat.le_refl _) _
  go_enter Tryz.func25, Tryz.ntmps25
  go_wp2
  go_loopw [5, 6] (fun o i wr => ∃ ii : Nat, ii ≤ ll.length ∧ i = .int .i64 ii ∧ wr.ownsRow w.heap.size 79 2 o (joinL k (ll.take ii)).length ((joinL k (ll.take ii)).flatMap opc) ∧ Ext w wr) (fun _ i _ => ll.length - (intOf i).toNat)
  case atStart => exact ⟨0, by omega, rfl, by simpa using hown0, hE0⟩
  case round =>
    obtain ⟨ii, hii, rfl, hown, hext⟩ := hrel
    clear hown0 hE0
    by_cases hlt : ii < ll.length
    · have hvi : ii < vs.length := by have := HV.out; omega
      have hcell : wr.cell? ⟨b, off + ii, none⟩ = some vs[ii] := cell_later hext (HC.out ii _ (by simp [hvi]))
      obtain rfl := HA.out (by omega)
      have hO := (HO.out ii vs[ii] ll[ii] (by simp [hvi]) (by simp [hlt])).ext hext
      obtain ⟨ax, cx, hvx, hrx⟩ := hO
      rw [hvx] at hcell
      have HS := Lib.hid (join_succ k ll ii hlt)
      have hl1 := take_flat_le ll ii
      have hl2 := take_flat_le ll (ii + 1)
      have hl3 : (joinL k (ll.take (ii + 1))).length ≤ 10001 := by simp only [joinL, List.length_cons]; omega
      have hl4 : (joinL k (ll.take (ii + 1))).length = (joinL k (ll.take ii)).length + ll[ii].length := by rw [HS.out, List.length_append]
      have hl5 : (joinL k (ll.take ii)).length + ll[ii].length ≤ 10001 := by omega
      have hone := opc_one ll[ii]
      have hws := hext.size
      generalize hj : joinL k (ll.take ii) = j at *
      have HJ := Lib.hid hj
      generalize ll[ii] = li at *
      clear hvx HC HA HV HO hl1 hl2 hl3 hl4 hj
      go_wp2_with (at_builtin; go_must (refine wpl_append rfl rfl Tryz.slOps w.heap.size rfl hown rfl hrx hone (by unfold maxLen; omega) (by omega) hws ?_))
      intro o' w1 hown1 hg1 _ _
      have hE1 : Ext w w1 := hext.grown hg1 hws (fun g hg => (hown.lt g hg).1)
      clear hg1 hown
      go_wp2
      go_roundw
      case rel => exact ⟨ii + 1, by omega, by go_num, by rw [HS.out, List.length_append, List.flatMap_append]; exact hown1, hE1⟩
      case measure => simp [intOf]; omega
    · obtain rfl : ii = ll.length := by omega
      rw [List.take_length] at hown
      go_wp2
      go_ret
      exact ⟨_, rfl, hown, hext⟩
end Go.Proofs.YtfcaomejbcjfgaaGreatDoor

namespace Go.Proofs.YtfcaomejbcjfgaaGreatDoor
open Go.RowKit
theorem ops_own {w : World} {base : Nat} {v : Value} {l : List Op2} (h : w.ownsRow base 79 2 v l.length (l.flatMap opc)) : Ops w v l := by
  obtain ⟨a, c, rfl, hr⟩ := h.row
  exact ⟨a, c, rfl, hr⟩
theorem ops_ext {w w' : World} {v : Value} {l : List Op2} (h : Ops w v l) (hb : Ext w w') : Ops w' v l := by
  obtain ⟨a, c, rfl, hr⟩ := h
  exact ⟨a, c, rfl, hr.ext hb⟩
theorem opsL_new (w : World) (T : TypeId) (vs : List Value) (ll : List (List Op2)) (hl : vs.length = ll.length) (hm : vs.length ≤ maxLen) (h : ∀ (i : Nat) (x : Value) (l : List Op2), vs[i]? = some x → ll[i]? = some l → Ops w x l) :
    OpsL (w.alloc (.cells vs.toArray T)) (.slice (some ⟨w.heap.size, 0, none⟩) vs.length vs.length) ll := by
  refine ⟨vs, hl, ⟨_, _, by rw [hl], ?_⟩, fun i x l hx hl' => ops_ext (h i x l hx hl') ((Ext.refl w).alloc (Nat.le_refl _) _)⟩
  rw [← hl]
  exact Row.new w T vs hm
theorem join2 (k : Int) (va vb : Value) (la lb : List Op2) (w : World) (T : TypeId) (ha : Ops w va la) (hb : Ops w vb lb) (hl : la.length + lb.length ≤ 10000) :
    Calls Tryz.prog 25 #[.int .i64 k, .slice (some ⟨w.heap.size, 0, none⟩) 2 2] (w.alloc (.cells #[va, vb] T)) fun e w' => ∃ v', e = .returned v' ∧ Ops w' v' ((k, 0) :: (la ++ lb)) ∧ Ext w w' := by
  have hE : Ext w (w.alloc (.cells #[va, vb] T)) := (Ext.refl w).alloc (Nat.le_refl _) _
  have h := opsL_new w T [va, vb] [la, lb] rfl (by simp [maxLen]) (by
    intro i x l hx hl'
    match i with
    | 0 => simp at hx hl'; subst hx; subst hl'; exact ha
    | 1 => simp at hx hl'; subst hx; subst hl'; exact hb
    | i + 2 => simp at hx)
  refine (joined_any k _ [la, lb] _ h (by simp; omega) (by simp)).mono ?_
  rintro e w' ⟨v', rfl, hown, hx⟩
  have e : joinL k [la, lb] = (k, 0) :: (la ++ lb) := by simp [joinL]
  rw [e] at hown
  exact ⟨v', rfl, ops_own hown, hE.trans hx⟩
def IsT (w : World) (v : Value) (t : Tm) : Prop := Ops w v t.flat
theorem IsT.ext {w w' : World} {v : Value} {t : Tm} (h : IsT w v t) (hb : Ext w w') : IsT w' v t := ops_ext h hb
theorem isT_own {w : World} {base : Nat} {v : Value} {t : Tm} (h : w.ownsRow base 79 2 v t.flat.length (t.flat.flatMap opc)) : IsT w v t := ops_own h
theorem IsT.val {w : World} {v : Value} {t : Tm} (h : IsT w v t) : ∃ a n c, v = .slice a n c := by
  obtain ⟨a, c, rfl, _⟩ := h
  exact ⟨_, _, _, rfl⟩
theorem joinT2 (k : Int) (va vb : Value) (a b : Tm) (w : World) (T : TypeId) (ha : IsT w va a) (hb : IsT w vb b) (hl : a.size + b.size ≤ 10000) :
    Calls Tryz.prog 25 #[.int .i64 k, .slice (some ⟨w.heap.size, 0, none⟩) 2 2] (w.alloc (.cells #[va, vb] T)) fun e w' => ∃ v', e = .returned v' ∧ IsT w' v' (.n2 k 0 a b) ∧ Ext w w' :=
  join2 k va vb a.flat b.flat w T ha hb (by simpa [Tm.flat_len] using hl)
end Go.Proofs.YtfcaomejbcjfgaaGreatDoor

namespace Go.Proofs.YtfcaomejbcjfgaaGreatDoor
open Go.RowKit
def mkK (k : Int) : Bool := decide (k = 6 ∨ k = 7 ∨ 8 ≤ k ∧ k ≤ 12)
def tkK (k : Int) : Bool := decide (8 ≤ k ∧ k ≤ 12)
def okK (k : Int) : Bool := decide (1 ≤ k ∧ k ≤ 12)
set_option maxRecDepth 100000 in
set_option maxHeartbeats 2000000 in
theorem truth_fn (k : Int) (w : World) :
    Calls Tryz.prog 79 #[.int .i64 k] w fun e w' => e = .returned (.tuple #[.bool (mkK k), .bool (tkK k), .bool (okK k)]) ∧ w = w' := by
  by_cases h : 1 ≤ k ∧ k ≤ 12
  · have hv : k = 1 ∨ k = 2 ∨ k = 3 ∨ k = 4 ∨ k = 5 ∨ k = 6 ∨ k = 7 ∨ k = 8 ∨ k = 9 ∨ k = 10 ∨ k = 11 ∨ k = 12 := by omega
    clear h
    rcases hv with rfl | rfl | rfl | rfl | rfl | rfl | rfl | rfl | rfl | rfl | rfl | rfl
    all_goals
      go_enter Tryz.func79, Tryz.ntmps79
      go_wp2
      go_ret3
      exact ⟨rfl, rfl⟩
  · have e1 : mkK k = false := by unfold mkK; simp; omega
    have e2 : tkK k = false := by unfold tkK; simp; omega
    have e3 : okK k = false := by unfold okK; simp; omega
    rw [e1, e2, e3]
    have f : ∀ n : Int, 1 ≤ n → n ≤ 12 → (k == n) = false := fun n h1 h2 => by rw [beq_eq_false_iff_ne]; omega
    have f1 := f 1 (by omega) (by omega)
    have f2 := f 2 (by omega) (by omega)
    have f3 := f 3 (by omega) (by omega)
    have f4 := f 4 (by omega) (by omega)
    have f5 := f 5 (by omega) (by omega)
    have f6 := f 6 (by omega) (by omega)
    have f7 := f 7 (by omega) (by omega)
    have f8 := f 8 (by omega) (by omega)
    have f9 := f 9 (by omega) (by omega)
    have f10 := f 10 (by omega) (by omega)
    have f11 := f 11 (by omega) (by omega)
    have f12 := f 12 (by omega) (by omega)
    clear f e1 e2 e3 h
    go_enter Tryz.func79, Tryz.ntmps79
    go_wp2
    go_ret3
    exact ⟨rfl, rfl⟩
def opE (o : Op2) (vars : Int) : Int :=
  if okK o.1 = false then 13
  else if o.2 < (if o.1 = 1 then -1000 else 0) ∨ (if o.1 = 1 then 1000 else if o.1 = 2 then vars - 1 else 0) < o.2 then 2 else 0
set_option maxRecDepth 100000 in
set_option maxHeartbeats 2000000 in
theorem op_fn (o : Op2) (vars : Int) (w : World) (h1 : 0 ≤ vars) (h2 : vars ≤ 6) :
    Calls Tryz.prog 78 #[.agg #[.int .i64 o.1, .int .i64 o.2], .int .i64 vars] w fun e w' => e = .returned (.int .i64 (opE o vars)) ∧ Ext w w' := by
  obtain ⟨k, x⟩ := o
  have hE : Ext w (w.alloc (Obj.cells #[.int .i64 k, .int .i64 x] 79)) := (Ext.refl w).alloc (Nat.le_refl _) _
  have HT := Lib.hid (truth_fn k (w.alloc (Obj.cells #[.int .i64 k, .int .i64 x] 79)))
  have hv : okK k = false ∨ okK k = true := by cases okK k <;> simp
  rcases hv with hk | hk
  · have HK : Hid (opE (k, x) vars = 13) := by show opE (k, x) vars = 13; simp [opE, hk]
    rw [HK.out]
    rw [hk] at HT
    clear hk HK
    generalize mkK k = b1 at *
    generalize tkK k = b2 at *
    go_enter Tryz.func78, Tryz.ntmps78
    go_wp2_with fail
    refine HT.out.mono ?_
    rintro e w' ⟨rfl, rfl⟩
    go_wp2
    go_ret
    exact ⟨rfl, hE⟩
  · have hb : 1 ≤ k ∧ k ≤ 12 := by simpa [okK] using hk
    obtain ⟨hb1, hb2⟩ := hb
    have HK : Hid (opE (k, x) vars = if x < (if k = 1 then -1000 else 0) ∨ (if k = 1 then 1000 else if k = 2 then vars - 1 else 0) < x then 2 else 0) := by
      show opE (k, x) vars = _
      simp [opE, hk]
    rw [hk] at HT
    rw [HK.out]
    clear hk HK
    generalize mkK k = b1 at *
    generalize tkK k = b2 at *
    by_cases k1 : k = 1
    · subst k1
      simp only [if_true]
      generalize hr : (if x < -1000 ∨ 1000 < x then (2 : Int) else 0) = r at *
      have Hr := Lib.hid hr
      clear hr
      go_enter Tryz.func78, Tryz.ntmps78
      go_wp2_with fail
      refine HT.out.mono ?_
      rintro e w' ⟨rfl, rfl⟩
      go_wp2
      all_goals
        go_ret
        exact ⟨congrArg (fun n => Ending.returned (.int .i64 n)) (by rw [← Hr.out]; first | rw [if_pos (by omega)] | rw [if_neg (by omega)]), hE⟩
    · by_cases k2 : k = 2
      · subst k2
        simp only [if_neg k1, if_true]
        generalize hr : (if x < 0 ∨ vars - 1 < x then (2 : Int) else 0) = r at *
        have Hr := Lib.hid hr
        clear hr k1
        go_enter Tryz.func78, Tryz.ntmps78
        go_wp2_with fail
        refine HT.out.mono ?_
        rintro e w' ⟨rfl, rfl⟩
        go_wp2
        all_goals
          go_ret
          exact ⟨congrArg (fun n => Ending.returned (.int .i64 n)) (by rw [← Hr.out]; first | rw [if_pos (by omega)] | rw [if_neg (by omega)]), hE⟩
      · simp only [if_neg k1, if_neg k2]
        generalize hr : (if x < 0 ∨ 0 < x then (2 : Int) else 0) = r at *
        have Hr := Lib.hid hr
        clear hr
        have f1 : (k == 1) = false := by rw [beq_eq_false_iff_ne]; exact k1
        have f2 : (k == 2) = false := by rw [beq_eq_false_iff_ne]; exact k2
        clear k1 k2
        go_enter Tryz.func78, Tryz.ntmps78
        go_wp2_with fail
        refine HT.out.mono ?_
        rintro e w' ⟨rfl, rfl⟩
        go_wp2
        all_goals
          go_ret
          exact ⟨congrArg (fun n => Ending.returned (.int .i64 n)) (by rw [← Hr.out]; first | rw [if_pos (by omega)] | rw [if_neg (by omega)]), hE⟩
end Go.Proofs.YtfcaomejbcjfgaaGreatDoor

namespace Go.Proofs.YtfcaomejbcjfgaaGreatDoor
def aheadB (k : Int) : Bool := decide (14 ≤ k ∧ k ≤ 18)
def cntA : List Op2 → Nat
  | [] => 0
  | o :: l => (if aheadB o.1 then 1 else 0) + cntA l
theorem cntA_app (a b : List Op2) : cntA (a ++ b) = cntA a + cntA b := by
  induction a with
  | nil => simp [cntA]
  | cons o a ih => simp only [List.cons_append, cntA, ih]; omega
def fLeaf (r : Op2) (props : Int) : Tm := if 0 < props then .n0 13 (pk r.2 props) else .n0 (11 + pk r.2 2) 0
def fKind0 (r : Op2) (d p : Nat) : Int := if d = 0 ∨ 12 < p + 1 then pk r.1 4 else pk r.1 16
def fKind (r : Op2) (d p t : Nat) : Int := if 8 < fKind0 r d p ∧ t = 0 then 4 + fKind0 r d p % 5 else fKind0 r d p
def aheadK (k : Int) : Int := if k = 9 then 14 else if k = 11 then 18 else 17
def fT (raw : List Op2) (props : Int) : Nat → Nat → Nat → Tm × Nat × Nat
  | 0, p, t => (fLeaf (rawAt raw p) props, p + 1, t)
  | d + 1, p, t =>
    if fKind (rawAt raw p) (d + 1) p t < 4 then (fLeaf (rawAt raw p) props, p + 1, t)
    else if fKind (rawAt raw p) (d + 1) p t < 6 then (.n1 10 0 (fT raw props d (p + 1) t).1, (fT raw props d (p + 1) t).2)
    else if fKind (rawAt raw p) (d + 1) p t < 9 then
      (.n2 (8 + fKind (rawAt raw p) (d + 1) p t % 2) 0 (fT raw props d (p + 1) t).1 (fT raw props d (fT raw props d (p + 1) t).2.1 (fT raw props d (p + 1) t).2.2).1, (fT raw props d (fT raw props d (p + 1) t).2.1 (fT raw props d (p + 1) t).2.2).2)
    else if fKind (rawAt raw p) (d + 1) p t < 13 then (.n1 (aheadK (fKind (rawAt raw p) (d + 1) p t)) 0 (fT raw props d (p + 1) (t - 1)).1, (fT raw props d (p + 1) (t - 1)).2)
    else
      (.n2 (15 + fKind (rawAt raw p) (d + 1) p t % 2) 0 (fT raw props d (p + 1) (t - 1)).1 (fT raw props d (fT raw props d (p + 1) (t - 1)).2.1 (fT raw props d (p + 1) (t - 1)).2.2).1, (fT raw props d (fT raw props d (p + 1) (t - 1)).2.1 (fT raw props d (p + 1) (t - 1)).2.2).2)
theorem fKind0_bd (r : Op2) (d p : Nat) : 0 ≤ fKind0 r d p ∧ fKind0 r d p < 16 ∧ (d = 0 ∨ 12 ≤ p → fKind0 r d p < 4) := by
  unfold fKind0
  have h1 := pk_bd r.1 4 (by omega)
  have h2 := pk_bd r.1 16 (by omega)
  split <;> omega
theorem fKind_bd (r : Op2) (d p t : Nat) : 0 ≤ fKind r d p t ∧ fKind r d p t < 16 ∧ (d = 0 ∨ 12 ≤ p → fKind r d p t < 4) ∧ (t = 0 → fKind r d p t < 9) := by
  have h := fKind0_bd r d p
  unfold fKind
  split <;> omega
theorem fLeaf_size (r : Op2) (props : Int) : (fLeaf r props).size = 1 := by unfold fLeaf; split <;> rfl
theorem fT_size (raw : List Op2) (props : Int) : ∀ d p t, (fT raw props d p t).2.1 = p + (fT raw props d p t).1.size := by
  intro d
  induction d with
  | zero => intro p t; simp [fT, fLeaf_size]
  | succ d ih =>
    intro p t
    unfold fT
    have h1 := ih (p + 1) t
    have h2 := ih (fT raw props d (p + 1) t).2.1 (fT raw props d (p + 1) t).2.2
    have h3 := ih (p + 1) (t - 1)
    have h4 := ih (fT raw props d (p + 1) (t - 1)).2.1 (fT raw props d (p + 1) (t - 1)).2.2
    split
    · simp [fLeaf_size]
    · split
      · simp only [Tm.size]; omega
      · split
        · simp only [Tm.size]; omega
        · split <;> simp only [Tm.size] <;> omega
theorem fT_end (raw : List Op2) (props : Int) : ∀ d p t, (12 ≤ p → (fT raw props d p t).2.1 = p + 1) ∧ (p < 12 → (fT raw props d p t).2.1 ≤ 13 + d) := by
  intro d
  induction d with
  | zero => intro p t; exact ⟨fun _ => rfl, fun h => by show p + 1 ≤ 13 + 0; omega⟩
  | succ d ih =>
    intro p t
    have hk := fKind_bd (rawAt raw p) (d + 1) p t
    have h1 := ih (p + 1) t
    have h2 := ih (fT raw props d (p + 1) t).2.1 (fT raw props d (p + 1) t).2.2
    have h3 := ih (p + 1) (t - 1)
    have h4 := ih (fT raw props d (p + 1) (t - 1)).2.1 (fT raw props d (p + 1) (t - 1)).2.2
    by_cases hp : 12 ≤ p
    · unfold fT
      rw [if_pos (by omega)]
      exact ⟨fun _ => rfl, fun h => by omega⟩
    · refine ⟨fun h => by omega, fun _ => ?_⟩
      unfold fT
      split
      · show p + 1 ≤ _; omega
      · split
        · show (fT raw props d (p + 1) t).2.1 ≤ _; omega
        · split
          · show (fT raw props d (fT raw props d (p + 1) t).2.1 (fT raw props d (p + 1) t).2.2).2.1 ≤ _; omega
          · split
            · show (fT raw props d (p + 1) (t - 1)).2.1 ≤ _; omega
            · show (fT raw props d (fT raw props d (p + 1) (t - 1)).2.1 (fT raw props d (p + 1) (t - 1)).2.2).2.1 ≤ _; omega
theorem fT_small (raw : List Op2) (props : Int) (d t : Nat) : (fT raw props d 0 t).1.size ≤ 13 + d := by
  have h1 := (fT_end raw props d 0 t).2 (by omega)
  have h2 := fT_size raw props d 0 t
  omega
theorem fLeaf_ok (r : Op2) (props : Int) : (fLeaf r props).ok := by
  unfold fLeaf
  have := pk_bd r.2 2 (by omega)
  split
  · simp [Tm.ok, partsOf]
  · refine ⟨by omega, by omega, ?_⟩
    unfold partsOf
    rw [if_neg (by omega), if_neg (by omega)]
theorem fT_ok (raw : List Op2) (props : Int) : ∀ d p t, (fT raw props d p t).1.ok := by
  intro d
  induction d with
  | zero => intro p t; exact fLeaf_ok _ _
  | succ d ih =>
    intro p t
    have hk := fKind_bd (rawAt raw p) (d + 1) p t
    unfold fT
    split
    · exact fLeaf_ok _ _
    · split
      · exact ⟨by omega, by omega, by unfold partsOf; simp, ih _ _⟩
      · split
        · refine ⟨by omega, by omega, ?_, ih _ _, ih _ _⟩
          unfold partsOf
          rw [if_pos (by omega)]
        · split
          · have ha : aheadK (fKind (rawAt raw p) (d + 1) p t) = 14 ∨ aheadK (fKind (rawAt raw p) (d + 1) p t) = 17 ∨ aheadK (fKind (rawAt raw p) (d + 1) p t) = 18 := by
              unfold aheadK; split
              · omega
              · split <;> omega
            refine ⟨by omega, by omega, ?_, ih _ _⟩
            unfold partsOf
            rw [if_neg (by omega), if_pos (by omega)]
          · refine ⟨by omega, by omega, ?_, ih _ _, ih _ _⟩
            unfold partsOf
            rw [if_pos (by omega)]
def FitOp (props : Int) (o : Op2) : Prop := 8 ≤ o.1 ∧ o.1 ≤ 18 ∧ (o.1 = 13 → 0 ≤ o.2 ∧ o.2 < props) ∧ (o.1 ≠ 13 → o.2 = 0)
theorem fLeaf_fit (r : Op2) (props : Int) : ∀ o ∈ (fLeaf r props).flat, FitOp props o ∧ aheadB o.1 = false := by
  unfold fLeaf
  have := pk_bd r.2 2 (by omega)
  split
  · rename_i h
    have := pk_bd r.2 props h
    intro o ho
    simp only [Tm.flat, List.mem_singleton] at ho
    subst ho
    refine ⟨⟨by simp, by simp, fun _ => this, fun h => absurd rfl h⟩, by simp [aheadB]⟩
  · intro o ho
    simp only [Tm.flat, List.mem_singleton] at ho
    subst ho
    refine ⟨⟨by simp only; omega, by simp only; omega, fun h => by simp only at h; omega, fun _ => rfl⟩, ?_⟩
    unfold aheadB
    simp only [decide_eq_false_iff_not]
    omega
theorem fT_fit (raw : List Op2) (props : Int) : ∀ d p t, ∀ o ∈ (fT raw props d p t).1.flat, FitOp props o := by
  intro d
  induction d with
  | zero => intro p t o ho; exact (fLeaf_fit _ _ o ho).1
  | succ d ih =>
    intro p t o ho
    have hk := fKind_bd (rawAt raw p) (d + 1) p t
    unfold fT at ho
    have hop : ∀ k : Int, 8 ≤ k → k ≤ 18 → k ≠ 13 → FitOp props (k, 0) := fun k h1 h2 h3 => ⟨h1, h2, fun h => absurd h h3, fun _ => rfl⟩
    split at ho
    · exact (fLeaf_fit _ _ o ho).1
    · split at ho
      · rcases List.mem_cons.1 ho with rfl | ho
        · exact hop 10 (by omega) (by omega) (by omega)
        · exact ih _ _ o ho
      · split at ho
        · rcases List.mem_cons.1 ho with rfl | ho
          · exact hop _ (by omega) (by omega) (by omega)
          · rcases List.mem_append.1 ho with ho | ho
            · exact ih _ _ o ho
            · exact ih _ _ o ho
        · split at ho
          · have ha : aheadK (fKind (rawAt raw p) (d + 1) p t) = 14 ∨ aheadK (fKind (rawAt raw p) (d + 1) p t) = 17 ∨ aheadK (fKind (rawAt raw p) (d + 1) p t) = 18 := by
              unfold aheadK; split
              · omega
              · split <;> omega
            rcases List.mem_cons.1 ho with rfl | ho
            · exact hop _ (by omega) (by omega) (by omega)
            · exact ih _ _ o ho
          · rcases List.mem_cons.1 ho with rfl | ho
            · exact hop _ (by omega) (by omega) (by omega)
            · rcases List.mem_append.1 ho with ho | ho
              · exact ih _ _ o ho
              · exact ih _ _ o ho
theorem cntA_zero : ∀ l : List Op2, (∀ o ∈ l, aheadB o.1 = false) → cntA l = 0
  | [], _ => rfl
  | o :: l, h => by
    have h1 := h o (by simp)
    have h2 := cntA_zero l fun x hx => h x (List.mem_cons_of_mem _ hx)
    simp [cntA, h1, h2]
theorem fT_cnt (raw : List Op2) (props : Int) : ∀ d p t, cntA (fT raw props d p t).1.flat + (fT raw props d p t).2.2 = t := by
  intro d
  induction d with
  | zero =>
    intro p t
    have := cntA_zero _ fun o ho => (fLeaf_fit (rawAt raw p) props o ho).2
    simp [fT, this]
  | succ d ih =>
    intro p t
    have hk := fKind_bd (rawAt raw p) (d + 1) p t
    have h1 := ih (p + 1) t
    have h2 := ih (fT raw props d (p + 1) t).2.1 (fT raw props d (p + 1) t).2.2
    have h3 := ih (p + 1) (t - 1)
    have h4 := ih (fT raw props d (p + 1) (t - 1)).2.1 (fT raw props d (p + 1) (t - 1)).2.2
    unfold fT
    split
    · have := cntA_zero _ fun o ho => (fLeaf_fit (rawAt raw p) props o ho).2
      simp [this]
    · split
      · simp only [Tm.flat, cntA, aheadB]
        simp
        exact h1
      · split
        · have hb : aheadB (8 + fKind (rawAt raw p) (d + 1) p t % 2) = false := by unfold aheadB; simp only [decide_eq_false_iff_not]; omega
          simp only [Tm.flat, cntA, cntA_app, hb]
          simp
          omega
        · have ht : t ≠ 0 := fun e => by have := hk.2.2.2 e; omega
          split
          · have hb : aheadB (aheadK (fKind (rawAt raw p) (d + 1) p t)) = true := by
              unfold aheadB aheadK; split
              · simp
              · split <;> simp
            simp only [Tm.flat, cntA, hb]
            simp
            omega
          · have hb : aheadB (15 + fKind (rawAt raw p) (d + 1) p t % 2) = true := by unfold aheadB; simp only [decide_eq_true_eq]; omega
            simp only [Tm.flat, cntA, cntA_app, hb]
            simp
            omega
end Go.Proofs.YtfcaomejbcjfgaaGreatDoor

namespace Go.Proofs.YtfcaomejbcjfgaaGreatDoor
end Go.Proofs.YtfcaomejbcjfgaaGreatDoor

namespace Go.Proofs.YtfcaomejbcjfgaaGreatDoor
open Go.RowKit
def RawF (raw : List Op2) : Prop := ∀ p, I64 (rawAt raw p).1 ∧ I64 (rawAt raw p).2
def FMade (w : World) (G B : Nat) (ar : Option Addr) (cr : Nat) (raw : List Op2) (vars props : Int) (out : List Op2) (r : Tm × Nat × Nat) (e : Ending) (w' : World) : Prop :=
  e = .returned (.tuple #[]) ∧ Gr w' G B ar cr raw r.2.1 vars props (r.2.2 : Int) (out ++ r.1.flat) ∧ Below B w w'
theorem FMade.mk {w w' : World} {G B : Nat} {ar : Option Addr} {cr : Nat} {raw : List Op2} {vars props : Int} {out out' : List Op2} {r : Tm × Nat × Nat} {e : Ending} {p t : Nat}
    (he : e = .returned (.tuple #[])) (hg : Gr w' G B ar cr raw p vars props (t : Int) out') (hb : Below B w w') (hp : p = r.2.1) (ht : t = r.2.2) (ho : out' = out ++ r.1.flat) : FMade w G B ar cr raw vars props out r e w' := by
  subst hp; subst ho; subst ht; exact ⟨he, hg, hb⟩
section
variable (w : World) (G B : Nat) (ar : Option Addr) (cr : Nat) (raw : List Op2) (p : Nat) (vars props : Int) (t : Nat) (out : List Op2)
set_option maxRecDepth 100000 in
set_option maxHeartbeats 2000000 in
theorem formula_leaf (h : Gr w G B ar cr raw p vars props (t : Int) out) (hraw : RawF raw) (hp : p ≤ 700) (ho : out.length ≤ 700) (hv : 0 < props) (hv2 : props ≤ 1000) (deep : Int) (hm : deep = 0 ∨ 12 ≤ p) :
    Calls Tryz.prog 26 #[.pointer (some ⟨G, 0, none⟩), .int .i64 deep] w (FMade w G B ar cr raw vars props out (fLeaf (rawAt raw p) props, p + 1, t)) := by
  have TK := Lib.hid (take_any w G B ar cr raw p vars props t out h (by omega))
  have hBw : B ≤ w.heap.size := by have := World.block_lt_of_cell? _ _ h.c0; have := h.new; simp at *; omega
  have hr := hraw p
  generalize rawAt raw p = r at *
  obtain ⟨⟨r1, r2⟩, r3, r4⟩ := hr
  have hfl : (fLeaf r props).flat = [(13, pk r.2 props)] := by unfold fLeaf; rw [if_pos hv]; rfl
  have HFL := Lib.hid hfl
  have HPK := Lib.hid (picked_any r.1 16 · r1 r2 (by omega) (by omega))
  have HPL := Lib.hid (picked_any r.1 4 · r1 r2 (by omega) (by omega))
  have HS := Lib.hid (fun wx : World => still_of (picked_any r.2 props wx r3 r4 hv (by omega)))
  obtain ⟨k0, hk0⟩ : ∃ k, k = pk r.1 16 := ⟨_, rfl⟩
  obtain ⟨kk, hkk⟩ : ∃ k, k = pk r.1 4 := ⟨_, rfl⟩
  have hkb := pk_bd r.1 4 (by omega)
  rw [← hkk] at hkb HPL
  rw [← hk0] at HPK
  obtain ⟨hk1, hk2⟩ := hkb
  have hk8 : ¬ (8 : Int) < kk := by omega
  have hpI : (12 : Int) < (p : Int) + 1 ∨ deep = 0 := by omega
  clear hk0 hkk hfl
  obtain ⟨b0, hb0, hb1⟩ : ∃ b : Bool, (deep == 0) = b ∧ (b = true ∨ (12 : Int) < (p : Int) + 1) := by
    refine ⟨_, rfl, ?_⟩
    rcases hpI with h | h
    · exact .inr h
    · left; rw [h]; rfl
  clear hpI hm
  cases b0
  case' false => replace hb1 : (12 : Int) < (p : Int) + 1 := by simpa using hb1
  all_goals
    go_enter Tryz.func26, Tryz.ntmps26
    go_wp2_with fail
    refine TK.out.mono ?_
    rintro e w1 ⟨rfl, g1, b1⟩
    have hg1 := g1.ext ((Ext.refl w1).alloc (Nat.le_refl _) (Obj.cells #[.int .i64 r.1, .int .i64 r.2] 100))
    have hb2 : Below B w (w1.alloc (Obj.cells #[.int .i64 r.1, .int .i64 r.2] 100)) := b1.alloc (by have := b1.size; omega) _
    have q0 : (w1.alloc (Obj.cells #[.int .i64 r.1, .int .i64 r.2] 100)).cell? ⟨w1.heap.size, 0, none⟩ = some (.int .i64 r.1) := by simp [go_sem]
    have q1 : (w1.alloc (Obj.cells #[.int .i64 r.1, .int .i64 r.2] 100)).cell? ⟨w1.heap.size, 1, none⟩ = some (.int .i64 r.2) := by simp [go_sem]
    have c1 := hg1.c1
    have c3 := hg1.c3
    have HG1 := Lib.hid hg1
    have HB2 := Lib.hid hb2
    clear TK g1 b1 hg1 hb2
    go_wp2_with fail
    refine (HPK.out _).mono ?_
    rintro e w' ⟨rfl, rfl⟩
    go_wp2_with fail
    refine (HPL.out _).mono ?_
    rintro e w' ⟨rfl, rfl⟩
    go_wp2_with fail
    refine region_tail 8 (by kernel_rfl) (by kernel_rfl) ?_
    generalize (w1.alloc (Obj.cells #[.int .i64 r.1, .int .i64 r.2] 100)) = W at *
    have hg1' := HG1.out.ext (Below.drew (Ext.refl W))
    have hb1' := HB2.out.drew
    have q1' : W.drew.cell? ⟨w1.heap.size, 1, none⟩ = some (.int .i64 r.2) := q1
    have c3' : W.drew.cell? ⟨G, 3, none⟩ = some (.int .i64 props) := c3
    have HG1' := Lib.hid hg1'
    have HB1' := Lib.hid hb1'
    clear HG1 HB2 q0 q1 c1 c3 hg1' hb1'
    generalize W.drew = Wd at *
    simp only [List.take_succ_cons, List.take_zero, List.drop_succ_cons, List.drop_zero]
    iterate 7 still_step
    still_call (HS.out Wd)
    refine wpStill_nil ?_
    go_wp2_with fail
    refine (put_op _ G B ar cr raw (p + 1) vars props t out _ _ HG1'.out (by omega)).mono ?_
    rintro e w2 ⟨rfl, hg2, hb2⟩
    have HG2 := Lib.hid hg2
    have HB3 := Lib.hid (HB1'.out.trans hb2)
    clear hg2 hb2
    go_wp2
    go_end0
    exact FMade.mk rfl HG2.out HB3.out rfl rfl (by rw [HFL.out])
end
end Go.Proofs.YtfcaomejbcjfgaaGreatDoor

namespace Go.Proofs.YtfcaomejbcjfgaaGreatDoor
open Go.RowKit
section
variable (w : World) (G B : Nat) (ar : Option Addr) (cr : Nat) (raw : List Op2) (p : Nat) (vars props : Int) (t : Nat) (out : List Op2)
set_option maxRecDepth 100000 in
set_option maxHeartbeats 2000000 in
theorem formula_not (h : Gr w G B ar cr raw p vars props (t : Int) out) (hraw : RawF raw) (d : Nat) (hd : d ≤ 5) (hp12 : p < 12) (ho : out.length + 100 * (d + 1) ≤ 700) (htb : t ≤ 1000) (kk : Int) (hsel : pk (rawAt raw p).1 16 = kk) (hk4 : 4 ≤ kk) (hk6 : kk < 6)
    (ih : ∀ (w : World) (p : Nat) (t : Nat) (out : List Op2), Gr w G B ar cr raw p vars props (t : Int) out → p ≤ 14 + d + 30 → out.length + 100 * d ≤ 700 → t ≤ 1000 → Calls Tryz.prog 26 #[.pointer (some ⟨G, 0, none⟩), .int .i64 d] w (FMade w G B ar cr raw vars props out (fT raw props d p t)))
    : Calls Tryz.prog 26 #[.pointer (some ⟨G, 0, none⟩), .int .i64 ((d + 1 : Nat) : Int)] w (FMade w G B ar cr raw vars props out (.n1 10 0 (fT raw props d (p + 1) t).1, (fT raw props d (p + 1) t).2)) := by
  have TK := Lib.hid (take_any w G B ar cr raw p vars props t out h (by omega))
  have hBw : B ≤ w.heap.size := by have := World.block_lt_of_cell? _ _ h.c0; have := h.new; simp at *; omega
  have hr := hraw p
  have hz1 := fT_end raw props d (p + 1) (t)
  have hz2 := fT_size raw props d (p + 1) (t)
  have hz5 := Tm.flat_len (fT raw props d (p + 1) (t)).1
  have ih1 := fun w' out' g h1 h2 => ih w' (p + 1) (t) out' g h1 h2 (by omega)
  have hz6 := fT_cnt raw props d (p + 1) (t)
  generalize fT raw props d (p + 1) (t) = t1 at *
  obtain ⟨tm1, p1, n1⟩ := t1
  simp only at hz1 hz2 hz5 ih1
  have HZ1 := Lib.hid (show p1 ≤ 14 + d + 30 by omega)
  have HZ5 := Lib.hid (show tm1.flat.length ≤ 20 by omega)
  have IH1 := Lib.hid ih1
  clear ih1 hz1 hz2 hz5 hz6 ih
  generalize rawAt raw p = r at *
  obtain ⟨⟨r1, r2⟩, r3, r4⟩ := hr
  have HPK := Lib.hid (picked_any r.1 16 · r1 r2 (by omega) (by omega))
  have hkb := pk_bd r.1 16 (by omega)
  have e0 : ((d : Int) + 1 == 0) = false := by rw [beq_eq_false_iff_ne]; omega
  have e1 : (0 : Int) ≤ d := by omega
  have hpI : ¬ (12 : Int) < (p : Int) + 1 := by omega
  rw [hsel] at HPK hkb
  obtain ⟨hkb1, hkb2⟩ := hkb
  clear hsel
  have hl4 : ¬ kk < 4 := by omega
  have hl8 : ¬ (8 : Int) < kk := by omega
  go_enter Tryz.func26, Tryz.ntmps26
  go_wp2_with fail
  refine TK.out.mono ?_
  rintro e w1 ⟨rfl, g1, b1⟩
  have hg1 := g1.ext ((Ext.refl w1).alloc (Nat.le_refl _) (Obj.cells #[.int .i64 r.1, .int .i64 r.2] 100))
  have hb2 : Below B w (w1.alloc (Obj.cells #[.int .i64 r.1, .int .i64 r.2] 100)) := b1.alloc (by have := b1.size; omega) _
  have q0 : (w1.alloc (Obj.cells #[.int .i64 r.1, .int .i64 r.2] 100)).cell? ⟨w1.heap.size, 0, none⟩ = some (.int .i64 r.1) := by simp [go_sem]
  have q1 : (w1.alloc (Obj.cells #[.int .i64 r.1, .int .i64 r.2] 100)).cell? ⟨w1.heap.size, 1, none⟩ = some (.int .i64 r.2) := by simp [go_sem]
  have c1 := hg1.c1
  have c3 := hg1.c3
  have c4 := hg1.c4
  have f4 := hg1.fz 4
  have HG1 := Lib.hid hg1
  have HB2 := Lib.hid hb2
  clear TK g1 b1 hg1 hb2
  go_wp2_with fail
  refine (HPK.out _).mono ?_
  rintro e w' ⟨rfl, rfl⟩
  go_wp2_with fail
  refine (put_op _ G B ar cr raw (p + 1) vars props t out _ _ HG1.out (by omega)).mono ?_
  rintro e w2 ⟨rfl, hg2, hb3⟩
  have HG2 := Lib.hid hg2
  have HB3 := Lib.hid (HB2.out.trans hb3)
  clear hg2 hb3
  go_wp2_with fail
  refine (IH1.out w2 _ HG2.out (by omega) (by simp; omega)).mono ?_
  rintro e w3 ⟨rfl, hg3, hb4⟩
  have HG3 := Lib.hid hg3
  have HB4 := Lib.hid (HB3.out.trans hb4)
  clear hg3 hb4 HG2 HB3
  go_wp2
  go_end0
  exact FMade.mk rfl HG3.out HB4.out rfl rfl (by simp [Tm.flat])
set_option maxRecDepth 100000 in
set_option maxHeartbeats 2000000 in
theorem formula_bin (h : Gr w G B ar cr raw p vars props (t : Int) out) (hraw : RawF raw) (d : Nat) (hd : d ≤ 5) (hp12 : p < 12) (ho : out.length + 100 * (d + 1) ≤ 700) (htb : t ≤ 1000) (kk : Int) (hsel : pk (rawAt raw p).1 16 = kk) (hk6 : 6 ≤ kk) (hk9 : kk < 9)
    (ih : ∀ (w : World) (p : Nat) (t : Nat) (out : List Op2), Gr w G B ar cr raw p vars props (t : Int) out → p ≤ 14 + d + 30 → out.length + 100 * d ≤ 700 → t ≤ 1000 → Calls Tryz.prog 26 #[.pointer (some ⟨G, 0, none⟩), .int .i64 d] w (FMade w G B ar cr raw vars props out (fT raw props d p t)))
    : Calls Tryz.prog 26 #[.pointer (some ⟨G, 0, none⟩), .int .i64 ((d + 1 : Nat) : Int)] w (FMade w G B ar cr raw vars props out (.n2 (8 + kk % 2) 0 (fT raw props d (p + 1) t).1 (fT raw props d (fT raw props d (p + 1) t).2.1 (fT raw props d (p + 1) t).2.2).1, (fT raw props d (fT raw props d (p + 1) t).2.1 (fT raw props d (p + 1) t).2.2).2)) := by
  have TK := Lib.hid (take_any w G B ar cr raw p vars props t out h (by omega))
  have hBw : B ≤ w.heap.size := by have := World.block_lt_of_cell? _ _ h.c0; have := h.new; simp at *; omega
  have hr := hraw p
  have hz1 := fT_end raw props d (p + 1) (t)
  have hz2 := fT_size raw props d (p + 1) (t)
  have hz5 := Tm.flat_len (fT raw props d (p + 1) (t)).1
  have ih1 := fun w' out' g h1 h2 => ih w' (p + 1) (t) out' g h1 h2 (by omega)
  have hz6 := fT_cnt raw props d (p + 1) (t)
  have ih2 := fun w' out' g h1 h2 => ih w' (fT raw props d (p + 1) (t)).2.1 (fT raw props d (p + 1) (t)).2.2 out' g h1 h2 (by omega)
  generalize fT raw props d (p + 1) (t) = t1 at *
  generalize fT raw props d t1.2.1 t1.2.2 = t2 at *
  obtain ⟨tm1, p1, n1⟩ := t1
  obtain ⟨tm2, p2, n2⟩ := t2
  simp only at hz1 hz2 hz5 ih1 ih2
  have IH2 := Lib.hid ih2
  clear ih2
  have HZ1 := Lib.hid (show p1 ≤ 14 + d + 30 by omega)
  have HZ5 := Lib.hid (show tm1.flat.length ≤ 20 by omega)
  have IH1 := Lib.hid ih1
  clear ih1 hz1 hz2 hz5 hz6 ih
  generalize rawAt raw p = r at *
  obtain ⟨⟨r1, r2⟩, r3, r4⟩ := hr
  have HPK := Lib.hid (picked_any r.1 16 · r1 r2 (by omega) (by omega))
  have hkb := pk_bd r.1 16 (by omega)
  have e0 : ((d : Int) + 1 == 0) = false := by rw [beq_eq_false_iff_ne]; omega
  have e1 : (0 : Int) ≤ d := by omega
  have hpI : ¬ (12 : Int) < (p : Int) + 1 := by omega
  rw [hsel] at HPK hkb
  obtain ⟨hkb1, hkb2⟩ := hkb
  clear hsel
  have hl4 : ¬ kk < 4 := by omega
  have hl6 : ¬ kk < 6 := by omega
  have hl8 : ¬ (8 : Int) < kk := by omega
  have hm2 : kk.tmod 2 = kk % 2 := Int.tmod_eq_emod_of_nonneg (by omega)
  have hw2 : IntKind.i64.wrap ((8 : Int) + kk % 2) = 8 + kk % 2 := IntWalk.i64_in _ (by omega)
  go_enter Tryz.func26, Tryz.ntmps26
  go_wp2_with fail
  refine TK.out.mono ?_
  rintro e w1 ⟨rfl, g1, b1⟩
  have hg1 := g1.ext ((Ext.refl w1).alloc (Nat.le_refl _) (Obj.cells #[.int .i64 r.1, .int .i64 r.2] 100))
  have hb2 : Below B w (w1.alloc (Obj.cells #[.int .i64 r.1, .int .i64 r.2] 100)) := b1.alloc (by have := b1.size; omega) _
  have q0 : (w1.alloc (Obj.cells #[.int .i64 r.1, .int .i64 r.2] 100)).cell? ⟨w1.heap.size, 0, none⟩ = some (.int .i64 r.1) := by simp [go_sem]
  have q1 : (w1.alloc (Obj.cells #[.int .i64 r.1, .int .i64 r.2] 100)).cell? ⟨w1.heap.size, 1, none⟩ = some (.int .i64 r.2) := by simp [go_sem]
  have c1 := hg1.c1
  have c3 := hg1.c3
  have c4 := hg1.c4
  have f4 := hg1.fz 4
  have HG1 := Lib.hid hg1
  have HB2 := Lib.hid hb2
  clear TK g1 b1 hg1 hb2
  go_wp2_with fail
  refine (HPK.out _).mono ?_
  rintro e w' ⟨rfl, rfl⟩
  go_wp2_with fail
  refine (put_op _ G B ar cr raw (p + 1) vars props t out _ _ HG1.out (by omega)).mono ?_
  rintro e w2 ⟨rfl, hg2, hb3⟩
  have HG2 := Lib.hid hg2
  have HB3 := Lib.hid (HB2.out.trans hb3)
  clear hg2 hb3
  go_wp2_with fail
  refine (IH1.out w2 _ HG2.out (by omega) (by simp; omega)).mono ?_
  rintro e w3 ⟨rfl, hg3, hb4⟩
  have HG3 := Lib.hid hg3
  have HB4 := Lib.hid (HB3.out.trans hb4)
  clear hg3 hb4 HG2 HB3
  go_wp2_with fail
  refine (IH2.out w3 _ HG3.out HZ1.out (by have := HZ5.out; simp at this ⊢; omega)).mono ?_
  rintro e w4 ⟨rfl, hg4, hb5⟩
  have HG4 := Lib.hid hg4
  have HB5 := Lib.hid (HB4.out.trans hb5)
  clear hg4 hb5 HG3 HB4
  go_wp2
  go_end0
  exact FMade.mk rfl HG4.out HB5.out rfl rfl (by simp [Tm.flat])
set_option maxRecDepth 100000 in
set_option maxHeartbeats 2000000 in
theorem formula_nots (h : Gr w G B ar cr raw p vars props (t : Int) out) (hraw : RawF raw) (d : Nat) (hd : d ≤ 5) (hp12 : p < 12) (ho : out.length + 100 * (d + 1) ≤ 700) (htb : t ≤ 1000) (kk : Int) (k0 : Int) (hk0 : pk (rawAt raw p).1 16 = k0) (h8 : 8 < k0) (ht0 : t = 0) (hsel : 4 + k0 % 5 = kk) (hk4 : 4 ≤ kk) (hk6 : kk < 6)
    (ih : ∀ (w : World) (p : Nat) (t : Nat) (out : List Op2), Gr w G B ar cr raw p vars props (t : Int) out → p ≤ 14 + d + 30 → out.length + 100 * d ≤ 700 → t ≤ 1000 → Calls Tryz.prog 26 #[.pointer (some ⟨G, 0, none⟩), .int .i64 d] w (FMade w G B ar cr raw vars props out (fT raw props d p t)))
    : Calls Tryz.prog 26 #[.pointer (some ⟨G, 0, none⟩), .int .i64 ((d + 1 : Nat) : Int)] w (FMade w G B ar cr raw vars props out (.n1 10 0 (fT raw props d (p + 1) t).1, (fT raw props d (p + 1) t).2)) := by
  have TK := Lib.hid (take_any w G B ar cr raw p vars props t out h (by omega))
  have hBw : B ≤ w.heap.size := by have := World.block_lt_of_cell? _ _ h.c0; have := h.new; simp at *; omega
  have hr := hraw p
  have hz1 := fT_end raw props d (p + 1) (t)
  have hz2 := fT_size raw props d (p + 1) (t)
  have hz5 := Tm.flat_len (fT raw props d (p + 1) (t)).1
  have ih1 := fun w' out' g h1 h2 => ih w' (p + 1) (t) out' g h1 h2 (by omega)
  have hz6 := fT_cnt raw props d (p + 1) (t)
  generalize fT raw props d (p + 1) (t) = t1 at *
  obtain ⟨tm1, p1, n1⟩ := t1
  simp only at hz1 hz2 hz5 ih1
  have HZ1 := Lib.hid (show p1 ≤ 14 + d + 30 by omega)
  have HZ5 := Lib.hid (show tm1.flat.length ≤ 20 by omega)
  have IH1 := Lib.hid ih1
  clear ih1 hz1 hz2 hz5 hz6 ih
  generalize rawAt raw p = r at *
  obtain ⟨⟨r1, r2⟩, r3, r4⟩ := hr
  have HPK := Lib.hid (picked_any r.1 16 · r1 r2 (by omega) (by omega))
  have hkb := pk_bd r.1 16 (by omega)
  have e0 : ((d : Int) + 1 == 0) = false := by rw [beq_eq_false_iff_ne]; omega
  have e1 : (0 : Int) ≤ d := by omega
  have hpI : ¬ (12 : Int) < (p : Int) + 1 := by omega
  rw [hk0] at HPK hkb
  obtain ⟨hkb1, hkb2⟩ := hkb
  have hm5 : k0.tmod 5 = k0 % 5 := Int.tmod_eq_emod_of_nonneg hkb1
  have hs5 : (4 : Int) + k0 % 5 = kk := hsel
  have hw5 : IntKind.i64.wrap ((4 : Int) + k0 % 5) = kk := by rw [hs5]; exact IntWalk.i64_in _ (by omega)
  clear hk0 hsel
  have hl4 : ¬ kk < 4 := by omega
  have hl8 : (8 : Int) < k0 := by omega
  have htI : ((t : Int) == 0) = true := by rw [ht0]; rfl
  have HT0 := Lib.hid ht0
  clear ht0
  go_enter Tryz.func26, Tryz.ntmps26
  go_wp2_with fail
  refine TK.out.mono ?_
  rintro e w1 ⟨rfl, g1, b1⟩
  have hg1 := g1.ext ((Ext.refl w1).alloc (Nat.le_refl _) (Obj.cells #[.int .i64 r.1, .int .i64 r.2] 100))
  have hb2 : Below B w (w1.alloc (Obj.cells #[.int .i64 r.1, .int .i64 r.2] 100)) := b1.alloc (by have := b1.size; omega) _
  have q0 : (w1.alloc (Obj.cells #[.int .i64 r.1, .int .i64 r.2] 100)).cell? ⟨w1.heap.size, 0, none⟩ = some (.int .i64 r.1) := by simp [go_sem]
  have q1 : (w1.alloc (Obj.cells #[.int .i64 r.1, .int .i64 r.2] 100)).cell? ⟨w1.heap.size, 1, none⟩ = some (.int .i64 r.2) := by simp [go_sem]
  have c1 := hg1.c1
  have c3 := hg1.c3
  have c4 := hg1.c4
  have f4 := hg1.fz 4
  have HG1 := Lib.hid hg1
  have HB2 := Lib.hid hb2
  clear TK g1 b1 hg1 hb2
  go_wp2_with fail
  refine (HPK.out _).mono ?_
  rintro e w' ⟨rfl, rfl⟩
  go_wp2_with fail
  refine (put_op _ G B ar cr raw (p + 1) vars props t out _ _ HG1.out (by omega)).mono ?_
  rintro e w2 ⟨rfl, hg2, hb3⟩
  have HG2 := Lib.hid hg2
  have HB3 := Lib.hid (HB2.out.trans hb3)
  clear hg2 hb3
  go_wp2_with fail
  refine (IH1.out w2 _ HG2.out (by omega) (by simp; omega)).mono ?_
  rintro e w3 ⟨rfl, hg3, hb4⟩
  have HG3 := Lib.hid hg3
  have HB4 := Lib.hid (HB3.out.trans hb4)
  clear hg3 hb4 HG2 HB3
  go_wp2
  go_end0
  exact FMade.mk rfl HG3.out HB4.out rfl rfl (by simp [Tm.flat])
set_option maxRecDepth 100000 in
set_option maxHeartbeats 2000000 in
theorem formula_bins (h : Gr w G B ar cr raw p vars props (t : Int) out) (hraw : RawF raw) (d : Nat) (hd : d ≤ 5) (hp12 : p < 12) (ho : out.length + 100 * (d + 1) ≤ 700) (htb : t ≤ 1000) (kk : Int) (k0 : Int) (hk0 : pk (rawAt raw p).1 16 = k0) (h8 : 8 < k0) (ht0 : t = 0) (hsel : 4 + k0 % 5 = kk) (hk6 : 6 ≤ kk) (hk9 : kk < 9)
    (ih : ∀ (w : World) (p : Nat) (t : Nat) (out : List Op2), Gr w G B ar cr raw p vars props (t : Int) out → p ≤ 14 + d + 30 → out.length + 100 * d ≤ 700 → t ≤ 1000 → Calls Tryz.prog 26 #[.pointer (some ⟨G, 0, none⟩), .int .i64 d] w (FMade w G B ar cr raw vars props out (fT raw props d p t)))
    : Calls Tryz.prog 26 #[.pointer (some ⟨G, 0, none⟩), .int .i64 ((d + 1 : Nat) : Int)] w (FMade w G B ar cr raw vars props out (.n2 (8 + kk % 2) 0 (fT raw props d (p + 1) t).1 (fT raw props d (fT raw props d (p + 1) t).2.1 (fT raw props d (p + 1) t).2.2).1, (fT raw props d (fT raw props d (p + 1) t).2.1 (fT raw props d (p + 1) t).2.2).2)) := by
  have TK := Lib.hid (take_any w G B ar cr raw p vars props t out h (by omega))
  have hBw : B ≤ w.heap.size := by have := World.block_lt_of_cell? _ _ h.c0; have := h.new; simp at *; omega
  have hr := hraw p
  have hz1 := fT_end raw props d (p + 1) (t)
  have hz2 := fT_size raw props d (p + 1) (t)
  have hz5 := Tm.flat_len (fT raw props d (p + 1) (t)).1
  have ih1 := fun w' out' g h1 h2 => ih w' (p + 1) (t) out' g h1 h2 (by omega)
  have hz6 := fT_cnt raw props d (p + 1) (t)
  have ih2 := fun w' out' g h1 h2 => ih w' (fT raw props d (p + 1) (t)).2.1 (fT raw props d (p + 1) (t)).2.2 out' g h1 h2 (by omega)
  generalize fT raw props d (p + 1) (t) = t1 at *
  generalize fT raw props d t1.2.1 t1.2.2 = t2 at *
  obtain ⟨tm1, p1, n1⟩ := t1
  obtain ⟨tm2, p2, n2⟩ := t2
  simp only at hz1 hz2 hz5 ih1 ih2
  have IH2 := Lib.hid ih2
  clear ih2
  have HZ1 := Lib.hid (show p1 ≤ 14 + d + 30 by omega)
  have HZ5 := Lib.hid (show tm1.flat.length ≤ 20 by omega)
  have IH1 := Lib.hid ih1
  clear ih1 hz1 hz2 hz5 hz6 ih
  generalize rawAt raw p = r at *
  obtain ⟨⟨r1, r2⟩, r3, r4⟩ := hr
  have HPK := Lib.hid (picked_any r.1 16 · r1 r2 (by omega) (by omega))
  have hkb := pk_bd r.1 16 (by omega)
  have e0 : ((d : Int) + 1 == 0) = false := by rw [beq_eq_false_iff_ne]; omega
  have e1 : (0 : Int) ≤ d := by omega
  have hpI : ¬ (12 : Int) < (p : Int) + 1 := by omega
  rw [hk0] at HPK hkb
  obtain ⟨hkb1, hkb2⟩ := hkb
  have hm5 : k0.tmod 5 = k0 % 5 := Int.tmod_eq_emod_of_nonneg hkb1
  have hs5 : (4 : Int) + k0 % 5 = kk := hsel
  have hw5 : IntKind.i64.wrap ((4 : Int) + k0 % 5) = kk := by rw [hs5]; exact IntWalk.i64_in _ (by omega)
  clear hk0 hsel
  have hl4 : ¬ kk < 4 := by omega
  have hl6 : ¬ kk < 6 := by omega
  have hl8 : (8 : Int) < k0 := by omega
  have htI : ((t : Int) == 0) = true := by rw [ht0]; rfl
  have HT0 := Lib.hid ht0
  clear ht0
  have hm2 : kk.tmod 2 = kk % 2 := Int.tmod_eq_emod_of_nonneg (by omega)
  have hw2 : IntKind.i64.wrap ((8 : Int) + kk % 2) = 8 + kk % 2 := IntWalk.i64_in _ (by omega)
  go_enter Tryz.func26, Tryz.ntmps26
  go_wp2_with fail
  refine TK.out.mono ?_
  rintro e w1 ⟨rfl, g1, b1⟩
  have hg1 := g1.ext ((Ext.refl w1).alloc (Nat.le_refl _) (Obj.cells #[.int .i64 r.1, .int .i64 r.2] 100))
  have hb2 : Below B w (w1.alloc (Obj.cells #[.int .i64 r.1, .int .i64 r.2] 100)) := b1.alloc (by have := b1.size; omega) _
  have q0 : (w1.alloc (Obj.cells #[.int .i64 r.1, .int .i64 r.2] 100)).cell? ⟨w1.heap.size, 0, none⟩ = some (.int .i64 r.1) := by simp [go_sem]
  have q1 : (w1.alloc (Obj.cells #[.int .i64 r.1, .int .i64 r.2] 100)).cell? ⟨w1.heap.size, 1, none⟩ = some (.int .i64 r.2) := by simp [go_sem]
  have c1 := hg1.c1
  have c3 := hg1.c3
  have c4 := hg1.c4
  have f4 := hg1.fz 4
  have HG1 := Lib.hid hg1
  have HB2 := Lib.hid hb2
  clear TK g1 b1 hg1 hb2
  go_wp2_with fail
  refine (HPK.out _).mono ?_
  rintro e w' ⟨rfl, rfl⟩
  go_wp2_with fail
  refine (put_op _ G B ar cr raw (p + 1) vars props t out _ _ HG1.out (by omega)).mono ?_
  rintro e w2 ⟨rfl, hg2, hb3⟩
  have HG2 := Lib.hid hg2
  have HB3 := Lib.hid (HB2.out.trans hb3)
  clear hg2 hb3
  go_wp2_with fail
  refine (IH1.out w2 _ HG2.out (by omega) (by simp; omega)).mono ?_
  rintro e w3 ⟨rfl, hg3, hb4⟩
  have HG3 := Lib.hid hg3
  have HB4 := Lib.hid (HB3.out.trans hb4)
  clear hg3 hb4 HG2 HB3
  go_wp2_with fail
  refine (IH2.out w3 _ HG3.out HZ1.out (by have := HZ5.out; simp at this ⊢; omega)).mono ?_
  rintro e w4 ⟨rfl, hg4, hb5⟩
  have HG4 := Lib.hid hg4
  have HB5 := Lib.hid (HB4.out.trans hb5)
  clear hg4 hb5 HG3 HB4
  go_wp2
  go_end0
  exact FMade.mk rfl HG4.out HB5.out rfl rfl (by simp [Tm.flat])
set_option maxRecDepth 100000 in
set_option maxHeartbeats 2000000 in
theorem formula_leafB (h : Gr w G B ar cr raw p vars props (t : Int) out) (hraw : RawF raw) (d : Nat) (hd : d ≤ 5) (hp12 : p < 12) (ho : out.length + 100 * (d + 1) ≤ 700) (hv : 0 < props) (hv2 : props ≤ 1000) (kk : Int) (hsel : pk (rawAt raw p).1 16 = kk) (hk4 : kk < 4)
    : Calls Tryz.prog 26 #[.pointer (some ⟨G, 0, none⟩), .int .i64 ((d + 1 : Nat) : Int)] w (FMade w G B ar cr raw vars props out (fLeaf (rawAt raw p) props, p + 1, t)) := by
  have TK := Lib.hid (take_any w G B ar cr raw p vars props t out h (by omega))
  have hBw : B ≤ w.heap.size := by have := World.block_lt_of_cell? _ _ h.c0; have := h.new; simp at *; omega
  have hr := hraw p
  generalize rawAt raw p = r at *
  obtain ⟨⟨r1, r2⟩, r3, r4⟩ := hr
  have HPK := Lib.hid (picked_any r.1 16 · r1 r2 (by omega) (by omega))
  have hkb := pk_bd r.1 16 (by omega)
  have e0 : ((d : Int) + 1 == 0) = false := by rw [beq_eq_false_iff_ne]; omega
  have e1 : (0 : Int) ≤ d := by omega
  have hpI : ¬ (12 : Int) < (p : Int) + 1 := by omega
  rw [hsel] at HPK hkb
  obtain ⟨hkb1, hkb2⟩ := hkb
  clear hsel
  have hl8 : ¬ (8 : Int) < kk := by omega
  have hfl : (fLeaf r props).flat = [(13, pk r.2 props)] := by unfold fLeaf; rw [if_pos hv]; rfl
  have HFL := Lib.hid hfl
  have HS := Lib.hid (fun wx : World => still_of (picked_any r.2 props wx r3 r4 hv (by omega)))
  clear hfl
  go_enter Tryz.func26, Tryz.ntmps26
  go_wp2_with fail
  refine TK.out.mono ?_
  rintro e w1 ⟨rfl, g1, b1⟩
  have hg1 := g1.ext ((Ext.refl w1).alloc (Nat.le_refl _) (Obj.cells #[.int .i64 r.1, .int .i64 r.2] 100))
  have hb2 : Below B w (w1.alloc (Obj.cells #[.int .i64 r.1, .int .i64 r.2] 100)) := b1.alloc (by have := b1.size; omega) _
  have q0 : (w1.alloc (Obj.cells #[.int .i64 r.1, .int .i64 r.2] 100)).cell? ⟨w1.heap.size, 0, none⟩ = some (.int .i64 r.1) := by simp [go_sem]
  have q1 : (w1.alloc (Obj.cells #[.int .i64 r.1, .int .i64 r.2] 100)).cell? ⟨w1.heap.size, 1, none⟩ = some (.int .i64 r.2) := by simp [go_sem]
  have c1 := hg1.c1
  have c3 := hg1.c3
  have c4 := hg1.c4
  have f4 := hg1.fz 4
  have HG1 := Lib.hid hg1
  have HB2 := Lib.hid hb2
  clear TK g1 b1 hg1 hb2
  go_wp2_with fail
  refine (HPK.out _).mono ?_
  rintro e w' ⟨rfl, rfl⟩
  go_wp2_with fail
  refine region_tail 8 (by kernel_rfl) (by kernel_rfl) ?_
  generalize (w1.alloc (Obj.cells #[.int .i64 r.1, .int .i64 r.2] 100)) = W at *
  have hg1' := HG1.out.ext (Below.drew (Ext.refl W))
  have hb1' := HB2.out.drew
  have q1' : W.drew.cell? ⟨w1.heap.size, 1, none⟩ = some (.int .i64 r.2) := q1
  have c3' : W.drew.cell? ⟨G, 3, none⟩ = some (.int .i64 props) := c3
  have HG1' := Lib.hid hg1'
  have HB1' := Lib.hid hb1'
  clear HG1 HB2 q0 q1 c1 c3 c4 f4 hg1' hb1'
  generalize W.drew = Wd at *
  simp only [List.take_succ_cons, List.take_zero, List.drop_succ_cons, List.drop_zero]
  iterate 7 still_step
  still_call (HS.out Wd)
  refine wpStill_nil ?_
  go_wp2_with fail
  refine (put_op _ G B ar cr raw (p + 1) vars props t out _ _ HG1'.out (by omega)).mono ?_
  rintro e w2 ⟨rfl, hg2, hb3⟩
  have HG2 := Lib.hid hg2
  have HB3 := Lib.hid (HB1'.out.trans hb3)
  clear hg2 hb3
  go_wp2
  go_end0
  exact FMade.mk rfl HG2.out HB3.out rfl rfl (by rw [HFL.out])
set_option maxRecDepth 100000 in
set_option maxHeartbeats 2000000 in
theorem formula_ah2 (h : Gr w G B ar cr raw p vars props (t : Int) out) (hraw : RawF raw) (d : Nat) (hd : d ≤ 5) (hp12 : p < 12) (ho : out.length + 100 * (d + 1) ≤ 700) (htb : t ≤ 1000) (kk : Int) (hsel : pk (rawAt raw p).1 16 = kk) (hk13 : 13 ≤ kk) (ht : t ≠ 0)
    (ih : ∀ (w : World) (p : Nat) (t : Nat) (out : List Op2), Gr w G B ar cr raw p vars props (t : Int) out → p ≤ 14 + d + 30 → out.length + 100 * d ≤ 700 → t ≤ 1000 → Calls Tryz.prog 26 #[.pointer (some ⟨G, 0, none⟩), .int .i64 d] w (FMade w G B ar cr raw vars props out (fT raw props d p t)))
    : Calls Tryz.prog 26 #[.pointer (some ⟨G, 0, none⟩), .int .i64 ((d + 1 : Nat) : Int)] w (FMade w G B ar cr raw vars props out (.n2 (15 + kk % 2) 0 (fT raw props d (p + 1) (t - 1)).1 (fT raw props d (fT raw props d (p + 1) (t - 1)).2.1 (fT raw props d (p + 1) (t - 1)).2.2).1, (fT raw props d (fT raw props d (p + 1) (t - 1)).2.1 (fT raw props d (p + 1) (t - 1)).2.2).2)) := by
  have TK := Lib.hid (take_any w G B ar cr raw p vars props t out h (by omega))
  have hBw : B ≤ w.heap.size := by have := World.block_lt_of_cell? _ _ h.c0; have := h.new; simp at *; omega
  have hr := hraw p
  have hz1 := fT_end raw props d (p + 1) (t - 1)
  have hz2 := fT_size raw props d (p + 1) (t - 1)
  have hz5 := Tm.flat_len (fT raw props d (p + 1) (t - 1)).1
  have ih1 := fun w' out' g h1 h2 => ih w' (p + 1) (t - 1) out' g h1 h2 (by omega)
  have hz6 := fT_cnt raw props d (p + 1) (t - 1)
  have ih2 := fun w' out' g h1 h2 => ih w' (fT raw props d (p + 1) (t - 1)).2.1 (fT raw props d (p + 1) (t - 1)).2.2 out' g h1 h2 (by omega)
  generalize fT raw props d (p + 1) (t - 1) = t1 at *
  generalize fT raw props d t1.2.1 t1.2.2 = t2 at *
  obtain ⟨tm1, p1, n1⟩ := t1
  obtain ⟨tm2, p2, n2⟩ := t2
  simp only at hz1 hz2 hz5 ih1 ih2
  have IH2 := Lib.hid ih2
  clear ih2
  have HZ1 := Lib.hid (show p1 ≤ 14 + d + 30 by omega)
  have HZ5 := Lib.hid (show tm1.flat.length ≤ 20 by omega)
  have IH1 := Lib.hid ih1
  clear ih1 hz1 hz2 hz5 hz6 ih
  generalize rawAt raw p = r at *
  obtain ⟨⟨r1, r2⟩, r3, r4⟩ := hr
  have HPK := Lib.hid (picked_any r.1 16 · r1 r2 (by omega) (by omega))
  have hkb := pk_bd r.1 16 (by omega)
  have e0 : ((d : Int) + 1 == 0) = false := by rw [beq_eq_false_iff_ne]; omega
  have e1 : (0 : Int) ≤ d := by omega
  have hpI : ¬ (12 : Int) < (p : Int) + 1 := by omega
  rw [hsel] at HPK hkb
  obtain ⟨hkb1, hkb2⟩ := hkb
  clear hsel
  have hl4 : ¬ kk < 4 := by omega
  have hl6 : ¬ kk < 6 := by omega
  have hl9 : ¬ kk < 9 := by omega
  have hl8 : (8 : Int) < kk := by omega
  have htI : ((t : Int) == 0) = false := by rw [beq_eq_false_iff_ne]; omega
  have htm : (t : Int) - 1 = ((t - 1 : Nat) : Int) := by omega
  have hwt : IntKind.i64.wrap ((t : Int) - 1) = ((t - 1 : Nat) : Int) := by rw [htm]; exact IntWalk.i64_in _ (by omega)
  have hl13 : ¬ kk < 13 := by omega
  have hm2 : kk.tmod 2 = kk % 2 := Int.tmod_eq_emod_of_nonneg (by omega)
  have hw2 : IntKind.i64.wrap ((15 : Int) + kk % 2) = 15 + kk % 2 := IntWalk.i64_in _ (by omega)
  go_enter Tryz.func26, Tryz.ntmps26
  go_wp2_with fail
  refine TK.out.mono ?_
  rintro e w1 ⟨rfl, g1, b1⟩
  have hg1 := g1.ext ((Ext.refl w1).alloc (Nat.le_refl _) (Obj.cells #[.int .i64 r.1, .int .i64 r.2] 100))
  have hb2 : Below B w (w1.alloc (Obj.cells #[.int .i64 r.1, .int .i64 r.2] 100)) := b1.alloc (by have := b1.size; omega) _
  have q0 : (w1.alloc (Obj.cells #[.int .i64 r.1, .int .i64 r.2] 100)).cell? ⟨w1.heap.size, 0, none⟩ = some (.int .i64 r.1) := by simp [go_sem]
  have q1 : (w1.alloc (Obj.cells #[.int .i64 r.1, .int .i64 r.2] 100)).cell? ⟨w1.heap.size, 1, none⟩ = some (.int .i64 r.2) := by simp [go_sem]
  have c1 := hg1.c1
  have c3 := hg1.c3
  have c4 := hg1.c4
  have f4 := hg1.fz 4
  have HG1 := Lib.hid hg1
  have HB2 := Lib.hid hb2
  clear TK g1 b1 hg1 hb2
  go_wp2_with fail
  refine (HPK.out _).mono ?_
  rintro e w' ⟨rfl, rfl⟩
  have hgt := HG1.out.tempo' ((t - 1 : Nat) : Int)
  have hbt := HB2.out.setCell (p := ⟨G, 4, none⟩) HG1.out.new (.int .i64 ((t - 1 : Nat) : Int))
  have HGT := Lib.hid hgt
  have HBT := Lib.hid hbt
  clear hgt hbt
  go_wp2_with fail
  refine (put_op _ G B ar cr raw (p + 1) vars props ((t - 1 : Nat) : Int) out _ _ HGT.out (by omega)).mono ?_
  rintro e w2 ⟨rfl, hg2, hb3⟩
  have HG2 := Lib.hid hg2
  have HB3 := Lib.hid (HBT.out.trans hb3)
  clear hg2 hb3
  go_wp2_with fail
  refine (IH1.out w2 _ HG2.out (by omega) (by simp; omega)).mono ?_
  rintro e w3 ⟨rfl, hg3, hb4⟩
  have HG3 := Lib.hid hg3
  have HB4 := Lib.hid (HB3.out.trans hb4)
  clear hg3 hb4 HG2 HB3
  go_wp2_with fail
  refine (IH2.out w3 _ HG3.out HZ1.out (by have := HZ5.out; simp at this ⊢; omega)).mono ?_
  rintro e w4 ⟨rfl, hg4, hb5⟩
  have HG4 := Lib.hid hg4
  have HB5 := Lib.hid (HB4.out.trans hb5)
  clear hg4 hb5 HG3 HB4
  go_wp2
  go_end0
  exact FMade.mk rfl HG4.out HB5.out rfl rfl (by simp [Tm.flat])
set_option maxRecDepth 100000 in
set_option maxHeartbeats 2000000 in
theorem formula_ah1 (h : Gr w G B ar cr raw p vars props (t : Int) out) (hraw : RawF raw) (d : Nat) (hd : d ≤ 5) (hp12 : p < 12) (ho : out.length + 100 * (d + 1) ≤ 700) (htb : t ≤ 1000) (kk : Int) (hsel : pk (rawAt raw p).1 16 = kk) (hk9 : 9 ≤ kk) (hk13 : kk < 13) (ht : t ≠ 0)
    (ih : ∀ (w : World) (p : Nat) (t : Nat) (out : List Op2), Gr w G B ar cr raw p vars props (t : Int) out → p ≤ 14 + d + 30 → out.length + 100 * d ≤ 700 → t ≤ 1000 → Calls Tryz.prog 26 #[.pointer (some ⟨G, 0, none⟩), .int .i64 d] w (FMade w G B ar cr raw vars props out (fT raw props d p t)))
    : Calls Tryz.prog 26 #[.pointer (some ⟨G, 0, none⟩), .int .i64 ((d + 1 : Nat) : Int)] w (FMade w G B ar cr raw vars props out (.n1 (aheadK kk) 0 (fT raw props d (p + 1) (t - 1)).1, (fT raw props d (p + 1) (t - 1)).2)) := by
  have TK := Lib.hid (take_any w G B ar cr raw p vars props t out h (by omega))
  have hBw : B ≤ w.heap.size := by have := World.block_lt_of_cell? _ _ h.c0; have := h.new; simp at *; omega
  have hr := hraw p
  have hz1 := fT_end raw props d (p + 1) (t - 1)
  have hz2 := fT_size raw props d (p + 1) (t - 1)
  have hz5 := Tm.flat_len (fT raw props d (p + 1) (t - 1)).1
  have ih1 := fun w' out' g h1 h2 => ih w' (p + 1) (t - 1) out' g h1 h2 (by omega)
  have hz6 := fT_cnt raw props d (p + 1) (t - 1)
  generalize fT raw props d (p + 1) (t - 1) = t1 at *
  obtain ⟨tm1, p1, n1⟩ := t1
  simp only at hz1 hz2 hz5 ih1
  have HZ1 := Lib.hid (show p1 ≤ 14 + d + 30 by omega)
  have HZ5 := Lib.hid (show tm1.flat.length ≤ 20 by omega)
  have IH1 := Lib.hid ih1
  clear ih1 hz1 hz2 hz5 hz6 ih
  generalize rawAt raw p = r at *
  obtain ⟨⟨r1, r2⟩, r3, r4⟩ := hr
  have HPK := Lib.hid (picked_any r.1 16 · r1 r2 (by omega) (by omega))
  have hkb := pk_bd r.1 16 (by omega)
  have e0 : ((d : Int) + 1 == 0) = false := by rw [beq_eq_false_iff_ne]; omega
  have e1 : (0 : Int) ≤ d := by omega
  have hpI : ¬ (12 : Int) < (p : Int) + 1 := by omega
  rw [hsel] at HPK hkb
  obtain ⟨hkb1, hkb2⟩ := hkb
  clear hsel
  have htI : ((t : Int) == 0) = false := by rw [beq_eq_false_iff_ne]; omega
  have htm : (t : Int) - 1 = ((t - 1 : Nat) : Int) := by omega
  have hwt : IntKind.i64.wrap ((t : Int) - 1) = ((t - 1 : Nat) : Int) := by rw [htm]; exact IntWalk.i64_in _ (by omega)
  have hkv : kk = 9 ∨ kk = 10 ∨ kk = 11 ∨ kk = 12 := by omega
  clear hk9 hk13 hkb1 hkb2
  rcases hkv with rfl | rfl | rfl | rfl
  all_goals
    go_enter Tryz.func26, Tryz.ntmps26
    go_wp2_with fail
    refine TK.out.mono ?_
    rintro e w1 ⟨rfl, g1, b1⟩
    have hg1 := g1.ext ((Ext.refl w1).alloc (Nat.le_refl _) (Obj.cells #[.int .i64 r.1, .int .i64 r.2] 100))
    have hb2 : Below B w (w1.alloc (Obj.cells #[.int .i64 r.1, .int .i64 r.2] 100)) := b1.alloc (by have := b1.size; omega) _
    have q0 : (w1.alloc (Obj.cells #[.int .i64 r.1, .int .i64 r.2] 100)).cell? ⟨w1.heap.size, 0, none⟩ = some (.int .i64 r.1) := by simp [go_sem]
    have q1 : (w1.alloc (Obj.cells #[.int .i64 r.1, .int .i64 r.2] 100)).cell? ⟨w1.heap.size, 1, none⟩ = some (.int .i64 r.2) := by simp [go_sem]
    have c1 := hg1.c1
    have c3 := hg1.c3
    have c4 := hg1.c4
    have f4 := hg1.fz 4
    have HG1 := Lib.hid hg1
    have HB2 := Lib.hid hb2
    clear TK g1 b1 hg1 hb2
    go_wp2_with fail
    refine (HPK.out _).mono ?_
    rintro e w' ⟨rfl, rfl⟩
    have hgt := HG1.out.tempo' ((t - 1 : Nat) : Int)
    have hbt := HB2.out.setCell (p := ⟨G, 4, none⟩) HG1.out.new (.int .i64 ((t - 1 : Nat) : Int))
    have HGT := Lib.hid hgt
    have HBT := Lib.hid hbt
    clear hgt hbt
    go_wp2_with fail
    refine (put_op _ G B ar cr raw (p + 1) vars props ((t - 1 : Nat) : Int) out _ _ (HGT.out.ext ((Ext.refl _).alloc (Nat.le_refl _) _)) (by omega)).mono ?_
    rintro e w2 ⟨rfl, hg2, hb3⟩
    have HG2 := Lib.hid hg2
    have HB3 := Lib.hid ((HBT.out.alloc (by have := HBT.out.size; omega) _).trans hb3)
    clear hg2 hb3
    go_wp2_with fail
    refine (IH1.out w2 _ HG2.out (by omega) (by simp; omega)).mono ?_
    rintro e w3 ⟨rfl, hg3, hb4⟩
    have HG3 := Lib.hid hg3
    have HB4 := Lib.hid (HB3.out.trans hb4)
    clear hg3 hb4 HG2 HB3
    go_wp2
    go_end0
    exact FMade.mk rfl HG3.out HB4.out rfl rfl (by simp [Tm.flat, aheadK])
end
end Go.Proofs.YtfcaomejbcjfgaaGreatDoor
