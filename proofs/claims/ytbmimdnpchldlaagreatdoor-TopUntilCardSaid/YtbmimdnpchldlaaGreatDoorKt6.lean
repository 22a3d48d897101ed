/- Several texts in one: PolA; PolB; PolC; GenA; GenB. No condition. -/
import Derived.Test.YtbmimdnpchldlaaGreatDoorKt5
import Derived.Test.YtbmimdnpchldlaaGreatDoorKt1
import Derived.Recover
import Derived.RegionTactic
namespace Go.Proofs.YtbmimdnpchldlaaGreatDoor
open Go.RowKit

/-- The table of parts lies as the program's text lays it. -/
def Tab (w : World) : Prop := ∀ k : Nat, 1 ≤ k → k ≤ 18 → w.cell? ⟨0, k, none⟩ = some (.int .i64 (partsOf k))

theorem Tab.ext {w w' : World} (h : Tab w) (hb : Ext w w') : Tab w' := fun k h1 h2 => cell_later hb (h k h1 h2)

theorem Tab.lt {w : World} (h : Tab w) : 0 < w.heap.size := World.block_lt_of_cell? _ _ (h 1 (by omega) (by omega))

set_option maxHeartbeats 400000 in
theorem parts_good (k : Int) (w : World) (ht : Tab w) (h1 : 1 ≤ k) (h2 : k ≤ 18) :
    Calls Tryz.prog 127 #[.int .i64 k] w fun e w' => e = .returned (.tuple #[.int .i64 (partsOf k), .int .i64 0]) ∧ w = w' := by
  obtain ⟨k, rfl⟩ : ∃ n : Nat, k = (n : Int) := ⟨k.toNat, by omega⟩
  have hc := ht k (by omega) (by omega)
  have h3 : (k : Int) < 19 := by omega
  generalize partsOf (k : Int) = p at *
  clear ht
  go_enter Tryz.func127, Tryz.ntmps127
  go_wp2
  go_ret2
  exact ⟨rfl, rfl⟩

set_option maxHeartbeats 400000 in
theorem parts_bad (k : Int) (w : World) (h : k < 1 ∨ 18 < k) :
    Calls Tryz.prog 127 #[.int .i64 k] w fun e w' => e = .returned (.tuple #[.int .i64 0, .int .i64 13]) ∧ w = w' := by
  rcases h with h | h
  all_goals
    go_enter Tryz.func127, Tryz.ntmps127
    go_wp2
    go_ret2
    exact ⟨rfl, rfl⟩

/-- An op as two cells. -/
def opc (o : Op2) : List Value := [.int .i64 o.1, .int .i64 o.2]
def Ops (w : World) (v : Value) (l : List Op2) : Prop := Reads w 2 v l.length (l.flatMap opc)
theorem Ops.ext {w w' : World} {v : Value} {l : List Op2} (h : Ops w v l) (hb : Ext w w') : Ops w' v l := Reads.ext h hb

theorem opc_len (l : List Op2) : (l.flatMap opc).length = 2 * l.length := by
  induction l with
  | nil => rfl
  | cons o l ih => rw [List.flatMap_cons, List.length_append, ih]; simp [opc]; omega

theorem opc_get : ∀ (l : List Op2) (i : Nat) (h : i < l.length), (l.flatMap opc)[2 * i]? = some (.int .i64 l[i].1) ∧ (l.flatMap opc)[2 * i + 1]? = some (.int .i64 l[i].2)
  | o :: l, 0, _ => by simp [opc]
  | o :: l, i + 1, h => by
    have := opc_get l i (by simpa using h)
    rw [List.flatMap_cons]
    have e : (opc o).length = 2 := rfl
    rw [List.getElem?_append_right (by omega), List.getElem?_append_right (by omega), e, show 2 * (i + 1) - 2 = 2 * i by omega, show 2 * (i + 1) + 1 - 2 = 2 * i + 1 by omega]
    simpa using this

theorem Row.ops {w : World} {a : Option Addr} {cap : Nat} {l : List Op2} (h : Row w 2 a l.length cap (l.flatMap opc)) :
    ∃ b off, (0 < l.length → a = some ⟨b, off, none⟩) ∧ ∀ (i : Nat) (hi : i < l.length), w.cell? ⟨b, off + i * 2, none⟩ = some (.int .i64 l[i].1) ∧ w.cell? ⟨b, off + i * 2 + 1, none⟩ = some (.int .i64 l[i].2) := by
  obtain ⟨b, off, _, h2, h3⟩ := h.lie
  refine ⟨b, off, fun hl => h2 (by rw [opc_len]; omega), fun i hi => ?_⟩
  have := opc_get l i hi
  rw [Nat.mul_comm] at this
  exact ⟨h3 _ _ this.1, by rw [Nat.add_assoc]; exact h3 _ _ this.2⟩

/-- What a reader's block holds. -/
structure Rd (w : World) (R g : Nat) (a : Option Addr) (cap : Nat) (l : List Op2) : Prop where
  c0 : w.cell? ⟨R, 0, none⟩ = some (.slice a l.length cap)
  c1 : w.cell? ⟨R, 1, none⟩ = some (.slice (some ⟨g, 0, none⟩) l.length l.length)
  ne : R ≠ g
  row : Row w 2 a l.length cap (l.flatMap opc)
  nerow : ∀ p, a = some p → 0 < l.length → p.block ≠ g
  tab : Tab w
  netab : 0 ≠ g

theorem Rd.grown {w w' : World} {R g : Nat} {a : Option Addr} {cap : Nat} {l : List Op2} (h : Rd w R g a cap l) (hg : w.grownBy w' (some g)) : Rd w' R g a cap l :=
  ⟨hg.cell h.c0 (by simpa using h.ne), hg.cell h.c1 (by simpa using h.ne), h.ne,
   h.row.keep fun p hp hx => hg.block _ (by subst hp; exact h.row.blk hx) (by simpa using h.nerow p hp (by rw [opc_len] at hx; omega)), h.nerow,
   fun k h1 h2 => hg.cell (h.tab k h1 h2) (by simpa using h.netab), h.netab⟩

def EndsRow (w : World) (g n : Nat) (es : List Int) : Prop := w.ownsRow 0 3 1 (.slice (some ⟨g, 0, none⟩) n n) n (es.map (.int .i64))

def errV (c : Int) : Value := .iface 45 (.int .i64 c)

def SkipPost (w : World) (g n : Nat) (r : (Except Int Nat) × List Int) (e : Ending) (w' : World) : Prop :=
  (match r.1 with
    | .ok m => e = .returned (.int .i64 (m : Int))
    | .error c => e = .panicked [{ v := errV c, recovered := false }]) ∧ EndsRow w' g n r.2 ∧ w.grownBy w' (some g)

theorem skipL_bd (l : List Op2) : ∀ (f at' : Nat) (es : List Int), (∀ n, (skipL l f at' es).1 = .ok n → at' < n ∧ n ≤ l.length) ∧ (skipL l f at' es).2.length = es.length := by
  intro f
  induction f with
  | zero => intro at' es; simp [skipL]
  | succ f ih =>
    intro at' es
    have hl : ∀ (k e : Nat) (es : List Int), e ≤ l.length → (∀ n, (loopL (skipL l f) k e es).1 = .ok n → e ≤ n ∧ n ≤ l.length) ∧ (loopL (skipL l f) k e es).2.length = es.length := by
      intro k
      induction k with
      | zero => intro e es he; simp [loopL]; omega
      | succ k ihk =>
        intro e es he
        have h1 := ih e es
        simp only [loopL]
        rcases hr : skipL l f e es with ⟨r, es'⟩
        rw [hr] at h1
        cases r with
        | error c => simpa using h1.2
        | ok n =>
          have h2 := h1.1 n rfl
          have h3 := ihk n es' h2.2
          refine ⟨fun m hm => ?_, by rw [h3.2]; exact h1.2⟩
          have := h3.1 m hm
          omega
    unfold skipL
    split
    · rename_i h
      split
      · have := hl (partsOf l[at'].1) (at' + 1) es (by omega)
        rcases hr : loopL (skipL l f) (partsOf l[at'].1) (at' + 1) es with ⟨r, es'⟩
        rw [hr] at this
        cases r with
        | error c => simpa [closeL] using this.2
        | ok n =>
          have h2 := this.1 n rfl
          simp only [closeL]
          refine ⟨fun m hm => ?_, by simpa using this.2⟩
          simp at hm
          omega
      · simp
    · simp

end Go.Proofs.YtbmimdnpchldlaaGreatDoor

namespace Go.Proofs.YtbmimdnpchldlaaGreatDoor
open Go.RowKit

theorem SkipPost.mk {w w' : World} {g n : Nat} {r : (Except Int Nat) × List Int} {e : Ending} (h : match r.1 with
    | .ok m => e = .returned (.int .i64 (m : Int))
    | .error c => e = .panicked [{ v := errV c, recovered := false }]) (h2 : EndsRow w' g n r.2) (h3 : w.grownBy w' (some g)) : SkipPost w g n r e w' := ⟨h, h2, h3⟩

set_option maxRecDepth 100000 in
set_option maxHeartbeats 1000000 in
/-- Behind the last op there is nothing. -/
theorem skip_short (R g cap : Nat) (a : Option Addr) (l : List Op2) (at' : Nat) (es : List Int) (w : World) (hl : l.length ≤ at') (hr : Rd w R g a cap l) (he : EndsRow w g l.length es) :
    Calls Tryz.prog 110 #[.pointer (some ⟨R, 0, none⟩), .int .i64 at'] w (SkipPost w g l.length (.error 4, es)) := by
  have c0 := hr.c0
  have hfin : ∀ e w', (e = .panicked [{ v := errV 4, recovered := false }] ∧ w = w') → SkipPost w g l.length (.error 4, es) e w' := by
    rintro e w' ⟨rfl, rfl⟩
    exact SkipPost.mk rfl he (World.grownBy.refl _ _)
  refine Calls.mono ?_ hfin
  clear hfin he hr
  go_enter Tryz.func110, Tryz.ntmps110
  go_wp2
  exact ⟨rfl, rfl, rfl⟩

set_option maxRecDepth 100000 in
set_option maxHeartbeats 1000000 in
theorem skip_kind (R g cap : Nat) (a : Option Addr) (l : List Op2) (at' : Nat) (es : List Int) (w : World) (hl : at' < l.length) (hb : l.length ≤ 1000) (hr : Rd w R g a cap l) (he : EndsRow w g l.length es) (hk : l[at'].1 < 1 ∨ 18 < l[at'].1) :
    Calls Tryz.prog 110 #[.pointer (some ⟨R, 0, none⟩), .int .i64 at'] w (SkipPost w g l.length (.error 13, es)) := by
  have c0 := hr.c0
  obtain ⟨b, off, ha, hc⟩ := hr.row.ops
  obtain rfl := ha (by omega)
  have k0 := (hc at' hl).1
  have hfin : ∀ e w', (e = .panicked [{ v := errV 13, recovered := false }] ∧ w = w') → SkipPost w g l.length (.error 13, es) e w' := by
    rintro e w' ⟨rfl, rfl⟩
    exact SkipPost.mk rfl he (World.grownBy.refl _ _)
  refine Calls.mono ?_ hfin
  have CP := parts_bad l[at'].1 w hk
  have HCP := Lib.hid CP
  generalize l[at'].1 = k at *
  clear hfin he hr CP hc hk
  go_enter Tryz.func110, Tryz.ntmps110
  go_wp2_with (go_at_call 127; refine (HCP.out).mono ?_; rintro e w' ⟨rfl, rfl⟩)
  exact ⟨rfl, rfl, rfl⟩

set_option maxRecDepth 100000 in
set_option maxHeartbeats 2000000 in
theorem skip_step (R g cap : Nat) (a : Option Addr) (l : List Op2) (at' : Nat) (es : List Int) (w : World) (hl : at' < l.length) (hb : l.length ≤ 1000) (hr : Rd w R g a cap l) (he : EndsRow w g l.length es) (hk1 : 1 ≤ l[at'].1) (hk2 : l[at'].1 ≤ 18)
    (rec : Nat → List Int → (Except Int Nat) × List Int) (hes : es.length = l.length)
    (hbd : ∀ (p : Nat) (es' : List Int), p ≤ l.length → (∀ n, (rec p es').1 = .ok n → p < n ∧ n ≤ l.length) ∧ (rec p es').2.length = es'.length)
    (hrec : ∀ (p : Nat) (es' : List Int) (w' : World), at' < p → p ≤ l.length → es'.length = l.length → Rd w' R g a cap l → EndsRow w' g l.length es' → Calls Tryz.prog 110 #[.pointer (some ⟨R, 0, none⟩), .int .i64 p] w' (SkipPost w' g l.length (rec p es'))) :
    Calls Tryz.prog 110 #[.pointer (some ⟨R, 0, none⟩), .int .i64 at'] w (SkipPost w g l.length (closeL at' (loopL rec (partsOf l[at'].1) (at' + 1) es))) := by
  have c0 := hr.c0
  have c1 := hr.c1
  obtain ⟨b, off, ha, hc⟩ := hr.row.ops
  obtain rfl := ha (by omega)
  have k0 := (hc at' hl).1
  have HCP := Lib.hid (parts_good l[at'].1 w hr.tab hk1 hk2)
  have hpl : partsOf l[at'].1 ≤ 2 := by unfold partsOf; split <;> (try split) <;> omega
  generalize hpp : partsOf l[at'].1 = pp at *
  generalize l[at'].1 = k at *
  generalize hres : loopL rec pp (at' + 1) es = res at *
  have Hres := Lib.hid hres
  generalize hfin : closeL at' res = fin at *
  have Hfin := Lib.hid hfin
  have Hpp := Lib.hid hpp
  have HR := Lib.hid hr
  have HE := Lib.hid he
  have Hes := Lib.hid hes
  have HB := Lib.hid hbd
  have HREC := Lib.hid hrec
  clear hres hfin hpp hc hk1 hk2 hr he hes hbd hrec
  go_enter Tryz.func110, Tryz.ntmps110
  go_wp2_with (go_at_call 127; refine (HCP.out).mono ?_; rintro e w' ⟨rfl, rfl⟩)
  clear HCP
  go_loopw [7, 35] (fun e j wr => ∃ (jj en : Nat) (es' : List Int), jj ≤ pp ∧ j = .int .i64 jj ∧ e = .int .i64 en ∧ at' < en ∧ en ≤ l.length ∧ Hid (es'.length = l.length) ∧ Hid (loopL rec (pp - jj) en es' = res) ∧ Rd wr R g (some ⟨b, off, none⟩) cap l ∧ EndsRow wr g l.length es' ∧ w.grownBy wr (some g)) (fun _ j _ => pp - (intOf j).toNat)
  case atStart => exact ⟨0, at' + 1, es, by omega, rfl, by go_num, by omega, by omega, Hes, Hres, HR.out, HE.out, World.grownBy.refl _ _⟩
  case round =>
    obtain ⟨jj, en, es', hjj, rfl, rfl, hen1, hen2, hes', hlo, hrd, hrow, hgr⟩ := hrel
    clear HR HE Hes Hres
    by_cases hlt : jj < pp
    · go_wp2_with fail
      refine (HREC.out en es' wr hen1 hen2 hes'.out hrd hrow).mono ?_
      have hlo1 : loopL rec (pp - jj) en es' = res := hlo
      rw [show pp - jj = (pp - (jj + 1)) + 1 by omega] at hlo1
      simp only [loopL] at hlo1
      have hb1 := HB.out en es' hen2
      rcases hre : rec en es' with ⟨r1, es1⟩
      rw [hre] at hlo1 hb1
      cases r1 with
      | ok n1 =>
        have hb2 := hb1.1 n1 rfl
        have hb3 : es1.length = es'.length := hb1.2
        have hlo2 : Hid (loopL rec (pp - (jj + 1)) n1 es1 = res) := hlo1
        have hes2 : Hid (es1.length = l.length) := hb3.trans hes'.out
        obtain ⟨hb4, hb5⟩ := hb2
        have Hrd := Lib.hid hrd
        have Hrow := Lib.hid hrow
        have Hgr := Lib.hid hgr
        clear hlo hlo1 hb1 hre hb3 hrd hrow hgr hes'
        rintro e w1 ⟨he1, hrow1, hg1⟩
        obtain rfl : e = .returned (.int .i64 (n1 : Int)) := he1
        have Hrow1 := Lib.hid hrow1
        have Hg1 := Lib.hid hg1
        clear hrow1 hg1
        go_wp2
        go_roundw
        case rel => exact ⟨jj + 1, n1, es1, by omega, by go_num, rfl, by omega, by omega, hes2, hlo2, Hrd.out.grown Hg1.out, Hrow1.out, Hgr.out.trans' Hg1.out⟩
        case measure => simp [intOf]; omega
      | error c =>
        have hlo2 : Hid ((.error c, es1) = res) := hlo1
        have Hgr := Lib.hid hgr
        clear hlo hlo1 hb1 hre hrd hrow hgr hes'
        rintro e w1 ⟨he1, hrow1, hg1⟩
        obtain rfl : e = .panicked [{ v := errV c, recovered := false }] := he1
        have Hrow1 := Lib.hid hrow1
        have Hg1 := Lib.hid hg1
        clear hrow1 hg1
        go_wp2
        refine ⟨rfl, ?_⟩
        rw [← Hfin.out, ← hlo2.out]
        exact SkipPost.mk rfl Hrow1.out (Hgr.out.trans' Hg1.out)
    · obtain rfl : jj = pp := by omega
      have hlo1 : loopL rec (jj - jj) en es' = res := hlo
      rw [Nat.sub_self] at hlo1
      simp only [loopL] at hlo1
      have Hlo := Lib.hid hlo1
      have d0 := hrd.c0
      have d1 := hrd.c1
      have hat : at' < (es'.map (Value.int .i64)).length := by rw [List.length_map, hes'.out]; exact hl
      have hat2 : at' < es'.length := by rw [hes'.out]; exact hl
      have hcell : wr.cell? ⟨g, at', none⟩ = some (.int .i64 es'[at']) := by
        have hrow2 : wr.ownsRow 0 3 1 (.slice (some ⟨g, 0, none⟩) l.length l.length) l.length (es'.map (.int .i64)) := hrow
        rw [hrow2.cellAt at' (by omega), List.getElem?_eq_getElem hat]
        simp
      have hfr : wr.frozen? ⟨g, at', none⟩ = false := World.ownsRow.frozenAt (show wr.ownsRow 0 3 1 (.slice (some ⟨g, 0, none⟩) l.length l.length) l.length (es'.map (.int .i64)) from hrow) at'
      have hst := World.ownsRow.stored (show wr.ownsRow 0 3 1 (.slice (some ⟨g, 0, none⟩) l.length l.length) l.length (es'.map (.int .i64)) from hrow) at' (.int .i64 en)
      rw [← List.map_set] at hst
      have Hst := Lib.hid hst
      have Hgr := Lib.hid hgr
      generalize es'[at'] = old at *
      clear hlo hlo1 hst hgr hrow hrd hat hat2 hes'
      go_wp2
      go_ret
      rw [← Hfin.out, ← Hlo.out]
      exact SkipPost.mk rfl Hst.out.1 (Hgr.out.trans' Hst.out.2)

end Go.Proofs.YtbmimdnpchldlaaGreatDoor

namespace Go.Proofs.YtbmimdnpchldlaaGreatDoor
open Go.RowKit

theorem Tryz.slInts : SlTy Tryz.prog 27 3 (.int .i64 0) 1 8 := SlTy.mk' Tryz.underlying27 (by kernel_rfl) (by rfl) (by omega)

theorem skip_any (R g cap : Nat) (a : Option Addr) (l : List Op2) (hb : l.length ≤ 1000) : ∀ (f at' : Nat) (es : List Int) (w : World), l.length < at' + f → es.length = l.length → Rd w R g a cap l → EndsRow w g l.length es →
    Calls Tryz.prog 110 #[.pointer (some ⟨R, 0, none⟩), .int .i64 at'] w (SkipPost w g l.length (skipL l f at' es)) := by
  intro f
  induction f with
  | zero => intro at' es w hf hes hr he; exact skip_short R g cap a l at' es w (by omega) hr he
  | succ f ih =>
    intro at' es w hf hes hr he
    unfold skipL
    split
    · rename_i hl
      split
      · rename_i hk
        exact skip_step R g cap a l at' es w hl hb hr he hk.1 hk.2 (skipL l f) hes (fun p es' _ => skipL_bd l f p es') (fun p es' w' hp _ hes' hr' he' => ih p es' w' (by omega) hes' hr' he')
      · rename_i hk
        exact skip_kind R g cap a l at' es w hl hb hr he (by omega)
    · exact skip_short R g cap a l at' es w (by omega) hr he

/-- Two cells of two blocks are written, nothing else. -/
structure Two (w w' : World) (p q : Addr) (x y : Value) : Prop where
  os : w'.os = w.os
  tape : w'.tape = w.tape
  output : w'.output = w.output
  size : w.heap.size = w'.heap.size
  block : ∀ k, k ≠ p.block → k ≠ q.block → w'.heap[k]? = w.heap[k]?
  c0 : w'.cell? p = some x
  c1 : w'.cell? q = some y

theorem Two.of {w : World} {p q : Addr} {x y v0 z : Value} (hpq : p.block ≠ q.block) (hc : w.cell? p = some v0) (hc2 : w.cell? q = some z) : Two w ((w.setCell p x).setCell q y) p q x y := by
  have hne : q ≠ p := fun e => hpq (by rw [e])
  refine ⟨rfl, rfl, rfl, by simp, fun k h1 h2 => ?_, ?_, ?_⟩
  · rw [Below.heap_setCell _ _ _ _ h2, Below.heap_setCell _ _ _ _ h1]
  · rw [World.cell?_setCell_other (h := hne)]; exact World.cell?_setCell_same _ _ _ hc
  · exact World.cell?_setCell_same _ _ _ (u := z) (by rw [World.cell?_setCell_other (h := (Ne.symm hne))]; exact hc2)

theorem Two.of' {w : World} {p q : Addr} {x y v0 z : Value} (hpq : p.block ≠ q.block) (hc : w.cell? p = some v0) (hc2 : w.cell? q = some z) : Two w ((w.setCell q y).setCell p x) p q x y := by
  have hne : q ≠ p := fun e => hpq (by rw [e])
  refine ⟨rfl, rfl, rfl, by simp, fun k h1 h2 => ?_, ?_, ?_⟩
  · rw [Below.heap_setCell _ _ _ _ h1, Below.heap_setCell _ _ _ _ h2]
  · exact World.cell?_setCell_same _ _ _ (u := v0) (by rw [World.cell?_setCell_other (h := hne)]; exact hc)
  · rw [World.cell?_setCell_other (h := (Ne.symm hne))]; exact World.cell?_setCell_same _ _ _ hc2

theorem Two.drew {w w' : World} {p q : Addr} {x y : Value} (h : Two w w' p q x y) : Two w w'.drew p q x y := ⟨h.os, h.tape, h.output, h.size, h.block, h.c0, h.c1⟩

/-! The deferred closure: of a frame that panics with an errno; of a frame that returns. -/
theorem catch_panicking (p q : Addr) (c z : Int) (v0 : Value) (older : List PanicEntry) (w : World) (hpq : p.block ≠ q.block) (hc : w.cell? p = some v0) (hz : w.frozen? p = false) (hc2 : w.cell? q = some (.int .i64 z)) (hz2 : w.frozen? q = false) :
    CallsD Tryz.prog 109 #[.pointer (some p), .pointer (some q)] (.panicking ({ v := errV c, recovered := false } :: older)) w fun e u' w' =>
      e = .returned (.tuple #[]) ∧ u' = .panicking ({ v := errV c, recovered := true } :: older) ∧ Two w w' p q (.slice none 0 0) (.int .i64 c) := by
  refine callsD_of_wpS Tryz.func109 rfl fun c₀ cs hu => ?_
  apply wpS_seq
  apply wpS_region
  simp [wpOpsS, go_sem, recoverD, hu, Tryz.ntmps109, Exit.thenS]
  refine wpS_of_wp ?_
  rw [show (#[Value.pointer (some p), .pointer (some q)] ++ ((Array.replicate 6 undef).setIfInBounds 1 (errV c)).setIfInBounds 0 (errV c)) = #[.pointer (some p), .pointer (some q), errV c, errV c, undef, undef, undef, undef] from rfl]
  unfold errV
  have hne : p ≠ q := fun e => hpq (by rw [e])
  have hne2 : q ≠ p := Ne.symm hne
  have x1 : (w.setCell p (.slice none 0 0)).cell? q = some (.int .i64 z) := by rw [World.cell?_setCell_other (h := hne)]; exact hc2
  have x2 : (w.setCell q (.int .i64 c)).cell? p = some v0 := by rw [World.cell?_setCell_other (h := hne2)]; exact hc
  have hta : ∀ wx : World, (Instr.typeAssert (.iface 45 (.int .i64 c)) 20 45 false).run Tryz.prog wx = .ok (.int .i64 c) wx := fun _ => by kernel_rfl
  go_wp2
  go_region
  exact ⟨rfl, _, rfl, _, by simp [results, Tryz.results109], rfl, rfl, (Two.of hpq hc hc2).drew⟩

theorem catch_idle (p q : Addr) (w : World) :
    CallsD Tryz.prog 109 #[.pointer (some p), .pointer (some q)] .returning w fun e u' w' => e = .returned (.tuple #[]) ∧ u' = .returning ∧ w = w' := by
  refine callsD_of_wpS Tryz.func109 rfl fun c₀ cs hu => ?_
  apply wpS_seq
  apply wpS_region
  simp [wpOpsS, go_sem, recoverD, hu, Tryz.ntmps109, Exit.thenS]
  refine wpS_of_wp ?_
  go_wp2
  cases c₀
  simp_all [bodyPostS, results, Tryz.results109]

def EndsPost (w : World) (r : Except Int (List Int)) (e : Ending) (w' : World) : Prop :=
  Ext w w' ∧ match r with
    | .ok es => ∃ v', e = .returned (.tuple #[v', .int .i64 0]) ∧ w'.ownsRow w.heap.size 3 1 v' es.length (es.map (.int .i64))
    | .error c => e = .returned (.tuple #[.slice none 0 0, .int .i64 c])

set_option maxRecDepth 100000 in
set_option maxHeartbeats 1000000 in
theorem ends_long (v : Value) (l : List Op2) (w : World) (h : Ops w v l) (hl : 60 < l.length) :
    Calls Tryz.prog 78 #[v] w fun e w' => e = .returned (.tuple #[.slice none 0 0, .int .i64 1]) ∧ Ext w w' := by
  obtain ⟨a, cap, rfl, hr⟩ := h
  have hm : l.length ≤ 9223372036854775807 := by have := hr.le; have := hr.max; unfold maxLen at this; omega
  clear hr
  go_enter_defers Tryz.func78, Tryz.ntmps78
  go_wp2
  simp [bodyPostD, Leaves, results, Tryz.results78, go_sem]
  exact ((Ext.refl w).alloc (Nat.le_refl _) _).alloc (by simp) _

set_option maxRecDepth 100000 in
set_option maxHeartbeats 2000000 in
theorem ends_ok (v : Value) (l : List Op2) (w : World) (h : Ops w v l) (ht : Tab w) (hl : l.length ≤ 60) (es : List Int) (hsk : skipL l (l.length + 1) 0 (List.replicate l.length 0) = (.ok l.length, es)) :
    Calls Tryz.prog 78 #[v] w fun e w' => ∃ v', e = .returned (.tuple #[v', .int .i64 0]) ∧ w'.ownsRow w.heap.size 3 1 v' l.length (es.map (.int .i64)) ∧ Ext w w' := by
  obtain ⟨a, cap, rfl, hr⟩ := h
  have hmf : ∀ (fn : Fn) (first cap : Array Value) (w : World), (Instr.makeFunc fn first cap).run Tryz.prog w = .ok (.func fn first cap) w := fun _ _ _ _ => rfl
  have HT := Lib.hid ht
  have Hr := Lib.hid hr
  have Hsk := Lib.hid hsk
  clear ht hr hsk
  go_enter_defers Tryz.func78, Tryz.ntmps78
  go_wp2_with (at_make; go_must (refine wpList_make_full _ rfl _ _ 27 rfl 0 3 (Tryz.slInts.inf.choose) (.int .i64 0) 1 Tryz.underlying27 Tryz.slInts.inf.choose_spec.1 Tryz.slInts.inf.choose_spec.2.1 Tryz.slInts.inf.choose_spec.2.2.1 .i64 .i64 l.length l.length l.length rfl rfl rfl rfl (by rw [Tryz.slInts.inf.choose_spec.2.2.2]; omega) (by unfold maxLen; omega) (Nat.zero_le _) ?_))
  intro w1 hown hg
  rw [toList_madeCells_one] at hown
  have hE0 : Ext w ((w.alloc (Obj.cells #[.slice none 0 0] 27)).alloc (Obj.cells #[.int .i64 0] 45)) := ((Ext.refl w).alloc (Nat.le_refl _) _).alloc (by simp) _
  have hE1 : Ext w w1 := hE0.grown hg (by simp; omega) (by simp)
  have hs1 : w.heap.size + 1 + 1 < w1.heap.size := (hown.lt _ rfl).2
  have p0 : w1.cell? ⟨w.heap.size, 0, none⟩ = some (.slice none 0 0) := hg.cell (by simp [go_sem]) (by simp)
  have q0 : w1.cell? ⟨w.heap.size + 1, 0, none⟩ = some (.int .i64 0) := hg.cell (by simp [go_sem]) (by simp)
  have pz : w1.frozen? ⟨w.heap.size, 0, none⟩ = false := (World.frozen?_of_block (hg.block w.heap.size (by simp; omega) (by simp))).trans (by simp [go_sem])
  have qz : w1.frozen? ⟨w.heap.size + 1, 0, none⟩ = false := (World.frozen?_of_block (hg.block (w.heap.size + 1) (by simp) (by simp))).trans (by simp [go_sem])
  go_wp2_with fail
  have hrow2 : EndsRow (w1.alloc (Obj.cells #[.slice a l.length cap, .slice (some ⟨w.heap.size + 1 + 1, 0, none⟩) l.length l.length] 180)) (w.heap.size + 1 + 1) l.length (List.replicate l.length 0) := by
    have := hown.alloc (Obj.cells #[.slice a l.length cap, .slice (some ⟨w.heap.size + 1 + 1, 0, none⟩) l.length l.length] 180)
    unfold EndsRow
    simpa using this
  have hE2 : Ext w (w1.alloc (Obj.cells #[.slice a l.length cap, .slice (some ⟨w.heap.size + 1 + 1, 0, none⟩) l.length l.length] 180)) := hE1.alloc (by omega) _
  have hrd : Rd (w1.alloc (Obj.cells #[.slice a l.length cap, .slice (some ⟨w.heap.size + 1 + 1, 0, none⟩) l.length l.length] 180)) w1.heap.size (w.heap.size + 1 + 1) a cap l := by
    refine ⟨by simp [go_sem], by simp [go_sem], by omega, Hr.out.ext hE2, fun p hp hx => ?_, HT.out.ext hE2, by have := HT.out.lt; omega⟩
    subst hp
    have := Hr.out.blk (by rw [opc_len]; omega)
    omega
  have p1 : (w1.alloc (Obj.cells #[.slice a l.length cap, .slice (some ⟨w.heap.size + 1 + 1, 0, none⟩) l.length l.length] 180)).cell? ⟨w.heap.size, 0, none⟩ = some (.slice none 0 0) := by rw [World.cell?_alloc_past _ _ _ (by omega)]; exact p0
  have q1 : (w1.alloc (Obj.cells #[.slice a l.length cap, .slice (some ⟨w.heap.size + 1 + 1, 0, none⟩) l.length l.length] 180)).cell? ⟨w.heap.size + 1, 0, none⟩ = some (.int .i64 0) := by rw [World.cell?_alloc_past _ _ _ (by omega)]; exact q0
  have pz1 : (w1.alloc (Obj.cells #[.slice a l.length cap, .slice (some ⟨w.heap.size + 1 + 1, 0, none⟩) l.length l.length] 180)).frozen? ⟨w.heap.size, 0, none⟩ = false := by rw [World.frozen?_alloc_past _ _ _ (by omega)]; exact pz
  have qz1 : (w1.alloc (Obj.cells #[.slice a l.length cap, .slice (some ⟨w.heap.size + 1 + 1, 0, none⟩) l.length l.length] 180)).frozen? ⟨w.heap.size + 1, 0, none⟩ = false := by rw [World.frozen?_alloc_past _ _ _ (by omega)]; exact qz
  have hs2 : w1.heap.size < (w1.alloc (Obj.cells #[.slice a l.length cap, .slice (some ⟨w.heap.size + 1 + 1, 0, none⟩) l.length l.length] 180)).heap.size := by simp
  generalize w1.alloc (Obj.cells #[.slice a l.length cap, .slice (some ⟨w.heap.size + 1 + 1, 0, none⟩) l.length l.length] 180) = W2 at *
  clear p0 q0 pz qz hown hg hE0 hE1
  refine (skip_any w1.heap.size (w.heap.size + 1 + 1) cap a l (by omega) (l.length + 1) 0 (List.replicate l.length 0) W2 (by omega) (by simp) hrd hrow2).mono ?_
  rw [Hsk.out]
  rintro e w3 ⟨he, hrow3, hg3⟩
  have hE3 : Ext w w3 := hE2.grown hg3 (by omega) (fun k hk => by cases hk; omega)
  have p3 := hg3.cell p1 (by simp; omega)
  have q3 := hg3.cell q1 (by simp)
  have pz3 : w3.frozen? ⟨w.heap.size, 0, none⟩ = false := (World.frozen?_of_block (hg3.block w.heap.size (by omega) (by simp; omega))).trans pz1
  have qz3 : w3.frozen? ⟨w.heap.size + 1, 0, none⟩ = false := (World.frozen?_of_block (hg3.block (w.heap.size + 1) (by omega) (by simp))).trans qz1
  have d1 := (hrd.grown hg3).c1
  have Hrow3 := Lib.hid hrow3
  clear p1 q1 pz1 qz1 hrd hrow2 hrow3 hg3 hE2
  obtain rfl : e = .returned (.int .i64 (l.length : Int)) := he
  go_wp2
  refine leaves_cons (f := 109) (args := #[.pointer (some ⟨w.heap.size, 0, none⟩), .pointer (some ⟨w.heap.size + 1, 0, none⟩)]) (by simp) (by simp [go_sem]) ?_
  refine (catch_idle _ _ _).mono ?_
  rintro e u' w'' ⟨rfl, rfl, rfl⟩
  have hT := Two.of (w := w3) (p := ⟨w.heap.size, 0, none⟩) (q := ⟨w.heap.size + 1, 0, none⟩) (x := .slice (some ⟨w.heap.size + 1 + 1, 0, none⟩) l.length l.length) (y := .int .i64 0) (by simp) p3 q3
  have hrow4 := own_setCell (own_setCell (show w3.ownsRow 0 3 1 (.slice (some ⟨w.heap.size + 1 + 1, 0, none⟩) l.length l.length) l.length (es.map (.int .i64)) from Hrow3.out) (p := ⟨w.heap.size, 0, none⟩) (.slice (some ⟨w.heap.size + 1 + 1, 0, none⟩) l.length l.length) (by simp [Value.ownBlock]; omega)) (p := ⟨w.heap.size + 1, 0, none⟩) (.int .i64 0) (by simp [Value.ownBlock])
  have hE4 : Ext w ((w3.setCell ⟨w.heap.size, 0, none⟩ (.slice (some ⟨w.heap.size + 1 + 1, 0, none⟩) l.length l.length)).setCell ⟨w.heap.size + 1, 0, none⟩ (.int .i64 0)) := (hE3.setCell (by simp) _).setCell (by simp) _
  generalize (w3.setCell ⟨w.heap.size, 0, none⟩ (.slice (some ⟨w.heap.size + 1 + 1, 0, none⟩) l.length l.length)).setCell ⟨w.heap.size + 1, 0, none⟩ (.int .i64 0) = w4 at *
  have r0 := hT.c0
  have r1 := hT.c1
  refine ⟨.tuple #[.slice (some ⟨w.heap.size + 1 + 1, 0, none⟩) l.length l.length, .int .i64 0], ?_, _, rfl, hrow4.weaken (fun k hk => by simp [Value.ownBlock] at hk; omega), hE4⟩
  simp [results, Tryz.results78, go_sem, r0, r1]

set_option maxRecDepth 100000 in
set_option maxHeartbeats 2000000 in
theorem ends_form (v : Value) (l : List Op2) (w : World) (h : Ops w v l) (ht : Tab w) (hl : l.length ≤ 60) (n : Nat) (hn : n ≠ l.length) (es : List Int) (hsk : skipL l (l.length + 1) 0 (List.replicate l.length 0) = (.ok n, es)) :
    Calls Tryz.prog 78 #[v] w fun e w' => e = .returned (.tuple #[.slice none 0 0, .int .i64 3]) ∧ Ext w w' := by
  obtain ⟨a, cap, rfl, hr⟩ := h
  have hmf : ∀ (fn : Fn) (first cap : Array Value) (w : World), (Instr.makeFunc fn first cap).run Tryz.prog w = .ok (.func fn first cap) w := fun _ _ _ _ => rfl
  have HT := Lib.hid ht
  have Hr := Lib.hid hr
  have Hsk := Lib.hid hsk
  clear ht hr hsk
  go_enter_defers Tryz.func78, Tryz.ntmps78
  go_wp2_with (at_make; go_must (refine wpList_make_full _ rfl _ _ 27 rfl 0 3 (Tryz.slInts.inf.choose) (.int .i64 0) 1 Tryz.underlying27 Tryz.slInts.inf.choose_spec.1 Tryz.slInts.inf.choose_spec.2.1 Tryz.slInts.inf.choose_spec.2.2.1 .i64 .i64 l.length l.length l.length rfl rfl rfl rfl (by rw [Tryz.slInts.inf.choose_spec.2.2.2]; omega) (by unfold maxLen; omega) (Nat.zero_le _) ?_))
  intro w1 hown hg
  rw [toList_madeCells_one] at hown
  have hE0 : Ext w ((w.alloc (Obj.cells #[.slice none 0 0] 27)).alloc (Obj.cells #[.int .i64 0] 45)) := ((Ext.refl w).alloc (Nat.le_refl _) _).alloc (by simp) _
  have hE1 : Ext w w1 := hE0.grown hg (by simp; omega) (by simp)
  have hs1 : w.heap.size + 1 + 1 < w1.heap.size := (hown.lt _ rfl).2
  have p0 : w1.cell? ⟨w.heap.size, 0, none⟩ = some (.slice none 0 0) := hg.cell (by simp [go_sem]) (by simp)
  have q0 : w1.cell? ⟨w.heap.size + 1, 0, none⟩ = some (.int .i64 0) := hg.cell (by simp [go_sem]) (by simp)
  have pz : w1.frozen? ⟨w.heap.size, 0, none⟩ = false := (World.frozen?_of_block (hg.block w.heap.size (by simp; omega) (by simp))).trans (by simp [go_sem])
  have qz : w1.frozen? ⟨w.heap.size + 1, 0, none⟩ = false := (World.frozen?_of_block (hg.block (w.heap.size + 1) (by simp) (by simp))).trans (by simp [go_sem])
  go_wp2_with fail
  have hrow2 : EndsRow (w1.alloc (Obj.cells #[.slice a l.length cap, .slice (some ⟨w.heap.size + 1 + 1, 0, none⟩) l.length l.length] 180)) (w.heap.size + 1 + 1) l.length (List.replicate l.length 0) := by
    have := hown.alloc (Obj.cells #[.slice a l.length cap, .slice (some ⟨w.heap.size + 1 + 1, 0, none⟩) l.length l.length] 180)
    unfold EndsRow
    simpa using this
  have hE2 : Ext w (w1.alloc (Obj.cells #[.slice a l.length cap, .slice (some ⟨w.heap.size + 1 + 1, 0, none⟩) l.length l.length] 180)) := hE1.alloc (by omega) _
  have hrd : Rd (w1.alloc (Obj.cells #[.slice a l.length cap, .slice (some ⟨w.heap.size + 1 + 1, 0, none⟩) l.length l.length] 180)) w1.heap.size (w.heap.size + 1 + 1) a cap l := by
    refine ⟨by simp [go_sem], by simp [go_sem], by omega, Hr.out.ext hE2, fun p hp hx => ?_, HT.out.ext hE2, by have := HT.out.lt; omega⟩
    subst hp
    have := Hr.out.blk (by rw [opc_len]; omega)
    omega
  have p1 : (w1.alloc (Obj.cells #[.slice a l.length cap, .slice (some ⟨w.heap.size + 1 + 1, 0, none⟩) l.length l.length] 180)).cell? ⟨w.heap.size, 0, none⟩ = some (.slice none 0 0) := by rw [World.cell?_alloc_past _ _ _ (by omega)]; exact p0
  have q1 : (w1.alloc (Obj.cells #[.slice a l.length cap, .slice (some ⟨w.heap.size + 1 + 1, 0, none⟩) l.length l.length] 180)).cell? ⟨w.heap.size + 1, 0, none⟩ = some (.int .i64 0) := by rw [World.cell?_alloc_past _ _ _ (by omega)]; exact q0
  have pz1 : (w1.alloc (Obj.cells #[.slice a l.length cap, .slice (some ⟨w.heap.size + 1 + 1, 0, none⟩) l.length l.length] 180)).frozen? ⟨w.heap.size, 0, none⟩ = false := by rw [World.frozen?_alloc_past _ _ _ (by omega)]; exact pz
  have qz1 : (w1.alloc (Obj.cells #[.slice a l.length cap, .slice (some ⟨w.heap.size + 1 + 1, 0, none⟩) l.length l.length] 180)).frozen? ⟨w.heap.size + 1, 0, none⟩ = false := by rw [World.frozen?_alloc_past _ _ _ (by omega)]; exact qz
  have hs2 : w1.heap.size < (w1.alloc (Obj.cells #[.slice a l.length cap, .slice (some ⟨w.heap.size + 1 + 1, 0, none⟩) l.length l.length] 180)).heap.size := by simp
  generalize w1.alloc (Obj.cells #[.slice a l.length cap, .slice (some ⟨w.heap.size + 1 + 1, 0, none⟩) l.length l.length] 180) = W2 at *
  clear p0 q0 pz qz hown hg hE0 hE1
  refine (skip_any w1.heap.size (w.heap.size + 1 + 1) cap a l (by omega) (l.length + 1) 0 (List.replicate l.length 0) W2 (by omega) (by simp) hrd hrow2).mono ?_
  rw [Hsk.out]
  rintro e w3 ⟨he, hrow3, hg3⟩
  have hE3 : Ext w w3 := hE2.grown hg3 (by omega) (fun k hk => by cases hk; omega)
  have p3 := hg3.cell p1 (by simp; omega)
  have q3 := hg3.cell q1 (by simp)
  have pz3 : w3.frozen? ⟨w.heap.size, 0, none⟩ = false := (World.frozen?_of_block (hg3.block w.heap.size (by omega) (by simp; omega))).trans pz1
  have qz3 : w3.frozen? ⟨w.heap.size + 1, 0, none⟩ = false := (World.frozen?_of_block (hg3.block (w.heap.size + 1) (by omega) (by simp))).trans qz1
  have d1 := (hrd.grown hg3).c1
  have Hrow3 := Lib.hid hrow3
  clear p1 q1 pz1 qz1 hrd hrow2 hrow3 hg3 hE2
  obtain rfl : e = .returned (.int .i64 (n : Int)) := he
  have hne : ((n : Int) != (l.length : Int)) = true := by rw [bne_iff_ne]; omega
  go_wp2
  refine leaves_cons (f := 109) (args := #[.pointer (some ⟨w.heap.size, 0, none⟩), .pointer (some ⟨w.heap.size + 1, 0, none⟩)]) (by simp) (by simp [go_sem]) ?_
  refine (catch_panicking ⟨w.heap.size, 0, none⟩ ⟨w.heap.size + 1, 0, none⟩ 3 0 _ [] w3 (by simp) p3 pz3 q3 qz3).mono ?_
  rintro e u' w4 ⟨rfl, rfl, hT⟩
  have r0 := hT.c0
  have r1 := hT.c1
  have hE4 : Ext w w4 := Below.trans hE3 ⟨hT.os, hT.tape, hT.output, by rw [hT.size]; exact Nat.le_refl _, fun k hk => hT.block k (by simp; omega) (by simp; omega)⟩
  refine ⟨.tuple #[.slice none 0 0, .int .i64 3], ?_, rfl, hE4⟩
  simp [results, Tryz.results78, go_sem, r0, r1]

set_option maxRecDepth 100000 in
set_option maxHeartbeats 2000000 in
theorem ends_err (v : Value) (l : List Op2) (w : World) (h : Ops w v l) (ht : Tab w) (hl : l.length ≤ 60) (c : Int) (es : List Int) (hsk : skipL l (l.length + 1) 0 (List.replicate l.length 0) = (.error c, es)) :
    Calls Tryz.prog 78 #[v] w fun e w' => e = .returned (.tuple #[.slice none 0 0, .int .i64 c]) ∧ Ext w w' := by
  obtain ⟨a, cap, rfl, hr⟩ := h
  have hmf : ∀ (fn : Fn) (first cap : Array Value) (w : World), (Instr.makeFunc fn first cap).run Tryz.prog w = .ok (.func fn first cap) w := fun _ _ _ _ => rfl
  have HT := Lib.hid ht
  have Hr := Lib.hid hr
  have Hsk := Lib.hid hsk
  clear ht hr hsk
  go_enter_defers Tryz.func78, Tryz.ntmps78
  go_wp2_with (at_make; go_must (refine wpList_make_full _ rfl _ _ 27 rfl 0 3 (Tryz.slInts.inf.choose) (.int .i64 0) 1 Tryz.underlying27 Tryz.slInts.inf.choose_spec.1 Tryz.slInts.inf.choose_spec.2.1 Tryz.slInts.inf.choose_spec.2.2.1 .i64 .i64 l.length l.length l.length rfl rfl rfl rfl (by rw [Tryz.slInts.inf.choose_spec.2.2.2]; omega) (by unfold maxLen; omega) (Nat.zero_le _) ?_))
  intro w1 hown hg
  rw [toList_madeCells_one] at hown
  have hE0 : Ext w ((w.alloc (Obj.cells #[.slice none 0 0] 27)).alloc (Obj.cells #[.int .i64 0] 45)) := ((Ext.refl w).alloc (Nat.le_refl _) _).alloc (by simp) _
  have hE1 : Ext w w1 := hE0.grown hg (by simp; omega) (by simp)
  have hs1 : w.heap.size + 1 + 1 < w1.heap.size := (hown.lt _ rfl).2
  have p0 : w1.cell? ⟨w.heap.size, 0, none⟩ = some (.slice none 0 0) := hg.cell (by simp [go_sem]) (by simp)
  have q0 : w1.cell? ⟨w.heap.size + 1, 0, none⟩ = some (.int .i64 0) := hg.cell (by simp [go_sem]) (by simp)
  have pz : w1.frozen? ⟨w.heap.size, 0, none⟩ = false := (World.frozen?_of_block (hg.block w.heap.size (by simp; omega) (by simp))).trans (by simp [go_sem])
  have qz : w1.frozen? ⟨w.heap.size + 1, 0, none⟩ = false := (World.frozen?_of_block (hg.block (w.heap.size + 1) (by simp) (by simp))).trans (by simp [go_sem])
  go_wp2_with fail
  have hrow2 : EndsRow (w1.alloc (Obj.cells #[.slice a l.length cap, .slice (some ⟨w.heap.size + 1 + 1, 0, none⟩) l.length l.length] 180)) (w.heap.size + 1 + 1) l.length (List.replicate l.length 0) := by
    have := hown.alloc (Obj.cells #[.slice a l.length cap, .slice (some ⟨w.heap.size + 1 + 1, 0, none⟩) l.length l.length] 180)
    unfold EndsRow
    simpa using this
  have hE2 : Ext w (w1.alloc (Obj.cells #[.slice a l.length cap, .slice (some ⟨w.heap.size + 1 + 1, 0, none⟩) l.length l.length] 180)) := hE1.alloc (by omega) _
  have hrd : Rd (w1.alloc (Obj.cells #[.slice a l.length cap, .slice (some ⟨w.heap.size + 1 + 1, 0, none⟩) l.length l.length] 180)) w1.heap.size (w.heap.size + 1 + 1) a cap l := by
    refine ⟨by simp [go_sem], by simp [go_sem], by omega, Hr.out.ext hE2, fun p hp hx => ?_, HT.out.ext hE2, by have := HT.out.lt; omega⟩
    subst hp
    have := Hr.out.blk (by rw [opc_len]; omega)
    omega
  have p1 : (w1.alloc (Obj.cells #[.slice a l.length cap, .slice (some ⟨w.heap.size + 1 + 1, 0, none⟩) l.length l.length] 180)).cell? ⟨w.heap.size, 0, none⟩ = some (.slice none 0 0) := by rw [World.cell?_alloc_past _ _ _ (by omega)]; exact p0
  have q1 : (w1.alloc (Obj.cells #[.slice a l.length cap, .slice (some ⟨w.heap.size + 1 + 1, 0, none⟩) l.length l.length] 180)).cell? ⟨w.heap.size + 1, 0, none⟩ = some (.int .i64 0) := by rw [World.cell?_alloc_past _ _ _ (by omega)]; exact q0
  have pz1 : (w1.alloc (Obj.cells #[.slice a l.length cap, .slice (some ⟨w.heap.size + 1 + 1, 0, none⟩) l.length l.length] 180)).frozen? ⟨w.heap.size, 0, none⟩ = false := by rw [World.frozen?_alloc_past _ _ _ (by omega)]; exact pz
  have qz1 : (w1.alloc (Obj.cells #[.slice a l.length cap, .slice (some ⟨w.heap.size + 1 + 1, 0, none⟩) l.length l.length] 180)).frozen? ⟨w.heap.size + 1, 0, none⟩ = false := by rw [World.frozen?_alloc_past _ _ _ (by omega)]; exact qz
  have hs2 : w1.heap.size < (w1.alloc (Obj.cells #[.slice a l.length cap, .slice (some ⟨w.heap.size + 1 + 1, 0, none⟩) l.length l.length] 180)).heap.size := by simp
  generalize w1.alloc (Obj.cells #[.slice a l.length cap, .slice (some ⟨w.heap.size + 1 + 1, 0, none⟩) l.length l.length] 180) = W2 at *
  clear p0 q0 pz qz hown hg hE0 hE1
  refine (skip_any w1.heap.size (w.heap.size + 1 + 1) cap a l (by omega) (l.length + 1) 0 (List.replicate l.length 0) W2 (by omega) (by simp) hrd hrow2).mono ?_
  rw [Hsk.out]
  rintro e w3 ⟨he, hrow3, hg3⟩
  have hE3 : Ext w w3 := hE2.grown hg3 (by omega) (fun k hk => by cases hk; omega)
  have p3 := hg3.cell p1 (by simp; omega)
  have q3 := hg3.cell q1 (by simp)
  have pz3 : w3.frozen? ⟨w.heap.size, 0, none⟩ = false := (World.frozen?_of_block (hg3.block w.heap.size (by omega) (by simp; omega))).trans pz1
  have qz3 : w3.frozen? ⟨w.heap.size + 1, 0, none⟩ = false := (World.frozen?_of_block (hg3.block (w.heap.size + 1) (by omega) (by simp))).trans qz1
  have d1 := (hrd.grown hg3).c1
  have Hrow3 := Lib.hid hrow3
  clear p1 q1 pz1 qz1 hrd hrow2 hrow3 hg3 hE2
  obtain rfl : e = .panicked [{ v := errV c, recovered := false }] := he
  go_wp2
  refine leaves_cons (f := 109) (args := #[.pointer (some ⟨w.heap.size, 0, none⟩), .pointer (some ⟨w.heap.size + 1, 0, none⟩)]) (by simp) (by simp [go_sem]) ?_
  refine (catch_panicking ⟨w.heap.size, 0, none⟩ ⟨w.heap.size + 1, 0, none⟩ c 0 _ [] w3 (by simp) p3 pz3 q3 qz3).mono ?_
  rintro e u' w4 ⟨rfl, rfl, hT⟩
  have r0 := hT.c0
  have r1 := hT.c1
  have hE4 : Ext w w4 := Below.trans hE3 ⟨hT.os, hT.tape, hT.output, by rw [hT.size]; exact Nat.le_refl _, fun k hk => hT.block k (by simp; omega) (by simp; omega)⟩
  refine ⟨.tuple #[.slice none 0 0, .int .i64 c], ?_, rfl, hE4⟩
  simp [results, Tryz.results78, go_sem, r0, r1]

/-- polish.Ends: the table, or the errno. -/
theorem ends_any (v : Value) (l : List Op2) (w : World) (h : Ops w v l) (ht : Tab w) :
    Calls Tryz.prog 78 #[v] w (EndsPost w (endsL l)) := by
  unfold endsL
  split
  · rename_i hl
    exact (ends_long v l w h hl).mono fun e w' ⟨h1, h2⟩ => ⟨h2, h1⟩
  · rename_i hl
    rcases hsk : skipL l (l.length + 1) 0 (List.replicate l.length 0) with ⟨r, es⟩
    have hbd := skipL_bd l (l.length + 1) 0 (List.replicate l.length 0)
    rw [hsk] at hbd
    cases r with
    | error c => exact (ends_err v l w h ht (by omega) c es hsk).mono fun e w' ⟨h1, h2⟩ => ⟨h2, h1⟩
    | ok n =>
      have hn := hbd.1 n rfl
      have hes : es.length = l.length := by simpa using hbd.2
      by_cases hnl : n = l.length
      · subst hnl
        simp only [if_true]
        refine (ends_ok v l w h ht (by omega) es hsk).mono ?_
        rintro e w' ⟨v', h1, h2, h3⟩
        exact ⟨h3, v', h1, by rw [hes]; exact h2⟩
      · simp only [hnl, if_false]
        exact (ends_form v l w h ht (by omega) n hnl es hsk).mono fun e w' ⟨h1, h2⟩ => ⟨h2, h1⟩

end Go.Proofs.YtbmimdnpchldlaaGreatDoor

namespace Go.Proofs.YtbmimdnpchldlaaGreatDoor
open Go.RowKit

theorem Tryz.slOps : SlTy Tryz.prog 33 75 (.agg #[.int .i64 0, .int .i64 0]) 2 16 := SlTy.mk' Tryz.underlying33 (by kernel_rfl) (by rfl) (by omega)

/-- What a generator's block holds. -/
structure Gr (w : World) (G B : Nat) (ar : Option Addr) (cr : Nat) (raw : List Op2) (p : Nat) (vars props tempo : Int) (out : List Op2) : Prop where
  c0 : w.cell? ⟨G, 0, none⟩ = some (.slice ar raw.length cr)
  c1 : w.cell? ⟨G, 1, none⟩ = some (.int .i64 p)
  c2 : w.cell? ⟨G, 2, none⟩ = some (.int .i64 vars)
  c3 : w.cell? ⟨G, 3, none⟩ = some (.int .i64 props)
  c4 : w.cell? ⟨G, 4, none⟩ = some (.int .i64 tempo)
  c5 : ∃ ao co, w.cell? ⟨G, 5, none⟩ = some (.slice ao out.length co) ∧ w.ownsRow B 75 2 (.slice ao out.length co) out.length (out.flatMap opc) ∧ (Value.slice ao out.length co).ownBlock ≠ some G
  fz : ∀ i, w.frozen? ⟨G, i, none⟩ = false
  row : Row w 2 ar raw.length cr (raw.flatMap opc)
  old : ∀ q, ar = some q → 0 < raw.length → q.block < B
  new : B ≤ G

theorem cells_of {w w' : World} {k i : Nat} {v : Value} (h : w.cell? ⟨k, i, none⟩ = some v) (hb : w'.heap[k]? = w.heap[k]?) : w'.cell? ⟨k, i, none⟩ = some v :=
  (World.cell?_of_block (w := w) (a := ⟨k, i, none⟩) hb).trans h

/-- New blocks alone. -/
theorem Gr.ext {w w' : World} {G B : Nat} {ar : Option Addr} {cr : Nat} {raw : List Op2} {p : Nat} {vars props tempo : Int} {out : List Op2} (h : Gr w G B ar cr raw p vars props tempo out) (hb : Ext w w') : Gr w' G B ar cr raw p vars props tempo out := by
  have hG := World.block_lt_of_cell? _ _ h.c0
  have hk := hb.block G hG
  obtain ⟨ao, co, h5, h6, h7⟩ := h.c5
  exact ⟨cells_of h.c0 hk, cells_of h.c1 hk, cells_of h.c2 hk, cells_of h.c3 hk, cells_of h.c4 hk, ⟨ao, co, cells_of h5 hk, own_ext h6 hb, h7⟩,
    fun i => (World.frozen?_of_block (w := w) hk).trans (h.fz i), h.row.ext hb, h.old, h.new⟩

/-- One of its own cells is written. -/
theorem cell_set {w : World} {k i : Nat} {v u : Value} (h : w.cell? ⟨k, i, none⟩ = some u) : (w.setCell ⟨k, i, none⟩ v).cell? ⟨k, i, none⟩ = some v := World.cell?_setCell_same _ _ _ h
theorem cell_set_ne {w : World} {k i j : Nat} {v u : Value} (h : w.cell? ⟨k, i, none⟩ = some u) (hn : i ≠ j) : (w.setCell ⟨k, j, none⟩ v).cell? ⟨k, i, none⟩ = some u := by
  rw [World.cell?_setCell_other _ _ _ _ (by intro e; simp only [Addr.mk.injEq] at e; exact hn e.2.1.symm)]; exact h

theorem ext_set {w X : World} (h : Ext w X) (a : Addr) (v : Value) : Ext (w.setCell a v) (X.setCell a v) := by
  refine ⟨h.os, h.tape, h.output, by simpa using h.size, fun k hk => ?_⟩
  have := h.block k (by simpa using hk)
  simp only [World.setCell, Array.getElem?_modify, this]

theorem below_trans' {B : Nat} {a b c : World} (h : Below B a b) (k : Ext b c) (hB : B ≤ b.heap.size) : Below B a c := h.trans (k.mono hB)

theorem row_setCell {w : World} {sz : Nat} {a : Option Addr} {n cap : Nat} {xs : List Value} (h : Row w sz a n cap xs) {q : Addr} (v : Value) (hq : ∀ p, a = some p → 0 < xs.length → p.block ≠ q.block) : Row (w.setCell q v) sz a n cap xs :=
  h.keep fun p hp hx => Below.heap_setCell _ _ _ _ (hq p hp hx)

theorem Gr.at' {w : World} {G B : Nat} {ar : Option Addr} {cr : Nat} {raw : List Op2} {p : Nat} {vars props tempo : Int} {out : List Op2} (h : Gr w G B ar cr raw p vars props tempo out) (p' : Nat) :
    Gr (w.setCell ⟨G, 1, none⟩ (.int .i64 p')) G B ar cr raw p' vars props tempo out := by
  obtain ⟨ao, co, h5, h6, h7⟩ := h.c5
  have hG := h.new
  exact ⟨cell_set_ne h.c0 (by omega), cell_set h.c1, cell_set_ne h.c2 (by omega), cell_set_ne h.c3 (by omega), cell_set_ne h.c4 (by omega), ⟨ao, co, cell_set_ne h5 (by omega), own_setCell h6 _ h7, h7⟩,
    fun i => (World.frozen?_setCell _ _ _ _).trans (h.fz i), row_setCell h.row _ (fun q hq hx => by have := h.old q hq (by rw [opc_len] at hx; omega); show q.block ≠ G; omega), h.old, h.new⟩

theorem Gr.tempo' {w : World} {G B : Nat} {ar : Option Addr} {cr : Nat} {raw : List Op2} {p : Nat} {vars props tempo : Int} {out : List Op2} (h : Gr w G B ar cr raw p vars props tempo out) (t : Int) :
    Gr (w.setCell ⟨G, 4, none⟩ (.int .i64 t)) G B ar cr raw p vars props t out := by
  obtain ⟨ao, co, h5, h6, h7⟩ := h.c5
  have hG := h.new
  exact ⟨cell_set_ne h.c0 (by omega), cell_set_ne h.c1 (by omega), cell_set_ne h.c2 (by omega), cell_set_ne h.c3 (by omega), cell_set h.c4, ⟨ao, co, cell_set_ne h5 (by omega), own_setCell h6 _ h7, h7⟩,
    fun i => (World.frozen?_setCell _ _ _ _).trans (h.fz i), row_setCell h.row _ (fun q hq hx => by have := h.old q hq (by rw [opc_len] at hx; omega); show q.block ≠ G; omega), h.old, h.new⟩

set_option maxRecDepth 100000 in
set_option maxHeartbeats 1000000 in
theorem take_any (w : World) (G B : Nat) (ar : Option Addr) (cr : Nat) (raw : List Op2) (p : Nat) (vars props tempo : Int) (out : List Op2) (h : Gr w G B ar cr raw p vars props tempo out) (hp : p ≤ 100000) :
    Calls Tryz.prog 95 #[.pointer (some ⟨G, 0, none⟩)] w fun e w' =>
      e = .returned (.agg #[.int .i64 (rawAt raw p).1, .int .i64 (rawAt raw p).2]) ∧ Gr w' G B ar cr raw (p + 1) vars props tempo out ∧ Below B w w' := by
  have hm : raw.length ≤ 9223372036854775807 := by have := h.row.le; have := h.row.max; unfold maxLen at this; omega
  have hw0 : B ≤ w.heap.size := by have := World.block_lt_of_cell? _ _ h.c0; have := h.new; simp at *; omega
  have hE : Ext w ((w.alloc (Obj.cells #[.int .i64 0, .int .i64 0] 163)).alloc (Obj.cells #[.int .i64 0, .int .i64 0] 163)) := ((Ext.refl w).alloc (Nat.le_refl _) _).alloc (by simp) _
  have g := h.ext hE
  have t0 : ((w.alloc (Obj.cells #[.int .i64 0, .int .i64 0] 163)).alloc (Obj.cells #[.int .i64 0, .int .i64 0] 163)).cell? ⟨w.heap.size, 0, none⟩ = some (.int .i64 0) := by simp [go_sem]
  have t1 : ((w.alloc (Obj.cells #[.int .i64 0, .int .i64 0] 163)).alloc (Obj.cells #[.int .i64 0, .int .i64 0] 163)).cell? ⟨w.heap.size, 1, none⟩ = some (.int .i64 0) := by simp [go_sem]
  have u0 : ((w.alloc (Obj.cells #[.int .i64 0, .int .i64 0] 163)).alloc (Obj.cells #[.int .i64 0, .int .i64 0] 163)).cell? ⟨w.heap.size + 1, 0, none⟩ = some (.int .i64 0) := by simp [go_sem]
  have u1 : ((w.alloc (Obj.cells #[.int .i64 0, .int .i64 0] 163)).alloc (Obj.cells #[.int .i64 0, .int .i64 0] 163)).cell? ⟨w.heap.size + 1, 1, none⟩ = some (.int .i64 0) := by simp [go_sem]
  have tz : ∀ i, ((w.alloc (Obj.cells #[.int .i64 0, .int .i64 0] 163)).alloc (Obj.cells #[.int .i64 0, .int .i64 0] 163)).frozen? ⟨w.heap.size, i, none⟩ = false := by intro i; simp [go_sem]
  have uz : ∀ i, ((w.alloc (Obj.cells #[.int .i64 0, .int .i64 0] 163)).alloc (Obj.cells #[.int .i64 0, .int .i64 0] 163)).frozen? ⟨w.heap.size + 1, i, none⟩ = false := by intro i; simp [go_sem]
  have hG : G < w.heap.size := World.block_lt_of_cell? _ _ h.c0
  have H := Lib.hid h
  clear h
  go_enter Tryz.func95, Tryz.ntmps95
  go_wp2_with fail
  generalize (w.alloc (Obj.cells #[.int .i64 0, .int .i64 0] 163)).alloc (Obj.cells #[.int .i64 0, .int .i64 0] 163) = W at *
  have c0 := g.c0
  have c1 := g.c1
  have gz := g.fz 1
  have tz0 := tz 0
  have tz1 := tz 1
  have uz0 := uz 0
  have uz1 := uz 1
  have hne1 : ¬ w.heap.size = G := by omega
  have hne2 : ¬ w.heap.size + 1 = G := by omega
  have hne3 : ¬ G = w.heap.size := by omega
  have hne4 : ¬ G = w.heap.size + 1 := by omega
  have Gg := Lib.hid g
  have HE := Lib.hid hE
  clear tz uz hE
  obtain ⟨b, off, ha, hc⟩ := g.row.ops
  have HC := Lib.hid hc
  clear hc
  go_quiet (fail)
  by_cases hlt : p < raw.length
  · obtain rfl := ha (by omega)
    have k0 := (HC.out p hlt).1
    have k1 := (HC.out p hlt).2
    have hrw : rawAt raw p = raw[p] := by unfold rawAt; simp [hlt]
    have Hrw := Lib.hid hrw
    generalize raw[p] = r at *
    clear HC hrw g ha
    go_wp2_with fail
    refine region_tail 10 (by kernel_rfl) (by kernel_rfl) ?_
    simp only [List.take_succ_cons, List.take_zero, List.drop_succ_cons, List.drop_zero]
    repeat still_step
    try refine wpStill_nil ?_
    go_wp2
    have x1 : Ext w (((W.drewN (nq + 1)).setCell ⟨w.heap.size + 1, 0, none⟩ (.int .i64 r.1)).setCell ⟨w.heap.size + 1, 1, none⟩ (.int .i64 r.2)) := (((HE.out.trans (below_drewN (Ext.refl W) _)).setCell (p := ⟨w.heap.size + 1, 0, none⟩) (by simp) (.int .i64 r.1)).setCell (p := ⟨w.heap.size + 1, 1, none⟩) (by simp) (.int .i64 r.2))
    have x2 := ext_set x1 ⟨G, 1, none⟩ (.int .i64 ((p + 1 : Nat) : Int))
    have x3 := (x2.setCell (p := ⟨w.heap.size, 0, none⟩) (by simp) (.int .i64 r.1)).setCell (p := ⟨w.heap.size, 1, none⟩) (by simp) (.int .i64 r.2)
    have g3 := (H.out.at' (p + 1)).ext x3
    have b3 : Below B w _ := ((((x1.mono hw0).setCell (p := ⟨G, 1, none⟩) H.out.new (.int .i64 ((p + 1 : Nat) : Int))).setCell (p := ⟨w.heap.size, 0, none⟩) hw0 (.int .i64 r.1)).setCell (p := ⟨w.heap.size, 1, none⟩) hw0 (.int .i64 r.2))
    refine bodyPost_ret (v := .agg #[.int .i64 r.1, .int .i64 r.2]) (by simp [results, Tryz.results95, go_sem, t0, t1]) rfl ⟨by rw [Hrw.out], g3, b3⟩
  · have hrw : rawAt raw p = (0, 0) := by unfold rawAt; simp [hlt]
    have Hrw := Lib.hid hrw
    clear HC hrw g ha
    go_wp2
    have x1 : Ext w (W.drewN nq) := HE.out.trans (below_drewN (Ext.refl W) _)
    have x2 := ext_set x1 ⟨G, 1, none⟩ (.int .i64 ((p + 1 : Nat) : Int))
    have x3 := (x2.setCell (p := ⟨w.heap.size, 0, none⟩) (by simp) (.int .i64 0)).setCell (p := ⟨w.heap.size, 1, none⟩) (by simp) (.int .i64 0)
    have g3 := (H.out.at' (p + 1)).ext x3
    have b3 : Below B w _ := ((((x1.mono hw0).setCell (p := ⟨G, 1, none⟩) H.out.new (.int .i64 ((p + 1 : Nat) : Int))).setCell (p := ⟨w.heap.size, 0, none⟩) hw0 (.int .i64 0)).setCell (p := ⟨w.heap.size, 1, none⟩) hw0 (.int .i64 0))
    refine bodyPost_ret (v := .agg #[.int .i64 0, .int .i64 0]) (by simp [results, Tryz.results95, go_sem, t0, t1]) rfl ⟨by rw [Hrw.out], g3, b3⟩

theorem opc_one (l : List Op2) : ∀ u ∈ l.flatMap opc, u.oneCell' = true := by
  intro u hu
  obtain ⟨o, _, ho⟩ := List.mem_flatMap.1 hu
  simp [opc] at ho
  rcases ho with rfl | rfl <;> rfl

theorem Row.newOp (w : World) (t : TypeId) (k v : Int) : Row (w.alloc (.cells #[.int .i64 k, .int .i64 v] t)) 2 (some ⟨w.heap.size, 0, none⟩) 1 1 (opc (k, v)) := by
  refine ⟨rfl, Nat.le_refl _, by unfold maxLen; omega, w.heap.size, 0, (by intro h; cases h), fun _ => rfl, fun j u hu => ?_⟩
  rw [Nat.zero_add, World.cell?_alloc_at _ _ _ _ rfl]
  simpa [opc] using hu

set_option maxRecDepth 100000 in
set_option maxHeartbeats 1000000 in
theorem put_op (w : World) (G B : Nat) (ar : Option Addr) (cr : Nat) (raw : List Op2) (p : Nat) (vars props tempo : Int) (out : List Op2) (k v : Int) (h : Gr w G B ar cr raw p vars props tempo out) (ho : out.length ≤ 10000) :
    Calls Tryz.prog 96 #[.pointer (some ⟨G, 0, none⟩), .int .i64 k, .int .i64 v] w fun e w' =>
      e = .returned (.tuple #[]) ∧ Gr w' G B ar cr raw p vars props tempo (out ++ [(k, v)]) ∧ Below B w w' := by
  have hG : G < w.heap.size := World.block_lt_of_cell? _ _ h.c0
  have hBG := h.new
  obtain ⟨ao, co, c5, h6, h7⟩ := h.c5
  have gz := h.fz 5
  have H := Lib.hid h
  have H6 := Lib.hid h6
  have H7 := Lib.hid h7
  clear h h7
  have h6a := h6.alloc (Obj.cells #[.int .i64 k, .int .i64 v] 75)
  clear h6
  go_enter Tryz.func96, Tryz.ntmps96
  go_wp2_with (at_builtin; go_must (refine wpl_append rfl rfl Tryz.slOps B rfl h6a rfl (Row.newOp _ _ _ _) (by simp [opc, Value.oneCell']) (by unfold maxLen; omega) (by omega) (by simp; omega) ?_))
  intro v1 w1 hown hg hb _
  obtain ⟨a1, d1, rfl, hr1⟩ := hown.row
  have hE1 : Below B w w1 := (((Ext.refl w).alloc (Nat.le_refl _) _).mono (by omega)).grown hg (by simp; omega) (fun k hk => (H6.out.lt k hk).1)
  have hnG : (Value.slice a1 (out.length + 1) d1).ownBlock ≠ some G := by
    rcases hb with hb | hb
    · rw [hb]; exact H7.out
    · rw [hb]; simp; omega
  have hblk : ∀ i, i < w.heap.size → some i ≠ (Value.slice ao out.length co).ownBlock → w1.heap[i]? = w.heap[i]? := fun i hi hn => (hg.block i (by simp; omega) hn).trans (Below.heap_alloc _ _ _ hi)
  have hGb := hblk G hG (fun e => H7.out e.symm)
  have hc5 := cells_of c5 hGb
  have hz5 : w1.frozen? ⟨G, 5, none⟩ = false := (World.frozen?_of_block (w := w) hGb).trans gz
  have Hown := Lib.hid hown
  clear hown hg hb hr1 c5 gz h6a
  go_wp2
  go_end0
  refine ⟨rfl, ?_, hE1.setCell hBG _⟩
  have hh := H.out
  refine ⟨cell_set_ne (cells_of hh.c0 hGb) (by omega), cell_set_ne (cells_of hh.c1 hGb) (by omega), cell_set_ne (cells_of hh.c2 hGb) (by omega), cell_set_ne (cells_of hh.c3 hGb) (by omega), cell_set_ne (cells_of hh.c4 hGb) (by omega), ⟨a1, d1, ?_, ?_, ?_⟩, fun i => ?_, ?_, hh.old, hh.new⟩
  · have := cell_set (v := .slice a1 (out.length + 1) d1) hc5
    simpa using this
  · have := own_setCell Hown.out (p := ⟨G, 5, none⟩) (.slice a1 (out.length + 1) d1) hnG
    simpa using this
  · simpa using hnG
  · exact (World.frozen?_setCell _ _ _ _).trans ((World.frozen?_of_block (w := w) hGb).trans (hh.fz i))
  · refine hh.row.keep fun q hq hx => ?_
    have hl : 0 < raw.length := by rw [opc_len] at hx; omega
    have hqB := hh.old q hq hl
    rw [Below.heap_setCell _ _ _ _ (show q.block ≠ G by omega)]
    refine hblk _ (by omega) (fun e => ?_)
    have := (H6.out.lt _ e.symm).1
    omega

end Go.Proofs.YtbmimdnpchldlaaGreatDoor

namespace Go.Proofs.YtbmimdnpchldlaaGreatDoor
open Go.RowKit

def RawI (raw : List Op2) : Prop := ∀ p, I64 (rawAt raw p).1 ∧ I64 (rawAt raw p).2

/-- What a call of a generator leaves. -/
def Made (w : World) (G B : Nat) (ar : Option Addr) (cr : Nat) (raw : List Op2) (vars props tempo : Int) (out : List Op2) (r : Tm × Nat) (e : Ending) (w' : World) : Prop :=
  e = .returned (.tuple #[]) ∧ Gr w' G B ar cr raw r.2 vars props tempo (out ++ r.1.flat) ∧ Below B w w'

theorem Made.mk {w w' : World} {G B : Nat} {ar : Option Addr} {cr : Nat} {raw : List Op2} {vars props tempo : Int} {out out' : List Op2} {r : Tm × Nat} {e : Ending} {p : Nat}
    (he : e = .returned (.tuple #[])) (hg : Gr w' G B ar cr raw p vars props tempo out') (hb : Below B w w') (hp : p = r.2) (ho : out' = out ++ r.1.flat) : Made w G B ar cr raw vars props tempo out r e w' := by
  subst hp; subst ho; exact ⟨he, hg, hb⟩

set_option maxRecDepth 100000 in
set_option maxHeartbeats 2000000 in
theorem number_zero (w : World) (G B : Nat) (ar : Option Addr) (cr : Nat) (raw : List Op2) (p : Nat) (vars props tempo : Int) (out : List Op2) (h : Gr w G B ar cr raw p vars props tempo out)
    (hraw : RawI raw) (hp : p ≤ 1000) (ho : out.length ≤ 1000) (hv2 : vars ≤ 1000) :
    Calls Tryz.prog 102 #[.pointer (some ⟨G, 0, none⟩), .int .i64 0] w (Made w G B ar cr raw vars props tempo out (numT raw vars 0 p)) := by
  have TK := Lib.hid (take_any w G B ar cr raw p vars props tempo out h (by omega))
  have hBw : B ≤ w.heap.size := by have := World.block_lt_of_cell? _ _ h.c0; have := h.new; simp at *; omega
  have hr := hraw p
  have hfin : numT raw vars 0 p = (numLeaf (rawAt raw p) vars (pk (rawAt raw p).1 2), p + 1) := rfl
  rw [hfin]
  generalize rawAt raw p = r at *
  obtain ⟨⟨r1, r2⟩, r3, r4⟩ := hr
  have hp2 := pk_bd r.1 2 (by omega)
  have hp9 := pk_bd r.2 9 (by omega)
  obtain ⟨x1, x2⟩ := hp2
  obtain ⟨x3, x4⟩ := hp9
  have HF := Lib.hid hfin
  have Hp5 := Lib.hid (pk_bd r.1 5 (by omega))
  clear h hraw hfin
  go_enter Tryz.func102, Tryz.ntmps102
  go_wp2_with fail
  refine TK.out.mono ?_
  rintro e w1 ⟨rfl, g1, b1⟩
  have hg1 := g1.ext ((Ext.refl w1).alloc (Nat.le_refl _) (Obj.cells #[.int .i64 r.1, .int .i64 r.2] 163))
  have hb1 : Below B w (w1.alloc (Obj.cells #[.int .i64 r.1, .int .i64 r.2] 163)) := b1.alloc (by have := b1.size; omega) _
  have q0 : (w1.alloc (Obj.cells #[.int .i64 r.1, .int .i64 r.2] 163)).cell? ⟨w1.heap.size, 0, none⟩ = some (.int .i64 r.1) := by simp [go_sem]
  have q1 : (w1.alloc (Obj.cells #[.int .i64 r.1, .int .i64 r.2] 163)).cell? ⟨w1.heap.size, 1, none⟩ = some (.int .i64 r.2) := by simp [go_sem]
  have c1 := hg1.c1
  have c2 := hg1.c2
  clear TK g1 b1
  go_wp2_with fail
  refine (picked_any r.1 5 _ r1 r2 (by omega) (by omega)).mono ?_
  rintro e w' ⟨rfl, rfl⟩
  go_wp2_with fail
  refine (picked_any r.1 2 _ r1 r2 (by omega) (by omega)).mono ?_
  rintro e w' ⟨rfl, rfl⟩
  go_wp2_with fail
  · have hk : pk r.1 2 = 1 := by assumption
    have hv : 0 < vars := by assumption
    have hpv := pk_bd r.2 vars hv
    have HS := Lib.hid (fun wx : World => still_of (picked_any r.2 vars wx r3 r4 hv (by omega)))
    have Hk := Lib.hid hk
    clear hk
    refine region_tail 8 (by kernel_rfl) (by kernel_rfl) ?_
    generalize (w1.alloc (Obj.cells #[.int .i64 r.1, .int .i64 r.2] 163)) = W at *
    have hg1' := hg1.ext (Below.drew (Ext.refl W))
    have hb1' := hb1.drew
    have q0' : W.drew.cell? ⟨w1.heap.size, 1, none⟩ = some (.int .i64 r.2) := q1
    have c2' : W.drew.cell? ⟨G, 2, none⟩ = some (.int .i64 vars) := c2
    generalize W.drew = Wd at *
    clear hg1 hb1 q0 q1 c1 c2
    simp only [List.take_succ_cons, List.take_zero, List.drop_succ_cons, List.drop_zero]
    iterate 7 still_step
    still_call (HS.out Wd)
    refine wpStill_nil ?_
    go_wp2_with fail
    refine (put_op _ G B ar cr raw (p + 1) vars props tempo out _ _ hg1' (by omega)).mono ?_
    rintro e w2 ⟨rfl, hg2, hb2⟩
    go_wp2
    go_end0
    exact Made.mk rfl hg2 (hb1'.trans hb2) rfl (by simp [numLeaf, Hk.out, hv, Tm.flat])
  all_goals
    refine (picked_any r.2 9 _ r3 r4 (by omega) (by omega)).mono ?_
    rintro e w' ⟨rfl, rfl⟩
    go_wp2_with fail
    refine (put_op _ G B ar cr raw (p + 1) vars props tempo out _ _ hg1 (by omega)).mono ?_
    rintro e w2 ⟨rfl, hg2, hb2⟩
    have hcond : ¬ (pk r.1 2 = 1 ∧ 0 < vars) := by omega
    have Hc := Lib.hid hcond
    clear hcond
    go_wp2
    go_end0
    exact Made.mk rfl hg2 (hb1.trans hb2) rfl (by simp [numLeaf, Hc.out, Tm.flat])

set_option maxRecDepth 100000 in
set_option maxHeartbeats 2000000 in
theorem number_succ (w : World) (G B : Nat) (ar : Option Addr) (cr : Nat) (raw : List Op2) (p : Nat) (vars props tempo : Int) (out : List Op2) (h : Gr w G B ar cr raw p vars props tempo out)
    (hraw : RawI raw) (b : Nat) (hp : p + 200 ≤ b) (ho : out.length + 200 ≤ b) (hv2 : vars ≤ 1000) (d : Nat) (_hd : d ≤ 10) (hb8 : b ≤ 1000) (hs : ∀ q, (numT raw vars d q).1.size ≤ 100)
    (ih : ∀ (w : World) (p : Nat) (out : List Op2), Gr w G B ar cr raw p vars props tempo out → p ≤ b → out.length ≤ b → Calls Tryz.prog 102 #[.pointer (some ⟨G, 0, none⟩), .int .i64 d] w (Made w G B ar cr raw vars props tempo out (numT raw vars d p))) :
    Calls Tryz.prog 102 #[.pointer (some ⟨G, 0, none⟩), .int .i64 ((d + 1 : Nat) : Int)] w (Made w G B ar cr raw vars props tempo out (numT raw vars (d + 1) p)) := by
  have TK := Lib.hid (take_any w G B ar cr raw p vars props tempo out h (by omega))
  have hBw : B ≤ w.heap.size := by have := World.block_lt_of_cell? _ _ h.c0; have := h.new; simp at *; omega
  have hr := hraw p
  have hfin : numT raw vars (d + 1) p = if numKind (rawAt raw p) p < 2 then (numLeaf (rawAt raw p) vars (numKind (rawAt raw p) p), p + 1)
    else (.n2 (numKind (rawAt raw p) p + 1) 0 (numT raw vars d (p + 1)).1 (numT raw vars d (numT raw vars d (p + 1)).2).1, (numT raw vars d (numT raw vars d (p + 1)).2).2) := rfl
  rw [hfin]
  have hkb := numKind_bd (rawAt raw p) p
  have hk0 : numKind (rawAt raw p) p = if 14 < p + 1 then pk (rawAt raw p).1 2 else pk (rawAt raw p).1 5 := rfl
  have hz1 := numT_size raw vars d (p + 1)
  have hz2 := numT_size raw vars d (numT raw vars d (p + 1)).2
  have hz3 := hs (p + 1)
  have hz4 := hs (numT raw vars d (p + 1)).2
  have hz5 := Tm.flat_len (numT raw vars d (p + 1)).1
  have ih1 := fun w' out' g h1 h2 => ih w' (p + 1) out' g h1 h2
  have ih2 := fun w' out' g h1 h2 => ih w' (numT raw vars d (p + 1)).2 out' g h1 h2
  generalize rawAt raw p = r at *
  generalize numKind r p = kk at *
  obtain ⟨z1, z2⟩ := hkb
  generalize numT raw vars d (p + 1) = t1 at *
  generalize numT raw vars d t1.2 = t2 at *
  generalize hres : (if kk < 2 then (numLeaf r vars kk, p + 1) else (Tm.n2 (kk + 1) 0 t1.1 t2.1, t2.2)) = res at *
  have HRES := Lib.hid hres
  clear hres
  obtain ⟨tm1, p1⟩ := t1
  obtain ⟨tm2, p2⟩ := t2
  simp only at hz1 hz2 hz3 hz4 hz5 ih1 ih2
  have IH1 := Lib.hid ih1
  have IH2 := Lib.hid ih2
  have HZ1 := Lib.hid hz1
  have HZ2 := Lib.hid hz2
  have HZ5 := Lib.hid hz5
  have HZ := Lib.hid hs
  have HI := Lib.hid ih
  clear ih1 ih2 hz1 hz2 hz5 ih hs
  obtain ⟨⟨r1, r2⟩, r3, r4⟩ := hr
  have hp2 := pk_bd r.1 2 (by omega)
  have hp5 := pk_bd r.1 5 (by omega)
  have hp9 := pk_bd r.2 9 (by omega)
  obtain ⟨x1, x2⟩ := hp2
  obtain ⟨x3, x4⟩ := hp9
  have HF := Lib.hid hfin
  have Hp5 := Lib.hid hp5
  have HK := Lib.hid hk0
  clear hk0 hp5
  clear h hraw hfin
  by_cases hc : 14 < p + 1
  · have hkk : kk = pk r.1 2 := by rw [HK.out, if_pos hc]
    have HKK := Lib.hid hkk
    have HKK2 : Hid (kk < 2) := by show kk < 2; omega
    have hd0 : (0 : Int) ≤ d := by omega
    clear hkk
    go_enter Tryz.func102, Tryz.ntmps102
    go_wp2_with fail
    refine TK.out.mono ?_
    rintro e w1 ⟨rfl, g1, b1⟩
    have hg1 := g1.ext ((Ext.refl w1).alloc (Nat.le_refl _) (Obj.cells #[.int .i64 r.1, .int .i64 r.2] 163))
    have hb1 : Below B w (w1.alloc (Obj.cells #[.int .i64 r.1, .int .i64 r.2] 163)) := b1.alloc (by have := b1.size; omega) _
    have q0 : (w1.alloc (Obj.cells #[.int .i64 r.1, .int .i64 r.2] 163)).cell? ⟨w1.heap.size, 0, none⟩ = some (.int .i64 r.1) := by simp [go_sem]
    have q1 : (w1.alloc (Obj.cells #[.int .i64 r.1, .int .i64 r.2] 163)).cell? ⟨w1.heap.size, 1, none⟩ = some (.int .i64 r.2) := by simp [go_sem]
    have c1 := hg1.c1
    have c2 := hg1.c2
    clear TK g1 b1
    go_wp2_with fail
    refine (picked_any r.1 5 _ r1 r2 (by omega) (by omega)).mono ?_
    rintro e w' ⟨rfl, rfl⟩
    go_wp2_with fail
    refine (picked_any r.1 2 _ r1 r2 (by omega) (by omega)).mono ?_
    rintro e w' ⟨rfl, rfl⟩
    go_wp2_with fail
    · have hk : pk r.1 2 = 1 := by assumption
      have hv : 0 < vars := by assumption
      have hpv := pk_bd r.2 vars hv
      have HS := Lib.hid (fun wx : World => still_of (picked_any r.2 vars wx r3 r4 hv (by omega)))
      have Hk := Lib.hid hk
      clear hk
      refine region_tail 8 (by kernel_rfl) (by kernel_rfl) ?_
      generalize (w1.alloc (Obj.cells #[.int .i64 r.1, .int .i64 r.2] 163)) = W at *
      have hg1' := hg1.ext (Below.drew (Ext.refl W))
      have hb1' := hb1.drew
      have q0' : W.drew.cell? ⟨w1.heap.size, 1, none⟩ = some (.int .i64 r.2) := q1
      have c2' : W.drew.cell? ⟨G, 2, none⟩ = some (.int .i64 vars) := c2
      generalize W.drew = Wd at *
      clear hg1 hb1 q0 q1 c1 c2
      simp only [List.take_succ_cons, List.take_zero, List.drop_succ_cons, List.drop_zero]
      iterate 7 still_step
      still_call (HS.out Wd)
      refine wpStill_nil ?_
      go_wp2_with fail
      refine (put_op _ G B ar cr raw (p + 1) vars props tempo out _ _ hg1' (by omega)).mono ?_
      rintro e w2 ⟨rfl, hg2, hb2⟩
      go_wp2
      go_end0
      exact Made.mk rfl hg2 (hb1'.trans hb2) (by rw [← HRES.out, if_pos HKK2.out]) (by rw [← HRES.out, if_pos HKK2.out, HKK.out]; simp [numLeaf, Hk.out, hv, Tm.flat])
    all_goals
      refine (picked_any r.2 9 _ r3 r4 (by omega) (by omega)).mono ?_
      rintro e w' ⟨rfl, rfl⟩
      go_wp2_with fail
      refine (put_op _ G B ar cr raw (p + 1) vars props tempo out _ _ hg1 (by omega)).mono ?_
      rintro e w2 ⟨rfl, hg2, hb2⟩
      have hcond : ¬ (pk r.1 2 = 1 ∧ 0 < vars) := by omega
      have Hc := Lib.hid hcond
      clear hcond
      go_wp2
      go_end0
      exact Made.mk rfl hg2 (hb1.trans hb2) (by rw [← HRES.out, if_pos HKK2.out]) (by rw [← HRES.out, if_pos HKK2.out, HKK.out]; simp [numLeaf, Hc.out, Tm.flat])
  · have hkk : kk = pk r.1 5 := by rw [HK.out, if_neg hc]
    have HKK := Lib.hid hkk
    have hd0 : (0 : Int) ≤ d := by omega
    have hp5a := Hp5.out.1
    have e0 : ((d : Int) + 1 == 0) = false := by rw [beq_eq_false_iff_ne]; omega
    have hp5b := Hp5.out.2
    clear hkk
    go_enter Tryz.func102, Tryz.ntmps102
    go_wp2_with fail
    refine TK.out.mono ?_
    rintro e w1 ⟨rfl, g1, b1⟩
    have hg1 := g1.ext ((Ext.refl w1).alloc (Nat.le_refl _) (Obj.cells #[.int .i64 r.1, .int .i64 r.2] 163))
    have hb1 : Below B w (w1.alloc (Obj.cells #[.int .i64 r.1, .int .i64 r.2] 163)) := b1.alloc (by have := b1.size; omega) _
    have q0 : (w1.alloc (Obj.cells #[.int .i64 r.1, .int .i64 r.2] 163)).cell? ⟨w1.heap.size, 0, none⟩ = some (.int .i64 r.1) := by simp [go_sem]
    have q1 : (w1.alloc (Obj.cells #[.int .i64 r.1, .int .i64 r.2] 163)).cell? ⟨w1.heap.size, 1, none⟩ = some (.int .i64 r.2) := by simp [go_sem]
    have c1 := hg1.c1
    have c2 := hg1.c2
    clear TK g1 b1
    go_wp2_with fail
    refine (picked_any r.1 5 _ r1 r2 (by omega) (by omega)).mono ?_
    rintro e w' ⟨rfl, rfl⟩
    go_wp2_with fail
    · have hk : pk r.1 5 = 1 := by assumption
      have hv : 0 < vars := by assumption
      have hpv := pk_bd r.2 vars hv
      have HS := Lib.hid (fun wx : World => still_of (picked_any r.2 vars wx r3 r4 hv (by omega)))
      have Hk := Lib.hid hk
      clear hk
      refine region_tail 8 (by kernel_rfl) (by kernel_rfl) ?_
      generalize (w1.alloc (Obj.cells #[.int .i64 r.1, .int .i64 r.2] 163)) = W at *
      have hg1' := hg1.ext (Below.drew (Ext.refl W))
      have hb1' := hb1.drew
      have q0' : W.drew.cell? ⟨w1.heap.size, 1, none⟩ = some (.int .i64 r.2) := q1
      have c2' : W.drew.cell? ⟨G, 2, none⟩ = some (.int .i64 vars) := c2
      generalize W.drew = Wd at *
      clear hg1 hb1 q0 q1 c1 c2
      simp only [List.take_succ_cons, List.take_zero, List.drop_succ_cons, List.drop_zero]
      iterate 7 still_step
      still_call (HS.out Wd)
      refine wpStill_nil ?_
      go_wp2_with fail
      refine (put_op _ G B ar cr raw (p + 1) vars props tempo out _ _ hg1' (by omega)).mono ?_
      rintro e w2 ⟨rfl, hg2, hb2⟩
      go_wp2
      go_end0
      have HKK2 : kk < 2 := by rw [HKK.out, Hk.out]; omega
      exact Made.mk rfl hg2 (hb1'.trans hb2) (by rw [← HRES.out, if_pos HKK2]) (by rw [← HRES.out, if_pos HKK2, HKK.out]; simp [numLeaf, Hk.out, hv, Tm.flat])
    · refine (picked_any r.2 9 _ r3 r4 (by omega) (by omega)).mono ?_
      rintro e w' ⟨rfl, rfl⟩
      go_wp2_with fail
      refine (put_op _ G B ar cr raw (p + 1) vars props tempo out _ _ hg1 (by omega)).mono ?_
      rintro e w2 ⟨rfl, hg2, hb2⟩
      have HKK2 : Hid (kk < 2) := by show kk < 2; rw [HKK.out]; omega
      have hcond : ¬ (pk r.1 5 = 1 ∧ 0 < vars) := by omega
      have Hc := Lib.hid hcond
      clear hcond
      go_wp2
      go_end0
      exact Made.mk rfl hg2 (hb1.trans hb2) (by rw [← HRES.out, if_pos HKK2.out]) (by rw [← HRES.out, if_pos HKK2.out, HKK.out]; simp [numLeaf, Hc.out, Tm.flat])
    · refine (picked_any r.2 9 _ r3 r4 (by omega) (by omega)).mono ?_
      rintro e w' ⟨rfl, rfl⟩
      go_wp2_with fail
      refine (put_op _ G B ar cr raw (p + 1) vars props tempo out _ _ hg1 (by omega)).mono ?_
      rintro e w2 ⟨rfl, hg2, hb2⟩
      have HKK2 : Hid (kk < 2) := by show kk < 2; rw [HKK.out]; omega
      have hcond : ¬ (pk r.1 5 = 1 ∧ 0 < vars) := by omega
      have Hc := Lib.hid hcond
      clear hcond
      go_wp2
      go_end0
      exact Made.mk rfl hg2 (hb1.trans hb2) (by rw [← HRES.out, if_pos HKK2.out]) (by rw [← HRES.out, if_pos HKK2.out, HKK.out]; simp [numLeaf, Hc.out, Tm.flat])
    · have HKK3 : Hid (2 ≤ kk) := by show 2 ≤ kk; rw [HKK.out]; omega
      refine (put_op _ G B ar cr raw (p + 1) vars props tempo out _ _ hg1 (by omega)).mono ?_
      rintro e w2 ⟨rfl, hg2, hb2⟩
      go_wp2_with fail
      refine (IH1.out w2 _ hg2 (by omega) (by simp; omega)).mono ?_
      rintro e w3 ⟨rfl, hg3, hb3⟩
      go_wp2_with fail
      refine (IH2.out w3 _ hg3 (by have := HZ1.out; omega) (by have := HZ5.out; simp at this ⊢; omega)).mono ?_
      rintro e w4 ⟨rfl, hg4, hb4⟩
      go_wp2
      go_end0
      exact Made.mk rfl hg4 (((hb1.trans hb2).trans hb3).trans hb4) (by rw [← HRES.out, if_neg (by have := HKK3.out; omega)]) (by rw [← HRES.out, if_neg (by have := HKK3.out; omega), HKK.out]; simp [Tm.flat]; omega)

end Go.Proofs.YtbmimdnpchldlaaGreatDoor
