/- Several texts in one: Term; PolA; PolB; PolC; TermB. No condition. -/
import Derived.Test.YtfcaomejbcjfgaaGreatDoorKx1
import Derived.Recover
import Derived.RegionTactic
namespace Go.Proofs.YtfcaomejbcjfgaaGreatDoor
abbrev Op2 := Int × Int
def partsOf (k : Int) : Nat :=
  if k = 3 ∨ k = 4 ∨ k = 5 ∨ k = 6 ∨ k = 7 ∨ k = 8 ∨ k = 9 ∨ k = 15 ∨ k = 16 then 2
  else if k = 10 ∨ k = 14 ∨ k = 17 ∨ k = 18 then 1 else 0
def loopL (rec : Nat → List Int → (Except Int Nat) × List Int) : Nat → Nat → List Int → (Except Int Nat) × List Int
  | 0, e, es => (.ok e, es)
  | n + 1, e, es => match rec e es with
    | (.ok e', es') => loopL rec n e' es'
    | r => r
def closeL (p : Nat) : (Except Int Nat) × List Int → (Except Int Nat) × List Int
  | (.ok e, es) => (.ok e, es.set p (e : Int))
  | r => r
def skipL (l : List Op2) : Nat → Nat → List Int → (Except Int Nat) × List Int
  | 0, _, es => (.error 4, es)
  | f + 1, at', es =>
    if h : at' < l.length then
      if 1 ≤ l[at'].1 ∧ l[at'].1 ≤ 18 then
        closeL at' (loopL (skipL l f) (partsOf l[at'].1) (at' + 1) es)
      else (.error 13, es)
    else (.error 4, es)
def endsL (l : List Op2) : Except Int (List Int) :=
  if l.length > 60 then .error 1
  else match skipL l (l.length + 1) 0 (List.replicate l.length 0) with
    | (.ok n, es) => if n = l.length then .ok es else .error 3
    | (.error c, _) => .error c
inductive Tm where
  | n0 (k v : Int)
  | n1 (k v : Int) (a : Tm)
  | n2 (k v : Int) (a b : Tm)
def Tm.flat : Tm → List Op2
  | .n0 k v => [(k, v)]
  | .n1 k v a => (k, v) :: a.flat
  | .n2 k v a b => (k, v) :: (a.flat ++ b.flat)
def Tm.size : Tm → Nat
  | .n0 _ _ => 1
  | .n1 _ _ a => a.size + 1
  | .n2 _ _ a b => a.size + b.size + 1
theorem Tm.flat_len (t : Tm) : t.flat.length = t.size := by
  induction t with
  | n0 => rfl
  | n1 k v a ih => simp [flat, size, ih]
  | n2 k v a b ih1 ih2 => simp [flat, size, ih1, ih2]
theorem Tm.size_pos (t : Tm) : 0 < t.size := by cases t <;> simp [size]
def Tm.ok : Tm → Prop
  | .n0 k _ => 1 ≤ k ∧ k ≤ 18 ∧ partsOf k = 0
  | .n1 k _ a => 1 ≤ k ∧ k ≤ 18 ∧ partsOf k = 1 ∧ a.ok
  | .n2 k _ a b => 1 ≤ k ∧ k ≤ 18 ∧ partsOf k = 2 ∧ a.ok ∧ b.ok
def Tm.ends : Tm → Nat → List Int
  | .n0 _ _, p => [(p : Int) + 1]
  | .n1 _ _ a, p => ((p + 1 + a.size : Nat) : Int) :: a.ends (p + 1)
  | .n2 _ _ a b, p => ((p + 1 + a.size + b.size : Nat) : Int) :: (a.ends (p + 1) ++ b.ends (p + 1 + a.size))
theorem Tm.ends_len (t : Tm) : ∀ p, (t.ends p).length = t.size := by
  induction t with
  | n0 => intro p; rfl
  | n1 k v a ih => intro p; simp [ends, size, ih]
  | n2 k v a b ih1 ih2 => intro p; simp [ends, size, ih1, ih2]
theorem skip_term (t : Tm) (ht : t.ok) : ∀ (pre post : List Op2) (f : Nat) (ea em eb : List Int), (pre ++ t.flat ++ post).length < pre.length + f → ea.length = pre.length → em.length = t.size →
    skipL (pre ++ t.flat ++ post) f pre.length (ea ++ em ++ eb) = (.ok (pre.length + t.size), ea ++ t.ends pre.length ++ eb) := by
  induction t with
  | n0 k v =>
    intro pre post f ea em eb hf ha hm
    obtain ⟨h1, h2, h3⟩ := ht
    cases f with
    | zero => simp only [List.length_append] at hf; omega
    | succ f =>
      have hl : pre.length < (pre ++ Tm.flat (.n0 k v) ++ post).length := by simp [Tm.flat]
      have hg : (pre ++ Tm.flat (.n0 k v) ++ post)[pre.length] = (k, v) := by simp [Tm.flat]
      unfold skipL
      rw [dif_pos hl, hg]
      simp only [h1, h2, h3, and_self, if_true, loopL, closeL, Tm.size, Tm.ends]
      obtain ⟨x, rfl⟩ := List.length_eq_one_iff.1 hm
      simp [ha]
  | n1 k v a ih =>
    intro pre post f ea em eb hf ha hm
    obtain ⟨h1, h2, h3, h4⟩ := ht
    cases f with
    | zero => simp only [List.length_append] at hf; omega
    | succ f =>
      have hl : pre.length < (pre ++ Tm.flat (.n1 k v a) ++ post).length := by simp [Tm.flat]
      have hg : (pre ++ Tm.flat (.n1 k v a) ++ post)[pre.length] = (k, v) := by simp [Tm.flat]
      cases em with
      | nil => simp [Tm.size] at hm
      | cons x em =>
        have e1 : pre ++ Tm.flat (.n1 k v a) ++ post = (pre ++ [(k, v)]) ++ a.flat ++ post := by simp [Tm.flat]
        have e2 : ea ++ (x :: em) ++ eb = (ea ++ [x]) ++ em ++ eb := by simp
        have := ih h4 (pre ++ [(k, v)]) post f (ea ++ [x]) em eb (by rw [e1] at hf; simp at hf ⊢; omega) (by simp [ha]) (by simpa [Tm.size] using hm)
        unfold skipL
        rw [dif_pos hl, hg]
        simp only [h1, h2, h3, and_self, if_true, loopL]
        rw [e1, e2]
        rw [show pre.length + 1 = (pre ++ [(k, v)]).length by simp, this]
        simp only [closeL]
        simp [Tm.size, Tm.ends, ha]
        omega
  | n2 k v a b ih1 ih2 =>
    intro pre post f ea em eb hf ha hm
    obtain ⟨h1, h2, h3, h4, h5⟩ := ht
    cases f with
    | zero => simp only [List.length_append] at hf; omega
    | succ f =>
      have hl : pre.length < (pre ++ Tm.flat (.n2 k v a b) ++ post).length := by simp [Tm.flat]
      have hg : (pre ++ Tm.flat (.n2 k v a b) ++ post)[pre.length] = (k, v) := by simp [Tm.flat]
      cases em with
      | nil => simp [Tm.size] at hm
      | cons x em =>
        have hm' : em.length = a.size + b.size := by simpa [Tm.size] using hm
        have e1 : pre ++ Tm.flat (.n2 k v a b) ++ post = (pre ++ [(k, v)]) ++ a.flat ++ (b.flat ++ post) := by simp [Tm.flat]
        have e1' : (pre ++ [(k, v)]) ++ a.flat ++ (b.flat ++ post) = (pre ++ [(k, v)] ++ a.flat) ++ b.flat ++ post := by simp
        have e2 : ea ++ (x :: em) ++ eb = (ea ++ [x]) ++ em.take a.size ++ (em.drop a.size ++ eb) := by
          simp only [List.append_assoc, List.cons_append, List.nil_append]
          rw [← List.append_assoc (List.take a.size em), List.take_append_drop]
        have g1 := ih1 h4 (pre ++ [(k, v)]) (b.flat ++ post) f (ea ++ [x]) (em.take a.size) (em.drop a.size ++ eb) (by rw [e1] at hf; simp at hf ⊢; omega) (by simp [ha]) (by simp; omega)
        have g2 := ih2 h5 (pre ++ [(k, v)] ++ a.flat) post f (ea ++ [x] ++ a.ends (pre ++ [(k, v)]).length) (em.drop a.size) eb (by rw [e1, e1'] at hf; simp at hf ⊢; omega) (by simp [ha, Tm.ends_len, Tm.flat_len]) (by simp; omega)
        unfold skipL
        rw [dif_pos hl, hg]
        simp only [h1, h2, h3, and_self, if_true, loopL]
        rw [e1, e2, show pre.length + 1 = (pre ++ [(k, v)]).length by simp, g1]
        simp only []
        rw [e1']
        have e3 : ea ++ [x] ++ a.ends (pre ++ [(k, v)]).length ++ (em.drop a.size ++ eb) = (ea ++ [x] ++ a.ends (pre ++ [(k, v)]).length) ++ em.drop a.size ++ eb := by simp
        have e4 : (pre ++ [(k, v)] ++ a.flat).length = pre.length + 1 + a.size := by simp [Tm.flat_len]; omega
        have e5 : (pre ++ [(k, v)]).length = pre.length + 1 := by simp
        rw [e4, e5] at g2
        rw [e3, e5, g2]
        simp only [closeL]
        refine Prod.ext ?_ ?_
        · simp [Tm.size]; omega
        · simp [Tm.ends, ha]
theorem ends_term (t : Tm) (ht : t.ok) (hs : t.size ≤ 60) : endsL t.flat = .ok (t.ends 0) := by
  have h := skip_term t ht [] [] (t.flat.length + 1) [] (List.replicate t.flat.length 0) [] (by simp) rfl (by simp [Tm.flat_len])
  simp only [List.nil_append, List.append_nil, List.length_nil, Nat.zero_add] at h
  unfold endsL
  rw [if_neg (by rw [Tm.flat_len]; omega), h]
  simp [Tm.flat_len]
end Go.Proofs.YtfcaomejbcjfgaaGreatDoor

namespace Go.Proofs.YtfcaomejbcjfgaaGreatDoor
open Go.RowKit
def Tab (w : World) : Prop := ∀ k : Nat, 1 ≤ k → k ≤ 18 → w.cell? ⟨5, k, none⟩ = some (.int .i64 (partsOf k))
theorem Tab.ext {w w' : World} (h : Tab w) (hb : Ext w w') : Tab w' := fun k h1 h2 => cell_later hb (h k h1 h2)
theorem Tab.lt {w : World} (h : Tab w) : 5 < w.heap.size := World.block_lt_of_cell? _ _ (h 1 (by omega) (by omega))
set_option maxHeartbeats 400000 in
theorem parts_good (k : Int) (w : World) (ht : Tab w) (h1 : 1 ≤ k) (h2 : k ≤ 18) :
    Calls Tryz.prog 80 #[.int .i64 k] w fun e w' => e = .returned (.tuple #[.int .i64 (partsOf k), .int .i64 0]) ∧ w = w' := by
  obtain ⟨k, rfl⟩ : ∃ n : Nat, k = (n : Int) := ⟨k.toNat, by omega⟩
  have hc := ht k (by omega) (by omega)
  have h3 : (k : Int) < 19 := by omega
  generalize partsOf (k : Int) = p at *
  clear ht
  go_enter Tryz.func80, Tryz.ntmps80
  go_wp2
  go_ret2
  exact ⟨rfl, rfl⟩
set_option maxHeartbeats 400000 in
theorem parts_bad (k : Int) (w : World) (h : k < 1 ∨ 18 < k) :
    Calls Tryz.prog 80 #[.int .i64 k] w fun e w' => e = .returned (.tuple #[.int .i64 0, .int .i64 13]) ∧ w = w' := by
  rcases h with h | h
  all_goals
    go_enter Tryz.func80, Tryz.ntmps80
    go_wp2
    go_ret2
    exact ⟨rfl, rfl⟩
def opc (o : Op2) : List Value := [.int .i64 o.1, .int .i64 o.2]
def Ops (w : World) (v : Value) (l : List Op2) : Prop := Reads w 2 v l.length (l.flatMap opc)
theorem Ops.ext {w w' : World} {v : Value} {l : List Op2} (h : Ops w v l) (hb : Ext w w') : Ops w' v l := Reads.ext h hb
theorem opc_len (l : List Op2) : (l.flatMap opc).length = 2 * l.length := by
  induction l with
  | nil => rfl
  | cons o l ih => rw [List.flatMap_cons, List.length_append, ih]; simp [opc]; omega
theorem opc_get : ∀ (l : List Op2) (i : Nat) (h : i < l.length), (l.flatMap opc)[2 * i]? = some (.int .i64 l[i].1) ∧ (l.flatMap opc)[2 * i + 1]? = some (.int .i64 l[i].2)
  | o :: l, 0, _ => by simp [opc]
  | o :: l, i + 1, h => by
    have := opc_get l i (by simpa using h)
    rw [List.flatMap_cons]
    have e : (opc o).length = 2 := rfl
    rw [List.getElem?_append_right (by omega), List.getElem?_append_right (by omega), e, show 2 * (i + 1) - 2 = 2 * i by omega, show 2 * (i + 1) + 1 - 2 = 2 * i + 1 by omega]
    simpa using this
theorem Row.ops {w : World} {a : Option Addr} {cap : Nat} {l : List Op2} (h : Row w 2 a l.length cap (l.flatMap opc)) :
    ∃ b off, (0 < l.length → a = some ⟨b, off, none⟩) ∧ ∀ (i : Nat) (hi : i < l.length), w.cell? ⟨b, off + i * 2, none⟩ = some (.int .i64 l[i].1) ∧ w.cell? ⟨b, off + i * 2 + 1, none⟩ = some (.int .i64 l[i].2) := by
  obtain ⟨b, off, _, h2, h3⟩ := h.lie
  refine ⟨b, off, fun hl => h2 (by rw [opc_len]; omega), fun i hi => ?_⟩
  have := opc_get l i hi
  rw [Nat.mul_comm] at this
  exact ⟨h3 _ _ this.1, by rw [Nat.add_assoc]; exact h3 _ _ this.2⟩
structure Rd (w : World) (R g : Nat) (a : Option Addr) (cap : Nat) (l : List Op2) : Prop where
  c0 : w.cell? ⟨R, 0, none⟩ = some (.slice a l.length cap)
  c1 : w.cell? ⟨R, 1, none⟩ = some (.slice (some ⟨g, 0, none⟩) l.length l.length)
  ne : R ≠ g
  row : Row w 2 a l.length cap (l.flatMap opc)
  nerow : ∀ p, a = some p → 0 < l.length → p.block ≠ g
  tab : Tab w
  netab : 5 ≠ g
theorem Rd.grown {w w' : World} {R g : Nat} {a : Option Addr} {cap : Nat} {l : List Op2} (h : Rd w R g a cap l) (hg : w.grownBy w' (some g)) : Rd w' R g a cap l :=
  ⟨hg.cell h.c0 (by simpa using h.ne), hg.cell h.c1 (by simpa using h.ne), h.ne,
   h.row.keep fun p hp hx => hg.block _ (by subst hp; exact h.row.blk hx) (by simpa using h.nerow p hp (by rw [opc_len] at hx; omega)), h.nerow,
   fun k h1 h2 => hg.cell (h.tab k h1 h2) (by simpa using h.netab), h.netab⟩
def EndsRow (w : World) (g n : Nat) (es : List Int) : Prop := w.ownsRow 0 3 1 (.slice (some ⟨g, 0, none⟩) n n) n (es.map (.int .i64))
def errV (c : Int) : Value := .iface 36 (.int .i64 c)
def SkipPost (w : World) (g n : Nat) (r : (Except Int Nat) × List Int) (e : Ending) (w' : World) : Prop :=
  (match r.1 with
    | .ok m => e = .returned (.int .i64 (m : Int))
    | .error c => e = .panicked [{ v := errV c, recovered := false }]) ∧ EndsRow w' g n r.2 ∧ w.grownBy w' (some g)
theorem skipL_bd (l : List Op2) : ∀ (f at' : Nat) (es : List Int), (∀ n, (skipL l f at' es).1 = .ok n → at' < n ∧ n ≤ l.length) ∧ (skipL l f at' es).2.length = es.length := by
  intro f
  induction f with
  | zero => intro at' es; simp [skipL]
  | succ f ih =>
    intro at' es
    have hl : ∀ (k e : Nat) (es : List Int), e ≤ l.length → (∀ n, (loopL (skipL l f) k e es).1 = .ok n → e ≤ n ∧ n ≤ l.length) ∧ (loopL (skipL l f) k e es).2.length = es.length := by
      intro k
      induction k with
      | zero => intro e es he; simp [loopL]; omega
      | succ k ihk =>
        intro e es he
        have h1 := ih e es
        simp only [loopL]
        rcases hr : skipL l f e es with ⟨r, es'⟩
        rw [hr] at h1
        cases r with
        | error c => simpa using h1.2
        | ok n =>
          have h2 := h1.1 n rfl
          have h3 := ihk n es' h2.2
          refine ⟨fun m hm => ?_, by rw [h3.2]; exact h1.2⟩
          have := h3.1 m hm
          omega
    unfold skipL
    split
    · rename_i h
      split
      · have := hl (partsOf l[at'].1) (at' + 1) es (by omega)
        rcases hr : loopL (skipL l f) (partsOf l[at'].1) (at' + 1) es with ⟨r, es'⟩
        rw [hr] at this
        cases r with
        | error c => simpa [closeL] using this.2
        | ok n =>
          have h2 := this.1 n rfl
          simp only [closeL]
          refine ⟨fun m hm => ?_, by simpa using this.2⟩
          simp at hm
          omega
      · simp
    · simp
end Go.Proofs.YtfcaomejbcjfgaaGreatDoor

namespace Go.Proofs.YtfcaomejbcjfgaaGreatDoor
open Go.RowKit
theorem SkipPost.mk {w w' : World} {g n : Nat} {r : (Except Int Nat) × List Int} {e : Ending} (h : match r.1 with
    | .ok m => e = .returned (.int .i64 (m : Int))
    | .error c => e = .panicked [{ v := errV c, recovered := false }]) (h2 : EndsRow w' g n r.2) (h3 : w.grownBy w' (some g)) : SkipPost w g n r e w' := ⟨h, h2, h3⟩
set_option maxRecDepth 100000 in
set_option maxHeartbeats 1000000 in

theorem skip_short (R g cap : Nat) (a : Option Addr) (l : List Op2) (at' : Nat) (es : List Int) (w : World) (hl : l.length ≤ at') (hr : Rd w R g a cap l) (he : EndsRow w g l.length es) :
    Calls Tryz.prog 61 #[.pointer (some ⟨R, 0, none⟩), .int .i64 at'] w (SkipPost w g l.length (.error 4, es)) := by
  have c0 := hr.c0
  have hfin : ∀ e w', (e = .panicked [{ v := errV 4, recovered := false }] ∧ w = w') → SkipPost w g l.length (.error 4, es) e w' := by
    rintro e w' ⟨rfl, rfl⟩
    exact SkipPost.mk rfl he (World.grownBy.refl _ _)
  refine Calls.mono ?_ hfin
  clear hfin he hr
  go_enter Tryz.func61, Tryz.ntmps61
  go_wp2
  exact ⟨rfl, rfl, rfl⟩
set_option maxRecDepth 100000 in
set_option maxHeartbeats 1000000 in
theorem skip_kind (R g cap : Nat) (a : Option Addr) (l : List Op2) (at' : Nat) (es : List Int) (w : World) (hl : at' < l.length) (hb : l.length ≤ 1000) (hr : Rd w R g a cap l) (he : EndsRow w g l.length es) (hk : l[at'].1 < 1 ∨ 18 < l[at'].1) :
    Calls Tryz.prog 61 #[.pointer (some ⟨R, 0, none⟩), .int .i64 at'] w (SkipPost w g l.length (.error 13, es)) := by
  have c0 := hr.c0
  obtain ⟨b, off, ha, hc⟩ := hr.row.ops
  obtain rfl := ha (by omega)
  have k0 := (hc at' hl).1
  have hfin : ∀ e w', (e = .panicked [{ v := errV 13, recovered := false }] ∧ w = w') → SkipPost w g l.length (.error 13, es) e w' := by
    rintro e w' ⟨rfl, rfl⟩
    exact SkipPost.mk rfl he (World.grownBy.refl _ _)
  refine Calls.mono ?_ hfin
  have CP := parts_bad l[at'].1 w hk
  have HCP := Lib.hid CP
  generalize l[at'].1 = k at *
  clear hfin he hr CP hc hk
  go_enter Tryz.func61, Tryz.ntmps61
  go_wp2_with (go_at_call 80; refine (HCP.out).mono ?_; rintro e w' ⟨rfl, rfl⟩)
  exact ⟨rfl, rfl, rfl⟩
set_option maxRecDepth 100000 in
set_option maxHeartbeats 2000000 in
theorem skip_step (R g cap : Nat) (a : Option Addr) (l : List Op2) (at' : Nat) (es : List Int) (w : World) (hl : at' < l.length) (hb : l.length ≤ 1000) (hr : Rd w R g a cap l) (he : EndsRow w g l.length es) (hk1 : 1 ≤ l[at'].1) (hk2 : l[at'].1 ≤ 18)
    (rec : Nat → List Int → (Except Int Nat) × List Int) (hes : es.length = l.length)
    (hbd : ∀ (p : Nat) (es' : List Int), p ≤ l.length → (∀ n, (rec p es').1 = .ok n → p < n ∧ n ≤ l.length) ∧ (rec p es').2.length = es'.length)
    (hrec : ∀ (p : Nat) (es' : List Int) (w' : World), at' < p → p ≤ l.length → es'.length = l.length → Rd w' R g a cap l → EndsRow w' g l.length es' → Calls Tryz.prog 61 #[.pointer (some ⟨R, 0, none⟩), .int .i64 p] w' (SkipPost w' g l.length (rec p es'))) :
    Calls Tryz.prog 61 #[.pointer (some ⟨R, 0, none⟩), .int .i64 at'] w (SkipPost w g l.length (closeL at' (loopL rec (partsOf l[at'].1) (at' + 1) es))) := by
  have c0 := hr.c0
  have c1 := hr.c1
  obtain ⟨b, off, ha, hc⟩ := hr.row.ops
  obtain rfl := ha (by omega)
  have k0 := (hc at' hl).1
  have HCP := Lib.hid (parts_good l[at'].1 w hr.tab hk1 hk2)
  have hpl : partsOf l[at'].1 ≤ 2 := by unfold partsOf; split <;> (try split) <;> omega
  generalize hpp : partsOf l[at'].1 = pp at *
  generalize l[at'].1 = k at *
  generalize hres : loopL rec pp (at' + 1) es = res at *
  have Hres := Lib.hid hres
  generalize hfin : closeL at' res = fin at *
  have Hfin := Lib.hid hfin
  have Hpp := Lib.hid hpp
  have HR := Lib.hid hr
  have HE := Lib.hid he
  have Hes := Lib.hid hes
  have HB := Lib.hid hbd
  have HREC := Lib.hid hrec
  clear hres hfin hpp hc hk1 hk2 hr he hes hbd hrec
  go_enter Tryz.func61, Tryz.ntmps61
  go_wp2_with (go_at_call 80; refine (HCP.out).mono ?_; rintro e w' ⟨rfl, rfl⟩)
  clear HCP
  go_loopw [7, 35] (fun e j wr => ∃ (jj en : Nat) (es' : List Int), jj ≤ pp ∧ j = .int .i64 jj ∧ e = .int .i64 en ∧ at' < en ∧ en ≤ l.length ∧ Hid (es'.length = l.length) ∧ Hid (loopL rec (pp - jj) en es' = res) ∧ Rd wr R g (some ⟨b, off, none⟩) cap l ∧ EndsRow wr g l.length es' ∧ w.grownBy wr (some g)) (fun _ j _ => pp - (intOf j).toNat)
  case atStart => exact ⟨0, at' + 1, es, by omega, rfl, by go_num, by omega, by omega, Hes, Hres, HR.out, HE.out, World.grownBy.refl _ _⟩
  case round =>
    obtain ⟨jj, en, es', hjj, rfl, rfl, hen1, hen2, hes', hlo, hrd, hrow, hgr⟩ := hrel
    clear HR HE Hes Hres
    by_cases hlt : jj < pp
    · go_wp2_with fail
      refine (HREC.out en es' wr hen1 hen2 hes'.out hrd hrow).mono ?_
      have hlo1 : loopL rec (pp - jj) en es' = res := hlo
      rw [show pp - jj = (pp - (jj + 1)) + 1 by omega] at hlo1
      simp only [loopL] at hlo1
      have hb1 := HB.out en es' hen2
      rcases hre : rec en es' with ⟨r1, es1⟩
      rw [hre] at hlo1 hb1
      cases r1 with
      | ok n1 =>
        have hb2 := hb1.1 n1 rfl
        have hb3 : es1.length = es'.length := hb1.2
        have hlo2 : Hid (loopL rec (pp - (jj + 1)) n1 es1 = res) := hlo1
        have hes2 : Hid (es1.length = l.length) := hb3.trans hes'.out
        obtain ⟨hb4, hb5⟩ := hb2
        have Hrd := Lib.hid hrd
        have Hrow := Lib.hid hrow
        have Hgr := Lib.hid hgr
        clear hlo hlo1 hb1 hre hb3 hrd hrow hgr hes'
        rintro e w1 ⟨he1, hrow1, hg1⟩
        obtain rfl : e = .returned (.int .i64 (n1 : Int)) := he1
        have Hrow1 := Lib.hid hrow1
        have Hg1 := Lib.hid hg1
        clear hrow1 hg1
        go_wp2
        go_roundw
        case rel => exact ⟨jj + 1, n1, es1, by omega, by go_num, rfl, by omega, by omega, hes2, hlo2, Hrd.out.grown Hg1.out, Hrow1.out, Hgr.out.trans' Hg1.out⟩
        case measure => simp [intOf]; omega
      | error c =>
        have hlo2 : Hid ((.error c, es1) = res) := hlo1
        have Hgr := Lib.hid hgr
        clear hlo hlo1 hb1 hre hrd hrow hgr hes'
        rintro e w1 ⟨he1, hrow1, hg1⟩
        obtain rfl : e = .panicked [{ v := errV c, recovered := false }] := he1
        have Hrow1 := Lib.hid hrow1
        have Hg1 := Lib.hid hg1
        clear hrow1 hg1
        go_wp2
        refine ⟨rfl, ?_⟩
        rw [← Hfin.out, ← hlo2.out]
        exact SkipPost.mk rfl Hrow1.out (Hgr.out.trans' Hg1.out)
    · obtain rfl : jj = pp := by omega
      have hlo1 : loopL rec (jj - jj) en es' = res := hlo
      rw [Nat.sub_self] at hlo1
      simp only [loopL] at hlo1
      have Hlo := Lib.hid hlo1
      have d0 := hrd.c0
      have d1 := hrd.c1
      have hat : at' < (es'.map (Value.int .i64)).length := by rw [List.length_map, hes'.out]; exact hl
      have hat2 : at' < es'.length := by rw [hes'.out]; exact hl
      have hcell : wr.cell? ⟨g, at', none⟩ = some (.int .i64 es'[at']) := by
        have hrow2 : wr.ownsRow 0 3 1 (.slice (some ⟨g, 0, none⟩) l.length l.length) l.length (es'.map (.int .i64)) := hrow
        rw [hrow2.cellAt at' (by omega), List.getElem?_eq_getElem hat]
        simp
      have hfr : wr.frozen? ⟨g, at', none⟩ = false := World.ownsRow.frozenAt (show wr.ownsRow 0 3 1 (.slice (some ⟨g, 0, none⟩) l.length l.length) l.length (es'.map (.int .i64)) from hrow) at'
      have hst := World.ownsRow.stored (show wr.ownsRow 0 3 1 (.slice (some ⟨g, 0, none⟩) l.length l.length) l.length (es'.map (.int .i64)) from hrow) at' (.int .i64 en)
      rw [← List.map_set] at hst
      have Hst := Lib.hid hst
      have Hgr := Lib.hid hgr
      generalize es'[at'] = old at *
      clear hlo hlo1 hst hgr hrow hrd hat hat2 hes'
      go_wp2
      go_ret
      rw [← Hfin.out, ← Hlo.out]
      exact SkipPost.mk rfl Hst.out.1 (Hgr.out.trans' Hst.out.2)
end Go.Proofs.YtfcaomejbcjfgaaGreatDoor

namespace Go.Proofs.YtfcaomejbcjfgaaGreatDoor
open Go.RowKit
theorem Tryz.slInts : SlTy Tryz.prog 103 3 (.int .i64 0) 1 8 := SlTy.mk' Tryz.underlying103 (by kernel_rfl) (by rfl) (by omega)
theorem skip_any (R g cap : Nat) (a : Option Addr) (l : List Op2) (hb : l.length ≤ 1000) : ∀ (f at' : Nat) (es : List Int) (w : World), l.length < at' + f → es.length = l.length → Rd w R g a cap l → EndsRow w g l.length es →
    Calls Tryz.prog 61 #[.pointer (some ⟨R, 0, none⟩), .int .i64 at'] w (SkipPost w g l.length (skipL l f at' es)) := by
  intro f
  induction f with
  | zero => intro at' es w hf hes hr he; exact skip_short R g cap a l at' es w (by omega) hr he
  | succ f ih =>
    intro at' es w hf hes hr he
    unfold skipL
    split
    · rename_i hl
      split
      · rename_i hk
        exact skip_step R g cap a l at' es w hl hb hr he hk.1 hk.2 (skipL l f) hes (fun p es' _ => skipL_bd l f p es') (fun p es' w' hp _ hes' hr' he' => ih p es' w' (by omega) hes' hr' he')
      · rename_i hk
        exact skip_kind R g cap a l at' es w hl hb hr he (by omega)
    · exact skip_short R g cap a l at' es w (by omega) hr he
structure Two (w w' : World) (p q : Addr) (x y : Value) : Prop where
  os : w'.os = w.os
  tape : w'.tape = w.tape
  output : w'.output = w.output
  size : w.heap.size = w'.heap.size
  block : ∀ k, k ≠ p.block → k ≠ q.block → w'.heap[k]? = w.heap[k]?
  c0 : w'.cell? p = some x
  c1 : w'.cell? q = some y
theorem Two.of {w : World} {p q : Addr} {x y v0 z : Value} (hpq : p.block ≠ q.block) (hc : w.cell? p = some v0) (hc2 : w.cell? q = some z) : Two w ((w.setCell p x).setCell q y) p q x y := by
  have hne : q ≠ p := fun e => hpq (by rw [e])
  refine ⟨rfl, rfl, rfl, by simp, fun k h1 h2 => ?_, ?_, ?_⟩
  · rw [Below.heap_setCell _ _ _ _ h2, Below.heap_setCell _ _ _ _ h1]
  · rw [World.cell?_setCell_other (h := hne)]; exact World.cell?_setCell_same _ _ _ hc
  · exact World.cell?_setCell_same _ _ _ (u := z) (by rw [World.cell?_setCell_other (h := (Ne.symm hne))]; exact hc2)
theorem Two.drew {w w' : World} {p q : Addr} {x y : Value} (h : Two w w' p q x y) : Two w w'.drew p q x y := ⟨h.os, h.tape, h.output, h.size, h.block, h.c0, h.c1⟩
theorem catch_panicking (p q : Addr) (c z : Int) (v0 : Value) (older : List PanicEntry) (w : World) (hpq : p.block ≠ q.block) (hc : w.cell? p = some v0) (hz : w.frozen? p = false) (hc2 : w.cell? q = some (.int .i64 z)) (hz2 : w.frozen? q = false) :
    CallsD Tryz.prog 60 #[.pointer (some p), .pointer (some q)] (.panicking ({ v := errV c, recovered := false } :: older)) w fun e u' w' =>
      e = .returned (.tuple #[]) ∧ u' = .panicking ({ v := errV c, recovered := true } :: older) ∧ Two w w' p q (.slice none 0 0) (.int .i64 c) := by
  refine callsD_of_wpS Tryz.func60 rfl fun c₀ cs hu => ?_
  apply wpS_seq
  apply wpS_region
  simp [wpOpsS, go_sem, recoverD, hu, Tryz.ntmps60, Exit.thenS]
  refine wpS_of_wp ?_
  rw [show (#[Value.pointer (some p), .pointer (some q)] ++ ((Array.replicate 6 undef).setIfInBounds 1 (errV c)).setIfInBounds 0 (errV c)) = #[.pointer (some p), .pointer (some q), errV c, errV c, undef, undef, undef, undef] from rfl]
  unfold errV
  have hne : p ≠ q := fun e => hpq (by rw [e])
  have hne2 : q ≠ p := Ne.symm hne
  have x1 : (w.setCell p (.slice none 0 0)).cell? q = some (.int .i64 z) := by rw [World.cell?_setCell_other (h := hne)]; exact hc2
  have x2 : (w.setCell q (.int .i64 c)).cell? p = some v0 := by rw [World.cell?_setCell_other (h := hne2)]; exact hc
  have hta : ∀ wx : World, (Instr.typeAssert (.iface 36 (.int .i64 c)) 20 36 false).run Tryz.prog wx = .ok (.int .i64 c) wx := fun _ => by kernel_rfl
  go_wp2
  go_region
  exact ⟨rfl, _, rfl, _, by simp [results, Tryz.results60], rfl, rfl, (Two.of hpq hc hc2).drew⟩
theorem catch_idle (p q : Addr) (w : World) :
    CallsD Tryz.prog 60 #[.pointer (some p), .pointer (some q)] .returning w fun e u' w' => e = .returned (.tuple #[]) ∧ u' = .returning ∧ w = w' := by
  refine callsD_of_wpS Tryz.func60 rfl fun c₀ cs hu => ?_
  apply wpS_seq
  apply wpS_region
  simp [wpOpsS, go_sem, recoverD, hu, Tryz.ntmps60, Exit.thenS]
  refine wpS_of_wp ?_
  go_wp2
  cases c₀
  simp_all [bodyPostS, results, Tryz.results60]
def EndsPost (w : World) (r : Except Int (List Int)) (e : Ending) (w' : World) : Prop :=
  Ext w w' ∧ match r with
    | .ok es => ∃ v', e = .returned (.tuple #[v', .int .i64 0]) ∧ w'.ownsRow w.heap.size 3 1 v' es.length (es.map (.int .i64))
    | .error c => e = .returned (.tuple #[.slice none 0 0, .int .i64 c])
set_option maxRecDepth 100000 in
set_option maxHeartbeats 1000000 in
theorem ends_long (v : Value) (l : List Op2) (w : World) (h : Ops w v l) (hl : 60 < l.length) :
    Calls Tryz.prog 44 #[v] w fun e w' => e = .returned (.tuple #[.slice none 0 0, .int .i64 1]) ∧ Ext w w' := by
  obtain ⟨a, cap, rfl, hr⟩ := h
  have hm : l.length ≤ 9223372036854775807 := by have := hr.le; have := hr.max; unfold maxLen at this; omega
  clear hr
  go_enter_defers Tryz.func44, Tryz.ntmps44
  go_wp2
  simp [bodyPostD, Leaves, results, Tryz.results44, go_sem]
  exact ((Ext.refl w).alloc (Nat.le_refl _) _).alloc (by simp) _
set_option maxRecDepth 100000 in
set_option maxHeartbeats 2000000 in
theorem ends_ok (v : Value) (l : List Op2) (w : World) (h : Ops w v l) (ht : Tab w) (hl : l.length ≤ 60) (es : List Int) (hsk : skipL l (l.length + 1) 0 (List.replicate l.length 0) = (.ok l.length, es)) :
    Calls Tryz.prog 44 #[v] w fun e w' => ∃ v', e = .returned (.tuple #[v', .int .i64 0]) ∧ w'.ownsRow w.heap.size 3 1 v' l.length (es.map (.int .i64)) ∧ Ext w w' := by
  obtain ⟨a, cap, rfl, hr⟩ := h
  have hmf : ∀ (fn : Fn) (first cap : Array Value) (w : World), (Instr.makeFunc fn first cap).run Tryz.prog w = .ok (.func fn first cap) w := fun _ _ _ _ => rfl
  have HT := Lib.hid ht
  have Hr := Lib.hid hr
  have Hsk := Lib.hid hsk
  clear ht hr hsk
  go_enter_defers Tryz.func44, Tryz.ntmps44
  go_wp2_with (at_make; go_must (refine wpList_make_full _ rfl _ _ 103 rfl 0 3 (Tryz.slInts.inf.choose) (.int .i64 0) 1 Tryz.underlying103 Tryz.slInts.inf.choose_spec.1 Tryz.slInts.inf.choose_spec.2.1 Tryz.slInts.inf.choose_spec.2.2.1 .i64 .i64 l.length l.length l.length rfl rfl rfl rfl (by rw [Tryz.slInts.inf.choose_spec.2.2.2]; omega) (by unfold maxLen; omega) (Nat.zero_le _) ?_))
  intro w1 hown hg
  rw [toList_madeCells_one] at hown
  have hE0 : Ext w ((w.alloc (Obj.cells #[.slice none 0 0] 103)).alloc (Obj.cells #[.int .i64 0] 36)) := ((Ext.refl w).alloc (Nat.le_refl _) _).alloc (by simp) _
  have hE1 : Ext w w1 := hE0.grown hg (by simp; omega) (by simp)
  have hs1 : w.heap.size + 1 + 1 < w1.heap.size := (hown.lt _ rfl).2
  have p0 : w1.cell? ⟨w.heap.size, 0, none⟩ = some (.slice none 0 0) := hg.cell (by simp [go_sem]) (by simp)
  have q0 : w1.cell? ⟨w.heap.size + 1, 0, none⟩ = some (.int .i64 0) := hg.cell (by simp [go_sem]) (by simp)
  have pz : w1.frozen? ⟨w.heap.size, 0, none⟩ = false := (World.frozen?_of_block (hg.block w.heap.size (by simp; omega) (by simp))).trans (by simp [go_sem])
  have qz : w1.frozen? ⟨w.heap.size + 1, 0, none⟩ = false := (World.frozen?_of_block (hg.block (w.heap.size + 1) (by simp) (by simp))).trans (by simp [go_sem])
  go_wp2_with fail
  have hrow2 : EndsRow (w1.alloc (Obj.cells #[.slice a l.length cap, .slice (some ⟨w.heap.size + 1 + 1, 0, none⟩) l.length l.length] 124)) (w.heap.size + 1 + 1) l.length (List.replicate l.length 0) := by
    have := hown.alloc (Obj.cells #[.slice a l.length cap, .slice (some ⟨w.heap.size + 1 + 1, 0, none⟩) l.length l.length] 124)
    unfold EndsRow
    simpa using this
  have hE2 : Ext w (w1.alloc (Obj.cells #[.slice a l.length cap, .slice (some ⟨w.heap.size + 1 + 1, 0, none⟩) l.length l.length] 124)) := hE1.alloc (by omega) _
  have hrd : Rd (w1.alloc (Obj.cells #[.slice a l.length cap, .slice (some ⟨w.heap.size + 1 + 1, 0, none⟩) l.length l.length] 124)) w1.heap.size (w.heap.size + 1 + 1) a cap l := by
    refine ⟨by simp [go_sem], by simp [go_sem], by omega, Hr.out.ext hE2, fun p hp hx => ?_, HT.out.ext hE2, by have := HT.out.lt; omega⟩
    subst hp
    have := Hr.out.blk (by rw [opc_len]; omega)
    omega
  have p1 : (w1.alloc (Obj.cells #[.slice a l.length cap, .slice (some ⟨w.heap.size + 1 + 1, 0, none⟩) l.length l.length] 124)).cell? ⟨w.heap.size, 0, none⟩ = some (.slice none 0 0) := by rw [World.cell?_alloc_past _ _ _ (by omega)]; exact p0
  have q1 : (w1.alloc (Obj.cells #[.slice a l.length cap, .slice (some ⟨w.heap.size + 1 + 1, 0, none⟩) l.length l.length] 124)).cell? ⟨w.heap.size + 1, 0, none⟩ = some (.int .i64 0) := by rw [World.cell?_alloc_past _ _ _ (by omega)]; exact q0
  have pz1 : (w1.alloc (Obj.cells #[.slice a l.length cap, .slice (some ⟨w.heap.size + 1 + 1, 0, none⟩) l.length l.length] 124)).frozen? ⟨w.heap.size, 0, none⟩ = false := by rw [World.frozen?_alloc_past _ _ _ (by omega)]; exact pz
  have qz1 : (w1.alloc (Obj.cells #[.slice a l.length cap, .slice (some ⟨w.heap.size + 1 + 1, 0, none⟩) l.length l.length] 124)).frozen? ⟨w.heap.size + 1, 0, none⟩ = false := by rw [World.frozen?_alloc_past _ _ _ (by omega)]; exact qz
  have hs2 : w1.heap.size < (w1.alloc (Obj.cells #[.slice a l.length cap, .slice (some ⟨w.heap.size + 1 + 1, 0, none⟩) l.length l.length] 124)).heap.size := by simp
  generalize w1.alloc (Obj.cells #[.slice a l.length cap, .slice (some ⟨w.heap.size + 1 + 1, 0, none⟩) l.length l.length] 124) = W2 at *
  clear p0 q0 pz qz hown hg hE0 hE1
  refine (skip_any w1.heap.size (w.heap.size + 1 + 1) cap a l (by omega) (l.length + 1) 0 (List.replicate l.length 0) W2 (by omega) (by simp) hrd hrow2).mono ?_
  rw [Hsk.out]
  rintro e w3 ⟨he, hrow3, hg3⟩
  have hE3 : Ext w w3 := hE2.grown hg3 (by omega) (fun k hk => by cases hk; omega)
  have p3 := hg3.cell p1 (by simp; omega)
  have q3 := hg3.cell q1 (by simp)
  have pz3 : w3.frozen? ⟨w.heap.size, 0, none⟩ = false := (World.frozen?_of_block (hg3.block w.heap.size (by omega) (by simp; omega))).trans pz1
  have qz3 : w3.frozen? ⟨w.heap.size + 1, 0, none⟩ = false := (World.frozen?_of_block (hg3.block (w.heap.size + 1) (by omega) (by simp))).trans qz1
  have d1 := (hrd.grown hg3).c1
  have Hrow3 := Lib.hid hrow3
  clear p1 q1 pz1 qz1 hrd hrow2 hrow3 hg3 hE2
  obtain rfl : e = .returned (.int .i64 (l.length : Int)) := he
  go_wp2
  refine leaves_cons (f := 60) (args := #[.pointer (some ⟨w.heap.size, 0, none⟩), .pointer (some ⟨w.heap.size + 1, 0, none⟩)]) (by simp) (by simp [go_sem]) ?_
  refine (catch_idle _ _ _).mono ?_
  rintro e u' w'' ⟨rfl, rfl, rfl⟩
  have hT := Two.of (w := w3) (p := ⟨w.heap.size, 0, none⟩) (q := ⟨w.heap.size + 1, 0, none⟩) (x := .slice (some ⟨w.heap.size + 1 + 1, 0, none⟩) l.length l.length) (y := .int .i64 0) (by simp) p3 q3
  have hrow4 := own_setCell (own_setCell (show w3.ownsRow 0 3 1 (.slice (some ⟨w.heap.size + 1 + 1, 0, none⟩) l.length l.length) l.length (es.map (.int .i64)) from Hrow3.out) (p := ⟨w.heap.size, 0, none⟩) (.slice (some ⟨w.heap.size + 1 + 1, 0, none⟩) l.length l.length) (by simp [Value.ownBlock]; omega)) (p := ⟨w.heap.size + 1, 0, none⟩) (.int .i64 0) (by simp [Value.ownBlock])
  have hE4 : Ext w ((w3.setCell ⟨w.heap.size, 0, none⟩ (.slice (some ⟨w.heap.size + 1 + 1, 0, none⟩) l.length l.length)).setCell ⟨w.heap.size + 1, 0, none⟩ (.int .i64 0)) := (hE3.setCell (by simp) _).setCell (by simp) _
  generalize (w3.setCell ⟨w.heap.size, 0, none⟩ (.slice (some ⟨w.heap.size + 1 + 1, 0, none⟩) l.length l.length)).setCell ⟨w.heap.size + 1, 0, none⟩ (.int .i64 0) = w4 at *
  have r0 := hT.c0
  have r1 := hT.c1
  refine ⟨.tuple #[.slice (some ⟨w.heap.size + 1 + 1, 0, none⟩) l.length l.length, .int .i64 0], ?_, _, rfl, hrow4.weaken (fun k hk => by simp [Value.ownBlock] at hk; omega), hE4⟩
  simp [results, Tryz.results44, go_sem, r0, r1]
set_option maxRecDepth 100000 in
set_option maxHeartbeats 2000000 in
theorem ends_form (v : Value) (l : List Op2) (w : World) (h : Ops w v l) (ht : Tab w) (hl : l.length ≤ 60) (n : Nat) (hn : n ≠ l.length) (es : List Int) (hsk : skipL l (l.length + 1) 0 (List.replicate l.length 0) = (.ok n, es)) :
    Calls Tryz.prog 44 #[v] w fun e w' => e = .returned (.tuple #[.slice none 0 0, .int .i64 3]) ∧ Ext w w' := by
  obtain ⟨a, cap, rfl, hr⟩ := h
  have hmf : ∀ (fn : Fn) (first cap : Array Value) (w : World), (Instr.makeFunc fn first cap).run Tryz.prog w = .ok (.func fn first cap) w := fun _ _ _ _ => rfl
  have HT := Lib.hid ht
  have Hr := Lib.hid hr
  have Hsk := Lib.hid hsk
  clear ht hr hsk
  go_enter_defers Tryz.func44, Tryz.ntmps44
  go_wp2_with (at_make; go_must (refine wpList_make_full _ rfl _ _ 103 rfl 0 3 (Tryz.slInts.inf.choose) (.int .i64 0) 1 Tryz.underlying103 Tryz.slInts.inf.choose_spec.1 Tryz.slInts.inf.choose_spec.2.1 Tryz.slInts.inf.choose_spec.2.2.1 .i64 .i64 l.length l.length l.length rfl rfl rfl rfl (by rw [Tryz.slInts.inf.choose_spec.2.2.2]; omega) (by unfold maxLen; omega) (Nat.zero_le _) ?_))
  intro w1 hown hg
  rw [toList_madeCells_one] at hown
  have hE0 : Ext w ((w.alloc (Obj.cells #[.slice none 0 0] 103)).alloc (Obj.cells #[.int .i64 0] 36)) := ((Ext.refl w).alloc (Nat.le_refl _) _).alloc (by simp) _
  have hE1 : Ext w w1 := hE0.grown hg (by simp; omega) (by simp)
  have hs1 : w.heap.size + 1 + 1 < w1.heap.size := (hown.lt _ rfl).2
  have p0 : w1.cell? ⟨w.heap.size, 0, none⟩ = some (.slice none 0 0) := hg.cell (by simp [go_sem]) (by simp)
  have q0 : w1.cell? ⟨w.heap.size + 1, 0, none⟩ = some (.int .i64 0) := hg.cell (by simp [go_sem]) (by simp)
  have pz : w1.frozen? ⟨w.heap.size, 0, none⟩ = false := (World.frozen?_of_block (hg.block w.heap.size (by simp; omega) (by simp))).trans (by simp [go_sem])
  have qz : w1.frozen? ⟨w.heap.size + 1, 0, none⟩ = false := (World.frozen?_of_block (hg.block (w.heap.size + 1) (by simp) (by simp))).trans (by simp [go_sem])
  go_wp2_with fail
  have hrow2 : EndsRow (w1.alloc (Obj.cells #[.slice a l.length cap, .slice (some ⟨w.heap.size + 1 + 1, 0, none⟩) l.length l.length] 124)) (w.heap.size + 1 + 1) l.length (List.replicate l.length 0) := by
    have := hown.alloc (Obj.cells #[.slice a l.length cap, .slice (some ⟨w.heap.size + 1 + 1, 0, none⟩) l.length l.length] 124)
    unfold EndsRow
    simpa using this
  have hE2 : Ext w (w1.alloc (Obj.cells #[.slice a l.length cap, .slice (some ⟨w.heap.size + 1 + 1, 0, none⟩) l.length l.length] 124)) := hE1.alloc (by omega) _
  have hrd : Rd (w1.alloc (Obj.cells #[.slice a l.length cap, .slice (some ⟨w.heap.size + 1 + 1, 0, none⟩) l.length l.length] 124)) w1.heap.size (w.heap.size + 1 + 1) a cap l := by
    refine ⟨by simp [go_sem], by simp [go_sem], by omega, Hr.out.ext hE2, fun p hp hx => ?_, HT.out.ext hE2, by have := HT.out.lt; omega⟩
    subst hp
    have := Hr.out.blk (by rw [opc_len]; omega)
    omega
  have p1 : (w1.alloc (Obj.cells #[.slice a l.length cap, .slice (some ⟨w.heap.size + 1 + 1, 0, none⟩) l.length l.length] 124)).cell? ⟨w.heap.size, 0, none⟩ = some (.slice none 0 0) := by rw [World.cell?_alloc_past _ _ _ (by omega)]; exact p0
  have q1 : (w1.alloc (Obj.cells #[.slice a l.length cap, .slice (some ⟨w.heap.size + 1 + 1, 0, none⟩) l.length l.length] 124)).cell? ⟨w.heap.size + 1, 0, none⟩ = some (.int .i64 0) := by rw [World.cell?_alloc_past _ _ _ (by omega)]; exact q0
  have pz1 : (w1.alloc (Obj.cells #[.slice a l.length cap, .slice (some ⟨w.heap.size + 1 + 1, 0, none⟩) l.length l.length] 124)).frozen? ⟨w.heap.size, 0, none⟩ = false := by rw [World.frozen?_alloc_past _ _ _ (by omega)]; exact pz
  have qz1 : (w1.alloc (Obj.cells #[.slice a l.length cap, .slice (some ⟨w.heap.size + 1 + 1, 0, none⟩) l.length l.length] 124)).frozen? ⟨w.heap.size + 1, 0, none⟩ = false := by rw [World.frozen?_alloc_past _ _ _ (by omega)]; exact qz
  have hs2 : w1.heap.size < (w1.alloc (Obj.cells #[.slice a l.length cap, .slice (some ⟨w.heap.size + 1 + 1, 0, none⟩) l.length l.length] 124)).heap.size := by simp
  generalize w1.alloc (Obj.cells #[.slice a l.length cap, .slice (some ⟨w.heap.size + 1 + 1, 0, none⟩) l.length l.length] 124) = W2 at *
  clear p0 q0 pz qz hown hg hE0 hE1
  refine (skip_any w1.heap.size (w.heap.size + 1 + 1) cap a l (by omega) (l.length + 1) 0 (List.replicate l.length 0) W2 (by omega) (by simp) hrd hrow2).mono ?_
  rw [Hsk.out]
  rintro e w3 ⟨he, hrow3, hg3⟩
  have hE3 : Ext w w3 := hE2.grown hg3 (by omega) (fun k hk => by cases hk; omega)
  have p3 := hg3.cell p1 (by simp; omega)
  have q3 := hg3.cell q1 (by simp)
  have pz3 : w3.frozen? ⟨w.heap.size, 0, none⟩ = false := (World.frozen?_of_block (hg3.block w.heap.size (by omega) (by simp; omega))).trans pz1
  have qz3 : w3.frozen? ⟨w.heap.size + 1, 0, none⟩ = false := (World.frozen?_of_block (hg3.block (w.heap.size + 1) (by omega) (by simp))).trans qz1
  have d1 := (hrd.grown hg3).c1
  have Hrow3 := Lib.hid hrow3
  clear p1 q1 pz1 qz1 hrd hrow2 hrow3 hg3 hE2
  obtain rfl : e = .returned (.int .i64 (n : Int)) := he
  have hne : ((n : Int) != (l.length : Int)) = true := by rw [bne_iff_ne]; omega
  go_wp2
  refine leaves_cons (f := 60) (args := #[.pointer (some ⟨w.heap.size, 0, none⟩), .pointer (some ⟨w.heap.size + 1, 0, none⟩)]) (by simp) (by simp [go_sem]) ?_
  refine (catch_panicking ⟨w.heap.size, 0, none⟩ ⟨w.heap.size + 1, 0, none⟩ 3 0 _ [] w3 (by simp) p3 pz3 q3 qz3).mono ?_
  rintro e u' w4 ⟨rfl, rfl, hT⟩
  have r0 := hT.c0
  have r1 := hT.c1
  have hE4 : Ext w w4 := Below.trans hE3 ⟨hT.os, hT.tape, hT.output, by rw [hT.size]; exact Nat.le_refl _, fun k hk => hT.block k (by simp; omega) (by simp; omega)⟩
  refine ⟨.tuple #[.slice none 0 0, .int .i64 3], ?_, rfl, hE4⟩
  simp [results, Tryz.results44, go_sem, r0, r1]
set_option maxRecDepth 100000 in
set_option maxHeartbeats 2000000 in
theorem ends_err (v : Value) (l : List Op2) (w : World) (h : Ops w v l) (ht : Tab w) (hl : l.length ≤ 60) (c : Int) (es : List Int) (hsk : skipL l (l.length + 1) 0 (List.replicate l.length 0) = (.error c, es)) :
    Calls Tryz.prog 44 #[v] w fun e w' => e = .returned (.tuple #[.slice none 0 0, .int .i64 c]) ∧ Ext w w' := by
  obtain ⟨a, cap, rfl, hr⟩ := h
  have hmf : ∀ (fn : Fn) (first cap : Array Value) (w : World), (Instr.makeFunc fn first cap).run Tryz.prog w = .ok (.func fn first cap) w := fun _ _ _ _ => rfl
  have HT := Lib.hid ht
  have Hr := Lib.hid hr
  have Hsk := Lib.hid hsk
  clear ht hr hsk
  go_enter_defers Tryz.func44, Tryz.ntmps44
  go_wp2_with (at_make; go_must (refine wpList_make_full _ rfl _ _ 103 rfl 0 3 (Tryz.slInts.inf.choose) (.int .i64 0) 1 Tryz.underlying103 Tryz.slInts.inf.choose_spec.1 Tryz.slInts.inf.choose_spec.2.1 Tryz.slInts.inf.choose_spec.2.2.1 .i64 .i64 l.length l.length l.length rfl rfl rfl rfl (by rw [Tryz.slInts.inf.choose_spec.2.2.2]; omega) (by unfold maxLen; omega) (Nat.zero_le _) ?_))
  intro w1 hown hg
  rw [toList_madeCells_one] at hown
  have hE0 : Ext w ((w.alloc (Obj.cells #[.slice none 0 0] 103)).alloc (Obj.cells #[.int .i64 0] 36)) := ((Ext.refl w).alloc (Nat.le_refl _) _).alloc (by simp) _
  have hE1 : Ext w w1 := hE0.grown hg (by simp; omega) (by simp)
  have hs1 : w.heap.size + 1 + 1 < w1.heap.size := (hown.lt _ rfl).2
  have p0 : w1.cell? ⟨w.heap.size, 0, none⟩ = some (.slice none 0 0) := hg.cell (by simp [go_sem]) (by simp)
  have q0 : w1.cell? ⟨w.heap.size + 1, 0, none⟩ = some (.int .i64 0) := hg.cell (by simp [go_sem]) (by simp)
  have pz : w1.frozen? ⟨w.heap.size, 0, none⟩ = false := (World.frozen?_of_block (hg.block w.heap.size (by simp; omega) (by simp))).trans (by simp [go_sem])
  have qz : w1.frozen? ⟨w.heap.size + 1, 0, none⟩ = false := (World.frozen?_of_block (hg.block (w.heap.size + 1) (by simp) (by simp))).trans (by simp [go_sem])
  go_wp2_with fail
  have hrow2 : EndsRow (w1.alloc (Obj.cells #[.slice a l.length cap, .slice (some ⟨w.heap.size + 1 + 1, 0, none⟩) l.length l.length] 124)) (w.heap.size + 1 + 1) l.length (List.replicate l.length 0) := by
    have := hown.alloc (Obj.cells #[.slice a l.length cap, .slice (some ⟨w.heap.size + 1 + 1, 0, none⟩) l.length l.length] 124)
    unfold EndsRow
    simpa using this
  have hE2 : Ext w (w1.alloc (Obj.cells #[.slice a l.length cap, .slice (some ⟨w.heap.size + 1 + 1, 0, none⟩) l.length l.length] 124)) := hE1.alloc (by omega) _
  have hrd : Rd (w1.alloc (Obj.cells #[.slice a l.length cap, .slice (some ⟨w.heap.size + 1 + 1, 0, none⟩) l.length l.length] 124)) w1.heap.size (w.heap.size + 1 + 1) a cap l := by
    refine ⟨by simp [go_sem], by simp [go_sem], by omega, Hr.out.ext hE2, fun p hp hx => ?_, HT.out.ext hE2, by have := HT.out.lt; omega⟩
    subst hp
    have := Hr.out.blk (by rw [opc_len]; omega)
    omega
  have p1 : (w1.alloc (Obj.cells #[.slice a l.length cap, .slice (some ⟨w.heap.size + 1 + 1, 0, none⟩) l.length l.length] 124)).cell? ⟨w.heap.size, 0, none⟩ = some (.slice none 0 0) := by rw [World.cell?_alloc_past _ _ _ (by omega)]; exact p0
  have q1 : (w1.alloc (Obj.cells #[.slice a l.length cap, .slice (some ⟨w.heap.size + 1 + 1, 0, none⟩) l.length l.length] 124)).cell? ⟨w.heap.size + 1, 0, none⟩ = some (.int .i64 0) := by rw [World.cell?_alloc_past _ _ _ (by omega)]; exact q0
  have pz1 : (w1.alloc (Obj.cells #[.slice a l.length cap, .slice (some ⟨w.heap.size + 1 + 1, 0, none⟩) l.length l.length] 124)).frozen? ⟨w.heap.size, 0, none⟩ = false := by rw [World.frozen?_alloc_past _ _ _ (by omega)]; exact pz
  have qz1 : (w1.alloc (Obj.cells #[.slice a l.length cap, .slice (some ⟨w.heap.size + 1 + 1, 0, none⟩) l.length l.length] 124)).frozen? ⟨w.heap.size + 1, 0, none⟩ = false := by rw [World.frozen?_alloc_past _ _ _ (by omega)]; exact qz
  have hs2 : w1.heap.size < (w1.alloc (Obj.cells #[.slice a l.length cap, .slice (some ⟨w.heap.size + 1 + 1, 0, none⟩) l.length l.length] 124)).heap.size := by simp
  generalize w1.alloc (Obj.cells #[.slice a l.length cap, .slice (some ⟨w.heap.size + 1 + 1, 0, none⟩) l.length l.length] 124) = W2 at *
  clear p0 q0 pz qz hown hg hE0 hE1
  refine (skip_any w1.heap.size (w.heap.size + 1 + 1) cap a l (by omega) (l.length + 1) 0 (List.replicate l.length 0) W2 (by omega) (by simp) hrd hrow2).mono ?_
  rw [Hsk.out]
  rintro e w3 ⟨he, hrow3, hg3⟩
  have hE3 : Ext w w3 := hE2.grown hg3 (by omega) (fun k hk => by cases hk; omega)
  have p3 := hg3.cell p1 (by simp; omega)
  have q3 := hg3.cell q1 (by simp)
  have pz3 : w3.frozen? ⟨w.heap.size, 0, none⟩ = false := (World.frozen?_of_block (hg3.block w.heap.size (by omega) (by simp; omega))).trans pz1
  have qz3 : w3.frozen? ⟨w.heap.size + 1, 0, none⟩ = false := (World.frozen?_of_block (hg3.block (w.heap.size + 1) (by omega) (by simp))).trans qz1
  have d1 := (hrd.grown hg3).c1
  have Hrow3 := Lib.hid hrow3
  clear p1 q1 pz1 qz1 hrd hrow2 hrow3 hg3 hE2
  obtain rfl : e = .panicked [{ v := errV c, recovered := false }] := he
  go_wp2
  refine leaves_cons (f := 60) (args := #[.pointer (some ⟨w.heap.size, 0, none⟩), .pointer (some ⟨w.heap.size + 1, 0, none⟩)]) (by simp) (by simp [go_sem]) ?_
  refine (catch_panicking ⟨w.heap.size, 0, none⟩ ⟨w.heap.size + 1, 0, none⟩ c 0 _ [] w3 (by simp) p3 pz3 q3 qz3).mono ?_
  rintro e u' w4 ⟨rfl, rfl, hT⟩
  have r0 := hT.c0
  have r1 := hT.c1
  have hE4 : Ext w w4 := Below.trans hE3 ⟨hT.os, hT.tape, hT.output, by rw [hT.size]; exact Nat.le_refl _, fun k hk => hT.block k (by simp; omega) (by simp; omega)⟩
  refine ⟨.tuple #[.slice none 0 0, .int .i64 c], ?_, rfl, hE4⟩
  simp [results, Tryz.results44, go_sem, r0, r1]
theorem ends_any (v : Value) (l : List Op2) (w : World) (h : Ops w v l) (ht : Tab w) :
    Calls Tryz.prog 44 #[v] w (EndsPost w (endsL l)) := by
  unfold endsL
  split
  · rename_i hl
    exact (ends_long v l w h hl).mono fun e w' ⟨h1, h2⟩ => ⟨h2, h1⟩
  · rename_i hl
    rcases hsk : skipL l (l.length + 1) 0 (List.replicate l.length 0) with ⟨r, es⟩
    have hbd := skipL_bd l (l.length + 1) 0 (List.replicate l.length 0)
    rw [hsk] at hbd
    cases r with
    | error c => exact (ends_err v l w h ht (by omega) c es hsk).mono fun e w' ⟨h1, h2⟩ => ⟨h2, h1⟩
    | ok n =>
      have hn := hbd.1 n rfl
      have hes : es.length = l.length := by simpa using hbd.2
      by_cases hnl : n = l.length
      · subst hnl
        simp only [if_true]
        refine (ends_ok v l w h ht (by omega) es hsk).mono ?_
        rintro e w' ⟨v', h1, h2, h3⟩
        exact ⟨h3, v', h1, by rw [hes]; exact h2⟩
      · simp only [hnl, if_false]
        exact (ends_form v l w h ht (by omega) n hnl es hsk).mono fun e w' ⟨h1, h2⟩ => ⟨h2, h1⟩
end Go.Proofs.YtfcaomejbcjfgaaGreatDoor

namespace Go.Proofs.YtfcaomejbcjfgaaGreatDoor
theorem ends_nest (t : Tm) : ∀ p, (∀ i (h : i < (t.ends p).length), (p : Int) + i < (t.ends p)[i] ∧ (t.ends p)[i] ≤ p + t.size) ∧
    (∀ i k (hi : i < (t.ends p).length) (hk : k < (t.ends p).length), i < k → (p : Int) + k < (t.ends p)[i] → (t.ends p)[k] ≤ (t.ends p)[i]) := by
  induction t with
  | n0 k v =>
    intro p
    refine ⟨fun i h => ?_, fun i k hi hk h1 h2 => ?_⟩
    · simp [Tm.ends] at h; subst h; simp [Tm.ends, Tm.size]; omega
    · simp [Tm.ends] at hi hk; omega
  | n1 k v a ih =>
    intro p
    obtain ⟨h1, h2⟩ := ih (p + 1)
    have hl := a.ends_len (p + 1)
    refine ⟨fun i h => ?_, fun i k hi hk g1 g2 => ?_⟩
    · cases i with
      | zero => simp [Tm.ends, Tm.size]; have := a.size_pos; omega
      | succ i =>
        have := h1 i (by simpa [Tm.ends] using h)
        simp only [Tm.ends, Tm.size, List.getElem_cons_succ]
        omega
    · cases k with
      | zero => omega
      | succ k =>
        have hk' : k < (a.ends (p + 1)).length := by simpa [Tm.ends] using hk
        have hk2 := h1 k hk'
        cases i with
        | zero =>
          simp only [Tm.ends, List.getElem_cons_succ, List.getElem_cons_zero]
          omega
        | succ i =>
          simp only [Tm.ends, List.getElem_cons_succ] at g2 ⊢
          exact h2 i k (by simpa [Tm.ends] using hi) hk' (by omega) (by omega)
  | n2 k v a b iha ihb =>
    intro p
    obtain ⟨a1, a2⟩ := iha (p + 1)
    obtain ⟨b1, b2⟩ := ihb (p + 1 + a.size)
    have hla := a.ends_len (p + 1)
    have hlb := b.ends_len (p + 1 + a.size)
    have hall : ∀ i (h : i < (a.ends (p + 1) ++ b.ends (p + 1 + a.size)).length), ((p + 1 : Nat) : Int) + i < (a.ends (p + 1) ++ b.ends (p + 1 + a.size))[i] ∧ (a.ends (p + 1) ++ b.ends (p + 1 + a.size))[i] ≤ ((p + 1 + a.size + b.size : Nat) : Int) := by
      intro i h
      by_cases hi : i < (a.ends (p + 1)).length
      · rw [List.getElem_append_left hi]
        have := a1 i hi
        omega
      · rw [List.getElem_append_right (by omega)]
        have := b1 (i - (a.ends (p + 1)).length) (by simp at h; omega)
        omega
    refine ⟨fun i h => ?_, fun i k hi hk g1 g2 => ?_⟩
    · cases i with
      | zero => simp [Tm.ends, Tm.size]; omega
      | succ i =>
        have := hall i (by simpa [Tm.ends] using h)
        simp only [Tm.ends, Tm.size, List.getElem_cons_succ]
        omega
    · cases k with
      | zero => omega
      | succ k =>
        have hk' : k < (a.ends (p + 1) ++ b.ends (p + 1 + a.size)).length := by simpa [Tm.ends] using hk
        have hk2 := hall k hk'
        cases i with
        | zero =>
          simp only [Tm.ends, List.getElem_cons_succ, List.getElem_cons_zero]
          omega
        | succ i =>
          have hi' : i < (a.ends (p + 1) ++ b.ends (p + 1 + a.size)).length := by simpa [Tm.ends] using hi
          simp only [Tm.ends, List.getElem_cons_succ] at g2 ⊢
          by_cases hia : i < (a.ends (p + 1)).length
          · have e1 := a1 i hia
            rw [List.getElem_append_left hia] at g2 ⊢
            have hka : k < (a.ends (p + 1)).length := by omega
            rw [List.getElem_append_left hka]
            exact a2 i k hia hka (by omega) (by omega)
          · rw [List.getElem_append_right (by omega)] at g2 ⊢
            rw [List.getElem_append_right (by omega)]
            refine b2 _ _ (by simp at hi'; omega) (by simp at hk'; omega) (by omega) (by omega)
theorem ends_zero (t : Tm) (p : Nat) (h : 0 < (t.ends p).length) : (t.ends p)[0] = ((p + t.size : Nat) : Int) := by
  cases t <;> simp [Tm.ends, Tm.size] <;> omega
end Go.Proofs.YtfcaomejbcjfgaaGreatDoor
