/- PolA: what is needed of it. No condition. -/
import Derived.Test.YtopkbjfjncpjdaaDoorTerm
import Derived.Test.YtopkbjfjncpjdaaDoorMem
namespace Go.Proofs.YtopkbjfjncpjdaaDoor
open Go.RowKit
def Tab (w : World) : Prop := ∀ k : Nat, 1 ≤ k → k ≤ 18 → w.cell? ⟨0, k, none⟩ = some (.int .i64 (partsOf k))
theorem Tab.ext {w w' : World} (h : Tab w) (hb : Ext w w') : Tab w' := fun k h1 h2 => cell_later hb (h k h1 h2)
theorem Tab.lt {w : World} (h : Tab w) : 0 < w.heap.size := World.block_lt_of_cell? _ _ (h 1 (by omega) (by omega))
set_option maxHeartbeats 400000 in
theorem parts_good (k : Int) (w : World) (ht : Tab w) (h1 : 1 ≤ k) (h2 : k ≤ 18) :
    Calls Tryd.prog 66 #[.int .i64 k] w fun e w' => e = .returned (.tuple #[.int .i64 (partsOf k), .int .i64 0]) ∧ w = w' := by
  obtain ⟨k, rfl⟩ : ∃ n : Nat, k = (n : Int) := ⟨k.toNat, by omega⟩
  have hc := ht k (by omega) (by omega)
  have h3 : (k : Int) < 19 := by omega
  generalize partsOf (k : Int) = p at *
  clear ht
  go_enter Tryd.func66, Tryd.ntmps66
  go_wp2
  go_ret2
  exact ⟨rfl, rfl⟩
set_option maxHeartbeats 400000 in
theorem parts_bad (k : Int) (w : World) (h : k < 1 ∨ 18 < k) :
    Calls Tryd.prog 66 #[.int .i64 k] w fun e w' => e = .returned (.tuple #[.int .i64 0, .int .i64 13]) ∧ w = w' := by
  rcases h with h | h
  all_goals
    go_enter Tryd.func66, Tryd.ntmps66
    go_wp2
    go_ret2
    exact ⟨rfl, rfl⟩
def opc (o : Op2) : List Value := [.int .i64 o.1, .int .i64 o.2]
def Ops (w : World) (v : Value) (l : List Op2) : Prop := Reads w 2 v l.length (l.flatMap opc)
theorem Ops.ext {w w' : World} {v : Value} {l : List Op2} (h : Ops w v l) (hb : Ext w w') : Ops w' v l := Reads.ext h hb
theorem opc_len (l : List Op2) : (l.flatMap opc).length = 2 * l.length := by
  induction l with
  | nil => rfl
  | cons o l ih => rw [List.flatMap_cons, List.length_append, ih]; simp [opc]; omega
theorem opc_get : ∀ (l : List Op2) (i : Nat) (h : i < l.length), (l.flatMap opc)[2 * i]? = some (.int .i64 l[i].1) ∧ (l.flatMap opc)[2 * i + 1]? = some (.int .i64 l[i].2)
  | o :: l, 0, _ => by simp [opc]
  | o :: l, i + 1, h => by
    have := opc_get l i (by simpa using h)
    rw [List.flatMap_cons]
    have e : (opc o).length = 2 := rfl
    rw [List.getElem?_append_right (by omega), List.getElem?_append_right (by omega), e, show 2 * (i + 1) - 2 = 2 * i by omega, show 2 * (i + 1) + 1 - 2 = 2 * i + 1 by omega]
    simpa using this
theorem Row.ops {w : World} {a : Option Addr} {cap : Nat} {l : List Op2} (h : Row w 2 a l.length cap (l.flatMap opc)) :
    ∃ b off, (0 < l.length → a = some ⟨b, off, none⟩) ∧ ∀ (i : Nat) (hi : i < l.length), w.cell? ⟨b, off + i * 2, none⟩ = some (.int .i64 l[i].1) ∧ w.cell? ⟨b, off + i * 2 + 1, none⟩ = some (.int .i64 l[i].2) := by
  obtain ⟨b, off, _, h2, h3⟩ := h.lie
  refine ⟨b, off, fun hl => h2 (by rw [opc_len]; omega), fun i hi => ?_⟩
  have := opc_get l i hi
  rw [Nat.mul_comm] at this
  exact ⟨h3 _ _ this.1, by rw [Nat.add_assoc]; exact h3 _ _ this.2⟩
structure Rd (w : World) (R g : Nat) (a : Option Addr) (cap : Nat) (l : List Op2) : Prop where
  c0 : w.cell? ⟨R, 0, none⟩ = some (.slice a l.length cap)
  c1 : w.cell? ⟨R, 1, none⟩ = some (.slice (some ⟨g, 0, none⟩) l.length l.length)
  ne : R ≠ g
  row : Row w 2 a l.length cap (l.flatMap opc)
  nerow : ∀ p, a = some p → 0 < l.length → p.block ≠ g
  tab : Tab w
  netab : 0 ≠ g
theorem Rd.grown {w w' : World} {R g : Nat} {a : Option Addr} {cap : Nat} {l : List Op2} (h : Rd w R g a cap l) (hg : w.grownBy w' (some g)) : Rd w' R g a cap l :=
  ⟨hg.cell h.c0 (by simpa using h.ne), hg.cell h.c1 (by simpa using h.ne), h.ne,
   h.row.keep fun p hp hx => hg.block _ (by subst hp; exact h.row.blk hx) (by simpa using h.nerow p hp (by rw [opc_len] at hx; omega)), h.nerow,
   fun k h1 h2 => hg.cell (h.tab k h1 h2) (by simpa using h.netab), h.netab⟩
def EndsRow (w : World) (g n : Nat) (es : List Int) : Prop := w.ownsRow 0 3 1 (.slice (some ⟨g, 0, none⟩) n n) n (es.map (.int .i64))
def errV (c : Int) : Value := .iface 31 (.int .i64 c)
def SkipPost (w : World) (g n : Nat) (r : (Except Int Nat) × List Int) (e : Ending) (w' : World) : Prop :=
  (match r.1 with
    | .ok m => e = .returned (.int .i64 (m : Int))
    | .error c => e = .panicked [{ v := errV c, recovered := false }]) ∧ EndsRow w' g n r.2 ∧ w.grownBy w' (some g)
theorem skipL_bd (l : List Op2) : ∀ (f at' : Nat) (es : List Int), (∀ n, (skipL l f at' es).1 = .ok n → at' < n ∧ n ≤ l.length) ∧ (skipL l f at' es).2.length = es.length := by
  intro f
  induction f with
  | zero => intro at' es; simp [skipL]
  | succ f ih =>
    intro at' es
    have hl : ∀ (k e : Nat) (es : List Int), e ≤ l.length → (∀ n, (loopL (skipL l f) k e es).1 = .ok n → e ≤ n ∧ n ≤ l.length) ∧ (loopL (skipL l f) k e es).2.length = es.length := by
      intro k
      induction k with
      | zero => intro e es he; simp [loopL]; omega
      | succ k ihk =>
        intro e es he
        have h1 := ih e es
        simp only [loopL]
        rcases hr : skipL l f e es with ⟨r, es'⟩
        rw [hr] at h1
        cases r with
        | error c => simpa using h1.2
        | ok n =>
          have h2 := h1.1 n rfl
          have h3 := ihk n es' h2.2
          refine ⟨fun m hm => ?_, by rw [h3.2]; exact h1.2⟩
          have := h3.1 m hm
          omega
    unfold skipL
    split
    · rename_i h
      split
      · have := hl (partsOf l[at'].1) (at' + 1) es (by omega)
        rcases hr : loopL (skipL l f) (partsOf l[at'].1) (at' + 1) es with ⟨r, es'⟩
        rw [hr] at this
        cases r with
        | error c => simpa [closeL] using this.2
        | ok n =>
          have h2 := this.1 n rfl
          simp only [closeL]
          refine ⟨fun m hm => ?_, by simpa using this.2⟩
          simp at hm
          omega
      · simp
    · simp
end Go.Proofs.YtopkbjfjncpjdaaDoor
