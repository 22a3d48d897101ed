/- Several texts in one: MapG. No condition. -/
import Derived.Test.YtfcaomejbcjfgaaGreatDoorKx1
import Derived.MapKept
namespace Go.Proofs.YtfcaomejbcjfgaaGreatDoor
open Go.RowKit Go.MapKept
def lkp {κ : Type} [DecidableEq κ] (k : κ) : List (κ × Value) → Option Value
  | [] => none
  | p :: l => if k = p.1 then some p.2 else lkp k l
theorem lkp_none {κ : Type} [DecidableEq κ] {k : κ} : ∀ {l : List (κ × Value)}, lkp k l = none ↔ ∀ p ∈ l, p.1 ≠ k
  | [] => by simp [lkp]
  | p :: l => by
    unfold lkp
    by_cases h : k = p.1
    · rw [if_pos h]; simp; intro h2; exact absurd h.symm h2
    · rw [if_neg h, lkp_none]
      simp [Ne.symm h]
structure KeyLaw (P : Program) (kt : TypeId) {κ : Type} [DecidableEq κ] (enc : κ → Value) : Prop where
  chk : ∀ (w : World) (b : Bool) (k : κ), (Instr.checkKey b 10000 kt (enc k)).run P w = .ok () w
  find : ∀ (w : World) (k : κ) (es : List MapEntry) (l : List (κ × Value)), es.map (fun e => (e.key, e.val)) = l.map (fun p => (enc p.1, p.2)) →
    (lkp k l = none → (Instr.findKey kt (enc k) es).run P w = .ok none w) ∧ ∀ x, lkp k l = some x → ∃ j, (Instr.findKey kt (enc k) es).run P w = .ok (some (j, x)) w
theorem find_now {κ : Type} [DecidableEq κ] {enc : κ → Value} {d : TypeDesc} (hs : ∀ a b, Instr.sameNow d (enc a) (enc b) = some (decide (a = b))) (k : κ) : ∀ (es : List MapEntry) (l : List (κ × Value)) (i : Nat), es.map (fun e => (e.key, e.val)) = l.map (fun p => (enc p.1, p.2)) →
    (lkp k l = none → Instr.findNow d (enc k) es i = some none) ∧ (∀ x, lkp k l = some x → ∃ j, Instr.findNow d (enc k) es i = some (some (j, x)))
  | [], [], i, _ => ⟨fun _ => rfl, fun x h => by simp [lkp] at h⟩
  | [], _ :: _, i, h => by simp at h
  | _ :: _, [], i, h => by simp at h
  | e :: es, (n, v) :: l, i, h => by
    simp only [List.map_cons, List.cons.injEq, Prod.mk.injEq] at h
    obtain ⟨⟨hk, hv⟩, ht⟩ := h
    have ih := find_now hs k es l (i + 1) ht
    unfold Instr.findNow
    rw [hk, hs]
    by_cases hn : k = n
    · subst hn
      simp [lkp, hv]
    · simp only [lkp, hn, decide_false, if_false]
      exact ih
theorem KeyLaw.plain {P : Program} {kt : TypeId} {d : TypeDesc} (hd : P.underlying kt = some d) {κ : Type} [DecidableEq κ] {enc : κ → Value} (hk : ∀ a, IsKey d (enc a)) (hs : ∀ a b, Instr.sameNow d (enc a) (enc b) = some (decide (a = b))) : KeyLaw P kt enc where
  chk w b k := run_checkKey hd (hk k) b 9999
  find w k es l h := by
    have hf := find_now hs k es l 0 h
    refine ⟨fun hn => run_findKey hd (hf.1 hn), fun x hx => ?_⟩
    obtain ⟨j, hj⟩ := hf.2 x hx
    exact ⟨j, run_findKey hd hj⟩
theorem KeyLaw.int {P : Program} {kt : TypeId} (hd : P.underlying kt = some (.int .i64)) : KeyLaw P kt (fun n : Int => Value.int .i64 n) :=
  KeyLaw.plain hd (fun _ => by simp [IsKey]) (fun a b => by
    simp only [Instr.sameNow, if_true, Option.some.injEq]
    rw [Bool.eq_iff_iff, beq_iff_eq, decide_eq_true_eq])
theorem KeyLaw.string {P : Program} {kt : TypeId} (hd : P.underlying kt = some .string) : KeyLaw P kt (fun s : ByteArray => Value.string s) :=
  KeyLaw.plain hd (fun _ => by simp [IsKey]) (fun a b => by
    simp only [Instr.sameNow, Option.some.injEq]
    rw [Bool.eq_iff_iff, bytes_beq, decide_eq_true_eq])
def MapG {κ : Type} (enc : κ → Value) (w : World) (b : Nat) (l : List (κ × Value)) : Prop :=
  ∃ (es : Array MapEntry) (clock : Nat), w.heap[b]? = some (.map es clock) ∧ es.toList.map (fun e => (e.key, e.val)) = l.map (fun p => (enc p.1, p.2))
theorem MapG.new {κ : Type} (enc : κ → Value) (w : World) : MapG enc (w.alloc (.map #[] 0)) w.heap.size [] := ⟨#[], 0, (MapKept.heap_alloc w _).1, rfl⟩
theorem MapG.keep {κ : Type} {enc : κ → Value} {w w' : World} {b : Nat} {l : List (κ × Value)} (h : MapG enc w b l) (hb : w'.heap[b]? = w.heap[b]?) : MapG enc w' b l := by
  obtain ⟨es, clock, h1, h2⟩ := h
  exact ⟨es, clock, hb.trans h1, h2⟩
theorem MapG.lt {κ : Type} {enc : κ → Value} {w : World} {b : Nat} {l : List (κ × Value)} (h : MapG enc w b l) : b < w.heap.size := by
  obtain ⟨es, clock, h1, h2⟩ := h
  exact (Array.getElem?_eq_some_iff.1 h1).1
theorem MapG.ext {κ : Type} {enc : κ → Value} {w w' : World} {b : Nat} {l : List (κ × Value)} (h : MapG enc w b l) (hE : Ext w w') : MapG enc w' b l := h.keep (hE.block b h.lt)
theorem MapG.grown {κ : Type} {enc : κ → Value} {w w' : World} {b : Nat} {l : List (κ × Value)} {row : Option Nat} (h : MapG enc w b l) (hg : w.grownBy w' row) (hn : some b ≠ row) : MapG enc w' b l := h.keep (hg.block b h.lt hn)
theorem MapG.set {κ : Type} {enc : κ → Value} {w : World} {b : Nat} {l : List (κ × Value)} (h : MapG enc w b l) {p : Addr} (hp : p.block ≠ b) (v : Value) : MapG enc (w.setCell p v) b l := h.keep (Below.heap_setCell _ _ _ _ (Ne.symm hp))
section
variable {P : Program} {κ : Type} [DecidableEq κ] {enc : κ → Value} {kt : TypeId} (K : KeyLaw P kt enc) {t e : TypeId} (ht : P.underlying t = some (.map kt e))
include K ht
theorem run_lookup_g {w : World} {b : Nat} {l : List (κ × Value)} (h : MapG enc w b l) (k : κ) (x : Value) (hx : lkp k l = some x) (ok : Bool) :
    (Instr.lookup t (.map (some b)) (enc k) ok).run P w = .ok (if ok then .tuple #[x, .bool true] else x) w := by
  obtain ⟨es, clock, hb, he⟩ := h
  obtain ⟨j, hj⟩ := (K.find w k es.toList l he).2 x hx
  have hc := K.chk w es.isEmpty k
  cases ok <;> simp [Instr.lookup, run_underlying ht, Result.andThen, MapKept.run_getObj_map hb, hc, hj]
theorem run_lookup_gn {w : World} {b : Nat} {l : List (κ × Value)} (h : MapG enc w b l) (k : κ) {z : Value} (hz : (zeroValue e).run P w = .ok z w) (hx : lkp k l = none) (ok : Bool) :
    (Instr.lookup t (.map (some b)) (enc k) ok).run P w = .ok (if ok then .tuple #[z, .bool false] else z) w := by
  obtain ⟨es, clock, hb, he⟩ := h
  have hj := (K.find w k es.toList l he).1 hx
  have hc := K.chk w es.isEmpty k
  cases ok <;> simp [Instr.lookup, run_underlying ht, Result.andThen, MapKept.run_getObj_map hb, hc, hj, hz]
theorem run_insert_g {w : World} {b : Nat} {l : List (κ × Value)} (h : MapG enc w b l) (k : κ) (x : Value) (hx : lkp k l = none) :
    ∃ w', (Instr.mapUpdate t (.map (some b)) (enc k) x).run P w = .ok () w' ∧ MapG enc w' b (l ++ [(k, x)]) ∧ w.grownBy w' (some b) ∧ w'.heap.size = w.heap.size := by
  obtain ⟨es, clock, hb, he⟩ := h
  have hj := (K.find w k es.toList l he).1 hx
  have hc := K.chk w false k
  have hlt : b < w.heap.size := (Array.getElem?_eq_some_iff.1 hb).1
  refine ⟨{ w with heap := w.heap.setIfInBounds b (.map (es.push { key := enc k, val := x, born := clock }) (clock + 1)) }, ?_, ?_, ?_, ?_⟩
  · simp [Instr.mapUpdate, run_underlying ht, Result.andThen, MapKept.run_getObj_map hb, hc, hj, MapKept.run_setObj_map _ hb]
  · refine ⟨es.push { key := enc k, val := x, born := clock }, clock + 1, ?_, ?_⟩
    · simp [hlt]
    · simp [he]
  · refine ⟨rfl, rfl, rfl, by simp, fun i hi hn => ?_⟩
    have : b ≠ i := fun e => hn (by rw [e])
    simp [this]
  · simp
theorem wpl_update_g {w : World} {ops : Array Oper} {rest : List Oper} {o : Oper} {a : Act} {Q : Exit → Act → World → Prop} (hgd : o.guard = none) {m y x : Operand} (ho : o.op = .mapUpdate t m y x)
    {b : Nat} {l : List (κ × Value)} (h : MapG enc w b l) {k : κ} (hm : a.eval m = .map (some b)) (hy : a.eval y = enc k) (hl : lkp k l = none)
    (H : ∀ w', MapG enc w' b (l ++ [(k, a.eval x)]) → w.grownBy w' (some b) → w'.heap.size = w.heap.size → wpList P ops Q rest (a.put o.dst undef) w') : wpList P ops Q (o :: rest) a w := by
  refine wpList_plain hgd fun J hJ => ?_
  obtain ⟨w', hr, h1, h2, h3⟩ := run_insert_g (P := P) K ht h k (a.eval x) hl
  unfold Oper.wp execOp
  simp only [ho, Sem.run_bind, Sem.run_pure, Result.andThen_ok, hm, hy, hr]
  exact hJ _ _ (H w' h1 h2 h3)
theorem wpl_lookup_g {w : World} {ops : Array Oper} {rest : List Oper} {o : Oper} {a : Act} {Q : Exit → Act → World → Prop} (hgd : o.guard = none) {m y : Operand} {ok : Bool} (ho : o.op = .lookup t m y ok)
    {b : Nat} {l : List (κ × Value)} (h : MapG enc w b l) {k : κ} (hm : a.eval m = .map (some b)) (hy : a.eval y = enc k) {x : Value} (hl : lkp k l = some x)
    (H : wpList P ops Q rest (a.put o.dst (if ok then .tuple #[x, .bool true] else x)) w) : wpList P ops Q (o :: rest) a w := by
  refine wpList_plain hgd fun J hJ => ?_
  have hr := run_lookup_g (P := P) K ht h k x hl ok
  unfold Oper.wp execOp
  simp only [ho, Sem.run_bind, Sem.run_pure, Result.andThen_ok, hm, hy, hr]
  exact hJ _ _ H
theorem wpl_lookup_gn {w : World} {ops : Array Oper} {rest : List Oper} {o : Oper} {a : Act} {Q : Exit → Act → World → Prop} (hgd : o.guard = none) {m y : Operand} {ok : Bool} (ho : o.op = .lookup t m y ok)
    {b : Nat} {l : List (κ × Value)} (h : MapG enc w b l) {k : κ} (hm : a.eval m = .map (some b)) (hy : a.eval y = enc k) {z : Value} (hz : (zeroValue e).run P w = .ok z w) (hl : lkp k l = none)
    (H : wpList P ops Q rest (a.put o.dst (if ok then .tuple #[z, .bool false] else z)) w) : wpList P ops Q (o :: rest) a w := by
  refine wpList_plain hgd fun J hJ => ?_
  have hr := run_lookup_gn (P := P) K ht h k hz hl ok
  unfold Oper.wp execOp
  simp only [ho, Sem.run_bind, Sem.run_pure, Result.andThen_ok, hm, hy, hr]
  exact hJ _ _ H
end
end Go.Proofs.YtfcaomejbcjfgaaGreatDoor
