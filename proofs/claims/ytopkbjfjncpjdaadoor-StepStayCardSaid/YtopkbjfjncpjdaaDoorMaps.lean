/- Maps: what is needed of it. No condition. -/
import Derived.Test.YtopkbjfjncpjdaaDoorMem
import Derived.MapKept
namespace Go.Proofs.YtopkbjfjncpjdaaDoor
open Go.RowKit Go.MapKept
def MapI (w : World) (b : Nat) (l : List (Int × Value)) : Prop :=
  ∃ (es : Array MapEntry) (clock : Nat), w.heap[b]? = some (.map es clock) ∧ es.toList.map (fun e => (e.key, e.val)) = l.map (fun p => (Value.int .i64 p.1, p.2))
theorem MapI.new (w : World) : MapI (w.alloc (.map #[] 0)) w.heap.size [] := ⟨#[], 0, (MapKept.heap_alloc w _).1, rfl⟩
theorem heap_alloc2 (w : World) (a b : Obj) : ((w.alloc a).alloc b).heap.size = w.heap.size + 1 + 1 := by simp
theorem find_int (k : Int) : ∀ (es : List MapEntry) (l : List (Int × Value)) (i : Nat), es.map (fun e => (e.key, e.val)) = l.map (fun p => (Value.int .i64 p.1, p.2)) →
    (l.lookup k = none → Instr.findNow (.int .i64) (.int .i64 k) es i = some none) ∧ (∀ x, l.lookup k = some x → ∃ j, Instr.findNow (.int .i64) (.int .i64 k) es i = some (some (j, x)))
  | [], [], i, _ => ⟨fun _ => rfl, fun x h => by simp at h⟩
  | [], _ :: _, i, h => by simp at h
  | _ :: _, [], i, h => by simp at h
  | e :: es, (n, v) :: l, i, h => by
    simp only [List.map_cons, List.cons.injEq, Prod.mk.injEq] at h
    obtain ⟨⟨hk, hv⟩, ht⟩ := h
    have ih := find_int k es l (i + 1) ht
    unfold Instr.findNow
    rw [hk]
    simp only [Instr.sameNow, if_true]
    by_cases hn : k = n
    · subst hn
      simp [List.lookup, hv]
    · have e1 : (k == n) = false := by rw [beq_eq_false_iff_ne]; exact hn
      simp only [List.lookup, e1]
      exact ih
section
variable {P : Program}
theorem run_lookup_int {w : World} {b : Nat} {l : List (Int × Value)} (h : MapI w b l) {t kt e : TypeId} (ht : P.underlying t = some (.map kt e)) (hk : P.underlying kt = some (.int .i64)) (k : Int) (x : Value) (hx : l.lookup k = some x) :
    (Instr.lookup t (.map (some b)) (.int .i64 k) false).run P w = .ok x w := by
  obtain ⟨es, clock, hb, he⟩ := h
  obtain ⟨j, hj⟩ := (find_int k es.toList l 0 he).2 x hx
  have hc : (Instr.checkKey es.isEmpty 10000 kt (.int .i64 k)).run P w = .ok () w := run_checkKey hk (by simp [IsKey]) _ 9999
  simp [Instr.lookup, run_underlying ht, Result.andThen, MapKept.run_getObj_map hb, hc, MapKept.run_findKey hk hj]
theorem run_insert_int {w : World} {b : Nat} {l : List (Int × Value)} (h : MapI w b l) {t kt e : TypeId} (ht : P.underlying t = some (.map kt e)) (hk : P.underlying kt = some (.int .i64)) (k : Int) (x : Value) (hx : l.lookup k = none) :
    ∃ w', (Instr.mapUpdate t (.map (some b)) (.int .i64 k) x).run P w = .ok () w' ∧ MapI w' b (l ++ [(k, x)]) ∧ w.grownBy w' (some b) := by
  obtain ⟨es, clock, hb, he⟩ := h
  have hj := (find_int k es.toList l 0 he).1 hx
  have hc : (Instr.checkKey false 10000 kt (.int .i64 k)).run P w = .ok () w := run_checkKey hk (by simp [IsKey]) _ 9999
  have hlt : b < w.heap.size := (Array.getElem?_eq_some_iff.1 hb).1
  refine ⟨{ w with heap := w.heap.setIfInBounds b (.map (es.push { key := .int .i64 k, val := x, born := clock }) (clock + 1)) }, ?_, ?_, ?_⟩
  · simp [Instr.mapUpdate, run_underlying ht, Result.andThen, MapKept.run_getObj_map hb, hc, MapKept.run_findKey hk hj, MapKept.run_setObj_map _ hb]
  · refine ⟨es.push { key := .int .i64 k, val := x, born := clock }, clock + 1, ?_, ?_⟩
    · simp [hlt]
    · simp [he]
  · refine ⟨rfl, rfl, rfl, by simp, fun i hi hn => ?_⟩
    have : b ≠ i := fun e => hn (by rw [e])
    simp [this]
theorem wpl_insert {w : World} {ops : Array Oper} {rest : List Oper} {o : Oper} {a : Act} {Q : Exit → Act → World → Prop} (hgd : o.guard = none) {m y x : Operand} {t : TypeId} (ho : o.op = .insert t m y x)
    {kt e : TypeId} (ht : P.underlying t = some (.map kt e)) (hk : P.underlying kt = some (.int .i64)) {b : Nat} {l : List (Int × Value)} (h : MapI w b l) {k : Int} (hm : a.eval m = .map (some b)) (hy : a.eval y = .int .i64 k) (hl : l.lookup k = none)
    (H : ∀ w', MapI w' b (l ++ [(k, a.eval x)]) → w.grownBy w' (some b) → wpList P ops Q rest (a.put o.dst undef) w') : wpList P ops Q (o :: rest) a w := by
  refine wpList_plain hgd fun K hK => ?_
  obtain ⟨w', hr, h1, h2⟩ := run_insert_int (P := P) h ht hk k (a.eval x) hl
  unfold Oper.wp execOp
  simp only [ho, Sem.run_bind, Sem.run_pure, Result.andThen_ok, hm, hy, hr]
  exact hK _ _ (H w' h1 h2)
theorem wpl_lookup {w : World} {ops : Array Oper} {rest : List Oper} {o : Oper} {a : Act} {Q : Exit → Act → World → Prop} (hgd : o.guard = none) {m y : Operand} {t : TypeId} (ho : o.op = .lookup t m y false)
    {kt e : TypeId} (ht : P.underlying t = some (.map kt e)) (hk : P.underlying kt = some (.int .i64)) {b : Nat} {l : List (Int × Value)} (h : MapI w b l) {k : Int} (hm : a.eval m = .map (some b)) (hy : a.eval y = .int .i64 k) {x : Value} (hl : l.lookup k = some x)
    (H : wpList P ops Q rest (a.put o.dst x) w) : wpList P ops Q (o :: rest) a w := by
  refine wpList_plain hgd fun K hK => ?_
  have hr := run_lookup_int (P := P) h ht hk k x hl
  unfold Oper.wp execOp
  simp only [ho, Sem.run_bind, Sem.run_pure, Result.andThen_ok, hm, hy, hr]
  exact hK _ _ H
end
end Go.Proofs.YtopkbjfjncpjdaaDoor
