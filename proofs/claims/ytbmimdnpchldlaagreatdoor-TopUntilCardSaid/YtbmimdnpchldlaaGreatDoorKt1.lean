/- Several texts in one: Base; Mem; Tag; Li; SpC; Pick; GrM; Reach; ReachM; SccChk; Visit. No condition. -/
import Derived.Test.YtbmimdnpchldlaaGreatDoorRows
import Derived.WalkKit
import Derived.WalkSpells
import Derived.WalkLawsBesides
import Derived.Deep.QuietTactic
import Derived.BigQuiet
import Derived.Lib.Hide
import Derived.ProofKit
import Derived.OpenShut
import Derived.ChangeOld
import Derived.StillTailTactics
import Derived.Deep.LoopGhost
namespace Go.Proofs.YtbmimdnpchldlaaGreatDoor
open Go.RowKit

/-- A slice type's row of the table: elements of type e, its zero value, its cells, its bytes. -/
structure SlTy (P : Program) (t e : TypeId) (z : Value) (size bytes : Nat) : Prop where
  und : P.underlying t = some (.slice e)
  inf : ∃ i, P.info? e = some i ∧ i.zero = some z ∧ i.size = size ∧ i.bytes = bytes
  zs : z.cells.size = size
  pos : 0 < size

theorem SlTy.mk' {P : Program} {t e : TypeId} {z : Value} {size bytes : Nat} (und : P.underlying t = some (.slice e))
    (inf : (P.info? e).map (fun i => (i.zero, i.size, i.bytes)) = some (some z, size, bytes)) (zs : z.cells.size = size) (pos : 0 < size) : SlTy P t e z size bytes :=
  ⟨und, info_parts inf, zs, pos⟩

/-- The cells xs lie behind the address a (which may be nil where there are none). -/
structure Row (w : World) (sz : Nat) (a : Option Addr) (n cap : Nat) (xs : List Value) : Prop where
  len : xs.length = n * sz
  le : n ≤ cap
  max : cap ≤ maxLen
  lie : ∃ b off, (a = none → cap = 0) ∧ (0 < xs.length → a = some ⟨b, off, none⟩) ∧ ∀ j u, xs[j]? = some u → w.cell? ⟨b, off + j, none⟩ = some u

theorem Row.nil (w : World) (sz : Nat) : Row w sz none 0 0 [] := ⟨by simp, by omega, by simp, 0, 0, fun _ => rfl, (by intro h; simp at h), by intro j u h; simp at h⟩

theorem getElem?_pos {α : Type} {xs : List α} {j : Nat} {u : α} (h : xs[j]? = some u) : 0 < xs.length := by have := (List.getElem?_eq_some_iff.1 h).1; omega

theorem Row.cells {w : World} {sz : Nat} {b off n cap : Nat} {xs : List Value} (h : Row w sz (some ⟨b, off, none⟩) n cap xs) : ∀ j u, xs[j]? = some u → w.cell? ⟨b, off + j, none⟩ = some u := by
  obtain ⟨b', off', _, h2, h3⟩ := h.lie
  intro j u hu
  have := h2 (getElem?_pos hu)
  simp only [Option.some.injEq, Addr.mk.injEq] at this
  obtain ⟨rfl, rfl, _⟩ := this
  exact h3 j u hu

theorem Row.none0 {w : World} {sz : Nat} {n cap : Nat} {xs : List Value} (h : Row w sz none n cap xs) : n = 0 ∧ cap = 0 ∧ xs = [] := by
  obtain ⟨b', off', h1, _, h3⟩ := h.lie
  have hc := h1 rfl
  have hn : n = 0 := by have := h.le; omega
  subst hn
  exact ⟨rfl, hc, List.eq_nil_of_length_eq_zero (by simpa using h.len)⟩

theorem Row.empty {w w' : World} {sz : Nat} {a : Option Addr} {n cap : Nat} (h : Row w sz a n cap []) : Row w' sz a n cap [] := by
  obtain ⟨b, off, h1, h2, _⟩ := h.lie
  exact ⟨h.len, h.le, h.max, b, off, h1, h2, by intro j u hu; simp at hu⟩

theorem Row.blk {w : World} {sz : Nat} {p : Addr} {n cap : Nat} {xs : List Value} (h : Row w sz (some p) n cap xs) (hx : 0 < xs.length) : p.block < w.heap.size := by
  obtain ⟨b, off, h1, h2, h3⟩ := h.lie
  have := World.block_lt_of_cell? _ _ (h3 0 xs[0] (by simp))
  have e := h2 hx
  simp only [Option.some.injEq] at e
  subst e
  exact this

theorem Row.keep {w w' : World} {sz : Nat} {a : Option Addr} {n cap : Nat} {xs : List Value} (h : Row w sz a n cap xs) (hk : ∀ p, a = some p → 0 < xs.length → w'.heap[p.block]? = w.heap[p.block]?) : Row w' sz a n cap xs := by
  refine ⟨h.len, h.le, h.max, ?_⟩
  obtain ⟨b, off, h1, h2, h3⟩ := h.lie
  refine ⟨b, off, h1, h2, fun j u hu => ?_⟩
  exact (World.cell?_of_block (w := w) (w' := w') (a := ⟨b, off + j, none⟩) (hk ⟨b, off, none⟩ (h2 (getElem?_pos hu)) (getElem?_pos hu))).trans (h3 j u hu)

/-- All blocks that were there are as they were. -/
abbrev Ext (w w' : World) : Prop := Below w.heap.size w w'

theorem Ext.refl (w : World) : Ext w w := Below.refl _ _
theorem Ext.trans {a b c : World} (h : Ext a b) (k : Ext b c) : Ext a c := Below.trans h (Below.mono k h.size)

theorem Row.below {w w' : World} {B sz : Nat} {a : Option Addr} {n cap : Nat} {xs : List Value} (h : Row w sz a n cap xs) (hb : Below B w w') (ha : ∀ p, a = some p → p.block < B) : Row w' sz a n cap xs :=
  h.keep fun p hp _ => hb.block _ (ha p hp)

theorem Row.ext {w w' : World} {sz : Nat} {a : Option Addr} {n cap : Nat} {xs : List Value} (h : Row w sz a n cap xs) (hb : Ext w w') : Row w' sz a n cap xs :=
  h.keep fun p hp hx => hb.block _ (by subst hp; exact h.blk hx)

theorem Row.drew {w : World} {sz : Nat} {a : Option Addr} {n cap : Nat} {xs : List Value} (h : Row w sz a n cap xs) : Row w.drew sz a n cap xs := h.keep fun _ _ _ => rfl

theorem Row.take {w : World} {sz : Nat} {a : Option Addr} {n cap : Nat} {xs : List Value} (h : Row w sz a n cap xs) (k : Nat) (hk : k ≤ n) : Row w sz a k cap (xs.take (k * sz)) := by
  refine ⟨?_, by have := h.le; omega, h.max, ?_⟩
  · rw [List.length_take, h.len]
    exact Nat.min_eq_left (Nat.mul_le_mul_right _ hk)
  · obtain ⟨b, off, h1, h2, h3⟩ := h.lie
    refine ⟨b, off, h1, fun hl => h2 (by rw [List.length_take] at hl; omega), fun j u hu => h3 j u ?_⟩
    rw [List.getElem?_take] at hu
    split at hu
    · exact hu
    · cases hu

/-- A value that is a slice and reads as the cells xs. -/
def Reads (w : World) (sz : Nat) (v : Value) (n : Nat) (xs : List Value) : Prop := ∃ a cap, v = .slice a n cap ∧ Row w sz a n cap xs

theorem Reads.ext {w w' : World} {sz : Nat} {v : Value} {n : Nat} {xs : List Value} (h : Reads w sz v n xs) (hb : Ext w w') : Reads w' sz v n xs := by
  obtain ⟨a, cap, rfl, hr⟩ := h
  exact ⟨a, cap, rfl, hr.ext hb⟩

theorem Reads.nil (w : World) (sz : Nat) : Reads w sz (.slice none 0 0) 0 [] := ⟨_, _, rfl, Row.nil w sz⟩

/-- Its block, if it has one, is not k. -/
theorem Reads.grown {w w' : World} {sz : Nat} {v : Value} {n : Nat} {xs : List Value} {row : Option Nat} (h : Reads w sz v n xs) (hg : w.grownBy w' row) (hn : xs = [] ∨ v.ownBlock = none ∨ v.ownBlock ≠ row) : Reads w' sz v n xs := by
  obtain ⟨a, cap, rfl, hr⟩ := h
  refine ⟨a, cap, rfl, hr.keep fun p hp hx => hg.block _ (by subst hp; exact hr.blk hx) ?_⟩
  subst hp
  rcases hn with h | h | h
  · subst h; simp at hx
  · simp [Value.ownBlock] at h
  · simpa [Value.ownBlock] using h

theorem _root_.Go.World.ownsRow.row {w : World} {base : Nat} {e : TypeId} {size : Nat} {v : Value} {n : Nat} {xs : List Value} (h : w.ownsRow base e size v n xs) : ∃ a cap, v = .slice a n cap ∧ Row w size a n cap xs := by
  rcases h.2 with ⟨rfl, rfl⟩ | ⟨g, cap, cur, rfl, hb, hg, hnc, hcm, hcs, htake⟩
  · have : xs = [] := List.eq_nil_of_length_eq_zero (by simpa using h.1)
    subst this
    exact ⟨_, _, rfl, Row.nil _ _⟩
  · refine ⟨_, _, rfl, h.1, hnc, hcm, g, 0, (by intro h; cases h), (by intro _; rfl), fun j u hu => ?_⟩
    have hj : j < n * size := by have := (List.getElem?_eq_some_iff.1 hu).1; rw [h.1] at this; exact this
    rw [Nat.zero_add, cell_of_row w g j cur e (0, 0) hg, ← Array.getElem?_toList]
    rw [← htake, List.getElem?_take, if_pos hj] at hu
    exact hu

theorem _root_.Go.World.ownsRow.reads {w : World} {base : Nat} {e : TypeId} {size : Nat} {v : Value} {n : Nat} {xs : List Value} (h : w.ownsRow base e size v n xs) : Reads w size v n xs := h.row

theorem _root_.Go.World.ownsRow.weaken {w : World} {base base' : Nat} {e : TypeId} {size : Nat} {v : Value} {n : Nat} {xs : List Value} (h : w.ownsRow base e size v n xs) (hb : ∀ k, v.ownBlock = some k → base' ≤ k) : w.ownsRow base' e size v n xs := by
  refine ⟨h.1, ?_⟩
  rcases h.2 with hn | ⟨g, cap, cur, rfl, _, rest⟩
  · exact .inl hn
  · exact .inr ⟨g, cap, cur, rfl, hb g rfl, rest⟩

theorem own_below {w w' : World} {B base : Nat} {e : TypeId} {size : Nat} {v : Value} {n : Nat} {xs : List Value} (h : w.ownsRow base e size v n xs) (hb : Below B w w') (hv : ∀ k, v.ownBlock = some k → k < B) : w'.ownsRow base e size v n xs := by
  refine ⟨h.1, ?_⟩
  rcases h.2 with hn | ⟨g, cap, cur, rfl, h1, hgg, rest⟩
  · exact .inl hn
  · exact .inr ⟨g, cap, cur, rfl, h1, by rw [hb.block g (hv g rfl)]; exact hgg, rest⟩

theorem own_ext {w w' : World} {base : Nat} {e : TypeId} {size : Nat} {v : Value} {n : Nat} {xs : List Value} (h : w.ownsRow base e size v n xs) (hb : Ext w w') : w'.ownsRow base e size v n xs :=
  own_below h hb fun k hk => (h.lt k hk).2

theorem own_down {w : World} {base base' : Nat} {e : TypeId} {size : Nat} {v : Value} {n : Nat} {xs : List Value} (h : w.ownsRow base e size v n xs) (hb : base' ≤ base) : w.ownsRow base' e size v n xs :=
  h.weaken fun k hk => by have := h.lt k hk; omega

theorem Row.add {w : World} {sz : Nat} {p : Addr} {n cap : Nat} {xs : List Value} (h : Row w sz (some p) n cap xs) : ∀ j u, xs[j]? = some u → w.cell? (p.add j) = some u := by
  obtain ⟨b, off, _, h2, h3⟩ := h.lie
  intro j u hu
  have e := h2 (getElem?_pos hu)
  simp only [Option.some.injEq] at e
  subst e
  rw [Addr.add_lit]
  exact h3 j u hu

section
variable {P : Program}

/-- 'append' onto a row of the call's own: the source lies anywhere, nil too. The block is the old one or a new one. -/
theorem run_append_row (w : World) (base : Nat) {t ty e : TypeId} {z : Value} {size bytes : Nat} (T : SlTy P t e z size bytes)
    (v : Value) (n : Nat) (xs : List Value) (hown : w.ownsRow base e size v n xs) (ao : Option Addr) (m c : Nat) (news : List Value) (hrow : Row w size ao m c news)
    (h1 : ∀ u ∈ news, u.oneCell' = true) (h63 : n + m ≤ maxLen) (hbytes : (n + m) * bytes ≤ 140737488355328) (hbase : base ≤ w.heap.size) :
    ∃ v' w', (Builtin.append_ #[t, t] ty #[v, .slice ao m c]).run P w = .ok v' w' ∧ w'.ownsRow base e size v' (n + m) (xs ++ news) ∧ w.grownBy w' v.ownBlock ∧
      (v'.ownBlock = v.ownBlock ∨ v'.ownBlock = some w.heap.size) ∧ (v' = .slice none 0 0 ↔ v = .slice none 0 0 ∧ m = 0) := by
  obtain ⟨i, hi, hz, hsz, hby⟩ := T.inf
  cases ao with
  | none =>
    obtain ⟨rfl, rfl, rfl⟩ := hrow.none0
    have hr := run_append_owned_none (P := P) w base t ty e i size T.und hi v n xs hown
    exact ⟨v, w, hr, by simpa using hown, ⟨rfl, rfl, rfl, Nat.le_refl _, fun _ _ _ => rfl⟩, .inl rfl, by simp⟩
  | some ad =>
    obtain ⟨v', w', hr, h2, h3, h4⟩ := run_append_own (P := P) w base t ty e i z size bytes T.und hi hz hsz hby T.zs T.pos v n xs hown ad m c news hrow.len hrow.add h1 h63 hbytes hbase
    refine ⟨v', w', hr, h2, h3, ?_, h4⟩
    subst hsz
    subst hby
    have hsmall : n + m ≤ 9223372036854775807 := by simp only [maxLen] at h63; omega
    rcases hown.2 with ⟨rfl, rfl⟩ | ⟨g, cap, cur, rfl, hbg, hg, hnc, hcm, hcs, htake⟩
    · by_cases hm : m = 0
      · have := h4.2 ⟨rfl, hm⟩
        subst this
        exact .inl rfl
      · have hr2 := run_append_nil (P := P) w t ty e i z T.und hi hz ad m c news hrow.len hrow.add (by omega) (by omega) (by have hb := hbytes; simp only [Nat.zero_add] at hb; omega)
        rw [hr2] at hr
        simp only [Result.ok.injEq] at hr
        rw [← hr.1]
        exact .inr rfl
    · by_cases hroom : n + m ≤ cap
      · have hfit : n * i.size + news.length ≤ cur.size := by rw [hrow.len, hcs, ← Nat.add_mul]; exact Nat.mul_le_mul_right _ hroom
        have hr2 := run_append_room (P := P) w t ty e i T.und hi g n cap cur hg ad m c news hrow.len hrow.add h1 hroom hfit
        rw [hr2] at hr
        simp only [Result.ok.injEq] at hr
        rw [← hr.1]
        exact .inl rfl
      · have holds : ∀ j u, xs[j]? = some u → w.cell? ((⟨g, 0, none⟩ : Addr).add j) = some u := hown.cells (g := g) rfl
        have hr2 := run_append_grow (P := P) w t ty e i z T.und hi hz ⟨g, 0, none⟩ n cap xs hown.1 holds ad m c news hrow.len hrow.add (by omega) (by omega) (growslice_fits (by omega) hbytes)
        rw [hr2] at hr
        simp only [Result.ok.injEq] at hr
        rw [← hr.1]
        exact .inr rfl

/-- For the walk. -/
theorem wpl_append {w : World} {ops : Array Oper} {rest : List Oper} {o : Oper} {a : Act} {Q : Exit → Act → World → Prop} (hgd : o.guard = none) {s x : Operand} {t : TypeId}
    (ho : o.op = .call { callee := .builtin .append, args := #[s, x], argTypes := #[t, t] })
    {e : TypeId} {z : Value} {size bytes : Nat} (T : SlTy P t e z size bytes) (base : Nat)
    {v : Value} {n : Nat} {xs : List Value} (hs : a.eval s = v) (hown : w.ownsRow base e size v n xs)
    {ao : Option Addr} {m c : Nat} {news : List Value} (hx : a.eval x = .slice ao m c) (hrow : Row w size ao m c news)
    (h1 : ∀ u ∈ news, u.oneCell' = true) (h63 : n + m ≤ maxLen) (hbytes : (n + m) * bytes ≤ 140737488355328) (hbase : base ≤ w.heap.size)
    (h : ∀ v' w', w'.ownsRow base e size v' (n + m) (xs ++ news) → w.grownBy w' v.ownBlock → (v'.ownBlock = v.ownBlock ∨ v'.ownBlock = some w.heap.size) → (v' = .slice none 0 0 ↔ v = .slice none 0 0 ∧ m = 0) →
      wpList P ops Q rest (a.put o.dst v') w') : wpList P ops Q (o :: rest) a w := by
  refine wpList_plain hgd fun K hK => ?_
  obtain ⟨v', w', hr, h2, h3, h4, h5⟩ := run_append_row (P := P) w base (ty := o.type) T v n xs hown ao m c news hrow h1 h63 hbytes hbase
  unfold Oper.wp execOp
  simp only [ho, resolve, invoke, builtin, Sem.run_bind, Sem.run_pure, Result.andThen_ok, List.map_toArray, List.map_cons, List.map_nil, hs, hx, hr]
  exact hK _ _ (h v' w' h2 h3 h4 h5)
end

theorem _root_.Go.World.grownBy.trans' {a b c : World} {row : Option Nat} (h : a.grownBy b row) (k : b.grownBy c row) : a.grownBy c row :=
  ⟨k.os.trans h.os, k.tape.trans h.tape, k.output.trans h.output, Nat.le_trans h.size k.size, fun i hi hr => (k.block i (Nat.lt_of_lt_of_le hi h.size) hr).trans (h.block i hi hr)⟩

/-- One element, or a few, in a new block. -/
theorem Row.one (w : World) (t : TypeId) (x : Value) : Row (w.alloc (.cells #[x] t)) 1 (some ⟨w.heap.size, 0, none⟩) 1 1 [x] := by
  refine ⟨rfl, Nat.le_refl _, by unfold maxLen; omega, w.heap.size, 0, (by intro h; cases h), fun _ => rfl, fun j u hu => ?_⟩
  rw [Nat.zero_add, World.cell?_alloc_at _ _ _ _ rfl]
  simpa using hu

theorem Row.new (w : World) (t : TypeId) (cs : List Value) (hm : cs.length ≤ maxLen) : Row (w.alloc (.cells cs.toArray t)) 1 (some ⟨w.heap.size, 0, none⟩) cs.length cs.length cs := by
  refine ⟨by simp, Nat.le_refl _, hm, w.heap.size, 0, (by intro h; cases h), fun _ => rfl, fun j u hu => ?_⟩
  rw [Nat.zero_add, World.cell?_alloc_at _ _ _ _ rfl]
  simpa using hu

theorem one_int {k : IntKind} (n : Int) : ∀ u ∈ [Value.int k n], u.oneCell' = true := by simp [Value.oneCell']

/-- A region that draws its order: reads and quiet calls, then a tail in one forced order. -/
theorem region_tail {P : Program} {id : Nat} {Q : Exit → Act → World → Prop} {a : Act} {w : World} {l : List Oper} (n : Nat) (hm : P.follows .mixedOrders = true) (hB : Region.lexTailB .any l.toArray n = true)
    (h : wpStill P l.toArray w.drew (fun a' => wpList P l.toArray Q (l.drop n) a' w.drew) (l.take n) a) : (Code.region id l.toArray true).wp P Q a w := wp_region_still_tail n hm hB h

/-- A contract that leaves the world alone, turned round for a region's quiet call. -/
theorem still_of {P : Program} {f : FuncId} {args : Array Value} {w : World} {v : Value} (h : Calls P f args w fun e w' => e = .returned v ∧ w = w') : Calls P f args w fun e w' => e = .returned v ∧ w' = w :=
  h.mono fun _ _ ⟨h1, h2⟩ => ⟨h1, h2.symm⟩

/-- One byte as a value. -/
def bv (c : UInt8) : Value := .int .u8 (c.toNat : Int)
theorem bv_one (l : List UInt8) : ∀ u ∈ l.map bv, u.oneCell' = true := by
  intro u hu
  obtain ⟨_, _, rfl⟩ := List.mem_map.1 hu
  rfl

def Bytes (w : World) (v : Value) (l : List UInt8) : Prop := Reads w 1 v l.length (l.map bv)
def Ints (w : World) (v : Value) (l : List Int) : Prop := Reads w 1 v l.length (l.map (.int .i64))
def Bools (w : World) (v : Value) (l : List Bool) : Prop := Reads w 1 v l.length (l.map .bool)

theorem Bytes.ext {w w' : World} {v : Value} {l : List UInt8} (h : Bytes w v l) (hb : Ext w w') : Bytes w' v l := Reads.ext h hb
theorem Ints.ext {w w' : World} {v : Value} {l : List Int} (h : Ints w v l) (hb : Ext w w') : Ints w' v l := Reads.ext h hb
theorem Bools.ext {w w' : World} {v : Value} {l : List Bool} (h : Bools w v l) (hb : Ext w w') : Bools w' v l := Reads.ext h hb

/-! What an argument reads as. -/

/-- The cells cs read as a value of type t. -/
def Cells (P : Program) (W : World) (t : TypeId) (cs : List Value) : Prop :=
  ∃ (H : Type) (enc : TypeId × Value → H) (spare : Nat → Bool) (held : Bool) (fuel : Nat) (x : DataW H × List MemPlace), DataW.trod enc P W 0 spare held fuel t cs = some x

theorem Cells.int {P : Program} {W : World} {t : TypeId} {cs : List Value} {k : IntKind} (ht : P.underlying t = some (.int k)) (h : Cells P W t cs) : ∃ n, cs = [.int k n] ∧ (Lit.int k n).wf = true := by
  obtain ⟨H, enc, spare, held, fuel, x, hx⟩ := h
  obtain ⟨n, h1, _, h2⟩ := DataW.trod_int ht hx
  exact ⟨n, h1, h2⟩

theorem Cells.bool {P : Program} {W : World} {t : TypeId} {cs : List Value} (ht : P.underlying t = some .bool) (h : Cells P W t cs) : ∃ b, cs = [.bool b] := by
  obtain ⟨H, enc, spare, held, fuel, x, hx⟩ := h
  obtain ⟨b, h1, _⟩ := DataW.trod_bool ht hx
  exact ⟨b, h1⟩

theorem Cells.string {P : Program} {W : World} {t : TypeId} {cs : List Value} (ht : P.underlying t = some .string) (h : Cells P W t cs) : ∃ s : ByteArray, cs = [.string s] ∧ s.size ≤ maxLen := by
  obtain ⟨H, enc, spare, held, fuel, x, hx⟩ := h
  obtain ⟨b, h1, _, h2⟩ := DataW.trod_string ht hx
  exact ⟨b, h1, h2⟩

theorem mapM_some {α β : Type} {f : α → Option β} : ∀ {l : List α} {cs : List β}, l.mapM f = some cs → cs.length = l.length ∧ ∀ (j : Nat) (u : β), cs[j]? = some u → ∃ x : α, l[j]? = some x ∧ f x = some u
  | [], cs, h => by simp at h; subst h; simp
  | x :: l, cs, h => by
    simp only [List.mapM_cons, Option.bind_eq_bind, Option.bind_eq_some_iff, Option.pure_def, Option.some.injEq] at h
    obtain ⟨y, hy, ys, hys, rfl⟩ := h
    have ih := mapM_some hys
    refine ⟨by simp [ih.1], fun j u hu => ?_⟩
    cases j with
    | zero => simp at hu; subst hu; exact ⟨x, by simp, hy⟩
    | succ j => simpa using ih.2 j u (by simpa using hu)

theorem cells_some {w : World} {base : Nat} {a : Addr} {n : Nat} {cs : List Value} (h : w.cells? base a n = some cs) : cs.length = n ∧ ∀ j u, cs[j]? = some u → w.cell? (a.add j) = some u := by
  unfold World.cells? at h
  split at h
  · obtain ⟨h1, h2⟩ := mapM_some h
    refine ⟨by simpa using h1, fun j u hu => ?_⟩
    obtain ⟨x, hx, hf⟩ := h2 j u hu
    have := (List.getElem?_eq_some_iff.1 hx).2
    simp at this
    subst this
    exact hf
  · cases h

theorem flatten_get {α : Type} {sz : Nat} : ∀ {xss : List (List α)}, (∀ xs ∈ xss, xs.length = sz) → ∀ {j : Nat} {u : α}, xss.flatten[j]? = some u → ∃ i k, k < sz ∧ j = i * sz + k ∧ ∃ xs, xss[i]? = some xs ∧ xs[k]? = some u
  | [], _, j, u, hu => by simp at hu
  | xs :: xss, h, j, u, hu => by
    have hl := h xs (by simp)
    rw [List.flatten_cons] at hu
    by_cases hj : j < xs.length
    · rw [List.getElem?_append_left hj] at hu
      exact ⟨0, j, by omega, by simp, xs, by simp, hu⟩
    · rw [List.getElem?_append_right (by omega)] at hu
      obtain ⟨i, k, hk, e, ys, h1, h2⟩ := flatten_get (fun ys hy => h ys (by simp [hy])) hu
      exact ⟨i + 1, k, hk, by rw [Nat.add_mul]; omega, ys, by simpa using h1, h2⟩

theorem flatten_len {α : Type} {sz : Nat} : ∀ {xss : List (List α)}, (∀ xs ∈ xss, xs.length = sz) → xss.flatten.length = xss.length * sz
  | [], _ => by simp
  | xs :: xss, h => by
    rw [List.flatten_cons, List.length_append, flatten_len (fun ys hy => h ys (by simp [hy])), h xs (by simp), List.length_cons, Nat.add_mul]
    omega

theorem addr_add_add (a : Addr) (i j : Nat) : (a.add i).add j = a.add (i + j) := by
  unfold Addr.add
  split <;> split <;> simp_all
  omega

theorem list_of {α : Type} {n : Nat} {p : Nat → α → Prop} (h : ∀ i, i < n → ∃ x, p i x) : ∃ l : List α, l.length = n ∧ ∀ i x, l[i]? = some x → p i x := by
  induction n with
  | zero => exact ⟨[], rfl, by simp⟩
  | succ k ih =>
    obtain ⟨xss, h1, h2⟩ := ih (fun i hi => h i (by omega))
    obtain ⟨xs, h3⟩ := h k (by omega)
    refine ⟨xss ++ [xs], by simp [h1], fun i ys hy => ?_⟩
    by_cases hi : i < k
    · rw [List.getElem?_append_left (by omega)] at hy
      exact h2 i ys hy
    · rw [List.getElem?_append_right (by omega)] at hy
      have e0 : i - xss.length = 0 := by have := (List.getElem?_eq_some_iff.1 hy).1; simp at this; omega
      rw [e0] at hy
      simp at hy
      subst hy
      obtain rfl : i = k := by omega
      exact h3

theorem Cells.slice {P : Program} {W : World} {t e : TypeId} {cs : List Value} {sz : Nat} (ht : P.underlying t = some (.slice e)) (hc : P.cellsOf e = sz) (h : Cells P W t cs) :
    ∃ (a : Option Addr) (cap : Nat) (xss : List (List Value)), cs = [.slice a xss.length cap] ∧ Row W sz a xss.length cap xss.flatten ∧ ∀ xs ∈ xss, xs.length = sz ∧ Cells P W e xs := by
  obtain ⟨H, enc, spare, held, fuel, x, hx⟩ := h
  rcases DataW.trod_slice ht hx with ⟨rfl, _⟩ | ⟨a, len, cap, elems, rest, n, _, rfl, _, _, hl, hm, hlen, hel, _, _⟩
  · exact ⟨none, 0, [], rfl, Row.nil _ _, by simp⟩
  · subst hc
    have each : ∀ i, i < len → ∃ xs, W.cells? 0 (a.add (i * P.cellsOf e)) (P.cellsOf e) = some xs ∧ Cells P W e xs := by
      intro i hi
      have := hel i hi
      rw [List.getElem?_eq_getElem (by omega)] at this
      obtain ⟨xs, h1, h2⟩ := Option.bind_eq_some_iff.1 this
      exact ⟨xs, h1, H, enc, spare, held, n, _, h2⟩
    obtain ⟨xss, hx1, hx2⟩ : ∃ xss : List (List Value), xss.length = len ∧ ∀ i xs, xss[i]? = some xs → W.cells? 0 (a.add (i * P.cellsOf e)) (P.cellsOf e) = some xs ∧ Cells P W e xs := list_of each
    have hsz : ∀ xs ∈ xss, xs.length = P.cellsOf e ∧ Cells P W e xs := by
      intro xs hxs
      obtain ⟨i, hi⟩ := List.mem_iff_getElem?.1 hxs
      exact ⟨(cells_some (hx2 i xs hi).1).1, (hx2 i xs hi).2⟩
    subst hx1
    have hcell : ∀ j u, xss.flatten[j]? = some u → W.cell? (a.add j) = some u := by
      intro j u hu
      obtain ⟨i, k, hk, rfl, xs, h1, h2⟩ := flatten_get (fun xs hx => (hsz xs hx).1) hu
      have := (cells_some (hx2 i xs h1).1).2 k u h2
      rwa [addr_add_add] at this
    refine ⟨some a, cap, xss, rfl, ⟨flatten_len fun xs hx => (hsz xs hx).1, hl, hm, a.block, a.off, (by intro h; cases h), fun hp => ?_, fun j u hu => ?_⟩, hsz⟩
    · have := hcell 0 xss.flatten[0] (by simp)
      have hs : a.spot = none := by
        have := World.cell?_spot this
        simpa [Addr.add] using this
      obtain ⟨b, off, sp⟩ := a
      simp at hs
      subst hs
      rfl
    · have h0 := hcell j u hu
      have hs : a.spot = none ∨ 0 < j := by
        by_cases hj : j = 0
        · left
          have := World.cell?_spot h0
          subst hj
          simpa [Addr.add] using this
        · right; omega
      obtain ⟨b, off, sp⟩ := a
      simp only [Addr.add] at h0
      split at h0
      · subst j
        simp at hs
        subst hs
        simpa using h0
      · exact h0

/-- A struct's field number i. -/
theorem Cells.field {P : Program} {W : World} {t : TypeId} {cs : List Value} {fs : Array Field} (ht : P.underlying t = some (.struct fs)) (h : Cells P W t cs) :
    cs.length = P.cellsOf t ∧ ∀ (i : Nat) (f : Field), fs[i]? = some f → Cells P W f.type ((cs.drop f.offset).take (P.cellsOf f.type)) := by
  obtain ⟨H, enc, spare, held, fuel, x, hx⟩ := h
  obtain ⟨xs, n, _, _, hl, hn, hf⟩ := DataW.trod_struct ht hx
  refine ⟨hl, fun i f hi => ?_⟩
  have := hf i f hi
  rw [List.getElem?_eq_getElem (by have := (Array.getElem?_eq_some_iff.1 hi).1; omega)] at this
  exact ⟨H, enc, spare, held, n, _, this⟩

/-- An array's element number i. -/
theorem Cells.array {P : Program} {W : World} {t e : TypeId} {cs : List Value} {n : Nat} (ht : P.underlying t = some (.array n e)) (h : Cells P W t cs) :
    cs.length = P.cellsOf t ∧ ∀ (i : Nat), i < n → Cells P W e ((cs.drop (i * P.cellsOf e)).take (P.cellsOf e)) := by
  obtain ⟨H, enc, spare, held, fuel, x, hx⟩ := h
  obtain ⟨xs, m, _, _, hl, hn, hf⟩ := DataW.trod_array ht hx
  refine ⟨hl, fun i hi => ?_⟩
  have := hf i hi
  rw [List.getElem?_eq_getElem (by omega)] at this
  exact ⟨H, enc, spare, held, m, _, this⟩

/-- An argument of the law: what the row's frame tells of it. -/
theorem arg_slice {H : Type} {enc : TypeId × Value → H} {P : Program} {W : World} {r : Reach} {b0 t e : TypeId} {spare : Nat → Bool} {held : Bool} {v : Value} {d : DataW H} {ps : List MemPlace}
    (ht : P.underlying t = some (.slice e)) (hv : Value.okWide P W r b0 t v) (h : DataW.Trod enc P W 0 spare held t v d ps) : Cells P W t [v] := by
  obtain ⟨a, len, cap, rfl⟩ := WideShapes.okWide_slice ht hv
  obtain ⟨fuel, hf⟩ := h
  exact ⟨H, enc, spare, held, fuel, _, hf⟩

theorem arg_int {H : Type} {enc : TypeId × Value → H} {P : Program} {W : World} {r : Reach} {b0 t : TypeId} {k : IntKind} {spare : Nat → Bool} {held : Bool} {v : Value} {d : DataW H} {ps : List MemPlace}
    (ht : P.underlying t = some (.int k)) (hv : Value.okWide P W r b0 t v) (h : DataW.Trod enc P W 0 spare held t v d ps) : Cells P W t [v] := by
  obtain ⟨n, rfl⟩ := WideShapes.okWide_int ht hv
  obtain ⟨fuel, hf⟩ := h
  exact ⟨H, enc, spare, held, fuel, _, hf⟩

theorem arg_string {H : Type} {enc : TypeId × Value → H} {P : Program} {W : World} {r : Reach} {b0 t : TypeId} {spare : Nat → Bool} {held : Bool} {v : Value} {d : DataW H} {ps : List MemPlace}
    (ht : P.underlying t = some .string) (hv : Value.okWide P W r b0 t v) (h : DataW.Trod enc P W 0 spare held t v d ps) : Cells P W t [v] := by
  obtain ⟨n, rfl⟩ := WideShapes.okWide_string ht hv
  obtain ⟨fuel, hf⟩ := h
  exact ⟨H, enc, spare, held, fuel, _, hf⟩

theorem arg_struct {H : Type} {enc : TypeId × Value → H} {P : Program} {W : World} {r : Reach} {b0 t : TypeId} {fs : Array Field} {spare : Nat → Bool} {held : Bool} {v : Value} {d : DataW H} {ps : List MemPlace}
    (ht : P.underlying t = some (.struct fs)) (hv : Value.okWide P W r b0 t v) (h : DataW.Trod enc P W 0 spare held t v d ps) : ∃ cs, v = .agg cs ∧ Cells P W t cs.toList := by
  simp only [Value.okWide, ht] at hv
  obtain ⟨cs, rfl, _⟩ := hv
  obtain ⟨fuel, hf⟩ := h
  exact ⟨cs, rfl, H, enc, spare, held, fuel, _, hf⟩

theorem arg_array {H : Type} {enc : TypeId × Value → H} {P : Program} {W : World} {r : Reach} {b0 t e : TypeId} {n : Nat} {spare : Nat → Bool} {held : Bool} {v : Value} {d : DataW H} {ps : List MemPlace}
    (ht : P.underlying t = some (.array n e)) (hv : Value.okWide P W r b0 t v) (h : DataW.Trod enc P W 0 spare held t v d ps) : ∃ cs, v = .agg cs ∧ Cells P W t cs.toList := by
  simp only [Value.okWide, ht] at hv
  obtain ⟨cs, rfl, _⟩ := hv
  obtain ⟨fuel, hf⟩ := h
  exact ⟨cs, rfl, H, enc, spare, held, fuel, _, hf⟩

/-- A list of one-cell elements. -/
theorem flatten_single {α : Type} {xss : List (List Value)} {f : α → Value} (h : ∀ xs ∈ xss, ∃ x, xs = [f x]) : ∃ l : List α, xss.length = l.length ∧ xss.flatten = l.map f := by
  induction xss with
  | nil => exact ⟨[], rfl, rfl⟩
  | cons xs xss ih =>
    obtain ⟨x, rfl⟩ := h xs (by simp)
    obtain ⟨l, h1, h2⟩ := ih (fun ys hy => h ys (by simp [hy]))
    exact ⟨x :: l, by simp [h1], by simp [h2]⟩

theorem u8_of_wf {n : Int} (h : (Lit.int .u8 n).wf = true) : ∃ c : UInt8, n = (c.toNat : Int) := by
  have hb := bounds_u8 h
  exact ⟨UInt8.ofNat n.toNat, by rw [UInt8.toNat_ofNat_of_lt' (by have : UInt8.size = 256 := rfl; omega)]; omega⟩

theorem Cells.bytes {P : Program} {W : World} {t e : TypeId} {cs : List Value} (ht : P.underlying t = some (.slice e)) (he : P.underlying e = some (.int .u8)) (hc : P.cellsOf e = 1) (h : Cells P W t cs) : ∃ v l, cs = [v] ∧ Bytes W v l := by
  obtain ⟨a, cap, xss, rfl, hr, hx⟩ := h.slice ht hc
  obtain ⟨l, h1, h2⟩ := flatten_single (f := bv) (xss := xss) (fun xs hxs => by
    obtain ⟨n, rfl, hw⟩ := (hx xs hxs).2.int he
    obtain ⟨c, rfl⟩ := u8_of_wf hw
    exact ⟨c, rfl⟩)
  rw [h1, h2] at hr
  exact ⟨_, l, rfl, a, cap, by rw [h1], hr⟩

/-- A number that an int holds. -/
def I64 (n : Int) : Prop := -9223372036854775808 ≤ n ∧ n ≤ 9223372036854775807

theorem Cells.i64 {P : Program} {W : World} {t : TypeId} {cs : List Value} (ht : P.underlying t = some (.int .i64)) (h : Cells P W t cs) : ∃ n, cs = [.int .i64 n] ∧ I64 n := by
  obtain ⟨n, rfl, hw⟩ := h.int ht
  have := bounds_i64 hw
  exact ⟨n, rfl, by unfold I64; omega⟩

theorem list_of_subtype {p : Int → Prop} (l : List { n : Int // p n }) : ∃ zs : List Int, zs.length = l.length ∧ (∀ z ∈ zs, p z) ∧ l.map (fun x => Value.int .i64 x.val) = zs.map (.int .i64) :=
  ⟨l.map (·.val), by simp, by simp only [List.mem_map]; rintro z ⟨x, _, rfl⟩; exact x.2, by simp⟩

theorem Cells.ints {P : Program} {W : World} {t e : TypeId} {cs : List Value} (ht : P.underlying t = some (.slice e)) (he : P.underlying e = some (.int .i64)) (hc : P.cellsOf e = 1) (h : Cells P W t cs) : ∃ v l, cs = [v] ∧ Ints W v l ∧ ∀ n ∈ l, I64 n := by
  obtain ⟨a, cap, xss, rfl, hr, hx⟩ := h.slice ht hc
  obtain ⟨l, h1, h2⟩ := flatten_single (f := fun x : { n : Int // I64 n } => Value.int .i64 x.val) (xss := xss) (fun xs hxs => by
    obtain ⟨n, rfl, hw⟩ := (hx xs hxs).2.i64 he
    exact ⟨⟨n, hw⟩, rfl⟩)
  obtain ⟨zs, g1, g2, g3⟩ := list_of_subtype l
  rw [h1, h2, g3, ← g1] at hr
  exact ⟨_, zs, rfl, ⟨a, cap, by rw [h1, g1], hr⟩, g2⟩

end Go.Proofs.YtbmimdnpchldlaaGreatDoor

namespace Go.Proofs.YtbmimdnpchldlaaGreatDoor
open Go.RowKit

theorem own_setCell {w : World} {base : Nat} {e : TypeId} {size : Nat} {v : Value} {n : Nat} {xs : List Value} (h : w.ownsRow base e size v n xs) {p : Addr} (u : Value) (hp : v.ownBlock ≠ some p.block) : (w.setCell p u).ownsRow base e size v n xs := by
  refine ⟨h.1, ?_⟩
  rcases h.2 with hn | ⟨g, cap, cur, rfl, h1, hgg, rest⟩
  · exact .inl hn
  · exact .inr ⟨g, cap, cur, rfl, h1, by rw [Below.heap_setCell _ _ _ _ (fun e => hp (by simp [Value.ownBlock, e]))]; exact hgg, rest⟩

theorem own_grown {w w' : World} {base : Nat} {e : TypeId} {size : Nat} {v : Value} {n : Nat} {xs : List Value} {row : Option Nat} (h : w.ownsRow base e size v n xs) (hg : w.grownBy w' row) (hn : v.ownBlock = none ∨ v.ownBlock ≠ row) : w'.ownsRow base e size v n xs := h.kept hg hn

theorem below_drewN {B : Nat} {a w : World} (h : Below B a w) (n : Nat) : Below B a (w.drewN n) := ⟨h.os, h.tape, h.output, h.size, h.block⟩

end Go.Proofs.YtbmimdnpchldlaaGreatDoor

namespace Go.Proofs.YtbmimdnpchldlaaGreatDoor
open Go.RowKit

/-- What P says of a world hangs on the blocks with tag t alone. -/
def Ent (τ : Nat → Nat) (t : Nat) (w : World) (P : World → Prop) : Prop :=
  ∀ w', w.heap.size ≤ w'.heap.size → (∀ b, b < w.heap.size → τ b = t → w'.heap[b]? = w.heap[b]?) → P w'

section
variable {τ τ' : Nat → Nat} {t : Nat} {w w' : World} {P Q : World → Prop}
theorem Ent.now (h : Ent τ t w P) : P w := h w (Nat.le_refl _) fun _ _ _ => rfl
theorem Ent.ext (h : Ent τ t w P) (hE : Ext w w') : Ent τ t w' P := fun x hx hb =>
  h x (Nat.le_trans hE.size hx) fun b h1 h2 => (hb b (Nat.lt_of_lt_of_le h1 hE.size) h2).trans (hE.block b h1)
theorem Ent.grown {row : Option Nat} (h : Ent τ t w P) (hg : w.grownBy w' row) (hr : ∀ b, row = some b → τ b ≠ t) : Ent τ t w' P := fun x hx hb =>
  h x (Nat.le_trans hg.size hx) fun b h1 h2 => (hb b (Nat.lt_of_lt_of_le h1 hg.size) h2).trans (hg.block b h1 fun e => hr b e.symm h2)
theorem Ent.set (h : Ent τ t w P) {p : Addr} (hp : τ p.block ≠ t) (v : Value) : Ent τ t (w.setCell p v) P := fun x hx hb =>
  h x (by simpa using hx) fun b h1 h2 => (hb b (by simpa using h1) h2).trans (Below.heap_setCell _ _ _ _ (fun e => hp (by rw [← e]; exact h2)))
theorem Ent.tag (h : Ent τ t w P) (ht : ∀ b, b < w.heap.size → τ' b = τ b) : Ent τ' t w P := fun x hx hb => h x hx fun b h1 h2 => hb b h1 ((ht b h1).trans h2)
theorem Ent.keep (h : Ent τ t w P) (s : Nat) : Ent (fun b => if b < w.heap.size then τ b else s) t w P := h.tag fun _ hb => if_pos hb
theorem Ent.mono (h : Ent τ t w P) (hPQ : ∀ x, P x → Q x) : Ent τ t w Q := fun x hx hb => hPQ x (h x hx hb)
theorem Ent.and (h : Ent τ t w P) (k : Ent τ t w Q) : Ent τ t w fun x => P x ∧ Q x := fun x hx hb => ⟨h x hx hb, k x hx hb⟩
theorem Ent.both {R : World → Prop} (h : Ent τ t w P) (k : Ent τ t w Q) (f : ∀ x, P x → Q x → R x) : Ent τ t w R := fun x hx hb => f x (h x hx hb) (k x hx hb)

/-- The blocks from k on bear the tag t. -/
def tagAt (τ : Nat → Nat) (k t : Nat) : Nat → Nat := fun b => if b < k then τ b else t
theorem tagAt_lt {k b : Nat} (h : b < k) : tagAt τ k t b = τ b := if_pos h
theorem tagAt_ge {k b : Nat} (h : k ≤ b) : tagAt τ k t b = t := if_neg (by omega)

/-- A row of the call's own, in a block with tag t. -/
structure OwnT (τ : Nat → Nat) (t : Nat) (w : World) (base : Nat) (e : TypeId) (size : Nat) (v : Value) (n : Nat) (xs : List Value) : Prop where
  own : w.ownsRow base e size v n xs
  tag : ∀ b, v.ownBlock = some b → τ b = t

variable {base : Nat} {e : TypeId} {size n : Nat} {v : Value} {xs : List Value}
theorem OwnT.ext (h : OwnT τ t w base e size v n xs) (hE : Ext w w') : OwnT τ t w' base e size v n xs := ⟨own_ext h.own hE, h.tag⟩
theorem OwnT.grown {row : Option Nat} (h : OwnT τ t w base e size v n xs) (hg : w.grownBy w' row) (hr : ∀ b, row = some b → τ b ≠ t) : OwnT τ t w' base e size v n xs :=
  ⟨own_grown h.own hg (by
    cases hv : v.ownBlock with
    | none => exact .inl rfl
    | some b => exact .inr fun e => hr b e.symm (h.tag b hv)), h.tag⟩
theorem OwnT.set (h : OwnT τ t w base e size v n xs) {p : Addr} (hp : τ p.block ≠ t) (u : Value) : OwnT τ t (w.setCell p u) base e size v n xs :=
  ⟨own_setCell h.own u fun e => hp (h.tag _ e), h.tag⟩
theorem OwnT.retag (h : OwnT τ t w base e size v n xs) (ht : ∀ b, b < w.heap.size → τ' b = τ b) : OwnT τ' t w base e size v n xs :=
  ⟨h.own, fun b hb => (ht b (h.own.lt b hb).2).trans (h.tag b hb)⟩
theorem OwnT.keep (h : OwnT τ t w base e size v n xs) (s : Nat) : OwnT (tagAt τ w.heap.size s) t w base e size v n xs := h.retag fun _ hb => tagAt_lt hb
theorem OwnT.nil (τ : Nat → Nat) (t : Nat) (w : World) (base : Nat) (e : TypeId) (size : Nat) : OwnT τ t w base e size (.slice none 0 0) 0 [] := ⟨World.ownsRow_nil _ _ _ _, by simp [Value.ownBlock]⟩
theorem OwnT.reads (h : OwnT τ t w base e size v n xs) : Reads w size v n xs := h.own.reads
/-- A store below the base turns nothing. -/
theorem OwnT.low (h : OwnT τ t w base e size v n xs) {p : Addr} (hp : p.block < base) (u : Value) : OwnT τ t (w.setCell p u) base e size v n xs :=
  ⟨own_setCell h.own u fun e => by have := (h.own.lt _ e).1; omega, h.tag⟩

/-- Behind an append. -/
theorem OwnT.app {v' : Value} {n' : Nat} {xs' : List Value} (h : OwnT τ t w base e size v n xs) (hown : w'.ownsRow base e size v' n' xs') (hb : v'.ownBlock = v.ownBlock ∨ v'.ownBlock = some w.heap.size) :
    OwnT (tagAt τ w.heap.size t) t w' base e size v' n' xs' :=
  ⟨hown, fun b hv => by
    rcases hb with h1 | h1
    · have h2 := h1 ▸ hv
      rw [tagAt_lt (h.own.lt b h2).2]
      exact h.tag b h2
    · rw [h1] at hv
      injection hv with hv
      exact tagAt_ge (by omega)⟩
theorem Ent.app {s : Nat} {u : Value} {m : Nat} {ys : List Value} {base2 : Nat} {e2 : TypeId} {size2 : Nat} (h : Ent τ t w P) (ho : OwnT τ s w base2 e2 size2 u m ys) (hg : w.grownBy w' u.ownBlock) (hs : s ≠ t) : Ent (tagAt τ w.heap.size s) t w' P :=
  Ent.grown (h.tag fun b hb => tagAt_lt hb) hg fun b hb => by rw [tagAt_lt (ho.own.lt b hb).2, ho.tag b hb]; exact hs
theorem OwnT.other {s : Nat} {u : Value} {m : Nat} {ys : List Value} {base2 : Nat} {e2 : TypeId} {size2 : Nat} (h : OwnT τ t w base e size v n xs) (ho : OwnT τ s w base2 e2 size2 u m ys) (hg : w.grownBy w' u.ownBlock) (hs : s ≠ t) : OwnT (tagAt τ w.heap.size s) t w' base e size v n xs :=
  OwnT.grown (h.retag fun b hb => tagAt_lt hb) hg fun b hb => by rw [tagAt_lt (ho.own.lt b hb).2, ho.tag b hb]; exact hs
/-- What was made from k on, out of a callee's hands. -/
theorem OwnT.fresh (τ : Nat → Nat) (t : Nat) {k : Nat} (h : w.ownsRow k e size v n xs) : OwnT (tagAt τ k t) t w k e size v n xs := ⟨h, fun b hb => tagAt_ge (h.lt b hb).1⟩
theorem OwnT.ent (h : OwnT τ t w base e size v n xs) : Ent τ t w fun x => x.ownsRow base e size v n xs := fun x hx hb => by
  refine ⟨h.own.1, ?_⟩
  rcases h.own.2 with hn | ⟨g, cap, cur, rfl, h1, hg, rest⟩
  · exact .inl hn
  · exact .inr ⟨g, cap, cur, rfl, h1, by rw [hb g ((Array.getElem?_eq_some_iff.1 hg).1) (h.tag g rfl)]; exact hg, rest⟩
end

theorem ext_al {a w : World} (h : Ext a w) (o : Obj) : Ext a (w.alloc o) := Below.alloc h h.size o
theorem ext_st {a w : World} (h : Ext a w) {p : Addr} (hp : a.heap.size ≤ p.block) (v : Value) : Ext a (w.setCell p v) := Below.setCell h hp v

/-! A block that is known whole. -/
theorem blk_cell {w : World} {b i : Nat} {cs : Array Value} {t : TypeId} {v : Value} (h : w.heap[b]? = some (.cells cs t (0, 0))) (hi : cs[i]? = some v) : w.cell? ⟨b, i, none⟩ = some v := by simp [World.cell?, h, hi]
theorem blk_free {w : World} {b : Nat} {cs : Array Value} {t : TypeId} (h : w.heap[b]? = some (.cells cs t (0, 0))) (i : Nat) : w.frozen? ⟨b, i, none⟩ = false := by simp [World.frozen?, h]
theorem blk_lt {w : World} {b : Nat} {o : Obj} (h : w.heap[b]? = some o) : b < w.heap.size := (Array.getElem?_eq_some_iff.1 h).1
theorem blk_ext {w w' : World} {b : Nat} {o : Obj} (h : w.heap[b]? = some o) (hE : Ext w w') : w'.heap[b]? = some o := (hE.block b (blk_lt h)).trans h
theorem blk_below {w w' : World} {B b : Nat} {o : Obj} (h : w.heap[b]? = some o) (hE : Below B w w') (hb : b < B) : w'.heap[b]? = some o := (hE.block b hb).trans h
theorem blk_far {w : World} {b : Nat} {o : Obj} (h : w.heap[b]? = some o) {p : Addr} (hp : p.block ≠ b) (v : Value) : (w.setCell p v).heap[b]? = some o := (Below.heap_setCell _ _ _ _ (Ne.symm hp)).trans h
theorem blk_grown {w w' : World} {b : Nat} {o : Obj} {row : Option Nat} (h : w.heap[b]? = some o) (hg : w.grownBy w' row) (hn : some b ≠ row) : w'.heap[b]? = some o := (hg.block b (blk_lt h) hn).trans h
theorem blk_set {w : World} {b i : Nat} {cs : Array Value} {t : TypeId} (h : w.heap[b]? = some (.cells cs t (0, 0))) (v : Value) : (w.setCell ⟨b, i, none⟩ v).heap[b]? = some (.cells (cs.setIfInBounds i v) t (0, 0)) := by
  have hb := blk_lt h
  have hg : w.heap[b] = .cells cs t (0, 0) := by rw [Array.getElem?_eq_getElem hb] at h; exact Option.some.inj h
  show (w.heap.modify b _)[b]? = _
  rw [Array.getElem?_eq_getElem (by simpa using hb), Array.getElem_modify_self, hg]
  rfl
theorem blk_new (w : World) (o : Obj) : (w.alloc o).heap[w.heap.size]? = some o := heap_alloc_new w o

/-! One cell of a row of the call's own. -/
theorem own_block {w : World} {base : Nat} {e : TypeId} {H off n cap : Nat} {v : Value} {xs : List Value} (h : w.ownsRow base e 1 v n xs) (hv : v = .slice (some ⟨H, off, none⟩) n cap) : off = 0 ∧ ∃ cur : Array Value, w.heap[H]? = some (.cells cur e (0, 0)) ∧ cur.toList.take n = xs := by
  subst hv
  rcases h.2 with ⟨h1, _⟩ | ⟨g, c, cur, h1, _, h3, _, _, _, h7⟩
  · cases h1
  · simp only [Value.slice.injEq, Option.some.injEq, Addr.mk.injEq] at h1
    obtain ⟨⟨rfl, rfl, _⟩, _, rfl⟩ := h1
    exact ⟨rfl, cur, h3, by simpa using h7⟩
theorem own_cellAt {w : World} {base : Nat} {e : TypeId} {H n cap i : Nat} {xs : List Value} (h : w.ownsRow base e 1 (.slice (some ⟨H, 0, none⟩) n cap) n xs) (hi : i < xs.length) : w.cell? ⟨H, i, none⟩ = some xs[i] := by
  obtain ⟨_, cur, h1, h2⟩ := own_block h rfl
  subst h2
  have h3 : i < cur.size := by simp at hi; omega
  rw [blk_cell h1 (v := cur[i]) (by rw [Array.getElem?_eq_getElem h3])]
  simp
theorem own_freeAt {w : World} {base : Nat} {e : TypeId} {H n cap : Nat} {xs : List Value} (h : w.ownsRow base e 1 (.slice (some ⟨H, 0, none⟩) n cap) n xs) (i : Nat) : w.frozen? ⟨H, i, none⟩ = false := by
  obtain ⟨_, cur, h1, h2⟩ := own_block h rfl
  exact blk_free h1 i
theorem own_setAt {w : World} {base : Nat} {e : TypeId} {H n cap i : Nat} {xs : List Value} (h : w.ownsRow base e 1 (.slice (some ⟨H, 0, none⟩) n cap) n xs) (u : Value) : (w.setCell ⟨H, i, none⟩ u).ownsRow base e 1 (.slice (some ⟨H, 0, none⟩) n cap) n (xs.set i u) := by
  refine ⟨by simpa using h.1, ?_⟩
  rcases h.2 with ⟨h1, _⟩ | ⟨g, c, cur, h1, h2, h3, h4, h5, h6, h7⟩
  · cases h1
  · have h1' := h1
    simp only [Value.slice.injEq, Option.some.injEq, Addr.mk.injEq] at h1'
    obtain ⟨⟨rfl, _, _⟩, _, rfl⟩ := h1'
    exact .inr ⟨_, _, cur.setIfInBounds i u, rfl, h2, blk_set h3 u, h4, h5, by simpa using h6, by rw [Array.toList_setIfInBounds, List.take_set, h7]⟩
theorem OwnT.setAt {τ : Nat → Nat} {t : Nat} {w : World} {base : Nat} {e : TypeId} {H n cap i : Nat} {xs : List Value} (h : OwnT τ t w base e 1 (.slice (some ⟨H, 0, none⟩) n cap) n xs) (u : Value) : OwnT τ t (w.setCell ⟨H, i, none⟩ u) base e 1 (.slice (some ⟨H, 0, none⟩) n cap) n (xs.set i u) := ⟨own_setAt h.own u, h.tag⟩

end Go.Proofs.YtbmimdnpchldlaaGreatDoor

namespace Go.Proofs.YtbmimdnpchldlaaGreatDoor
open Go.RowKit

theorem Tryz.slIntsG : SlTy Tryz.prog 27 3 (.int .i64 0) 1 8 := SlTy.mk' Tryz.underlying27 (by kernel_rfl) (by rfl) (by omega)
theorem Tryz.slLists : SlTy Tryz.prog 42 27 (.slice none 0 0) 1 24 := SlTy.mk' Tryz.underlying42 (by kernel_rfl) (by rfl) (by omega)

/-- Each of the values reads as its list. -/
def Each (w : World) (vs : List Value) (ll : List (List Int)) : Prop :=
  vs.length = ll.length ∧ ∀ (i : Nat) (x : Value) (l : List Int), vs[i]? = some x → ll[i]? = some l → Ints w x l

def Lists (w : World) (v : Value) (ll : List (List Int)) : Prop := ∃ vs, Each w vs ll ∧ Reads w 1 v ll.length vs

/-- No value that holds something lies in the row's own block. -/
def Apart (v : Value) (vs : List Value) (ll : List (List Int)) : Prop := ∀ (i : Nat) (x : Value) (l : List Int), vs[i]? = some x → ll[i]? = some l → l = [] ∨ ∀ b, v.ownBlock = some b → x.ownBlock ≠ some b

/-- .. whose row is the call's own. -/
def OwnL (w : World) (base : Nat) (v : Value) (ll : List (List Int)) : Prop := ∃ vs, Each w vs ll ∧ w.ownsRow base 27 1 v ll.length vs ∧ Apart v vs ll

theorem ints_lt {w : World} {x : Value} {l : List Int} (h : Ints w x l) (hl : l ≠ []) (b : Nat) (hb : x.ownBlock = some b) : b < w.heap.size := by
  obtain ⟨a, c, rfl, hr⟩ := h
  cases a with
  | none => simp [Value.ownBlock] at hb
  | some p =>
    have := hr.blk (by simp; exact List.length_pos_iff.2 hl)
    simp [Value.ownBlock] at hb
    omega

theorem ints_grown {w w' : World} {x : Value} {l : List Int} {row : Option Nat} (h : Ints w x l) (hg : w.grownBy w' row) (hn : l = [] ∨ ∀ b, row = some b → x.ownBlock ≠ some b) : Ints w' x l := by
  refine Reads.grown h hg ?_
  rcases hn with rfl | hn
  · exact .inl rfl
  · cases hx : x.ownBlock with
    | none => exact .inr (.inl rfl)
    | some b => exact .inr (.inr (fun e => hn b e.symm hx))

theorem Each.ext {w w' : World} {vs : List Value} {ll : List (List Int)} (h : Each w vs ll) (hb : Ext w w') : Each w' vs ll := ⟨h.1, fun i x l hx hl => (h.2 i x l hx hl).ext hb⟩
theorem Lists.ext {w w' : World} {v : Value} {ll : List (List Int)} (h : Lists w v ll) (hb : Ext w w') : Lists w' v ll := by
  obtain ⟨vs, h1, h2⟩ := h
  exact ⟨vs, h1.ext hb, h2.ext hb⟩
theorem OwnL.lists {w : World} {base : Nat} {v : Value} {ll : List (List Int)} (h : OwnL w base v ll) : Lists w v ll := by
  obtain ⟨vs, h1, h2, _⟩ := h
  exact ⟨vs, h1, h2.reads⟩
theorem OwnL.ext {w w' : World} {base : Nat} {v : Value} {ll : List (List Int)} (h : OwnL w base v ll) (hb : Ext w w') : OwnL w' base v ll := by
  obtain ⟨vs, h1, h2, h3⟩ := h
  exact ⟨vs, h1.ext hb, own_ext h2 hb, h3⟩
theorem OwnL.down {w : World} {base base' : Nat} {v : Value} {ll : List (List Int)} (h : OwnL w base v ll) (hb : base' ≤ base) : OwnL w base' v ll := by
  obtain ⟨vs, h1, h2, h3⟩ := h
  exact ⟨vs, h1, own_down h2 hb, h3⟩
theorem OwnL.nil (w : World) (base : Nat) : OwnL w base (.slice none 0 0) [] := ⟨[], ⟨rfl, by intro i x l hx; simp at hx⟩, World.ownsRow_nil _ _ _ _, by intro i x l hx; simp at hx⟩

theorem Each.snoc {w : World} {vs : List Value} {ll : List (List Int)} (h : Each w vs ll) {x : Value} {l : List Int} (hx : Ints w x l) : Each w (vs ++ [x]) (ll ++ [l]) := by
  refine ⟨by simp [h.1], fun i y m hy hm => ?_⟩
  by_cases hi : i < vs.length
  · rw [List.getElem?_append_left hi] at hy
    rw [List.getElem?_append_left (by rw [← h.1]; exact hi)] at hm
    exact h.2 i y m hy hm
  · rw [List.getElem?_append_right (by omega)] at hy
    rw [List.getElem?_append_right (by rw [← h.1]; omega)] at hm
    have e : i - vs.length = 0 := by have := (List.getElem?_eq_some_iff.1 hy).1; simp at this; omega
    rw [← h.1] at hm
    rw [e] at hy hm
    simp at hy hm
    subst hy; subst hm
    exact hx

theorem Each.take {w : World} {vs : List Value} {ll : List (List Int)} (h : Each w vs ll) (k : Nat) : Each w (vs.take k) (ll.take k) := by
  refine ⟨by simp [h.1], fun i y m hy hm => ?_⟩
  rw [List.getElem?_take] at hy hm
  split at hy
  · rename_i hi
    rw [if_pos hi] at hm
    exact h.2 i y m hy hm
  · cases hy

/-- One more behind an 'append'. -/
theorem snoc_parts {w w1 : World} {base : Nat} {v v1 x : Value} {vs : List Value} {ll : List (List Int)} {l : List Int} {m : Nat} (hE : Each w vs ll) (hA : Apart v vs ll) (hx : Ints w x l) (hxa : l = [] ∨ ∀ b, v.ownBlock = some b → x.ownBlock ≠ some b)
    (hown : w1.ownsRow base 27 1 v1 m (vs ++ [x])) (hg : w.grownBy w1 v.ownBlock) (hb : v1.ownBlock = v.ownBlock ∨ v1.ownBlock = some w.heap.size) : Each w1 (vs ++ [x]) (ll ++ [l]) ∧ w1.ownsRow base 27 1 v1 (ll ++ [l]).length (vs ++ [x]) ∧ Apart v1 (vs ++ [x]) (ll ++ [l]) := by
  have hE2 := hE.snoc hx
  have hA2 : Apart v (vs ++ [x]) (ll ++ [l]) := by
    intro i y k hy hk
    by_cases hi : i < vs.length
    · rw [List.getElem?_append_left hi] at hy
      rw [List.getElem?_append_left (by rw [← hE.1]; exact hi)] at hk
      exact hA i y k hy hk
    · rw [List.getElem?_append_right (by omega)] at hy
      rw [List.getElem?_append_right (by rw [← hE.1]; omega)] at hk
      have e : i - vs.length = 0 := by have := (List.getElem?_eq_some_iff.1 hy).1; simp at this; omega
      rw [← hE.1] at hk
      rw [e] at hy hk
      simp at hy hk
      subst hy; subst hk
      exact hxa
  have hm : m = (ll ++ [l]).length := by have := hown.1; rw [hE2.1] at this; omega
  subst hm
  refine ⟨⟨hE2.1, fun i y k hy hk => ints_grown (hE2.2 i y k hy hk) hg (hA2 i y k hy hk)⟩, hown, fun i y k hy hk => ?_⟩
  rcases hb with hb | hb
  · rw [hb]; exact hA2 i y k hy hk
  · by_cases hk0 : k = []
    · exact .inl hk0
    · refine .inr fun b e e2 => ?_
      rw [hb] at e
      injection e with e
      have := ints_lt (hE2.2 i y k hy hk) hk0 b e2
      omega

theorem OwnL.snoc {w w1 : World} {base : Nat} {v v1 x : Value} {vs : List Value} {ll : List (List Int)} {l : List Int} {m : Nat} (hE : Each w vs ll) (hA : Apart v vs ll) (hx : Ints w x l) (hxa : l = [] ∨ ∀ b, v.ownBlock = some b → x.ownBlock ≠ some b)
    (hown : w1.ownsRow base 27 1 v1 m (vs ++ [x])) (hg : w.grownBy w1 v.ownBlock) (hb : v1.ownBlock = v.ownBlock ∨ v1.ownBlock = some w.heap.size) : OwnL w1 base v1 (ll ++ [l]) :=
  ⟨_, snoc_parts hE hA hx hxa hown hg hb⟩

/-- The cells of a slice of slices. -/
theorem Lists.cells {w : World} {a : Option Addr} {n cap : Nat} {ll : List (List Int)} (h : Lists w (.slice a n cap) ll) :
    n = ll.length ∧ n ≤ cap ∧ cap ≤ maxLen ∧ ∃ b off, (0 < n → a = some ⟨b, off, none⟩) ∧ ∀ (i : Nat) (hi : i < ll.length), ∃ ai ci, w.cell? ⟨b, off + i, none⟩ = some (.slice ai ll[i].length ci) ∧ Ints w (.slice ai ll[i].length ci) ll[i] := by
  obtain ⟨vs, he, a', c', e, hr⟩ := h
  simp only [Value.slice.injEq] at e
  obtain ⟨rfl, rfl, rfl⟩ := e
  obtain ⟨b, off, _, h2, h3⟩ := hr.lie
  refine ⟨rfl, hr.le, hr.max, b, off, fun hl => h2 (by rw [he.1]; exact hl), fun i hi => ?_⟩
  have hi' : i < vs.length := by rw [he.1]; exact hi
  have hx := he.2 i vs[i] ll[i] (by simp) (by simp)
  obtain ⟨ai, ci, e, hri⟩ := hx
  refine ⟨ai, ci, ?_, ai, ci, rfl, hri⟩
  rw [← e]
  exact h3 i vs[i] (by simp)

theorem Lists.take {w : World} {a : Option Addr} {n cap : Nat} {ll : List (List Int)} (h : Lists w (.slice a n cap) ll) (k : Nat) (hk : k ≤ n) : Lists w (.slice a k cap) (ll.take k) := by
  obtain ⟨vs, he, a', c', e, hr⟩ := h
  simp only [Value.slice.injEq] at e
  obtain ⟨rfl, rfl, rfl⟩ := e
  refine ⟨vs.take k, he.take k, a, cap, by simp [Nat.min_eq_left hk], ?_⟩
  have := hr.take k hk
  rw [Nat.mul_one] at this
  simpa [Nat.min_eq_left hk] using this

theorem Cells.lists {P : Program} {W : World} {t e i : TypeId} {cs : List Value} (ht : P.underlying t = some (.slice e)) (he : P.underlying e = some (.slice i)) (hi : P.underlying i = some (.int .i64)) (hc : P.cellsOf e = 1) (hci : P.cellsOf i = 1) (h : Cells P W t cs) :
    ∃ v ll, cs = [v] ∧ Lists W v ll ∧ ∀ l ∈ ll, ∀ n ∈ l, I64 n := by
  obtain ⟨a, cap, xss, rfl, hr, hx⟩ := h.slice ht hc
  have key : ∀ yss : List (List Value), (∀ xs ∈ yss, xs.length = 1 ∧ Cells P W e xs) → ∃ ll, yss.length = ll.length ∧ Each W yss.flatten ll ∧ ∀ l ∈ ll, ∀ n ∈ l, I64 n := by
    intro yss
    induction yss with
    | nil => intro _; exact ⟨[], rfl, ⟨rfl, by intro i x l hx; simp at hx⟩, by simp⟩
    | cons ys yss ih =>
      intro h
      obtain ⟨ll, h1, h2, h3⟩ := ih (fun xs hx => h xs (by simp [hx]))
      obtain ⟨v, l, rfl, hl, hI⟩ := (h ys (by simp)).2.ints he hi hci
      refine ⟨l :: ll, by simp [h1], ⟨by simpa using h2.1, fun i x m hx hm => ?_⟩, fun m hm => (List.mem_cons.1 hm).elim (fun e => e ▸ hI) (fun hm => h3 m hm)⟩
      cases i with
      | zero => simp at hx hm; subst hx; subst hm; exact hl
      | succ i => exact h2.2 i x m (by simpa using hx) (by simpa using hm)
  obtain ⟨ll, h1, h2, h3⟩ := key xss hx
  rw [h1] at hr ⊢
  exact ⟨_, ll, rfl, ⟨_, h2, a, cap, rfl, hr⟩, h3⟩

end Go.Proofs.YtbmimdnpchldlaaGreatDoor

namespace Go.Proofs.YtbmimdnpchldlaaGreatDoor
open Go.RowKit

abbrev Sp2 := Int × Int
def spc (s : Int × Int) : List Value := [.int .i64 s.1, .int .i64 s.2]
theorem Tryz.slSpots : SlTy Tryz.prog 41 59 (.agg #[.int .i64 0, .int .i64 0]) 2 16 := SlTy.mk' Tryz.underlying41 (by kernel_rfl) (by rfl) (by omega)

end Go.Proofs.YtbmimdnpchldlaaGreatDoor

namespace Go.Proofs.YtbmimdnpchldlaaGreatDoor
open Go.RowKit

def pk (n m : Int) : Int := (if n < 0 then -(n + 1) else n) % m

theorem pk_bd (n m : Int) (h : 0 < m) : 0 ≤ pk n m ∧ pk n m < m := ⟨Int.emod_nonneg _ (by omega), Int.emod_lt_of_pos _ h⟩

set_option maxHeartbeats 400000 in
theorem picked_any (n m : Int) (w : World) (h1 : -9223372036854775808 ≤ n) (h2 : n ≤ 9223372036854775807) (h3 : 0 < m) (h4 : m ≤ 9223372036854775807) :
    Calls Tryz.prog 59 #[.int .i64 n, .int .i64 m] w fun e w' => e = .returned (.int .i64 (pk n m)) ∧ w = w' := by
  by_cases hn : n < 0
  · have e : pk n m = -(n + 1) % m := by simp [pk, hn]
    rw [e]
    clear e
    rw [← Int.tmod_eq_emod_of_nonneg (by omega), Int.neg_tmod]
    go_enter Tryz.func59, Tryz.ntmps59
    go_wp2
    go_ret
    exact ⟨rfl, rfl⟩
  · have e : pk n m = n % m := by simp [pk, hn]
    rw [e]
    clear e
    have h5 : 0 ≤ n := by omega
    go_enter Tryz.func59, Tryz.ntmps59
    go_wp2
    go_ret
    exact ⟨rfl, rfl⟩

end Go.Proofs.YtbmimdnpchldlaaGreatDoor

namespace Go.Proofs.YtbmimdnpchldlaaGreatDoor
open Go.RowKit

theorem ints_cells {w : World} {a : Option Addr} {n c : Nat} {l : List Int} (h : Row w 1 a n c (l.map (.int .i64))) : ∃ b off, (0 < l.length → a = some ⟨b, off, none⟩) ∧ ∀ (i : Nat) (hi : i < l.length), w.cell? ⟨b, off + i, none⟩ = some (.int .i64 l[i]) := by
  obtain ⟨b, off, _, h2, h3⟩ := h.lie
  exact ⟨b, off, fun hl => h2 (by simpa using hl), fun i hi => h3 i _ (by rw [List.getElem?_map, List.getElem?_eq_getElem hi]; rfl)⟩

def Spots (w : World) (v : Value) (l : List Sp2) : Prop := Reads w 2 v l.length (l.flatMap spc)
theorem Spots.ext {w w' : World} {v : Value} {l : List Sp2} (h : Spots w v l) (hb : Ext w w') : Spots w' v l := Reads.ext h hb

theorem Row.oneG (w : World) (t : TypeId) (x : Value) (k : Nat) (hk : k = w.heap.size) : Row (w.alloc (.cells #[x] t)) 1 (some ⟨k, 0, none⟩) 1 1 [x] := by subst hk; exact Row.one w t x
theorem Row.newSp (w : World) (t : TypeId) (k v : Int) : Row (w.alloc (.cells #[.int .i64 k, .int .i64 v] t)) 2 (some ⟨w.heap.size, 0, none⟩) 1 1 (spc (k, v)) := by
  refine ⟨rfl, Nat.le_refl _, by unfold maxLen; omega, w.heap.size, 0, (by intro h; cases h), fun _ => rfl, fun j u hu => ?_⟩
  rw [Nat.zero_add, World.cell?_alloc_at _ _ _ _ rfl]
  simpa [spc] using hu

def gSpots (k : Nat) : List Sp2 := (List.range k).map fun i : Nat => ((i : Int), (0 : Int))
def gL (n : Int) (l : List Int) : List Int := (l.take 6).map fun x => pk x n
def gNext (n : Int) (ll : List (List Int)) (k : Nat) : List (List Int) := (ll.take k).map (gL n)
def gSet (M : Int) (sets : List Int) (i : Nat) : Int := if i < sets.length then pk (sets.getD i 0) M else 0
def gSets (M : Int) (sets : List Int) (k : Nat) : List Int := (List.range k).map (gSet M sets)

theorem gSpots_len (k : Nat) : (gSpots k).length = k := by simp [gSpots]
theorem gSpots_succ (k : Nat) : gSpots (k + 1) = gSpots k ++ [((k : Int), 0)] := by simp [gSpots, List.range_succ]
theorem gNext_len (n : Int) (ll : List (List Int)) (k : Nat) (h : k ≤ ll.length) : (gNext n ll k).length = k := by simp [gNext]; omega
theorem gNext_succ (n : Int) (ll : List (List Int)) (k : Nat) (h : k < ll.length) : gNext n ll (k + 1) = gNext n ll k ++ [gL n ll[k]] := by
  unfold gNext
  rw [List.take_succ_eq_append_getElem h, List.map_append]
  rfl
theorem gSets_len (M : Int) (sets : List Int) (k : Nat) : (gSets M sets k).length = k := by simp [gSets]
theorem gSets_succ (M : Int) (sets : List Int) (k : Nat) : gSets M sets (k + 1) = gSets M sets k ++ [gSet M sets k] := by simp [gSets, List.range_succ]

/-- Three rows of a call's own: spots, lists, sets; each in blocks of its own. -/
structure GMem (τ : Nat → Nat) (B : Nat) (w : World) (sp nx st : Value) (S : List Sp2) (L : List (List Int)) (T : List Int) : Prop where
  lo : ∀ b, b < B → τ b = 0
  size : B ≤ w.heap.size
  sp : OwnT τ 1 w B 59 2 sp S.length (S.flatMap spc)
  nx : ∃ vs, OwnT τ 2 w B 27 1 nx L.length vs ∧ Ent τ 3 w fun x => Each x vs L
  st : OwnT τ 4 w B 3 1 st T.length (T.map (.int .i64))

section
variable {τ : Nat → Nat} {B : Nat} {w w' : World} {sp nx st : Value} {S : List Sp2} {L : List (List Int)} {T : List Int}
theorem GMem.nil (w : World) (B : Nat) (h : B ≤ w.heap.size) : GMem (fun _ => 0) B w (.slice none 0 0) (.slice none 0 0) (.slice none 0 0) [] [] [] :=
  ⟨fun _ _ => rfl, h, OwnT.nil _ _ _ _ _ _, ⟨[], OwnT.nil _ _ _ _ _ _, fun x _ _ => ⟨rfl, by intro i u l hu; simp at hu⟩⟩, OwnT.nil _ _ _ _ _ _⟩
theorem GMem.ext (h : GMem τ B w sp nx st S L T) (hE : Ext w w') : GMem τ B w' sp nx st S L T := by
  obtain ⟨vs, h1, h2⟩ := h.nx
  exact ⟨h.lo, Nat.le_trans h.size hE.size, h.sp.ext hE, ⟨vs, h1.ext hE, h2.ext hE⟩, h.st.ext hE⟩
theorem GMem.low (h : GMem τ B w sp nx st S L T) {p : Addr} (hp : p.block < B) (v : Value) : GMem τ B (w.setCell p v) sp nx st S L T := by
  obtain ⟨vs, h1, h2⟩ := h.nx
  exact ⟨h.lo, by simpa using h.size, h.sp.low hp v, ⟨vs, h1.low hp v, h2.set (by rw [h.lo _ hp]; omega) v⟩, h.st.low hp v⟩
theorem GMem.retag (h : GMem τ B w sp nx st S L T) (t : Nat) : GMem (tagAt τ w.heap.size t) B w sp nx st S L T := by
  obtain ⟨vs, h1, h2⟩ := h.nx
  have e : ∀ b, b < w.heap.size → tagAt τ w.heap.size t b = τ b := fun b hb => tagAt_lt hb
  exact ⟨fun b hb => by have := h.size; rw [e b (by omega)]; exact h.lo b hb, h.size, h.sp.retag e, ⟨vs, h1.retag e, h2.tag e⟩, h.st.retag e⟩
theorem GMem.appSp (h : GMem τ B w sp nx st S L T) {sp' : Value} {n : Nat} {xs : List Value} {x : Sp2} (ho : w'.ownsRow B 59 2 sp' n xs) (hn : n = S.length + 1) (hx : xs = S.flatMap spc ++ spc x)
    (hg : w.grownBy w' sp.ownBlock) (hb : sp'.ownBlock = sp.ownBlock ∨ sp'.ownBlock = some w.heap.size) : GMem (tagAt τ w.heap.size 1) B w' sp' nx st (S ++ [x]) L T := by
  obtain ⟨vs, h1, h2⟩ := h.nx
  refine ⟨fun b hb => by have := h.size; rw [tagAt_lt (by omega)]; exact h.lo b hb, Nat.le_trans h.size hg.size, ?_, ⟨vs, h1.other h.sp hg (by omega), h2.app h.sp hg (by omega)⟩, h.st.other h.sp hg (by omega)⟩
  have := h.sp.app ho hb
  subst hn; subst hx
  simpa using this
theorem GMem.appNx (h : GMem τ B w sp nx st S L T) {nx' u : Value} {l : List Int} {n : Nat} {vs vs' : List Value} (h1 : OwnT τ 2 w B 27 1 nx L.length vs) (h2 : Ent τ 3 w fun x => Each x vs L) (hu : Ent τ 3 w fun x => Ints x u l)
    (ho : w'.ownsRow B 27 1 nx' n vs') (hn : n = L.length + 1) (hv : vs' = vs ++ [u])
    (hg : w.grownBy w' nx.ownBlock) (hb : nx'.ownBlock = nx.ownBlock ∨ nx'.ownBlock = some w.heap.size) : GMem (tagAt τ w.heap.size 2) B w' sp nx' st S (L ++ [l]) T := by
  subst hn; subst hv
  refine ⟨fun b hb => by have := h.size; rw [tagAt_lt (by omega)]; exact h.lo b hb, Nat.le_trans h.size hg.size, h.sp.other h1 hg (by omega), ⟨vs ++ [u], ?_, ?_⟩, h.st.other h1 hg (by omega)⟩
  · have := h1.app ho hb
    simpa using this
  · exact Ent.both (h2.app h1 hg (by omega)) (hu.app h1 hg (by omega)) fun x ha hb => ha.snoc hb
theorem GMem.appSt (h : GMem τ B w sp nx st S L T) {st' : Value} {n : Nat} {xs : List Value} {x : Int} (ho : w'.ownsRow B 3 1 st' n xs) (hn : n = T.length + 1) (hx : xs = T.map (.int .i64) ++ [.int .i64 x])
    (hg : w.grownBy w' st.ownBlock) (hb : st'.ownBlock = st.ownBlock ∨ st'.ownBlock = some w.heap.size) : GMem (tagAt τ w.heap.size 4) B w' sp nx st' S L (T ++ [x]) := by
  obtain ⟨vs, h1, h2⟩ := h.nx
  refine ⟨fun b hb => by have := h.size; rw [tagAt_lt (by omega)]; exact h.lo b hb, Nat.le_trans h.size hg.size, h.sp.other h.st hg (by omega), ⟨vs, h1.other h.st hg (by omega), h2.app h.st hg (by omega)⟩, ?_⟩
  have := h.st.app ho hb
  subst hn; subst hx
  simpa using this
theorem GMem.base (h : GMem τ B w sp nx st S L T) {B' : Nat} (hb : B' ≤ B) : GMem τ B' w sp nx st S L T := by
  obtain ⟨vs, h1, h2⟩ := h.nx
  exact ⟨fun b hlt => h.lo b (by omega), Nat.le_trans hb h.size, ⟨own_down h.sp.own hb, h.sp.tag⟩, ⟨vs, ⟨own_down h1.own hb, h1.tag⟩, h2⟩, ⟨own_down h.st.own hb, h.st.tag⟩⟩
theorem GMem.spots (h : GMem τ B w sp nx st S L T) : Spots w sp S := h.sp.reads
theorem GMem.lists (h : GMem τ B w sp nx st S L T) : Lists w nx L := by
  obtain ⟨vs, h1, h2⟩ := h.nx
  exact ⟨vs, h2.now, h1.reads⟩
theorem GMem.ints (h : GMem τ B w sp nx st S L T) : Ints w st T := by
  have := h.st.reads
  rwa [show T.length = T.length from rfl] at this
end

end Go.Proofs.YtbmimdnpchldlaaGreatDoor

namespace Go.Proofs.YtbmimdnpchldlaaGreatDoor

def Edge (next : List (List Int)) (a b : Nat) : Prop := ∃ l, next[a]? = some l ∧ (b : Int) ∈ l
inductive Reach (next : List (List Int)) : Nat → Nat → Prop
  | refl (a : Nat) : Reach next a a
  | step {a b c : Nat} : Reach next a b → Edge next b c → Reach next a c

theorem Reach.trans {next : List (List Int)} {a b c : Nat} (h : Reach next a b) (k : Reach next b c) : Reach next a c := by
  induction k with
  | refl => exact h
  | step _ e ih => exact ih.step e
theorem Reach.edge {next : List (List Int)} {a b : Nat} (h : Edge next a b) : Reach next a b := (Reach.refl a).step h

/-- Each step leads to a spot. -/
def Inside (n : Nat) (next : List (List Int)) : Prop := ∀ l ∈ next, ∀ k ∈ l, (0 : Int) ≤ k ∧ k < n

/-- What is marked; what is still to be gone through; one spot (c) may be half gone through: its first k steps lead to what is marked. -/
structure Seek (n : Nat) (next : List (List Int)) (src : Nat → Prop) (seen : List Bool) (pend : List Int) : Prop where
  len : seen.length = n
  rch : ∀ a : Nat, seen[a]? = some true → ∃ s, src s ∧ Reach next s a
  pen : ∀ x ∈ pend, ∃ a : Nat, x = a ∧ seen[a]? = some true

def Closed (next : List (List Int)) (seen : List Bool) (pend : List Int) (c : Option (Nat × Nat)) : Prop :=
  ∀ a : Nat, seen[a]? = some true → (a : Int) ∈ pend ∨
    match c with
    | none => ∀ b, Edge next a b → seen[b]? = some true
    | some (c, k) => (a ≠ c → ∀ b, Edge next a b → seen[b]? = some true) ∧ (a = c → ∀ l, next[a]? = some l → ∀ b : Nat, (b : Int) ∈ l.take k → seen[b]? = some true)

theorem seen_set {seen : List Bool} {y a : Nat} (h : seen[a]? = some true) : (seen.set y true)[a]? = some true := by
  rw [List.getElem?_set]
  have := (List.getElem?_eq_some_iff.1 h).1
  split
  · subst_vars; simp [this]
  · exact h

theorem set_seen {seen : List Bool} {y a : Nat} (h : (seen.set y true)[a]? = some true) : seen[a]? = some true ∨ a = y := by
  rw [List.getElem?_set] at h
  split at h
  · right; omega
  · exact .inl h

theorem count_set : ∀ (seen : List Bool) (y : Nat), seen[y]? = some false → (seen.set y true).count true = seen.count true + 1
  | b :: seen, 0, h => by simp at h; subst h; simp
  | b :: seen, y + 1, h => by
    have := count_set seen y (by simpa using h)
    simp only [List.set_cons_succ, List.count_cons, this]
    omega

theorem Seek.mark {n : Nat} {next : List (List Int)} {src : Nat → Prop} {seen : List Bool} {pend pend' : List Int} {y : Nat} (h : Seek n next src seen pend) (hy : ∃ s, src s ∧ Reach next s y) (hn : y < n)
    (hp : ∀ x ∈ pend', x ∈ pend ∨ x = y) : Seek n next src (seen.set y true) pend' := by
  refine ⟨by simp [h.len], fun a ha => ?_, fun x hx => ?_⟩
  · rcases set_seen ha with ha | rfl
    · exact h.rch a ha
    · exact hy
  · rcases hp x hx with hx | rfl
    · obtain ⟨a, rfl, ha⟩ := h.pen x hx
      exact ⟨a, rfl, seen_set ha⟩
    · exact ⟨y, rfl, by rw [List.getElem?_set]; simp [h.len, hn]⟩

theorem Closed.mark {next : List (List Int)} {seen : List Bool} {pend pend' : List Int} {c : Option (Nat × Nat)} {y : Nat} (h : Closed next seen pend c) (hp : ∀ x ∈ pend, x ∈ pend') (hy : (y : Int) ∈ pend') :
    Closed next (seen.set y true) pend' c := by
  intro a ha
  by_cases e : a = y
  · subst e; exact .inl hy
  · rcases set_seen ha with ha | ha
    · rcases h a ha with h | h
      · exact .inl (hp _ h)
      · right
        match c, h with
        | none, h => exact fun b hb => seen_set (h b hb)
        | some (c, k), h => exact ⟨fun hc b hb => seen_set (h.1 hc b hb), fun hc l hl b hb => seen_set (h.2 hc l hl b hb)⟩
    · exact absurd ha e

/-- One more step of the spot that is gone through leads to what is marked. -/
theorem Closed.next {next : List (List Int)} {seen : List Bool} {pend : List Int} {c k y : Nat} {l : List Int} (h : Closed next seen pend (some (c, k))) (hl : next[c]? = some l) (hk : l[k]? = some (y : Int)) (hy : seen[y]? = some true) :
    Closed next seen pend (some (c, k + 1)) := by
  intro a ha
  rcases h a ha with h | h
  · exact .inl h
  · refine .inr ⟨h.1, fun hc l' hl' b hb => ?_⟩
    subst hc
    rw [hl] at hl'
    injection hl' with hl'
    subst hl'
    have hlt := (List.getElem?_eq_some_iff.1 hk).1
    rw [List.take_add_one, hk] at hb
    rcases List.mem_append.1 hb with hb | hb
    · exact h.2 rfl l hl b hb
    · simp at hb
      have : b = y := by omega
      subst this
      exact hy

theorem Closed.done {next : List (List Int)} {seen : List Bool} {pend : List Int} {c : Nat} {l : List Int} (h : Closed next seen pend (some (c, l.length))) (hl : next[c]? = some l) : Closed next seen pend none := by
  intro a ha
  rcases h a ha with h | h
  · exact .inl h
  · right
    by_cases hc : a = c
    · rintro b ⟨l', hl', hb⟩
      have := h.2 hc l' hl' b
      rw [hc, hl] at hl'
      injection hl' with hl'
      subst hl'
      exact this (by rw [List.take_length]; exact hb)
    · exact fun b hb => h.1 hc b hb

theorem Closed.begin {next : List (List Int)} {seen : List Bool} {pend pend' : List Int} {c : Nat} (h : Closed next seen pend none) (hp : ∀ x ∈ pend, x = (c : Int) ∨ x ∈ pend') : Closed next seen pend' (some (c, 0)) := by
  intro a ha
  by_cases hc : a = c
  · exact .inr ⟨fun h => absurd hc h, fun _ l _ b hb => by simp at hb⟩
  · rcases h a ha with h | h
    · rcases hp _ h with e | e
      · exact absurd (by omega) hc
      · exact .inl e
    · exact .inr ⟨fun _ => h, fun h => absurd h hc⟩

/-- What a search has marked at its end. -/
theorem seek_end {n : Nat} {next : List (List Int)} {src : Nat → Prop} {seen : List Bool} (h : Seek n next src seen []) (hc : Closed next seen [] none) (hs : ∀ s, src s → seen[s]? = some true) (a : Nat) : seen[a]? = some true ↔ ∃ s, src s ∧ Reach next s a := by
  refine ⟨h.rch a, ?_⟩
  rintro ⟨s, h1, h2⟩
  induction h2 with
  | refl => exact hs s h1
  | step _ e ih =>
    rcases hc _ ih with h | h
    · simp at h
    · exact h _ e

theorem seek_begin (n : Nat) (next : List (List Int)) (src : Nat → Prop) : Seek n next src (List.replicate n false) [] ∧ Closed next (List.replicate n false) [] none := by
  have e : ∀ a : Nat, ¬ (List.replicate n false)[a]? = some true := by
    intro a h
    rw [List.getElem?_replicate] at h
    split at h <;> simp at h
  exact ⟨⟨by simp, fun a h => absurd h (e a), by simp⟩, fun a h => absurd h (e a)⟩

end Go.Proofs.YtbmimdnpchldlaaGreatDoor

namespace Go.Proofs.YtbmimdnpchldlaaGreatDoor
open Go.RowKit

theorem Tryz.slBoolsG : SlTy Tryz.prog 53 4 (.bool false) 1 1 := SlTy.mk' Tryz.underlying53 (by kernel_rfl) (by rfl) (by omega)

/-- What a search leaves: the marks. -/
def MarkPost (w : World) (n : Nat) (next : List (List Int)) (src : Nat → Prop) (v : Value) (w' : World) : Prop :=
  ∃ seen : List Bool, w'.ownsRow w.heap.size 4 1 v n (seen.map .bool) ∧ seen.length = n ∧ (∀ a : Nat, seen[a]? = some true ↔ ∃ s, src s ∧ Reach next s a) ∧ Ext w w'

theorem made_false (n : Nat) : (madeCells #[Value.bool false] n).toList = (List.replicate n false).map .bool := by rw [toList_madeCells_one, List.map_replicate]

theorem set_map_bool (l : List Bool) (i : Nat) (b : Bool) : (l.map Value.bool).set i (.bool b) = (l.set i b).map .bool := by rw [List.map_set]

end Go.Proofs.YtbmimdnpchldlaaGreatDoor

namespace Go.Proofs.YtbmimdnpchldlaaGreatDoor
open Go.RowKit

/-- A graph in form. -/
structure GOk (n : Nat) (next : List (List Int)) (sets : List Int) (init : Int) (M : Nat) : Prop where
  nx : next.length = n
  st : sets.length = n
  max : n ≤ 20000
  i0 : 0 ≤ init
  i1 : init ≤ n
  m6 : M ≤ 6
  ins : Inside n next
  bits : ∀ s ∈ sets, (0 : Int) ≤ s ∧ s < (2 : Int) ^ M

theorem wrap_pow {M : Nat} (h : M ≤ 6) : IntKind.i64.wrap ((2 : Int) ^ M) = (2 : Int) ^ M := by
  rcases (show M = 0 ∨ M = 1 ∨ M = 2 ∨ M = 3 ∨ M = 4 ∨ M = 5 ∨ M = 6 by omega) with rfl | rfl | rfl | rfl | rfl | rfl | rfl <;> decide

set_option maxRecDepth 100000 in
set_option maxHeartbeats 4000000 in
theorem gcheck_ok (sp nx st : Value) (init : Int) (M : Nat) (S : List Sp2) (next : List (List Int)) (sets : List Int) (w : World) (hS : Spots w sp S) (hN : Lists w nx next) (hT : Ints w st sets) (hk : GOk S.length next sets init M) :
    Calls Tryz.prog 97 #[.agg #[sp, .int .i64 init, nx, st, .int .i64 (M : Int)]] w fun e w' => e = .returned (.int .i64 0) ∧ Ext w w' := by
  obtain ⟨asp, csp, rfl, _⟩ := hS
  obtain ⟨ax, cx, rfl⟩ : ∃ a c, nx = .slice a next.length c := by
    obtain ⟨vs, he, a, c, rfl, _⟩ := hN
    exact ⟨a, c, rfl⟩
  obtain ⟨at', ct, rfl, hrt⟩ := hT
  obtain ⟨_, _, _, bn, on, han, hcn⟩ := hN.cells
  obtain ⟨bs, os, hs1, hs2⟩ := ints_cells hrt
  have HC := Lib.hid hcn
  have HA := Lib.hid han
  have HS1 := Lib.hid hs1
  have HS2 := Lib.hid hs2
  have HK := Lib.hid hk
  have h1 := hk.max
  have h2 := hk.i0
  have h3 := hk.i1
  have h4 := hk.m6
  have h5 := hk.nx
  have h6 := hk.st
  generalize S.length = n at *
  have HN := Lib.hid h5
  have HST := Lib.hid h6
  have hq1 : ((next.length : Int) != (n : Int)) = false := by rw [bne_eq_false_iff_eq]; omega
  have hq2 : ((sets.length : Int) != (n : Int)) = false := by rw [bne_eq_false_iff_eq]; omega
  have hM : (M : Int) ≤ 6 := by omega
  have h1' : (n : Int) ≤ 20000 := by omega
  obtain ⟨PM, hPM⟩ : ∃ PM, (2 : Int) ^ M = PM := ⟨_, rfl⟩
  have hw0 : IntKind.i64.wrap ((2 : Int) ^ M) = PM := (wrap_pow h4).trans hPM
  have HPM := Lib.hid hPM
  clear hPM
  clear hN hcn han hk hrt hs1 hs2 h5 h6 h4
  go_enter Tryz.func97, Tryz.ntmps97
  go_wp2_with fail
  have bA := blk_new w (Obj.cells #[.slice asp n csp, .int .i64 init, .slice ax next.length cx, .slice at' sets.length ct, .int .i64 (M : Int)] 44)
  have hE := ext_al (Ext.refl w) (Obj.cells #[.slice asp n csp, .int .i64 init, .slice ax next.length cx, .slice at' sets.length ct, .int .i64 (M : Int)] 44)
  have BA := Lib.hid bA
  have HE := Lib.hid hE
  clear bA hE
  go_loopg [51] next.length (fun m x wr => ∃ i : Nat, m + i = next.length ∧ x = .int .i64 (i : Int) ∧ wr.heap[w.heap.size]? = some (.cells #[.slice asp n csp, .int .i64 init, .slice ax next.length cx, .slice at' sets.length ct, .int .i64 (M : Int)] 44 (0, 0)) ∧ Ext w wr)
  case atStart => exact ⟨0, by omega, by go_num, BA.out, HE.out⟩
  case round =>
    obtain ⟨i, hm, rfl, bA, hE⟩ := hrel
    clear BA HE
    have HM := Lib.hid hm
    have BA := Lib.hid bA
    have HE := Lib.hid hE
    clear hm bA hE
    by_cases hi : i < next.length
    · obtain rfl := HA.out (by omega)
      obtain ⟨ai, ci, hx, hx2⟩ := HC.out i hi
      replace hx := cell_later HE.out hx
      obtain ⟨_, _, e, hri⟩ := hx2
      simp only [Value.slice.injEq] at e
      obtain ⟨rfl, _, rfl⟩ := e
      have hmi : next[i].length ≤ 9223372036854775807 := by have h1 := hri.max; have h2 := hri.le; unfold maxLen at h1; omega
      obtain ⟨bi, oi, hri1, hri2⟩ := ints_cells hri
      have HLI := Lib.hid (HK.out.ins next[i] (by simp))
      have HI1 := Lib.hid hri1
      have HI2 := Lib.hid hri2
      generalize next[i] = l at *
      clear hri hri1 hri2
      have hiI : (i : Int) < (next.length : Int) := by omega
      have hiI0 : (0 : Int) ≤ (i : Int) := by omega
      have hn9 : next.length ≤ 20000 := by have := HN.out; omega
      go_wp2_with fail
      obtain ⟨wo, rfl⟩ : ∃ wo : World, wo = wr := ⟨_, rfl⟩
      go_loopg [58] l.length (fun m x wi => ∃ k : Nat, m + k = l.length ∧ x = .int .i64 (k : Int) ∧ wi = wo)
      case atStart => exact ⟨0, by omega, by go_num, rfl⟩
      case round =>
        obtain ⟨k, hmk, rfl, rfl⟩ := hrel
        have HMK := Lib.hid hmk
        clear hmk
        by_cases hk : k < l.length
        · obtain rfl := HI1.out (by omega)
          have ck := cell_later HE.out (HI2.out k hk)
          obtain ⟨y0, y1⟩ := HLI.out l[k] (by simp)
          generalize l[k] = y at *
          have y2 : ¬ y < 0 := by omega
          have y3 : ¬ (n : Int) ≤ y := by omega
          go_wp2_with fail
          go_roundg (gk - 1)
          case measure => have := HMK.out; omega
          case rel => exact ⟨k + 1, by have := HMK.out; omega, by go_num, rfl⟩
        · have hkl : ¬ (k : Int) < (l.length : Int) := by omega
          have hist : i < sets.length := by have := HN.out; have := HST.out; omega
          obtain rfl := HS1.out (by omega)
          have cst := cell_later HE.out (HS2.out i hist)
          obtain ⟨s0, s1⟩ := HK.out.bits sets[i] (by simp)
          rw [HPM.out] at s1
          have hiS : (i : Int) < (sets.length : Int) := by omega
          have cA3 := blk_cell BA.out (i := 3) rfl
          have cA4 := blk_cell BA.out (i := 4) rfl
          generalize sets[i] = y at *
          have y2 : decide (y < 0) = false := by rw [decide_eq_false_iff_not]; omega
          have y3 : decide (PM ≤ y) = false := by rw [decide_eq_false_iff_not]; omega
          clear hk
          go_wp2_with fail
          go_quiet (fail)
          go_wp2_with fail
          go_roundg (next.length - (i + 1))
          case measure => have := HM.out; omega
          case rel =>
            have hW : ∀ m, Ext wr (wr.drewN m) := fun m => below_drewN (Ext.refl wr) m
            exact ⟨i + 1, by omega, by go_num, blk_ext BA.out (hW _), HE.out.trans (hW _)⟩
    · have hnI : ¬ (i : Int) < (next.length : Int) := by omega
      clear hi
      go_wp2
      go_ret
      exact ⟨rfl, HE.out⟩

set_option maxRecDepth 100000 in
set_option maxHeartbeats 1000000 in
theorem check_bad (w : World) : Calls Tryz.prog 97 #[.agg #[.slice none 0 0, .int .i64 1, .slice none 0 0, .slice none 0 0, .int .i64 0]] w fun e w' => e = .returned (.int .i64 9) ∧ Ext w w' := by
  go_enter Tryz.func97, Tryz.ntmps97
  go_wp2
  go_ret
  exact ⟨rfl, ext_al (Ext.refl w) _⟩

end Go.Proofs.YtbmimdnpchldlaaGreatDoor

namespace Go.Proofs.YtbmimdnpchldlaaGreatDoor
open Go.RowKit

/-- What the search's two variables hold: S the marks, T what is still to be gone through. -/
structure VMem (τ : Nat → Nat) (B S T D n : Nat) (w : World) (seen : List Bool) (todo : List Int) : Prop where
  ms : w.heap[S]? = some (.cells #[.slice (some ⟨D, 0, none⟩) n n] 53 (0, 0))
  mt : ∃ a c, w.heap[T]? = some (.cells #[.slice a todo.length c] 27 (0, 0)) ∧ OwnT τ 2 w B 3 1 (.slice a todo.length c) todo.length (todo.map (.int .i64))
  os : OwnT τ 1 w D 4 1 (.slice (some ⟨D, 0, none⟩) n n) n (seen.map .bool)
  ord : D < S ∧ S < T ∧ T < B
  tag : τ T = 0 ∧ B ≤ w.heap.size

theorem VMem.ext {τ : Nat → Nat} {B S T D n : Nat} {w w' : World} {seen : List Bool} {todo : List Int} (h : VMem τ B S T D n w seen todo) (hE : Ext w w') : VMem τ B S T D n w' seen todo := by
  obtain ⟨a, c, h1, h2⟩ := h.mt
  exact ⟨blk_ext h.ms hE, ⟨a, c, blk_ext h1 hE, h2.ext hE⟩, h.os.ext hE, h.ord, h.tag.1, Nat.le_trans h.tag.2 hE.size⟩
theorem VMem.len {τ : Nat → Nat} {B S T D n : Nat} {w : World} {seen : List Bool} {todo : List Int} (h : VMem τ B S T D n w seen todo) : seen.length = n := by simpa using h.os.own.1

def visL (seen : List Bool) (todo : List Int) (y : Nat) : List Bool × List Int := if seen[y]? = some true then (seen, todo) else (seen.set y true, todo ++ [(y : Int)])

set_option maxRecDepth 100000 in
set_option maxHeartbeats 2000000 in
theorem visit_any (τ : Nat → Nat) (B S T D n : Nat) (w : World) (seen : List Bool) (todo : List Int) (y : Nat) (h : VMem τ B S T D n w seen todo) (hy : y < n) (ht : todo.length ≤ 100000) :
    Calls Tryz.prog 100 #[.int .i64 (y : Int), .pointer (some ⟨S, 0, none⟩), .pointer (some ⟨T, 0, none⟩)] w fun e w' => e = .returned (.tuple #[]) ∧ (∃ τ', VMem τ' B S T D n w' (visL seen todo y).1 (visL seen todo y).2) ∧ Below D w w' := by
  have hl := h.len
  obtain ⟨h1, h2, h3⟩ := h.ord
  obtain ⟨h4, h5⟩ := h.tag
  have H4 := Lib.hid h4
  clear h4
  obtain ⟨a, c, b1, b2⟩ := h.mt
  have cS := blk_cell h.ms (i := 0) rfl
  have cT := blk_cell b1 (i := 0) rfl
  have fT := blk_free b1 0
  have hyl : y < seen.length := by omega
  have cy := own_cellAt h.os.own (i := y) (by simpa using hyl)
  have fy := own_freeAt h.os.own y
  rw [List.getElem_map] at cy
  have hD : D < w.heap.size := (h.os.own.lt D rfl).2
  have H := Lib.hid h
  have B2 := Lib.hid b2
  have B1 := Lib.hid b1
  have hyI : (y : Int) < (n : Int) := by omega
  have htD : τ D = 1 := h.os.tag D rfl
  have HTD := Lib.hid htD
  clear h b1 b2 hl htD
  cases hsy : seen[y] with
  | true =>
    rw [hsy] at cy
    have HV := Lib.hid (show visL seen todo y = (seen, todo) by simp [visL, List.getElem?_eq_getElem hyl, hsy])
    clear hsy
    go_enter Tryz.func100, Tryz.ntmps100
    go_wp2
    go_end0
    exact ⟨rfl, ⟨τ, by rw [HV.out]; exact H.out⟩, Below.refl _ _⟩
  | false =>
    rw [hsy] at cy
    have HV := Lib.hid (show visL seen todo y = (seen.set y true, todo ++ [(y : Int)]) by simp [visL, List.getElem?_eq_getElem hyl, hsy])
    clear hsy
    have q1 := H.out.os.setAt (i := y) (.bool true)
    rw [set_map_bool] at q1
    have q2 := B2.out.set (p := ⟨D, y, none⟩) (by show τ D ≠ 2; have := HTD.out; omega) (.bool true)
    have hal : Ext (w.setCell ⟨D, y, none⟩ (.bool true)) ((w.setCell ⟨D, y, none⟩ (.bool true)).alloc (Obj.cells #[.int .i64 (y : Int)] 3)) := ext_al (Ext.refl _) _
    have ho2 := q2.own.alloc (Obj.cells #[.int .i64 (y : Int)] 3)
    have bS := blk_ext (blk_far H.out.ms (p := ⟨D, y, none⟩) (by show D ≠ S; omega) (.bool true)) hal
    have bT := blk_ext (blk_far B1.out (p := ⟨D, y, none⟩) (by show D ≠ T; omega) (.bool true)) hal
    have Q1 := Lib.hid (q1.ext hal)
    have Q2 := Lib.hid (q2.ext hal)
    have BS := Lib.hid bS
    have BT := Lib.hid bT
    have HE := Lib.hid (show Below D w ((w.setCell ⟨D, y, none⟩ (.bool true)).alloc (Obj.cells #[.int .i64 (y : Int)] 3)) from Below.alloc (Below.setCell (Below.refl _ _) (p := ⟨D, y, none⟩) (by show D ≤ D; omega) _) (by simp; omega) _)
    clear q1 q2 bS bT hal
    go_enter Tryz.func100, Tryz.ntmps100
    go_wp2_with (at_builtin; go_must (refine wpl_append rfl rfl Tryz.slIntsG B rfl ho2 rfl (Row.oneG _ _ _ _ (by simp)) (one_int _) (by unfold maxLen; omega) (by omega) (by simp; omega) ?_))
    intro v3 w3 hown3 hg3 hb3 _
    have hb3' : v3.ownBlock = (Value.slice a todo.length c).ownBlock ∨ v3.ownBlock = some ((w.setCell ⟨D, y, none⟩ (.bool true)).alloc (Obj.cells #[.int .i64 (y : Int)] 3)).heap.size := by
      rcases hb3 with h | h
      · exact .inl h
      · right; rw [h]; simp
    have hlo : ∀ b, (Value.slice a todo.length c).ownBlock = some b → B ≤ b := fun b hb => (B2.out.own.lt b hb).1
    have r2 := Q2.out.app hown3 hb3'
    have r1 := Q1.out.other Q2.out hg3 (by omega)
    have rS := blk_grown BS.out hg3 (fun e => by have := hlo _ e.symm; omega)
    have rT := blk_grown BT.out hg3 (fun e => by have := hlo _ e.symm; omega)
    have rE := HE.out.grown hg3 (by simp; omega) (fun b hb => by have := hlo b hb; omega)
    obtain ⟨a3, c3, rfl, _⟩ := hown3.row
    have cT := blk_cell rT (i := 0) rfl
    have fT := blk_free rT 0
    have HR := Lib.hid r2
    have HG := Lib.hid hg3
    have R1 := Lib.hid r1
    have RS := Lib.hid rS
    have RT := Lib.hid rT
    have RE := Lib.hid rE
    clear hown3 hg3 hb3 hb3' r1 r2 rS rT rE cy fy ho2
    go_wp2
    go_end0
    refine ⟨rfl, ?_, RE.out.setCell (p := ⟨T, 0, none⟩) (by show D ≤ T; omega) _⟩
    rw [HV.out]
    have z := blk_set RT.out (i := 0) (.slice a3 (todo.length + 1) c3)
    have z2 := HR.out.low (p := ⟨T, 0, none⟩) (by show T < B; omega) (.slice a3 (todo.length + 1) c3)
    have t0 : tagAt τ ((w.setCell ⟨D, y, none⟩ (.bool true)).alloc (Obj.cells #[.int .i64 (y : Int)] 3)).heap.size 2 T = 0 := by rw [tagAt_lt (by simp; omega)]; exact H4.out
    have hsz := HG.out.size
    exact ⟨_, blk_far RS.out (p := ⟨T, 0, none⟩) (by show T ≠ S; omega) _, ⟨a3, c3, by simpa using z, by simpa using z2⟩, R1.out.set (p := ⟨T, 0, none⟩) (by rw [t0]; omega) _, ⟨h1, h2, h3⟩, t0, by simp at hsz ⊢; omega⟩

end Go.Proofs.YtbmimdnpchldlaaGreatDoor
