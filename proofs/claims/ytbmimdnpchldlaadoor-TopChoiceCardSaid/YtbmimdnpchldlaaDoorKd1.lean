/- Several texts in one: Base; Mem; Tag; Li; SpC; Pick; Reach; Tarjan; TarjanM; Bits. No condition. -/
import Derived.Test.YtbmimdnpchldlaaDoorRows
import Derived.WalkKit
import Derived.WalkSpells
import Derived.WalkLawsBesides
import Derived.Deep.QuietTactic
import Derived.BigQuiet
import Derived.Lib.Hide
import Derived.ProofKit
import Derived.OpenShut
import Derived.ChangeOld
import Derived.StillTailTactics
namespace Go.Proofs.YtbmimdnpchldlaaDoor
open Go.RowKit

/-- A slice type's row of the table: elements of type e, its zero value, its cells, its bytes. -/
structure SlTy (P : Program) (t e : TypeId) (z : Value) (size bytes : Nat) : Prop where
  und : P.underlying t = some (.slice e)
  inf : ∃ i, P.info? e = some i ∧ i.zero = some z ∧ i.size = size ∧ i.bytes = bytes
  zs : z.cells.size = size
  pos : 0 < size

theorem SlTy.mk' {P : Program} {t e : TypeId} {z : Value} {size bytes : Nat} (und : P.underlying t = some (.slice e))
    (inf : (P.info? e).map (fun i => (i.zero, i.size, i.bytes)) = some (some z, size, bytes)) (zs : z.cells.size = size) (pos : 0 < size) : SlTy P t e z size bytes :=
  ⟨und, info_parts inf, zs, pos⟩

/-- The cells xs lie behind the address a (which may be nil where there are none). -/
structure Row (w : World) (sz : Nat) (a : Option Addr) (n cap : Nat) (xs : List Value) : Prop where
  len : xs.length = n * sz
  le : n ≤ cap
  max : cap ≤ maxLen
  lie : ∃ b off, (a = none → cap = 0) ∧ (0 < xs.length → a = some ⟨b, off, none⟩) ∧ ∀ j u, xs[j]? = some u → w.cell? ⟨b, off + j, none⟩ = some u

theorem Row.nil (w : World) (sz : Nat) : Row w sz none 0 0 [] := ⟨by simp, by omega, by simp, 0, 0, fun _ => rfl, (by intro h; simp at h), by intro j u h; simp at h⟩

theorem getElem?_pos {α : Type} {xs : List α} {j : Nat} {u : α} (h : xs[j]? = some u) : 0 < xs.length := by have := (List.getElem?_eq_some_iff.1 h).1; omega

theorem Row.cells {w : World} {sz : Nat} {b off n cap : Nat} {xs : List Value} (h : Row w sz (some ⟨b, off, none⟩) n cap xs) : ∀ j u, xs[j]? = some u → w.cell? ⟨b, off + j, none⟩ = some u := by
  obtain ⟨b', off', _, h2, h3⟩ := h.lie
  intro j u hu
  have := h2 (getElem?_pos hu)
  simp only [Option.some.injEq, Addr.mk.injEq] at this
  obtain ⟨rfl, rfl, _⟩ := this
  exact h3 j u hu

theorem Row.none0 {w : World} {sz : Nat} {n cap : Nat} {xs : List Value} (h : Row w sz none n cap xs) : n = 0 ∧ cap = 0 ∧ xs = [] := by
  obtain ⟨b', off', h1, _, h3⟩ := h.lie
  have hc := h1 rfl
  have hn : n = 0 := by have := h.le; omega
  subst hn
  exact ⟨rfl, hc, List.eq_nil_of_length_eq_zero (by simpa using h.len)⟩

theorem Row.empty {w w' : World} {sz : Nat} {a : Option Addr} {n cap : Nat} (h : Row w sz a n cap []) : Row w' sz a n cap [] := by
  obtain ⟨b, off, h1, h2, _⟩ := h.lie
  exact ⟨h.len, h.le, h.max, b, off, h1, h2, by intro j u hu; simp at hu⟩

theorem Row.blk {w : World} {sz : Nat} {p : Addr} {n cap : Nat} {xs : List Value} (h : Row w sz (some p) n cap xs) (hx : 0 < xs.length) : p.block < w.heap.size := by
  obtain ⟨b, off, h1, h2, h3⟩ := h.lie
  have := World.block_lt_of_cell? _ _ (h3 0 xs[0] (by simp))
  have e := h2 hx
  simp only [Option.some.injEq] at e
  subst e
  exact this

theorem Row.keep {w w' : World} {sz : Nat} {a : Option Addr} {n cap : Nat} {xs : List Value} (h : Row w sz a n cap xs) (hk : ∀ p, a = some p → 0 < xs.length → w'.heap[p.block]? = w.heap[p.block]?) : Row w' sz a n cap xs := by
  refine ⟨h.len, h.le, h.max, ?_⟩
  obtain ⟨b, off, h1, h2, h3⟩ := h.lie
  refine ⟨b, off, h1, h2, fun j u hu => ?_⟩
  exact (World.cell?_of_block (w := w) (w' := w') (a := ⟨b, off + j, none⟩) (hk ⟨b, off, none⟩ (h2 (getElem?_pos hu)) (getElem?_pos hu))).trans (h3 j u hu)

/-- All blocks that were there are as they were. -/
abbrev Ext (w w' : World) : Prop := Below w.heap.size w w'

theorem Ext.refl (w : World) : Ext w w := Below.refl _ _
theorem Ext.trans {a b c : World} (h : Ext a b) (k : Ext b c) : Ext a c := Below.trans h (Below.mono k h.size)

theorem Row.below {w w' : World} {B sz : Nat} {a : Option Addr} {n cap : Nat} {xs : List Value} (h : Row w sz a n cap xs) (hb : Below B w w') (ha : ∀ p, a = some p → p.block < B) : Row w' sz a n cap xs :=
  h.keep fun p hp _ => hb.block _ (ha p hp)

theorem Row.ext {w w' : World} {sz : Nat} {a : Option Addr} {n cap : Nat} {xs : List Value} (h : Row w sz a n cap xs) (hb : Ext w w') : Row w' sz a n cap xs :=
  h.keep fun p hp hx => hb.block _ (by subst hp; exact h.blk hx)

theorem Row.drew {w : World} {sz : Nat} {a : Option Addr} {n cap : Nat} {xs : List Value} (h : Row w sz a n cap xs) : Row w.drew sz a n cap xs := h.keep fun _ _ _ => rfl

theorem Row.take {w : World} {sz : Nat} {a : Option Addr} {n cap : Nat} {xs : List Value} (h : Row w sz a n cap xs) (k : Nat) (hk : k ≤ n) : Row w sz a k cap (xs.take (k * sz)) := by
  refine ⟨?_, by have := h.le; omega, h.max, ?_⟩
  · rw [List.length_take, h.len]
    exact Nat.min_eq_left (Nat.mul_le_mul_right _ hk)
  · obtain ⟨b, off, h1, h2, h3⟩ := h.lie
    refine ⟨b, off, h1, fun hl => h2 (by rw [List.length_take] at hl; omega), fun j u hu => h3 j u ?_⟩
    rw [List.getElem?_take] at hu
    split at hu
    · exact hu
    · cases hu

/-- A value that is a slice and reads as the cells xs. -/
def Reads (w : World) (sz : Nat) (v : Value) (n : Nat) (xs : List Value) : Prop := ∃ a cap, v = .slice a n cap ∧ Row w sz a n cap xs

theorem Reads.ext {w w' : World} {sz : Nat} {v : Value} {n : Nat} {xs : List Value} (h : Reads w sz v n xs) (hb : Ext w w') : Reads w' sz v n xs := by
  obtain ⟨a, cap, rfl, hr⟩ := h
  exact ⟨a, cap, rfl, hr.ext hb⟩

theorem Reads.nil (w : World) (sz : Nat) : Reads w sz (.slice none 0 0) 0 [] := ⟨_, _, rfl, Row.nil w sz⟩

/-- Its block, if it has one, is not k. -/
theorem Reads.grown {w w' : World} {sz : Nat} {v : Value} {n : Nat} {xs : List Value} {row : Option Nat} (h : Reads w sz v n xs) (hg : w.grownBy w' row) (hn : xs = [] ∨ v.ownBlock = none ∨ v.ownBlock ≠ row) : Reads w' sz v n xs := by
  obtain ⟨a, cap, rfl, hr⟩ := h
  refine ⟨a, cap, rfl, hr.keep fun p hp hx => hg.block _ (by subst hp; exact hr.blk hx) ?_⟩
  subst hp
  rcases hn with h | h | h
  · subst h; simp at hx
  · simp [Value.ownBlock] at h
  · simpa [Value.ownBlock] using h

theorem _root_.Go.World.ownsRow.row {w : World} {base : Nat} {e : TypeId} {size : Nat} {v : Value} {n : Nat} {xs : List Value} (h : w.ownsRow base e size v n xs) : ∃ a cap, v = .slice a n cap ∧ Row w size a n cap xs := by
  rcases h.2 with ⟨rfl, rfl⟩ | ⟨g, cap, cur, rfl, hb, hg, hnc, hcm, hcs, htake⟩
  · have : xs = [] := List.eq_nil_of_length_eq_zero (by simpa using h.1)
    subst this
    exact ⟨_, _, rfl, Row.nil _ _⟩
  · refine ⟨_, _, rfl, h.1, hnc, hcm, g, 0, (by intro h; cases h), (by intro _; rfl), fun j u hu => ?_⟩
    have hj : j < n * size := by have := (List.getElem?_eq_some_iff.1 hu).1; rw [h.1] at this; exact this
    rw [Nat.zero_add, cell_of_row w g j cur e (0, 0) hg, ← Array.getElem?_toList]
    rw [← htake, List.getElem?_take, if_pos hj] at hu
    exact hu

theorem _root_.Go.World.ownsRow.reads {w : World} {base : Nat} {e : TypeId} {size : Nat} {v : Value} {n : Nat} {xs : List Value} (h : w.ownsRow base e size v n xs) : Reads w size v n xs := h.row

theorem _root_.Go.World.ownsRow.weaken {w : World} {base base' : Nat} {e : TypeId} {size : Nat} {v : Value} {n : Nat} {xs : List Value} (h : w.ownsRow base e size v n xs) (hb : ∀ k, v.ownBlock = some k → base' ≤ k) : w.ownsRow base' e size v n xs := by
  refine ⟨h.1, ?_⟩
  rcases h.2 with hn | ⟨g, cap, cur, rfl, _, rest⟩
  · exact .inl hn
  · exact .inr ⟨g, cap, cur, rfl, hb g rfl, rest⟩

theorem own_below {w w' : World} {B base : Nat} {e : TypeId} {size : Nat} {v : Value} {n : Nat} {xs : List Value} (h : w.ownsRow base e size v n xs) (hb : Below B w w') (hv : ∀ k, v.ownBlock = some k → k < B) : w'.ownsRow base e size v n xs := by
  refine ⟨h.1, ?_⟩
  rcases h.2 with hn | ⟨g, cap, cur, rfl, h1, hgg, rest⟩
  · exact .inl hn
  · exact .inr ⟨g, cap, cur, rfl, h1, by rw [hb.block g (hv g rfl)]; exact hgg, rest⟩

theorem own_ext {w w' : World} {base : Nat} {e : TypeId} {size : Nat} {v : Value} {n : Nat} {xs : List Value} (h : w.ownsRow base e size v n xs) (hb : Ext w w') : w'.ownsRow base e size v n xs :=
  own_below h hb fun k hk => (h.lt k hk).2

theorem own_down {w : World} {base base' : Nat} {e : TypeId} {size : Nat} {v : Value} {n : Nat} {xs : List Value} (h : w.ownsRow base e size v n xs) (hb : base' ≤ base) : w.ownsRow base' e size v n xs :=
  h.weaken fun k hk => by have := h.lt k hk; omega

theorem Row.add {w : World} {sz : Nat} {p : Addr} {n cap : Nat} {xs : List Value} (h : Row w sz (some p) n cap xs) : ∀ j u, xs[j]? = some u → w.cell? (p.add j) = some u := by
  obtain ⟨b, off, _, h2, h3⟩ := h.lie
  intro j u hu
  have e := h2 (getElem?_pos hu)
  simp only [Option.some.injEq] at e
  subst e
  rw [Addr.add_lit]
  exact h3 j u hu

section
variable {P : Program}

/-- 'append' onto a row of the call's own: the source lies anywhere, nil too. The block is the old one or a new one. -/
theorem run_append_row (w : World) (base : Nat) {t ty e : TypeId} {z : Value} {size bytes : Nat} (T : SlTy P t e z size bytes)
    (v : Value) (n : Nat) (xs : List Value) (hown : w.ownsRow base e size v n xs) (ao : Option Addr) (m c : Nat) (news : List Value) (hrow : Row w size ao m c news)
    (h1 : ∀ u ∈ news, u.oneCell' = true) (h63 : n + m ≤ maxLen) (hbytes : (n + m) * bytes ≤ 140737488355328) (hbase : base ≤ w.heap.size) :
    ∃ v' w', (Builtin.append_ #[t, t] ty #[v, .slice ao m c]).run P w = .ok v' w' ∧ w'.ownsRow base e size v' (n + m) (xs ++ news) ∧ w.grownBy w' v.ownBlock ∧
      (v'.ownBlock = v.ownBlock ∨ v'.ownBlock = some w.heap.size) ∧ (v' = .slice none 0 0 ↔ v = .slice none 0 0 ∧ m = 0) := by
  obtain ⟨i, hi, hz, hsz, hby⟩ := T.inf
  cases ao with
  | none =>
    obtain ⟨rfl, rfl, rfl⟩ := hrow.none0
    have hr := run_append_owned_none (P := P) w base t ty e i size T.und hi v n xs hown
    exact ⟨v, w, hr, by simpa using hown, ⟨rfl, rfl, rfl, Nat.le_refl _, fun _ _ _ => rfl⟩, .inl rfl, by simp⟩
  | some ad =>
    obtain ⟨v', w', hr, h2, h3, h4⟩ := run_append_own (P := P) w base t ty e i z size bytes T.und hi hz hsz hby T.zs T.pos v n xs hown ad m c news hrow.len hrow.add h1 h63 hbytes hbase
    refine ⟨v', w', hr, h2, h3, ?_, h4⟩
    subst hsz
    subst hby
    have hsmall : n + m ≤ 9223372036854775807 := by simp only [maxLen] at h63; omega
    rcases hown.2 with ⟨rfl, rfl⟩ | ⟨g, cap, cur, rfl, hbg, hg, hnc, hcm, hcs, htake⟩
    · by_cases hm : m = 0
      · have := h4.2 ⟨rfl, hm⟩
        subst this
        exact .inl rfl
      · have hr2 := run_append_nil (P := P) w t ty e i z T.und hi hz ad m c news hrow.len hrow.add (by omega) (by omega) (by have hb := hbytes; simp only [Nat.zero_add] at hb; omega)
        rw [hr2] at hr
        simp only [Result.ok.injEq] at hr
        rw [← hr.1]
        exact .inr rfl
    · by_cases hroom : n + m ≤ cap
      · have hfit : n * i.size + news.length ≤ cur.size := by rw [hrow.len, hcs, ← Nat.add_mul]; exact Nat.mul_le_mul_right _ hroom
        have hr2 := run_append_room (P := P) w t ty e i T.und hi g n cap cur hg ad m c news hrow.len hrow.add h1 hroom hfit
        rw [hr2] at hr
        simp only [Result.ok.injEq] at hr
        rw [← hr.1]
        exact .inl rfl
      · have holds : ∀ j u, xs[j]? = some u → w.cell? ((⟨g, 0, none⟩ : Addr).add j) = some u := hown.cells (g := g) rfl
        have hr2 := run_append_grow (P := P) w t ty e i z T.und hi hz ⟨g, 0, none⟩ n cap xs hown.1 holds ad m c news hrow.len hrow.add (by omega) (by omega) (growslice_fits (by omega) hbytes)
        rw [hr2] at hr
        simp only [Result.ok.injEq] at hr
        rw [← hr.1]
        exact .inr rfl

/-- For the walk. -/
theorem wpl_append {w : World} {ops : Array Oper} {rest : List Oper} {o : Oper} {a : Act} {Q : Exit → Act → World → Prop} (hgd : o.guard = none) {s x : Operand} {t : TypeId}
    (ho : o.op = .call { callee := .builtin .append, args := #[s, x], argTypes := #[t, t] })
    {e : TypeId} {z : Value} {size bytes : Nat} (T : SlTy P t e z size bytes) (base : Nat)
    {v : Value} {n : Nat} {xs : List Value} (hs : a.eval s = v) (hown : w.ownsRow base e size v n xs)
    {ao : Option Addr} {m c : Nat} {news : List Value} (hx : a.eval x = .slice ao m c) (hrow : Row w size ao m c news)
    (h1 : ∀ u ∈ news, u.oneCell' = true) (h63 : n + m ≤ maxLen) (hbytes : (n + m) * bytes ≤ 140737488355328) (hbase : base ≤ w.heap.size)
    (h : ∀ v' w', w'.ownsRow base e size v' (n + m) (xs ++ news) → w.grownBy w' v.ownBlock → (v'.ownBlock = v.ownBlock ∨ v'.ownBlock = some w.heap.size) → (v' = .slice none 0 0 ↔ v = .slice none 0 0 ∧ m = 0) →
      wpList P ops Q rest (a.put o.dst v') w') : wpList P ops Q (o :: rest) a w := by
  refine wpList_plain hgd fun K hK => ?_
  obtain ⟨v', w', hr, h2, h3, h4, h5⟩ := run_append_row (P := P) w base (ty := o.type) T v n xs hown ao m c news hrow h1 h63 hbytes hbase
  unfold Oper.wp execOp
  simp only [ho, resolve, invoke, builtin, Sem.run_bind, Sem.run_pure, Result.andThen_ok, List.map_toArray, List.map_cons, List.map_nil, hs, hx, hr]
  exact hK _ _ (h v' w' h2 h3 h4 h5)
end

theorem _root_.Go.World.grownBy.trans' {a b c : World} {row : Option Nat} (h : a.grownBy b row) (k : b.grownBy c row) : a.grownBy c row :=
  ⟨k.os.trans h.os, k.tape.trans h.tape, k.output.trans h.output, Nat.le_trans h.size k.size, fun i hi hr => (k.block i (Nat.lt_of_lt_of_le hi h.size) hr).trans (h.block i hi hr)⟩

/-- One element, or a few, in a new block. -/
theorem Row.one (w : World) (t : TypeId) (x : Value) : Row (w.alloc (.cells #[x] t)) 1 (some ⟨w.heap.size, 0, none⟩) 1 1 [x] := by
  refine ⟨rfl, Nat.le_refl _, by unfold maxLen; omega, w.heap.size, 0, (by intro h; cases h), fun _ => rfl, fun j u hu => ?_⟩
  rw [Nat.zero_add, World.cell?_alloc_at _ _ _ _ rfl]
  simpa using hu

theorem Row.new (w : World) (t : TypeId) (cs : List Value) (hm : cs.length ≤ maxLen) : Row (w.alloc (.cells cs.toArray t)) 1 (some ⟨w.heap.size, 0, none⟩) cs.length cs.length cs := by
  refine ⟨by simp, Nat.le_refl _, hm, w.heap.size, 0, (by intro h; cases h), fun _ => rfl, fun j u hu => ?_⟩
  rw [Nat.zero_add, World.cell?_alloc_at _ _ _ _ rfl]
  simpa using hu

theorem one_int {k : IntKind} (n : Int) : ∀ u ∈ [Value.int k n], u.oneCell' = true := by simp [Value.oneCell']

/-- A region that draws its order: reads and quiet calls, then a tail in one forced order. -/
theorem region_tail {P : Program} {id : Nat} {Q : Exit → Act → World → Prop} {a : Act} {w : World} {l : List Oper} (n : Nat) (hm : P.follows .mixedOrders = true) (hB : Region.lexTailB .any l.toArray n = true)
    (h : wpStill P l.toArray w.drew (fun a' => wpList P l.toArray Q (l.drop n) a' w.drew) (l.take n) a) : (Code.region id l.toArray true).wp P Q a w := wp_region_still_tail n hm hB h

/-- A contract that leaves the world alone, turned round for a region's quiet call. -/
theorem still_of {P : Program} {f : FuncId} {args : Array Value} {w : World} {v : Value} (h : Calls P f args w fun e w' => e = .returned v ∧ w = w') : Calls P f args w fun e w' => e = .returned v ∧ w' = w :=
  h.mono fun _ _ ⟨h1, h2⟩ => ⟨h1, h2.symm⟩

/-- One byte as a value. -/
def bv (c : UInt8) : Value := .int .u8 (c.toNat : Int)
theorem bv_one (l : List UInt8) : ∀ u ∈ l.map bv, u.oneCell' = true := by
  intro u hu
  obtain ⟨_, _, rfl⟩ := List.mem_map.1 hu
  rfl

def Bytes (w : World) (v : Value) (l : List UInt8) : Prop := Reads w 1 v l.length (l.map bv)
def Ints (w : World) (v : Value) (l : List Int) : Prop := Reads w 1 v l.length (l.map (.int .i64))
def Bools (w : World) (v : Value) (l : List Bool) : Prop := Reads w 1 v l.length (l.map .bool)

theorem Bytes.ext {w w' : World} {v : Value} {l : List UInt8} (h : Bytes w v l) (hb : Ext w w') : Bytes w' v l := Reads.ext h hb
theorem Ints.ext {w w' : World} {v : Value} {l : List Int} (h : Ints w v l) (hb : Ext w w') : Ints w' v l := Reads.ext h hb
theorem Bools.ext {w w' : World} {v : Value} {l : List Bool} (h : Bools w v l) (hb : Ext w w') : Bools w' v l := Reads.ext h hb

/-! What an argument reads as. -/

/-- The cells cs read as a value of type t. -/
def Cells (P : Program) (W : World) (t : TypeId) (cs : List Value) : Prop :=
  ∃ (H : Type) (enc : TypeId × Value → H) (spare : Nat → Bool) (held : Bool) (fuel : Nat) (x : DataW H × List MemPlace), DataW.trod enc P W 0 spare held fuel t cs = some x

theorem Cells.int {P : Program} {W : World} {t : TypeId} {cs : List Value} {k : IntKind} (ht : P.underlying t = some (.int k)) (h : Cells P W t cs) : ∃ n, cs = [.int k n] ∧ (Lit.int k n).wf = true := by
  obtain ⟨H, enc, spare, held, fuel, x, hx⟩ := h
  obtain ⟨n, h1, _, h2⟩ := DataW.trod_int ht hx
  exact ⟨n, h1, h2⟩

theorem Cells.bool {P : Program} {W : World} {t : TypeId} {cs : List Value} (ht : P.underlying t = some .bool) (h : Cells P W t cs) : ∃ b, cs = [.bool b] := by
  obtain ⟨H, enc, spare, held, fuel, x, hx⟩ := h
  obtain ⟨b, h1, _⟩ := DataW.trod_bool ht hx
  exact ⟨b, h1⟩

theorem Cells.string {P : Program} {W : World} {t : TypeId} {cs : List Value} (ht : P.underlying t = some .string) (h : Cells P W t cs) : ∃ s : ByteArray, cs = [.string s] ∧ s.size ≤ maxLen := by
  obtain ⟨H, enc, spare, held, fuel, x, hx⟩ := h
  obtain ⟨b, h1, _, h2⟩ := DataW.trod_string ht hx
  exact ⟨b, h1, h2⟩

theorem mapM_some {α β : Type} {f : α → Option β} : ∀ {l : List α} {cs : List β}, l.mapM f = some cs → cs.length = l.length ∧ ∀ (j : Nat) (u : β), cs[j]? = some u → ∃ x : α, l[j]? = some x ∧ f x = some u
  | [], cs, h => by simp at h; subst h; simp
  | x :: l, cs, h => by
    simp only [List.mapM_cons, Option.bind_eq_bind, Option.bind_eq_some_iff, Option.pure_def, Option.some.injEq] at h
    obtain ⟨y, hy, ys, hys, rfl⟩ := h
    have ih := mapM_some hys
    refine ⟨by simp [ih.1], fun j u hu => ?_⟩
    cases j with
    | zero => simp at hu; subst hu; exact ⟨x, by simp, hy⟩
    | succ j => simpa using ih.2 j u (by simpa using hu)

theorem cells_some {w : World} {base : Nat} {a : Addr} {n : Nat} {cs : List Value} (h : w.cells? base a n = some cs) : cs.length = n ∧ ∀ j u, cs[j]? = some u → w.cell? (a.add j) = some u := by
  unfold World.cells? at h
  split at h
  · obtain ⟨h1, h2⟩ := mapM_some h
    refine ⟨by simpa using h1, fun j u hu => ?_⟩
    obtain ⟨x, hx, hf⟩ := h2 j u hu
    have := (List.getElem?_eq_some_iff.1 hx).2
    simp at this
    subst this
    exact hf
  · cases h

theorem flatten_get {α : Type} {sz : Nat} : ∀ {xss : List (List α)}, (∀ xs ∈ xss, xs.length = sz) → ∀ {j : Nat} {u : α}, xss.flatten[j]? = some u → ∃ i k, k < sz ∧ j = i * sz + k ∧ ∃ xs, xss[i]? = some xs ∧ xs[k]? = some u
  | [], _, j, u, hu => by simp at hu
  | xs :: xss, h, j, u, hu => by
    have hl := h xs (by simp)
    rw [List.flatten_cons] at hu
    by_cases hj : j < xs.length
    · rw [List.getElem?_append_left hj] at hu
      exact ⟨0, j, by omega, by simp, xs, by simp, hu⟩
    · rw [List.getElem?_append_right (by omega)] at hu
      obtain ⟨i, k, hk, e, ys, h1, h2⟩ := flatten_get (fun ys hy => h ys (by simp [hy])) hu
      exact ⟨i + 1, k, hk, by rw [Nat.add_mul]; omega, ys, by simpa using h1, h2⟩

theorem flatten_len {α : Type} {sz : Nat} : ∀ {xss : List (List α)}, (∀ xs ∈ xss, xs.length = sz) → xss.flatten.length = xss.length * sz
  | [], _ => by simp
  | xs :: xss, h => by
    rw [List.flatten_cons, List.length_append, flatten_len (fun ys hy => h ys (by simp [hy])), h xs (by simp), List.length_cons, Nat.add_mul]
    omega

theorem addr_add_add (a : Addr) (i j : Nat) : (a.add i).add j = a.add (i + j) := by
  unfold Addr.add
  split <;> split <;> simp_all
  omega

theorem list_of {α : Type} {n : Nat} {p : Nat → α → Prop} (h : ∀ i, i < n → ∃ x, p i x) : ∃ l : List α, l.length = n ∧ ∀ i x, l[i]? = some x → p i x := by
  induction n with
  | zero => exact ⟨[], rfl, by simp⟩
  | succ k ih =>
    obtain ⟨xss, h1, h2⟩ := ih (fun i hi => h i (by omega))
    obtain ⟨xs, h3⟩ := h k (by omega)
    refine ⟨xss ++ [xs], by simp [h1], fun i ys hy => ?_⟩
    by_cases hi : i < k
    · rw [List.getElem?_append_left (by omega)] at hy
      exact h2 i ys hy
    · rw [List.getElem?_append_right (by omega)] at hy
      have e0 : i - xss.length = 0 := by have := (List.getElem?_eq_some_iff.1 hy).1; simp at this; omega
      rw [e0] at hy
      simp at hy
      subst hy
      obtain rfl : i = k := by omega
      exact h3

theorem Cells.slice {P : Program} {W : World} {t e : TypeId} {cs : List Value} {sz : Nat} (ht : P.underlying t = some (.slice e)) (hc : P.cellsOf e = sz) (h : Cells P W t cs) :
    ∃ (a : Option Addr) (cap : Nat) (xss : List (List Value)), cs = [.slice a xss.length cap] ∧ Row W sz a xss.length cap xss.flatten ∧ ∀ xs ∈ xss, xs.length = sz ∧ Cells P W e xs := by
  obtain ⟨H, enc, spare, held, fuel, x, hx⟩ := h
  rcases DataW.trod_slice ht hx with ⟨rfl, _⟩ | ⟨a, len, cap, elems, rest, n, _, rfl, _, _, hl, hm, hlen, hel, _, _⟩
  · exact ⟨none, 0, [], rfl, Row.nil _ _, by simp⟩
  · subst hc
    have each : ∀ i, i < len → ∃ xs, W.cells? 0 (a.add (i * P.cellsOf e)) (P.cellsOf e) = some xs ∧ Cells P W e xs := by
      intro i hi
      have := hel i hi
      rw [List.getElem?_eq_getElem (by omega)] at this
      obtain ⟨xs, h1, h2⟩ := Option.bind_eq_some_iff.1 this
      exact ⟨xs, h1, H, enc, spare, held, n, _, h2⟩
    obtain ⟨xss, hx1, hx2⟩ : ∃ xss : List (List Value), xss.length = len ∧ ∀ i xs, xss[i]? = some xs → W.cells? 0 (a.add (i * P.cellsOf e)) (P.cellsOf e) = some xs ∧ Cells P W e xs := list_of each
    have hsz : ∀ xs ∈ xss, xs.length = P.cellsOf e ∧ Cells P W e xs := by
      intro xs hxs
      obtain ⟨i, hi⟩ := List.mem_iff_getElem?.1 hxs
      exact ⟨(cells_some (hx2 i xs hi).1).1, (hx2 i xs hi).2⟩
    subst hx1
    have hcell : ∀ j u, xss.flatten[j]? = some u → W.cell? (a.add j) = some u := by
      intro j u hu
      obtain ⟨i, k, hk, rfl, xs, h1, h2⟩ := flatten_get (fun xs hx => (hsz xs hx).1) hu
      have := (cells_some (hx2 i xs h1).1).2 k u h2
      rwa [addr_add_add] at this
    refine ⟨some a, cap, xss, rfl, ⟨flatten_len fun xs hx => (hsz xs hx).1, hl, hm, a.block, a.off, (by intro h; cases h), fun hp => ?_, fun j u hu => ?_⟩, hsz⟩
    · have := hcell 0 xss.flatten[0] (by simp)
      have hs : a.spot = none := by
        have := World.cell?_spot this
        simpa [Addr.add] using this
      obtain ⟨b, off, sp⟩ := a
      simp at hs
      subst hs
      rfl
    · have h0 := hcell j u hu
      have hs : a.spot = none ∨ 0 < j := by
        by_cases hj : j = 0
        · left
          have := World.cell?_spot h0
          subst hj
          simpa [Addr.add] using this
        · right; omega
      obtain ⟨b, off, sp⟩ := a
      simp only [Addr.add] at h0
      split at h0
      · subst j
        simp at hs
        subst hs
        simpa using h0
      · exact h0

/-- A struct's field number i. -/
theorem Cells.field {P : Program} {W : World} {t : TypeId} {cs : List Value} {fs : Array Field} (ht : P.underlying t = some (.struct fs)) (h : Cells P W t cs) :
    cs.length = P.cellsOf t ∧ ∀ (i : Nat) (f : Field), fs[i]? = some f → Cells P W f.type ((cs.drop f.offset).take (P.cellsOf f.type)) := by
  obtain ⟨H, enc, spare, held, fuel, x, hx⟩ := h
  obtain ⟨xs, n, _, _, hl, hn, hf⟩ := DataW.trod_struct ht hx
  refine ⟨hl, fun i f hi => ?_⟩
  have := hf i f hi
  rw [List.getElem?_eq_getElem (by have := (Array.getElem?_eq_some_iff.1 hi).1; omega)] at this
  exact ⟨H, enc, spare, held, n, _, this⟩

/-- An array's element number i. -/
theorem Cells.array {P : Program} {W : World} {t e : TypeId} {cs : List Value} {n : Nat} (ht : P.underlying t = some (.array n e)) (h : Cells P W t cs) :
    cs.length = P.cellsOf t ∧ ∀ (i : Nat), i < n → Cells P W e ((cs.drop (i * P.cellsOf e)).take (P.cellsOf e)) := by
  obtain ⟨H, enc, spare, held, fuel, x, hx⟩ := h
  obtain ⟨xs, m, _, _, hl, hn, hf⟩ := DataW.trod_array ht hx
  refine ⟨hl, fun i hi => ?_⟩
  have := hf i hi
  rw [List.getElem?_eq_getElem (by omega)] at this
  exact ⟨H, enc, spare, held, m, _, this⟩

/-- An argument of the law: what the row's frame tells of it. -/
theorem arg_slice {H : Type} {enc : TypeId × Value → H} {P : Program} {W : World} {r : Reach} {b0 t e : TypeId} {spare : Nat → Bool} {held : Bool} {v : Value} {d : DataW H} {ps : List MemPlace}
    (ht : P.underlying t = some (.slice e)) (hv : Value.okWide P W r b0 t v) (h : DataW.Trod enc P W 0 spare held t v d ps) : Cells P W t [v] := by
  obtain ⟨a, len, cap, rfl⟩ := WideShapes.okWide_slice ht hv
  obtain ⟨fuel, hf⟩ := h
  exact ⟨H, enc, spare, held, fuel, _, hf⟩

theorem arg_int {H : Type} {enc : TypeId × Value → H} {P : Program} {W : World} {r : Reach} {b0 t : TypeId} {k : IntKind} {spare : Nat → Bool} {held : Bool} {v : Value} {d : DataW H} {ps : List MemPlace}
    (ht : P.underlying t = some (.int k)) (hv : Value.okWide P W r b0 t v) (h : DataW.Trod enc P W 0 spare held t v d ps) : Cells P W t [v] := by
  obtain ⟨n, rfl⟩ := WideShapes.okWide_int ht hv
  obtain ⟨fuel, hf⟩ := h
  exact ⟨H, enc, spare, held, fuel, _, hf⟩

theorem arg_string {H : Type} {enc : TypeId × Value → H} {P : Program} {W : World} {r : Reach} {b0 t : TypeId} {spare : Nat → Bool} {held : Bool} {v : Value} {d : DataW H} {ps : List MemPlace}
    (ht : P.underlying t = some .string) (hv : Value.okWide P W r b0 t v) (h : DataW.Trod enc P W 0 spare held t v d ps) : Cells P W t [v] := by
  obtain ⟨n, rfl⟩ := WideShapes.okWide_string ht hv
  obtain ⟨fuel, hf⟩ := h
  exact ⟨H, enc, spare, held, fuel, _, hf⟩

theorem arg_struct {H : Type} {enc : TypeId × Value → H} {P : Program} {W : World} {r : Reach} {b0 t : TypeId} {fs : Array Field} {spare : Nat → Bool} {held : Bool} {v : Value} {d : DataW H} {ps : List MemPlace}
    (ht : P.underlying t = some (.struct fs)) (hv : Value.okWide P W r b0 t v) (h : DataW.Trod enc P W 0 spare held t v d ps) : ∃ cs, v = .agg cs ∧ Cells P W t cs.toList := by
  simp only [Value.okWide, ht] at hv
  obtain ⟨cs, rfl, _⟩ := hv
  obtain ⟨fuel, hf⟩ := h
  exact ⟨cs, rfl, H, enc, spare, held, fuel, _, hf⟩

theorem arg_array {H : Type} {enc : TypeId × Value → H} {P : Program} {W : World} {r : Reach} {b0 t e : TypeId} {n : Nat} {spare : Nat → Bool} {held : Bool} {v : Value} {d : DataW H} {ps : List MemPlace}
    (ht : P.underlying t = some (.array n e)) (hv : Value.okWide P W r b0 t v) (h : DataW.Trod enc P W 0 spare held t v d ps) : ∃ cs, v = .agg cs ∧ Cells P W t cs.toList := by
  simp only [Value.okWide, ht] at hv
  obtain ⟨cs, rfl, _⟩ := hv
  obtain ⟨fuel, hf⟩ := h
  exact ⟨cs, rfl, H, enc, spare, held, fuel, _, hf⟩

/-- A list of one-cell elements. -/
theorem flatten_single {α : Type} {xss : List (List Value)} {f : α → Value} (h : ∀ xs ∈ xss, ∃ x, xs = [f x]) : ∃ l : List α, xss.length = l.length ∧ xss.flatten = l.map f := by
  induction xss with
  | nil => exact ⟨[], rfl, rfl⟩
  | cons xs xss ih =>
    obtain ⟨x, rfl⟩ := h xs (by simp)
    obtain ⟨l, h1, h2⟩ := ih (fun ys hy => h ys (by simp [hy]))
    exact ⟨x :: l, by simp [h1], by simp [h2]⟩

theorem u8_of_wf {n : Int} (h : (Lit.int .u8 n).wf = true) : ∃ c : UInt8, n = (c.toNat : Int) := by
  have hb := bounds_u8 h
  exact ⟨UInt8.ofNat n.toNat, by rw [UInt8.toNat_ofNat_of_lt' (by have : UInt8.size = 256 := rfl; omega)]; omega⟩

theorem Cells.bytes {P : Program} {W : World} {t e : TypeId} {cs : List Value} (ht : P.underlying t = some (.slice e)) (he : P.underlying e = some (.int .u8)) (hc : P.cellsOf e = 1) (h : Cells P W t cs) : ∃ v l, cs = [v] ∧ Bytes W v l := by
  obtain ⟨a, cap, xss, rfl, hr, hx⟩ := h.slice ht hc
  obtain ⟨l, h1, h2⟩ := flatten_single (f := bv) (xss := xss) (fun xs hxs => by
    obtain ⟨n, rfl, hw⟩ := (hx xs hxs).2.int he
    obtain ⟨c, rfl⟩ := u8_of_wf hw
    exact ⟨c, rfl⟩)
  rw [h1, h2] at hr
  exact ⟨_, l, rfl, a, cap, by rw [h1], hr⟩

/-- A number that an int holds. -/
def I64 (n : Int) : Prop := -9223372036854775808 ≤ n ∧ n ≤ 9223372036854775807

theorem Cells.i64 {P : Program} {W : World} {t : TypeId} {cs : List Value} (ht : P.underlying t = some (.int .i64)) (h : Cells P W t cs) : ∃ n, cs = [.int .i64 n] ∧ I64 n := by
  obtain ⟨n, rfl, hw⟩ := h.int ht
  have := bounds_i64 hw
  exact ⟨n, rfl, by unfold I64; omega⟩

theorem list_of_subtype {p : Int → Prop} (l : List { n : Int // p n }) : ∃ zs : List Int, zs.length = l.length ∧ (∀ z ∈ zs, p z) ∧ l.map (fun x => Value.int .i64 x.val) = zs.map (.int .i64) :=
  ⟨l.map (·.val), by simp, by simp only [List.mem_map]; rintro z ⟨x, _, rfl⟩; exact x.2, by simp⟩

theorem Cells.ints {P : Program} {W : World} {t e : TypeId} {cs : List Value} (ht : P.underlying t = some (.slice e)) (he : P.underlying e = some (.int .i64)) (hc : P.cellsOf e = 1) (h : Cells P W t cs) : ∃ v l, cs = [v] ∧ Ints W v l ∧ ∀ n ∈ l, I64 n := by
  obtain ⟨a, cap, xss, rfl, hr, hx⟩ := h.slice ht hc
  obtain ⟨l, h1, h2⟩ := flatten_single (f := fun x : { n : Int // I64 n } => Value.int .i64 x.val) (xss := xss) (fun xs hxs => by
    obtain ⟨n, rfl, hw⟩ := (hx xs hxs).2.i64 he
    exact ⟨⟨n, hw⟩, rfl⟩)
  obtain ⟨zs, g1, g2, g3⟩ := list_of_subtype l
  rw [h1, h2, g3, ← g1] at hr
  exact ⟨_, zs, rfl, ⟨a, cap, by rw [h1, g1], hr⟩, g2⟩

end Go.Proofs.YtbmimdnpchldlaaDoor

namespace Go.Proofs.YtbmimdnpchldlaaDoor
open Go.RowKit

theorem own_setCell {w : World} {base : Nat} {e : TypeId} {size : Nat} {v : Value} {n : Nat} {xs : List Value} (h : w.ownsRow base e size v n xs) {p : Addr} (u : Value) (hp : v.ownBlock ≠ some p.block) : (w.setCell p u).ownsRow base e size v n xs := by
  refine ⟨h.1, ?_⟩
  rcases h.2 with hn | ⟨g, cap, cur, rfl, h1, hgg, rest⟩
  · exact .inl hn
  · exact .inr ⟨g, cap, cur, rfl, h1, by rw [Below.heap_setCell _ _ _ _ (fun e => hp (by simp [Value.ownBlock, e]))]; exact hgg, rest⟩

theorem own_grown {w w' : World} {base : Nat} {e : TypeId} {size : Nat} {v : Value} {n : Nat} {xs : List Value} {row : Option Nat} (h : w.ownsRow base e size v n xs) (hg : w.grownBy w' row) (hn : v.ownBlock = none ∨ v.ownBlock ≠ row) : w'.ownsRow base e size v n xs := h.kept hg hn

theorem below_drewN {B : Nat} {a w : World} (h : Below B a w) (n : Nat) : Below B a (w.drewN n) := ⟨h.os, h.tape, h.output, h.size, h.block⟩

end Go.Proofs.YtbmimdnpchldlaaDoor

namespace Go.Proofs.YtbmimdnpchldlaaDoor
open Go.RowKit

/-- What P says of a world hangs on the blocks with tag t alone. -/
def Ent (τ : Nat → Nat) (t : Nat) (w : World) (P : World → Prop) : Prop :=
  ∀ w', w.heap.size ≤ w'.heap.size → (∀ b, b < w.heap.size → τ b = t → w'.heap[b]? = w.heap[b]?) → P w'

section
variable {τ τ' : Nat → Nat} {t : Nat} {w w' : World} {P Q : World → Prop}
theorem Ent.now (h : Ent τ t w P) : P w := h w (Nat.le_refl _) fun _ _ _ => rfl
theorem Ent.ext (h : Ent τ t w P) (hE : Ext w w') : Ent τ t w' P := fun x hx hb =>
  h x (Nat.le_trans hE.size hx) fun b h1 h2 => (hb b (Nat.lt_of_lt_of_le h1 hE.size) h2).trans (hE.block b h1)
theorem Ent.grown {row : Option Nat} (h : Ent τ t w P) (hg : w.grownBy w' row) (hr : ∀ b, row = some b → τ b ≠ t) : Ent τ t w' P := fun x hx hb =>
  h x (Nat.le_trans hg.size hx) fun b h1 h2 => (hb b (Nat.lt_of_lt_of_le h1 hg.size) h2).trans (hg.block b h1 fun e => hr b e.symm h2)
theorem Ent.set (h : Ent τ t w P) {p : Addr} (hp : τ p.block ≠ t) (v : Value) : Ent τ t (w.setCell p v) P := fun x hx hb =>
  h x (by simpa using hx) fun b h1 h2 => (hb b (by simpa using h1) h2).trans (Below.heap_setCell _ _ _ _ (fun e => hp (by rw [← e]; exact h2)))
theorem Ent.tag (h : Ent τ t w P) (ht : ∀ b, b < w.heap.size → τ' b = τ b) : Ent τ' t w P := fun x hx hb => h x hx fun b h1 h2 => hb b h1 ((ht b h1).trans h2)
theorem Ent.keep (h : Ent τ t w P) (s : Nat) : Ent (fun b => if b < w.heap.size then τ b else s) t w P := h.tag fun _ hb => if_pos hb
theorem Ent.mono (h : Ent τ t w P) (hPQ : ∀ x, P x → Q x) : Ent τ t w Q := fun x hx hb => hPQ x (h x hx hb)
theorem Ent.and (h : Ent τ t w P) (k : Ent τ t w Q) : Ent τ t w fun x => P x ∧ Q x := fun x hx hb => ⟨h x hx hb, k x hx hb⟩
theorem Ent.both {R : World → Prop} (h : Ent τ t w P) (k : Ent τ t w Q) (f : ∀ x, P x → Q x → R x) : Ent τ t w R := fun x hx hb => f x (h x hx hb) (k x hx hb)

/-- The blocks from k on bear the tag t. -/
def tagAt (τ : Nat → Nat) (k t : Nat) : Nat → Nat := fun b => if b < k then τ b else t
theorem tagAt_lt {k b : Nat} (h : b < k) : tagAt τ k t b = τ b := if_pos h
theorem tagAt_ge {k b : Nat} (h : k ≤ b) : tagAt τ k t b = t := if_neg (by omega)

/-- A row of the call's own, in a block with tag t. -/
structure OwnT (τ : Nat → Nat) (t : Nat) (w : World) (base : Nat) (e : TypeId) (size : Nat) (v : Value) (n : Nat) (xs : List Value) : Prop where
  own : w.ownsRow base e size v n xs
  tag : ∀ b, v.ownBlock = some b → τ b = t

variable {base : Nat} {e : TypeId} {size n : Nat} {v : Value} {xs : List Value}
theorem OwnT.ext (h : OwnT τ t w base e size v n xs) (hE : Ext w w') : OwnT τ t w' base e size v n xs := ⟨own_ext h.own hE, h.tag⟩
theorem OwnT.grown {row : Option Nat} (h : OwnT τ t w base e size v n xs) (hg : w.grownBy w' row) (hr : ∀ b, row = some b → τ b ≠ t) : OwnT τ t w' base e size v n xs :=
  ⟨own_grown h.own hg (by
    cases hv : v.ownBlock with
    | none => exact .inl rfl
    | some b => exact .inr fun e => hr b e.symm (h.tag b hv)), h.tag⟩
theorem OwnT.set (h : OwnT τ t w base e size v n xs) {p : Addr} (hp : τ p.block ≠ t) (u : Value) : OwnT τ t (w.setCell p u) base e size v n xs :=
  ⟨own_setCell h.own u fun e => hp (h.tag _ e), h.tag⟩
theorem OwnT.retag (h : OwnT τ t w base e size v n xs) (ht : ∀ b, b < w.heap.size → τ' b = τ b) : OwnT τ' t w base e size v n xs :=
  ⟨h.own, fun b hb => (ht b (h.own.lt b hb).2).trans (h.tag b hb)⟩
theorem OwnT.keep (h : OwnT τ t w base e size v n xs) (s : Nat) : OwnT (tagAt τ w.heap.size s) t w base e size v n xs := h.retag fun _ hb => tagAt_lt hb
theorem OwnT.nil (τ : Nat → Nat) (t : Nat) (w : World) (base : Nat) (e : TypeId) (size : Nat) : OwnT τ t w base e size (.slice none 0 0) 0 [] := ⟨World.ownsRow_nil _ _ _ _, by simp [Value.ownBlock]⟩
theorem OwnT.reads (h : OwnT τ t w base e size v n xs) : Reads w size v n xs := h.own.reads
/-- A store below the base turns nothing. -/
theorem OwnT.low (h : OwnT τ t w base e size v n xs) {p : Addr} (hp : p.block < base) (u : Value) : OwnT τ t (w.setCell p u) base e size v n xs :=
  ⟨own_setCell h.own u fun e => by have := (h.own.lt _ e).1; omega, h.tag⟩

/-- Behind an append. -/
theorem OwnT.app {v' : Value} {n' : Nat} {xs' : List Value} (h : OwnT τ t w base e size v n xs) (hown : w'.ownsRow base e size v' n' xs') (hb : v'.ownBlock = v.ownBlock ∨ v'.ownBlock = some w.heap.size) :
    OwnT (tagAt τ w.heap.size t) t w' base e size v' n' xs' :=
  ⟨hown, fun b hv => by
    rcases hb with h1 | h1
    · have h2 := h1 ▸ hv
      rw [tagAt_lt (h.own.lt b h2).2]
      exact h.tag b h2
    · rw [h1] at hv
      injection hv with hv
      exact tagAt_ge (by omega)⟩
theorem Ent.app {s : Nat} {u : Value} {m : Nat} {ys : List Value} {base2 : Nat} {e2 : TypeId} {size2 : Nat} (h : Ent τ t w P) (ho : OwnT τ s w base2 e2 size2 u m ys) (hg : w.grownBy w' u.ownBlock) (hs : s ≠ t) : Ent (tagAt τ w.heap.size s) t w' P :=
  Ent.grown (h.tag fun b hb => tagAt_lt hb) hg fun b hb => by rw [tagAt_lt (ho.own.lt b hb).2, ho.tag b hb]; exact hs
theorem OwnT.other {s : Nat} {u : Value} {m : Nat} {ys : List Value} {base2 : Nat} {e2 : TypeId} {size2 : Nat} (h : OwnT τ t w base e size v n xs) (ho : OwnT τ s w base2 e2 size2 u m ys) (hg : w.grownBy w' u.ownBlock) (hs : s ≠ t) : OwnT (tagAt τ w.heap.size s) t w' base e size v n xs :=
  OwnT.grown (h.retag fun b hb => tagAt_lt hb) hg fun b hb => by rw [tagAt_lt (ho.own.lt b hb).2, ho.tag b hb]; exact hs
/-- What was made from k on, out of a callee's hands. -/
theorem OwnT.fresh (τ : Nat → Nat) (t : Nat) {k : Nat} (h : w.ownsRow k e size v n xs) : OwnT (tagAt τ k t) t w k e size v n xs := ⟨h, fun b hb => tagAt_ge (h.lt b hb).1⟩
theorem OwnT.ent (h : OwnT τ t w base e size v n xs) : Ent τ t w fun x => x.ownsRow base e size v n xs := fun x hx hb => by
  refine ⟨h.own.1, ?_⟩
  rcases h.own.2 with hn | ⟨g, cap, cur, rfl, h1, hg, rest⟩
  · exact .inl hn
  · exact .inr ⟨g, cap, cur, rfl, h1, by rw [hb g ((Array.getElem?_eq_some_iff.1 hg).1) (h.tag g rfl)]; exact hg, rest⟩
end

theorem ext_al {a w : World} (h : Ext a w) (o : Obj) : Ext a (w.alloc o) := Below.alloc h h.size o
theorem ext_st {a w : World} (h : Ext a w) {p : Addr} (hp : a.heap.size ≤ p.block) (v : Value) : Ext a (w.setCell p v) := Below.setCell h hp v

/-! A block that is known whole. -/
theorem blk_cell {w : World} {b i : Nat} {cs : Array Value} {t : TypeId} {v : Value} (h : w.heap[b]? = some (.cells cs t (0, 0))) (hi : cs[i]? = some v) : w.cell? ⟨b, i, none⟩ = some v := by simp [World.cell?, h, hi]
theorem blk_free {w : World} {b : Nat} {cs : Array Value} {t : TypeId} (h : w.heap[b]? = some (.cells cs t (0, 0))) (i : Nat) : w.frozen? ⟨b, i, none⟩ = false := by simp [World.frozen?, h]
theorem blk_lt {w : World} {b : Nat} {o : Obj} (h : w.heap[b]? = some o) : b < w.heap.size := (Array.getElem?_eq_some_iff.1 h).1
theorem blk_ext {w w' : World} {b : Nat} {o : Obj} (h : w.heap[b]? = some o) (hE : Ext w w') : w'.heap[b]? = some o := (hE.block b (blk_lt h)).trans h
theorem blk_below {w w' : World} {B b : Nat} {o : Obj} (h : w.heap[b]? = some o) (hE : Below B w w') (hb : b < B) : w'.heap[b]? = some o := (hE.block b hb).trans h
theorem blk_far {w : World} {b : Nat} {o : Obj} (h : w.heap[b]? = some o) {p : Addr} (hp : p.block ≠ b) (v : Value) : (w.setCell p v).heap[b]? = some o := (Below.heap_setCell _ _ _ _ (Ne.symm hp)).trans h
theorem blk_grown {w w' : World} {b : Nat} {o : Obj} {row : Option Nat} (h : w.heap[b]? = some o) (hg : w.grownBy w' row) (hn : some b ≠ row) : w'.heap[b]? = some o := (hg.block b (blk_lt h) hn).trans h
theorem blk_set {w : World} {b i : Nat} {cs : Array Value} {t : TypeId} (h : w.heap[b]? = some (.cells cs t (0, 0))) (v : Value) : (w.setCell ⟨b, i, none⟩ v).heap[b]? = some (.cells (cs.setIfInBounds i v) t (0, 0)) := by
  have hb := blk_lt h
  have hg : w.heap[b] = .cells cs t (0, 0) := by rw [Array.getElem?_eq_getElem hb] at h; exact Option.some.inj h
  show (w.heap.modify b _)[b]? = _
  rw [Array.getElem?_eq_getElem (by simpa using hb), Array.getElem_modify_self, hg]
  rfl
theorem blk_new (w : World) (o : Obj) : (w.alloc o).heap[w.heap.size]? = some o := heap_alloc_new w o

/-! One cell of a row of the call's own. -/
theorem own_block {w : World} {base : Nat} {e : TypeId} {H off n cap : Nat} {v : Value} {xs : List Value} (h : w.ownsRow base e 1 v n xs) (hv : v = .slice (some ⟨H, off, none⟩) n cap) : off = 0 ∧ ∃ cur : Array Value, w.heap[H]? = some (.cells cur e (0, 0)) ∧ cur.toList.take n = xs := by
  subst hv
  rcases h.2 with ⟨h1, _⟩ | ⟨g, c, cur, h1, _, h3, _, _, _, h7⟩
  · cases h1
  · simp only [Value.slice.injEq, Option.some.injEq, Addr.mk.injEq] at h1
    obtain ⟨⟨rfl, rfl, _⟩, _, rfl⟩ := h1
    exact ⟨rfl, cur, h3, by simpa using h7⟩
theorem own_cellAt {w : World} {base : Nat} {e : TypeId} {H n cap i : Nat} {xs : List Value} (h : w.ownsRow base e 1 (.slice (some ⟨H, 0, none⟩) n cap) n xs) (hi : i < xs.length) : w.cell? ⟨H, i, none⟩ = some xs[i] := by
  obtain ⟨_, cur, h1, h2⟩ := own_block h rfl
  subst h2
  have h3 : i < cur.size := by simp at hi; omega
  rw [blk_cell h1 (v := cur[i]) (by rw [Array.getElem?_eq_getElem h3])]
  simp
theorem own_freeAt {w : World} {base : Nat} {e : TypeId} {H n cap : Nat} {xs : List Value} (h : w.ownsRow base e 1 (.slice (some ⟨H, 0, none⟩) n cap) n xs) (i : Nat) : w.frozen? ⟨H, i, none⟩ = false := by
  obtain ⟨_, cur, h1, h2⟩ := own_block h rfl
  exact blk_free h1 i
theorem own_setAt {w : World} {base : Nat} {e : TypeId} {H n cap i : Nat} {xs : List Value} (h : w.ownsRow base e 1 (.slice (some ⟨H, 0, none⟩) n cap) n xs) (u : Value) : (w.setCell ⟨H, i, none⟩ u).ownsRow base e 1 (.slice (some ⟨H, 0, none⟩) n cap) n (xs.set i u) := by
  refine ⟨by simpa using h.1, ?_⟩
  rcases h.2 with ⟨h1, _⟩ | ⟨g, c, cur, h1, h2, h3, h4, h5, h6, h7⟩
  · cases h1
  · have h1' := h1
    simp only [Value.slice.injEq, Option.some.injEq, Addr.mk.injEq] at h1'
    obtain ⟨⟨rfl, _, _⟩, _, rfl⟩ := h1'
    exact .inr ⟨_, _, cur.setIfInBounds i u, rfl, h2, blk_set h3 u, h4, h5, by simpa using h6, by rw [Array.toList_setIfInBounds, List.take_set, h7]⟩
theorem OwnT.setAt {τ : Nat → Nat} {t : Nat} {w : World} {base : Nat} {e : TypeId} {H n cap i : Nat} {xs : List Value} (h : OwnT τ t w base e 1 (.slice (some ⟨H, 0, none⟩) n cap) n xs) (u : Value) : OwnT τ t (w.setCell ⟨H, i, none⟩ u) base e 1 (.slice (some ⟨H, 0, none⟩) n cap) n (xs.set i u) := ⟨own_setAt h.own u, h.tag⟩

end Go.Proofs.YtbmimdnpchldlaaDoor

namespace Go.Proofs.YtbmimdnpchldlaaDoor
open Go.RowKit

theorem Tryd.slIntsG : SlTy Tryd.prog 38 3 (.int .i64 0) 1 8 := SlTy.mk' Tryd.underlying38 (by kernel_rfl) (by rfl) (by omega)
theorem Tryd.slLists : SlTy Tryd.prog 37 38 (.slice none 0 0) 1 24 := SlTy.mk' Tryd.underlying37 (by kernel_rfl) (by rfl) (by omega)

/-- Each of the values reads as its list. -/
def Each (w : World) (vs : List Value) (ll : List (List Int)) : Prop :=
  vs.length = ll.length ∧ ∀ (i : Nat) (x : Value) (l : List Int), vs[i]? = some x → ll[i]? = some l → Ints w x l

def Lists (w : World) (v : Value) (ll : List (List Int)) : Prop := ∃ vs, Each w vs ll ∧ Reads w 1 v ll.length vs

/-- No value that holds something lies in the row's own block. -/
def Apart (v : Value) (vs : List Value) (ll : List (List Int)) : Prop := ∀ (i : Nat) (x : Value) (l : List Int), vs[i]? = some x → ll[i]? = some l → l = [] ∨ ∀ b, v.ownBlock = some b → x.ownBlock ≠ some b

/-- .. whose row is the call's own. -/
def OwnL (w : World) (base : Nat) (v : Value) (ll : List (List Int)) : Prop := ∃ vs, Each w vs ll ∧ w.ownsRow base 38 1 v ll.length vs ∧ Apart v vs ll

theorem ints_lt {w : World} {x : Value} {l : List Int} (h : Ints w x l) (hl : l ≠ []) (b : Nat) (hb : x.ownBlock = some b) : b < w.heap.size := by
  obtain ⟨a, c, rfl, hr⟩ := h
  cases a with
  | none => simp [Value.ownBlock] at hb
  | some p =>
    have := hr.blk (by simp; exact List.length_pos_iff.2 hl)
    simp [Value.ownBlock] at hb
    omega

theorem ints_grown {w w' : World} {x : Value} {l : List Int} {row : Option Nat} (h : Ints w x l) (hg : w.grownBy w' row) (hn : l = [] ∨ ∀ b, row = some b → x.ownBlock ≠ some b) : Ints w' x l := by
  refine Reads.grown h hg ?_
  rcases hn with rfl | hn
  · exact .inl rfl
  · cases hx : x.ownBlock with
    | none => exact .inr (.inl rfl)
    | some b => exact .inr (.inr (fun e => hn b e.symm hx))

theorem Each.ext {w w' : World} {vs : List Value} {ll : List (List Int)} (h : Each w vs ll) (hb : Ext w w') : Each w' vs ll := ⟨h.1, fun i x l hx hl => (h.2 i x l hx hl).ext hb⟩
theorem Lists.ext {w w' : World} {v : Value} {ll : List (List Int)} (h : Lists w v ll) (hb : Ext w w') : Lists w' v ll := by
  obtain ⟨vs, h1, h2⟩ := h
  exact ⟨vs, h1.ext hb, h2.ext hb⟩
theorem OwnL.lists {w : World} {base : Nat} {v : Value} {ll : List (List Int)} (h : OwnL w base v ll) : Lists w v ll := by
  obtain ⟨vs, h1, h2, _⟩ := h
  exact ⟨vs, h1, h2.reads⟩
theorem OwnL.ext {w w' : World} {base : Nat} {v : Value} {ll : List (List Int)} (h : OwnL w base v ll) (hb : Ext w w') : OwnL w' base v ll := by
  obtain ⟨vs, h1, h2, h3⟩ := h
  exact ⟨vs, h1.ext hb, own_ext h2 hb, h3⟩
theorem OwnL.down {w : World} {base base' : Nat} {v : Value} {ll : List (List Int)} (h : OwnL w base v ll) (hb : base' ≤ base) : OwnL w base' v ll := by
  obtain ⟨vs, h1, h2, h3⟩ := h
  exact ⟨vs, h1, own_down h2 hb, h3⟩
theorem OwnL.nil (w : World) (base : Nat) : OwnL w base (.slice none 0 0) [] := ⟨[], ⟨rfl, by intro i x l hx; simp at hx⟩, World.ownsRow_nil _ _ _ _, by intro i x l hx; simp at hx⟩

theorem Each.snoc {w : World} {vs : List Value} {ll : List (List Int)} (h : Each w vs ll) {x : Value} {l : List Int} (hx : Ints w x l) : Each w (vs ++ [x]) (ll ++ [l]) := by
  refine ⟨by simp [h.1], fun i y m hy hm => ?_⟩
  by_cases hi : i < vs.length
  · rw [List.getElem?_append_left hi] at hy
    rw [List.getElem?_append_left (by rw [← h.1]; exact hi)] at hm
    exact h.2 i y m hy hm
  · rw [List.getElem?_append_right (by omega)] at hy
    rw [List.getElem?_append_right (by rw [← h.1]; omega)] at hm
    have e : i - vs.length = 0 := by have := (List.getElem?_eq_some_iff.1 hy).1; simp at this; omega
    rw [← h.1] at hm
    rw [e] at hy hm
    simp at hy hm
    subst hy; subst hm
    exact hx

theorem Each.take {w : World} {vs : List Value} {ll : List (List Int)} (h : Each w vs ll) (k : Nat) : Each w (vs.take k) (ll.take k) := by
  refine ⟨by simp [h.1], fun i y m hy hm => ?_⟩
  rw [List.getElem?_take] at hy hm
  split at hy
  · rename_i hi
    rw [if_pos hi] at hm
    exact h.2 i y m hy hm
  · cases hy

/-- One more behind an 'append'. -/
theorem snoc_parts {w w1 : World} {base : Nat} {v v1 x : Value} {vs : List Value} {ll : List (List Int)} {l : List Int} {m : Nat} (hE : Each w vs ll) (hA : Apart v vs ll) (hx : Ints w x l) (hxa : l = [] ∨ ∀ b, v.ownBlock = some b → x.ownBlock ≠ some b)
    (hown : w1.ownsRow base 38 1 v1 m (vs ++ [x])) (hg : w.grownBy w1 v.ownBlock) (hb : v1.ownBlock = v.ownBlock ∨ v1.ownBlock = some w.heap.size) : Each w1 (vs ++ [x]) (ll ++ [l]) ∧ w1.ownsRow base 38 1 v1 (ll ++ [l]).length (vs ++ [x]) ∧ Apart v1 (vs ++ [x]) (ll ++ [l]) := by
  have hE2 := hE.snoc hx
  have hA2 : Apart v (vs ++ [x]) (ll ++ [l]) := by
    intro i y k hy hk
    by_cases hi : i < vs.length
    · rw [List.getElem?_append_left hi] at hy
      rw [List.getElem?_append_left (by rw [← hE.1]; exact hi)] at hk
      exact hA i y k hy hk
    · rw [List.getElem?_append_right (by omega)] at hy
      rw [List.getElem?_append_right (by rw [← hE.1]; omega)] at hk
      have e : i - vs.length = 0 := by have := (List.getElem?_eq_some_iff.1 hy).1; simp at this; omega
      rw [← hE.1] at hk
      rw [e] at hy hk
      simp at hy hk
      subst hy; subst hk
      exact hxa
  have hm : m = (ll ++ [l]).length := by have := hown.1; rw [hE2.1] at this; omega
  subst hm
  refine ⟨⟨hE2.1, fun i y k hy hk => ints_grown (hE2.2 i y k hy hk) hg (hA2 i y k hy hk)⟩, hown, fun i y k hy hk => ?_⟩
  rcases hb with hb | hb
  · rw [hb]; exact hA2 i y k hy hk
  · by_cases hk0 : k = []
    · exact .inl hk0
    · refine .inr fun b e e2 => ?_
      rw [hb] at e
      injection e with e
      have := ints_lt (hE2.2 i y k hy hk) hk0 b e2
      omega

theorem OwnL.snoc {w w1 : World} {base : Nat} {v v1 x : Value} {vs : List Value} {ll : List (List Int)} {l : List Int} {m : Nat} (hE : Each w vs ll) (hA : Apart v vs ll) (hx : Ints w x l) (hxa : l = [] ∨ ∀ b, v.ownBlock = some b → x.ownBlock ≠ some b)
    (hown : w1.ownsRow base 38 1 v1 m (vs ++ [x])) (hg : w.grownBy w1 v.ownBlock) (hb : v1.ownBlock = v.ownBlock ∨ v1.ownBlock = some w.heap.size) : OwnL w1 base v1 (ll ++ [l]) :=
  ⟨_, snoc_parts hE hA hx hxa hown hg hb⟩

/-- The cells of a slice of slices. -/
theorem Lists.cells {w : World} {a : Option Addr} {n cap : Nat} {ll : List (List Int)} (h : Lists w (.slice a n cap) ll) :
    n = ll.length ∧ n ≤ cap ∧ cap ≤ maxLen ∧ ∃ b off, (0 < n → a = some ⟨b, off, none⟩) ∧ ∀ (i : Nat) (hi : i < ll.length), ∃ ai ci, w.cell? ⟨b, off + i, none⟩ = some (.slice ai ll[i].length ci) ∧ Ints w (.slice ai ll[i].length ci) ll[i] := by
  obtain ⟨vs, he, a', c', e, hr⟩ := h
  simp only [Value.slice.injEq] at e
  obtain ⟨rfl, rfl, rfl⟩ := e
  obtain ⟨b, off, _, h2, h3⟩ := hr.lie
  refine ⟨rfl, hr.le, hr.max, b, off, fun hl => h2 (by rw [he.1]; exact hl), fun i hi => ?_⟩
  have hi' : i < vs.length := by rw [he.1]; exact hi
  have hx := he.2 i vs[i] ll[i] (by simp) (by simp)
  obtain ⟨ai, ci, e, hri⟩ := hx
  refine ⟨ai, ci, ?_, ai, ci, rfl, hri⟩
  rw [← e]
  exact h3 i vs[i] (by simp)

theorem Lists.take {w : World} {a : Option Addr} {n cap : Nat} {ll : List (List Int)} (h : Lists w (.slice a n cap) ll) (k : Nat) (hk : k ≤ n) : Lists w (.slice a k cap) (ll.take k) := by
  obtain ⟨vs, he, a', c', e, hr⟩ := h
  simp only [Value.slice.injEq] at e
  obtain ⟨rfl, rfl, rfl⟩ := e
  refine ⟨vs.take k, he.take k, a, cap, by simp [Nat.min_eq_left hk], ?_⟩
  have := hr.take k hk
  rw [Nat.mul_one] at this
  simpa [Nat.min_eq_left hk] using this

theorem Cells.lists {P : Program} {W : World} {t e i : TypeId} {cs : List Value} (ht : P.underlying t = some (.slice e)) (he : P.underlying e = some (.slice i)) (hi : P.underlying i = some (.int .i64)) (hc : P.cellsOf e = 1) (hci : P.cellsOf i = 1) (h : Cells P W t cs) :
    ∃ v ll, cs = [v] ∧ Lists W v ll ∧ ∀ l ∈ ll, ∀ n ∈ l, I64 n := by
  obtain ⟨a, cap, xss, rfl, hr, hx⟩ := h.slice ht hc
  have key : ∀ yss : List (List Value), (∀ xs ∈ yss, xs.length = 1 ∧ Cells P W e xs) → ∃ ll, yss.length = ll.length ∧ Each W yss.flatten ll ∧ ∀ l ∈ ll, ∀ n ∈ l, I64 n := by
    intro yss
    induction yss with
    | nil => intro _; exact ⟨[], rfl, ⟨rfl, by intro i x l hx; simp at hx⟩, by simp⟩
    | cons ys yss ih =>
      intro h
      obtain ⟨ll, h1, h2, h3⟩ := ih (fun xs hx => h xs (by simp [hx]))
      obtain ⟨v, l, rfl, hl, hI⟩ := (h ys (by simp)).2.ints he hi hci
      refine ⟨l :: ll, by simp [h1], ⟨by simpa using h2.1, fun i x m hx hm => ?_⟩, fun m hm => (List.mem_cons.1 hm).elim (fun e => e ▸ hI) (fun hm => h3 m hm)⟩
      cases i with
      | zero => simp at hx hm; subst hx; subst hm; exact hl
      | succ i => exact h2.2 i x m (by simpa using hx) (by simpa using hm)
  obtain ⟨ll, h1, h2, h3⟩ := key xss hx
  rw [h1] at hr ⊢
  exact ⟨_, ll, rfl, ⟨_, h2, a, cap, rfl, hr⟩, h3⟩

end Go.Proofs.YtbmimdnpchldlaaDoor

namespace Go.Proofs.YtbmimdnpchldlaaDoor
open Go.RowKit

abbrev Sp2 := Int × Int
def spc (s : Int × Int) : List Value := [.int .i64 s.1, .int .i64 s.2]
theorem Tryd.slSpots : SlTy Tryd.prog 36 49 (.agg #[.int .i64 0, .int .i64 0]) 2 16 := SlTy.mk' Tryd.underlying36 (by kernel_rfl) (by rfl) (by omega)

end Go.Proofs.YtbmimdnpchldlaaDoor

namespace Go.Proofs.YtbmimdnpchldlaaDoor
open Go.RowKit

def pk (n m : Int) : Int := (if n < 0 then -(n + 1) else n) % m

theorem pk_bd (n m : Int) (h : 0 < m) : 0 ≤ pk n m ∧ pk n m < m := ⟨Int.emod_nonneg _ (by omega), Int.emod_lt_of_pos _ h⟩

set_option maxHeartbeats 400000 in
theorem picked_any (n m : Int) (w : World) (h1 : -9223372036854775808 ≤ n) (h2 : n ≤ 9223372036854775807) (h3 : 0 < m) (h4 : m ≤ 9223372036854775807) :
    Calls Tryd.prog 25 #[.int .i64 n, .int .i64 m] w fun e w' => e = .returned (.int .i64 (pk n m)) ∧ w = w' := by
  by_cases hn : n < 0
  · have e : pk n m = -(n + 1) % m := by simp [pk, hn]
    rw [e]
    clear e
    rw [← Int.tmod_eq_emod_of_nonneg (by omega), Int.neg_tmod]
    go_enter Tryd.func25, Tryd.ntmps25
    go_wp2
    go_ret
    exact ⟨rfl, rfl⟩
  · have e : pk n m = n % m := by simp [pk, hn]
    rw [e]
    clear e
    have h5 : 0 ≤ n := by omega
    go_enter Tryd.func25, Tryd.ntmps25
    go_wp2
    go_ret
    exact ⟨rfl, rfl⟩

end Go.Proofs.YtbmimdnpchldlaaDoor

namespace Go.Proofs.YtbmimdnpchldlaaDoor

def Edge (next : List (List Int)) (a b : Nat) : Prop := ∃ l, next[a]? = some l ∧ (b : Int) ∈ l
inductive Reach (next : List (List Int)) : Nat → Nat → Prop
  | refl (a : Nat) : Reach next a a
  | step {a b c : Nat} : Reach next a b → Edge next b c → Reach next a c

theorem Reach.trans {next : List (List Int)} {a b c : Nat} (h : Reach next a b) (k : Reach next b c) : Reach next a c := by
  induction k with
  | refl => exact h
  | step _ e ih => exact ih.step e
theorem Reach.edge {next : List (List Int)} {a b : Nat} (h : Edge next a b) : Reach next a b := (Reach.refl a).step h

/-- Each step leads to a spot. -/
def Inside (n : Nat) (next : List (List Int)) : Prop := ∀ l ∈ next, ∀ k ∈ l, (0 : Int) ≤ k ∧ k < n

/-- What is marked; what is still to be gone through; one spot (c) may be half gone through: its first k steps lead to what is marked. -/
structure Seek (n : Nat) (next : List (List Int)) (src : Nat → Prop) (seen : List Bool) (pend : List Int) : Prop where
  len : seen.length = n
  rch : ∀ a : Nat, seen[a]? = some true → ∃ s, src s ∧ Reach next s a
  pen : ∀ x ∈ pend, ∃ a : Nat, x = a ∧ seen[a]? = some true

def Closed (next : List (List Int)) (seen : List Bool) (pend : List Int) (c : Option (Nat × Nat)) : Prop :=
  ∀ a : Nat, seen[a]? = some true → (a : Int) ∈ pend ∨
    match c with
    | none => ∀ b, Edge next a b → seen[b]? = some true
    | some (c, k) => (a ≠ c → ∀ b, Edge next a b → seen[b]? = some true) ∧ (a = c → ∀ l, next[a]? = some l → ∀ b : Nat, (b : Int) ∈ l.take k → seen[b]? = some true)

theorem seen_set {seen : List Bool} {y a : Nat} (h : seen[a]? = some true) : (seen.set y true)[a]? = some true := by
  rw [List.getElem?_set]
  have := (List.getElem?_eq_some_iff.1 h).1
  split
  · subst_vars; simp [this]
  · exact h

theorem set_seen {seen : List Bool} {y a : Nat} (h : (seen.set y true)[a]? = some true) : seen[a]? = some true ∨ a = y := by
  rw [List.getElem?_set] at h
  split at h
  · right; omega
  · exact .inl h

theorem count_set : ∀ (seen : List Bool) (y : Nat), seen[y]? = some false → (seen.set y true).count true = seen.count true + 1
  | b :: seen, 0, h => by simp at h; subst h; simp
  | b :: seen, y + 1, h => by
    have := count_set seen y (by simpa using h)
    simp only [List.set_cons_succ, List.count_cons, this]
    omega

theorem Seek.mark {n : Nat} {next : List (List Int)} {src : Nat → Prop} {seen : List Bool} {pend pend' : List Int} {y : Nat} (h : Seek n next src seen pend) (hy : ∃ s, src s ∧ Reach next s y) (hn : y < n)
    (hp : ∀ x ∈ pend', x ∈ pend ∨ x = y) : Seek n next src (seen.set y true) pend' := by
  refine ⟨by simp [h.len], fun a ha => ?_, fun x hx => ?_⟩
  · rcases set_seen ha with ha | rfl
    · exact h.rch a ha
    · exact hy
  · rcases hp x hx with hx | rfl
    · obtain ⟨a, rfl, ha⟩ := h.pen x hx
      exact ⟨a, rfl, seen_set ha⟩
    · exact ⟨y, rfl, by rw [List.getElem?_set]; simp [h.len, hn]⟩

theorem Closed.mark {next : List (List Int)} {seen : List Bool} {pend pend' : List Int} {c : Option (Nat × Nat)} {y : Nat} (h : Closed next seen pend c) (hp : ∀ x ∈ pend, x ∈ pend') (hy : (y : Int) ∈ pend') :
    Closed next (seen.set y true) pend' c := by
  intro a ha
  by_cases e : a = y
  · subst e; exact .inl hy
  · rcases set_seen ha with ha | ha
    · rcases h a ha with h | h
      · exact .inl (hp _ h)
      · right
        match c, h with
        | none, h => exact fun b hb => seen_set (h b hb)
        | some (c, k), h => exact ⟨fun hc b hb => seen_set (h.1 hc b hb), fun hc l hl b hb => seen_set (h.2 hc l hl b hb)⟩
    · exact absurd ha e

/-- One more step of the spot that is gone through leads to what is marked. -/
theorem Closed.next {next : List (List Int)} {seen : List Bool} {pend : List Int} {c k y : Nat} {l : List Int} (h : Closed next seen pend (some (c, k))) (hl : next[c]? = some l) (hk : l[k]? = some (y : Int)) (hy : seen[y]? = some true) :
    Closed next seen pend (some (c, k + 1)) := by
  intro a ha
  rcases h a ha with h | h
  · exact .inl h
  · refine .inr ⟨h.1, fun hc l' hl' b hb => ?_⟩
    subst hc
    rw [hl] at hl'
    injection hl' with hl'
    subst hl'
    have hlt := (List.getElem?_eq_some_iff.1 hk).1
    rw [List.take_add_one, hk] at hb
    rcases List.mem_append.1 hb with hb | hb
    · exact h.2 rfl l hl b hb
    · simp at hb
      have : b = y := by omega
      subst this
      exact hy

theorem Closed.done {next : List (List Int)} {seen : List Bool} {pend : List Int} {c : Nat} {l : List Int} (h : Closed next seen pend (some (c, l.length))) (hl : next[c]? = some l) : Closed next seen pend none := by
  intro a ha
  rcases h a ha with h | h
  · exact .inl h
  · right
    by_cases hc : a = c
    · rintro b ⟨l', hl', hb⟩
      have := h.2 hc l' hl' b
      rw [hc, hl] at hl'
      injection hl' with hl'
      subst hl'
      exact this (by rw [List.take_length]; exact hb)
    · exact fun b hb => h.1 hc b hb

theorem Closed.begin {next : List (List Int)} {seen : List Bool} {pend pend' : List Int} {c : Nat} (h : Closed next seen pend none) (hp : ∀ x ∈ pend, x = (c : Int) ∨ x ∈ pend') : Closed next seen pend' (some (c, 0)) := by
  intro a ha
  by_cases hc : a = c
  · exact .inr ⟨fun h => absurd hc h, fun _ l _ b hb => by simp at hb⟩
  · rcases h a ha with h | h
    · rcases hp _ h with e | e
      · exact absurd (by omega) hc
      · exact .inl e
    · exact .inr ⟨fun _ => h, fun h => absurd h hc⟩

/-- What a search has marked at its end. -/
theorem seek_end {n : Nat} {next : List (List Int)} {src : Nat → Prop} {seen : List Bool} (h : Seek n next src seen []) (hc : Closed next seen [] none) (hs : ∀ s, src s → seen[s]? = some true) (a : Nat) : seen[a]? = some true ↔ ∃ s, src s ∧ Reach next s a := by
  refine ⟨h.rch a, ?_⟩
  rintro ⟨s, h1, h2⟩
  induction h2 with
  | refl => exact hs s h1
  | step _ e ih =>
    rcases hc _ ih with h | h
    · simp at h
    · exact h _ e

theorem seek_begin (n : Nat) (next : List (List Int)) (src : Nat → Prop) : Seek n next src (List.replicate n false) [] ∧ Closed next (List.replicate n false) [] none := by
  have e : ∀ a : Nat, ¬ (List.replicate n false)[a]? = some true := by
    intro a h
    rw [List.getElem?_replicate] at h
    split at h <;> simp at h
  exact ⟨⟨by simp, fun a h => absurd h (e a), by simp⟩, fun a h => absurd h (e a)⟩

end Go.Proofs.YtbmimdnpchldlaaDoor

namespace Go.Proofs.YtbmimdnpchldlaaDoor

def nbs (next : List (List Int)) (a : Nat) : List Int := next.getD a []

theorem edge_iff {next : List (List Int)} {a b : Nat} : Edge next a b ↔ (b : Int) ∈ nbs next a := by
  unfold Edge nbs
  constructor
  · rintro ⟨l, h1, h2⟩
    simpa [List.getD, h1] using h2
  · intro h
    cases hl : next[a]? with
    | none => simp [List.getD, hl] at h
    | some l => exact ⟨l, rfl, by simpa [List.getD, hl] using h⟩

/-- A search: when a spot was met (0: not yet), how low it reaches, its part (-1: not known), what is open and what is under way (the last one first). -/
structure TS where
  ord : Nat → Nat
  low : Nat → Nat
  part : Nat → Int
  os : List Nat
  cs : List (Nat × Nat)
  met : Nat

def upd {α : Type} (f : Nat → α) (a : Nat) (v : α) : Nat → α := fun x => if x = a then v else f x
theorem upd_at {α : Type} (f : Nat → α) (a : Nat) (v : α) : upd f a v a = v := if_pos rfl
theorem upd_ne {α : Type} (f : Nat → α) {a x : Nat} (v : α) (h : x ≠ a) : upd f a v x = f x := if_neg h

/-- An edge that was looked at. -/
def Expl (next : List (List Int)) (cs : List (Nat × Nat)) (y z : Nat) : Prop :=
  (∃ k, (y, k) ∈ cs ∧ (z : Int) ∈ (nbs next y).take k) ∨ ((∀ q ∈ cs, q.1 ≠ y) ∧ Edge next y z)

/-- A spot's part is the least spot that it reaches and that reaches it. -/
def PartOk (next : List (List Int)) (part : Nat → Int) (a : Nat) : Prop :=
  ∃ m : Nat, part a = m ∧ Reach next a m ∧ Reach next m a ∧ ∀ b, Reach next a b → Reach next b a → m ≤ b

/-- What holds of a search; Z: a spot that is about to be met. -/
structure TInv (n : Nat) (next : List (List Int)) (s : TS) (Z : Option Nat) : Prop where
  bnd : ∀ a ∈ s.os, a < n
  met : ∀ a, s.ord a ≤ s.met
  oso : s.os.Pairwise fun a b => s.ord b < s.ord a
  osm : ∀ a, a ∈ s.os ↔ s.ord a ≠ 0 ∧ s.part a = -1
  pz : ∀ a, s.ord a = 0 → s.part a = -1
  cso : s.cs.Pairwise fun a b => s.ord b.1 < s.ord a.1
  csm : ∀ p ∈ s.cs, p.1 ∈ s.os ∧ p.2 ≤ (nbs next p.1).length
  exq : ∀ y z, s.ord y ≠ 0 → Expl next s.cs y z → s.ord z ≠ 0 ∨ Z = some z
  clo : ∀ a b, s.part a ≠ -1 → Edge next a b → s.part b ≠ -1
  A : ∀ p ∈ s.cs, ∀ y ∈ s.os, s.ord p.1 ≤ s.ord y → Reach next p.1 y
  B : ∀ y ∈ s.os, (∀ p ∈ s.cs, p.1 ≠ y) → ∃ z ∈ s.os, s.ord z < s.ord y ∧ Reach next y z
  C : ∀ y ∈ s.os, ∃ p ∈ s.cs, s.ord p.1 ≤ s.ord y
  L : ∀ p ∈ s.cs, ∀ y ∈ s.os, s.ord p.1 ≤ s.ord y → (∀ q ∈ s.cs, s.ord q.1 ≤ s.ord y → s.ord q.1 ≤ s.ord p.1) → ∀ z ∈ s.os, Expl next s.cs y z → s.low p.1 ≤ s.ord z
  W : ∀ p ∈ s.cs, s.low p.1 ≤ s.ord p.1 ∧ ∃ z ∈ s.os, s.ord z = s.low p.1 ∧ Reach next p.1 z
  P : ∀ a, s.part a ≠ -1 → PartOk next s.part a

section
variable {n : Nat} {next : List (List Int)} {s : TS} {Z : Option Nat}

theorem TInv.init (n : Nat) (next : List (List Int)) : TInv n next ⟨fun _ => 0, fun _ => 0, fun _ => -1, [], [], 0⟩ none := by
  refine ⟨by simp, by simp, by simp, by simp, by simp, by simp, by simp, by simp, by simp, by simp, by simp, by simp, by simp, by simp, by simp⟩

/-- What is open is told by when it was met. -/
theorem TInv.inj (h : TInv n next s Z) {a b : Nat} (ha : a ∈ s.os) (hb : b ∈ s.os) (e : s.ord a = s.ord b) : a = b := by
  by_cases hab : a = b
  · exact hab
  · have : ∀ (l : List Nat), l.Pairwise (fun a b => s.ord b < s.ord a) → a ∈ l → b ∈ l → False := by
      intro l
      induction l with
      | nil => intro _ h; simp at h
      | cons x l ih =>
        intro hp ha hb
        rw [List.pairwise_cons] at hp
        rcases List.mem_cons.1 ha with rfl | ha'
        · rcases List.mem_cons.1 hb with rfl | hb'
          · exact hab rfl
          · have := hp.1 b hb'; omega
        · rcases List.mem_cons.1 hb with rfl | hb'
          · have := hp.1 a ha'; omega
          · exact ih hp.2 ha' hb'
    exact (this s.os h.oso ha hb).elim

/-- The last one is the highest. -/
theorem TInv.top (h : TInv n next s Z) {c : Nat × Nat} {rest : List (Nat × Nat)} (hc : s.cs = c :: rest) : (∀ q ∈ rest, s.ord q.1 < s.ord c.1) ∧ (∀ q ∈ s.cs, s.ord q.1 ≤ s.ord c.1) := by
  have := h.cso
  rw [hc, List.pairwise_cons] at this
  refine ⟨this.1, fun q hq => ?_⟩
  rw [hc] at hq
  rcases List.mem_cons.1 hq with rfl | hq
  · exact Nat.le_refl _
  · exact Nat.le_of_lt (this.1 q hq)

theorem TInv.enter {z : Nat} (h : TInv n next s (some z)) (hz : s.ord z = 0) (hn : z < n) (hr : ∀ p ∈ s.cs, Reach next p.1 z) :
    TInv n next ⟨upd s.ord z (s.met + 1), upd s.low z (s.met + 1), s.part, z :: s.os, (z, 0) :: s.cs, s.met + 1⟩ none := by
  have hne : ∀ a ∈ s.os, a ≠ z := fun a ha e => by subst e; exact ((h.osm a).1 ha).1 hz
  have ho : ∀ a ∈ s.os, upd s.ord z (s.met + 1) a = s.ord a := fun a ha => upd_ne _ _ (hne a ha)
  have hoc : ∀ p ∈ s.cs, upd s.ord z (s.met + 1) p.1 = s.ord p.1 := fun p hp => ho _ (h.csm p hp).1
  have hlc : ∀ p ∈ s.cs, upd s.low z (s.met + 1) p.1 = s.low p.1 := fun p hp => upd_ne _ _ (hne _ (h.csm p hp).1)
  have hex : ∀ y x, y ≠ z → Expl next ((z, 0) :: s.cs) y x → Expl next s.cs y x := by
    rintro y x hy (⟨k, h1, h2⟩ | ⟨h1, h2⟩)
    · rcases List.mem_cons.1 h1 with e | h1
      · simp only [Prod.mk.injEq] at e; exact absurd e.1 hy
      · exact .inl ⟨k, h1, h2⟩
    · exact .inr ⟨fun q hq => h1 q (List.mem_cons_of_mem _ hq), h2⟩
  have hexz : ∀ x, ¬ Expl next ((z, 0) :: s.cs) z x := by
    rintro x (⟨k, h1, h2⟩ | ⟨h1, h2⟩)
    · rcases List.mem_cons.1 h1 with e | h1
      · simp only [Prod.mk.injEq] at e; rw [e.2] at h2; simp at h2
      · exact hne z (h.csm _ h1).1 rfl
    · exact h1 (z, 0) (by simp) rfl
  refine ⟨?_, ?_, ?_, ?_, ?_, ?_, ?_, ?_, h.clo, ?_, ?_, ?_, ?_, ?_, h.P⟩
  · intro a ha
    rcases List.mem_cons.1 ha with rfl | ha
    · exact hn
    · exact h.bnd a ha
  · intro a
    by_cases e : a = z
    · subst e; simp [upd_at]
    · show upd s.ord z (s.met + 1) a ≤ s.met + 1; rw [upd_ne _ _ e]; have := h.met a; omega
  · show List.Pairwise (fun a b => upd s.ord z (s.met + 1) b < upd s.ord z (s.met + 1) a) (z :: s.os)
    rw [List.pairwise_cons]
    refine ⟨fun a ha => by rw [ho a ha, upd_at]; have := h.met a; omega, ?_⟩
    exact h.oso.imp_of_mem fun ha hb hab => by rw [ho _ ha, ho _ hb]; exact hab
  · intro a
    show a ∈ z :: s.os ↔ upd s.ord z (s.met + 1) a ≠ 0 ∧ s.part a = -1
    by_cases e : a = z
    · subst e; simp [upd_at, h.pz _ hz]
    · rw [List.mem_cons, upd_ne _ _ e, h.osm a]; simp [e]
  · intro a ha
    have ha' : upd s.ord z (s.met + 1) a = 0 := ha
    by_cases e : a = z
    · subst e; rw [upd_at] at ha'; omega
    · rw [upd_ne _ _ e] at ha'; exact h.pz a ha'
  · show List.Pairwise (fun a b => upd s.ord z (s.met + 1) b.1 < upd s.ord z (s.met + 1) a.1) ((z, 0) :: s.cs)
    rw [List.pairwise_cons]
    refine ⟨fun p hp => by rw [hoc p hp]; show _ < upd s.ord z (s.met + 1) z; rw [upd_at]; have := h.met p.1; omega, ?_⟩
    exact h.cso.imp_of_mem fun ha hb hab => by rw [hoc _ ha, hoc _ hb]; exact hab
  · intro p hp
    rcases List.mem_cons.1 hp with rfl | hp
    · exact ⟨by simp, Nat.zero_le _⟩
    · exact ⟨List.mem_cons_of_mem _ (h.csm p hp).1, (h.csm p hp).2⟩
  · intro y x hy hx
    have hy' : upd s.ord z (s.met + 1) y ≠ 0 := hy
    left
    show upd s.ord z (s.met + 1) x ≠ 0
    by_cases e : y = z
    · subst e; exact absurd hx (hexz x)
    · rw [upd_ne _ _ e] at hy'
      by_cases ex : x = z
      · subst ex; rw [upd_at]; omega
      · rw [upd_ne _ _ ex]
        rcases h.exq y x hy' (hex y x e hx) with h | h
        · exact h
        · injection h with h; exact absurd h.symm ex
  · intro p hp y hy hle
    have hle' : upd s.ord z (s.met + 1) p.1 ≤ upd s.ord z (s.met + 1) y := hle
    rcases List.mem_cons.1 hp with rfl | hp2
    · rcases List.mem_cons.1 hy with rfl | hy
      · exact Reach.refl _
      · rw [ho y hy] at hle'
        have : upd s.ord z (s.met + 1) z = s.met + 1 := upd_at _ _ _
        have h2 := h.met y
        simp only [this] at hle'
        omega
    · rcases List.mem_cons.1 hy with rfl | hy
      · exact hr p hp2
      · rw [ho y hy, hoc p hp2] at hle'; exact h.A p hp2 y hy hle'
  · intro y hy hp
    rcases List.mem_cons.1 hy with rfl | hy
    · exact absurd rfl (hp (y, 0) (by simp))
    · obtain ⟨x, hx, h1, h2⟩ := h.B y hy fun p hp' => hp p (List.mem_cons_of_mem _ hp')
      exact ⟨x, List.mem_cons_of_mem _ hx, by show upd _ _ _ _ < upd _ _ _ _; rw [ho x hx, ho y hy]; exact h1, h2⟩
  · intro y hy
    rcases List.mem_cons.1 hy with rfl | hy
    · exact ⟨(y, 0), by simp, Nat.le_refl _⟩
    · obtain ⟨p, hp, h1⟩ := h.C y hy
      exact ⟨p, List.mem_cons_of_mem _ hp, by show upd _ _ _ _ ≤ upd _ _ _ _; rw [hoc p hp, ho y hy]; exact h1⟩
  · intro p hp y hy hle hq x hx hxp
    have hle' : upd s.ord z (s.met + 1) p.1 ≤ upd s.ord z (s.met + 1) y := hle
    show upd s.low z (s.met + 1) p.1 ≤ upd s.ord z (s.met + 1) x
    rcases List.mem_cons.1 hy with rfl | hy
    · exact absurd hxp (hexz x)
    · have hyz := hne y hy
      rcases List.mem_cons.1 hp with rfl | hp2
      · rw [ho y hy] at hle'
        have : upd s.ord z (s.met + 1) z = s.met + 1 := upd_at _ _ _
        have h2 := h.met y
        simp only [this] at hle'
        omega
      · rw [hlc p hp2]
        rcases List.mem_cons.1 hx with rfl | hx
        · rw [upd_at]; have h1 := (h.W p hp2).1; have h2 := h.met p.1; omega
        · rw [ho x hx]
          rw [ho y hy, hoc p hp2] at hle'
          refine h.L p hp2 y hy hle' (fun q hq' hqy => ?_) x hx (hex y x hyz hxp)
          have h3 := hq q (List.mem_cons_of_mem _ hq')
          have h4 : upd s.ord z (s.met + 1) q.1 ≤ upd s.ord z (s.met + 1) y → upd s.ord z (s.met + 1) q.1 ≤ upd s.ord z (s.met + 1) p.1 := h3
          rw [hoc q hq', hoc p hp2, ho y hy] at h4
          exact h4 hqy
  · intro p hp
    show upd s.low z (s.met + 1) p.1 ≤ upd s.ord z (s.met + 1) p.1 ∧ ∃ x ∈ z :: s.os, upd s.ord z (s.met + 1) x = upd s.low z (s.met + 1) p.1 ∧ Reach next p.1 x
    rcases List.mem_cons.1 hp with rfl | hp
    · refine ⟨by simp [upd_at], z, by simp, by simp [upd_at], Reach.refl _⟩
    · rw [hlc p hp, hoc p hp]
      obtain ⟨h1, x, hx, h2, h3⟩ := h.W p hp
      exact ⟨h1, x, List.mem_cons_of_mem _ hx, by rw [ho x hx]; exact h2, h3⟩

/-- One more edge of the last one is looked at. -/
theorem TInv.look {Z' : Option Nat} {c k z : Nat} {rest : List (Nat × Nat)} {low' : Nat → Nat} (h : TInv n next s none) (hc : s.cs = (c, k) :: rest) (hk : (nbs next c)[k]? = some (z : Int)) (hz : s.ord z ≠ 0 ∨ Z' = some z)
    (hl : low' = s.low ∨ (z ∈ s.os ∧ low' = upd s.low c (min (s.low c) (s.ord z)))) (hzo : z ∈ s.os → low' c ≤ s.ord z) : TInv n next { s with cs := (c, k + 1) :: rest, low := low' } Z' := by
  have hkl := (List.getElem?_eq_some_iff.1 hk).1
  have hcc : (c, k) ∈ s.cs := by rw [hc]; simp
  have hco := (h.csm _ hcc).1
  have hed : Edge next c z := edge_iff.2 (List.mem_of_getElem? hk)
  have htop := h.top hc
  have hrne : ∀ p ∈ rest, p.1 ≠ c := fun p hp e => by have := htop.1 p hp; simp only [e] at this; omega
  have hrest : ∀ p, p ∈ rest → p ∈ s.cs := fun p hp => by rw [hc]; exact List.mem_cons_of_mem _ hp
  -- each frame of the new search has one of the old search at the same spot
  have hback : ∀ p ∈ (c, k + 1) :: rest, ∃ p' ∈ s.cs, p'.1 = p.1 := fun p hp => by
    rcases List.mem_cons.1 hp with rfl | hp2
    · exact ⟨(c, k), hcc, rfl⟩
    · exact ⟨p, hrest p hp2, rfl⟩
  have hforth : ∀ p ∈ s.cs, ∃ p' ∈ (c, k + 1) :: rest, p'.1 = p.1 := fun p hp => by
    rw [hc] at hp
    rcases List.mem_cons.1 hp with rfl | hp2
    · exact ⟨(c, k + 1), by simp, rfl⟩
    · exact ⟨p, List.mem_cons_of_mem _ hp2, rfl⟩
  have hex : ∀ y x, Expl next ((c, k + 1) :: rest) y x → Expl next s.cs y x ∨ (y = c ∧ x = z) := by
    rintro y x (⟨j, h1, h2⟩ | ⟨h1, h2⟩)
    · rcases List.mem_cons.1 h1 with e | h1
      · simp only [Prod.mk.injEq] at e
        obtain ⟨rfl, rfl⟩ := e
        rw [List.take_add_one, hk] at h2
        rcases List.mem_append.1 h2 with h2 | h2
        · exact .inl (.inl ⟨k, hcc, h2⟩)
        · right
          simp only [Option.toList_some, List.mem_singleton] at h2
          exact ⟨rfl, by omega⟩
      · exact .inl (.inl ⟨j, hrest _ h1, h2⟩)
    · refine .inl (.inr ⟨fun q hq => ?_, h2⟩)
      obtain ⟨q', hq', e⟩ := hforth q hq
      rw [← e]; exact h1 q' hq'
  have hlow : ∀ a, low' a ≤ s.low a := fun a => by
    rcases hl with rfl | ⟨_, rfl⟩
    · exact Nat.le_refl _
    · by_cases e : a = c
      · subst e; rw [upd_at]; exact Nat.min_le_left _ _
      · rw [upd_ne _ _ e]; exact Nat.le_refl _
  refine ⟨h.bnd, h.met, h.oso, h.osm, h.pz, ?_, ?_, ?_, h.clo, ?_, ?_, ?_, ?_, ?_, h.P⟩
  · show List.Pairwise _ ((c, k + 1) :: rest)
    have := h.cso
    rw [hc, List.pairwise_cons] at this
    rw [List.pairwise_cons]
    exact this
  · intro p hp
    rcases List.mem_cons.1 hp with rfl | hp2
    · exact ⟨hco, Nat.succ_le_of_lt hkl⟩
    · exact h.csm p (hrest p hp2)
  · intro y x hy hx
    rcases hex y x hx with hx | ⟨rfl, rfl⟩
    · rcases h.exq y x hy hx with h | h
      · exact .inl h
      · cases h
    · exact hz
  · intro p hp y hy hle
    obtain ⟨p', hp', e⟩ := hback p hp
    rw [← e] at hle ⊢
    exact h.A p' hp' y hy hle
  · intro y hy hp
    refine h.B y hy fun p hp' => ?_
    obtain ⟨p', hp'', e⟩ := hforth p hp'
    rw [← e]; exact hp p' hp''
  · intro y hy
    obtain ⟨p, hp, h1⟩ := h.C y hy
    obtain ⟨p', hp', e⟩ := hforth p hp
    exact ⟨p', hp', by show s.ord p'.1 ≤ _; rw [e]; exact h1⟩
  · intro p hp y hy hle hq x hx hxp
    show low' p.1 ≤ s.ord x
    rcases hex y x hxp with hxp | ⟨rfl, rfl⟩
    · obtain ⟨p', hp', e⟩ := hback p hp
      have := h.L p' hp' y hy (by rw [e]; exact hle) (fun q hq' hqy => by
        obtain ⟨q', hq'', e'⟩ := hforth q hq'
        have := hq q' hq'' (by show s.ord q'.1 ≤ _; rw [e']; exact hqy)
        rw [e, ← e']; exact this) x hx hxp
      rw [e] at this
      exact Nat.le_trans (hlow _) this
    · -- the frame must be that of the last one
      have h1 := hq (y, k + 1) (by simp) (Nat.le_refl _)
      have h2 : s.ord y ≤ s.ord p.1 := h1
      rcases List.mem_cons.1 hp with rfl | hp2
      · exact hzo hx
      · have := htop.1 p hp2
        simp only at this
        omega
  · intro p hp
    show low' p.1 ≤ s.ord p.1 ∧ ∃ x ∈ s.os, s.ord x = low' p.1 ∧ Reach next p.1 x
    obtain ⟨p', hp', e⟩ := hback p hp
    have hW := h.W p' hp'
    rw [e] at hW
    refine ⟨Nat.le_trans (hlow _) hW.1, ?_⟩
    rcases hl with rfl | ⟨hzos, rfl⟩
    · exact hW.2
    · by_cases e2 : p.1 = c
      · rw [e2, upd_at]
        rw [e2] at hW
        rcases Nat.le_total (s.low c) (s.ord z) with hm | hm
        · rw [Nat.min_eq_left hm]; exact hW.2
        · rw [Nat.min_eq_right hm]; exact ⟨z, hzos, rfl, Reach.edge hed⟩
      · rw [upd_ne _ _ e2]; exact hW.2

/-- What is known of the last one, when all of its edges were looked at. -/
theorem TInv.full {c k : Nat} {rest : List (Nat × Nat)} (h : TInv n next s none) (hc : s.cs = (c, k) :: rest) (hk : k = (nbs next c).length) :
    (∀ p ∈ rest, p ∈ s.cs ∧ s.ord p.1 < s.ord c) ∧ c ∈ s.os ∧ (∀ y x, (∀ p ∈ rest, p.1 ≠ y) → s.ord y ≠ 0 → Edge next y x → (s.ord c ≤ s.ord y → y ∈ s.os) → Expl next s.cs y x) ∧
      (∀ y x, Expl next rest y x → Expl next s.cs y x) ∧ (∀ y ∈ s.os, s.ord c ≤ s.ord y → ∀ p ∈ rest, p.1 ≠ y) := by
  have htop := h.top hc
  have hcc : (c, k) ∈ s.cs := by rw [hc]; simp
  have hrest : ∀ p, p ∈ rest → p ∈ s.cs := fun p hp => by rw [hc]; exact List.mem_cons_of_mem _ hp
  refine ⟨fun p hp => ⟨hrest p hp, htop.1 p hp⟩, (h.csm _ hcc).1, fun y x hy _ he _ => ?_, fun y x hx => ?_, fun y _ hle p hp e => ?_⟩
  · by_cases e : y = c
    · subst e
      exact .inl ⟨k, hcc, by rw [hk, List.take_length]; exact edge_iff.1 he⟩
    · refine .inr ⟨fun q hq => ?_, he⟩
      rw [hc] at hq
      rcases List.mem_cons.1 hq with rfl | hq
      · exact fun e' => e e'.symm
      · exact hy q hq
  · rcases hx with ⟨j, h1, h2⟩ | ⟨h1, h2⟩
    · exact .inl ⟨j, hrest _ h1, h2⟩
    · by_cases e : y = c
      · subst e
        exact .inl ⟨k, hcc, by rw [hk, List.take_length]; exact edge_iff.1 h2⟩
      · refine .inr ⟨fun q hq => ?_, h2⟩
        rw [hc] at hq
        rcases List.mem_cons.1 hq with rfl | hq
        · exact fun e' => e e'.symm
        · exact h1 q hq
  · have := htop.1 p hp
    rw [e] at this
    simp only at this
    omega

/-- The last one is left, and stays open. -/
theorem TInv.pop {c k u ku : Nat} {rest : List (Nat × Nat)} (h : TInv n next s none) (hc : s.cs = (c, k) :: (u, ku) :: rest) (hk : k = (nbs next c).length) (hne : s.low c ≠ s.ord c) :
    TInv n next { s with cs := (u, ku) :: rest, low := upd s.low u (min (s.low u) (s.low c)) } none := by
  obtain ⟨hr, hco, hfull, hex, hfar⟩ := h.full hc hk
  have hcc : (c, k) ∈ s.cs := by rw [hc]; simp
  have huu : (u, ku) ∈ s.cs := by rw [hc]; simp
  obtain ⟨hW1, z0, hz0, hz1, hz2⟩ := h.W _ hcc
  have hlt : s.low c < s.ord c := by simp only at hW1; omega
  have hlow : ∀ a, upd s.low u (min (s.low u) (s.low c)) a ≤ s.low a := fun a => by
    by_cases e : a = u
    · subst e; rw [upd_at]; exact Nat.min_le_left _ _
    · rw [upd_ne _ _ e]; exact Nat.le_refl _
  have htop2 : ∀ q ∈ (u, ku) :: rest, s.ord q.1 ≤ s.ord u := fun q hq => by
    have := h.cso
    rw [hc, List.pairwise_cons, List.pairwise_cons] at this
    rcases List.mem_cons.1 hq with rfl | hq
    · exact Nat.le_refl _
    · exact Nat.le_of_lt (this.2.1 q hq)
  refine ⟨h.bnd, h.met, h.oso, h.osm, h.pz, ?_, ?_, ?_, h.clo, ?_, ?_, ?_, ?_, ?_, h.P⟩
  · show List.Pairwise _ ((u, ku) :: rest)
    have := h.cso
    rw [hc, List.pairwise_cons] at this
    exact this.2
  · exact fun p hp => h.csm p (hr p hp).1
  · exact fun y x hy hx => h.exq y x hy (hex y x hx)
  · exact fun p hp y hy hle => h.A p (hr p hp).1 y hy hle
  · intro y hy hp
    by_cases e : y = c
    · subst e; exact ⟨z0, hz0, by show s.ord z0 < s.ord y; rw [hz1]; exact hlt, hz2⟩
    · refine h.B y hy fun p hp' => ?_
      rw [hc] at hp'
      rcases List.mem_cons.1 hp' with rfl | hp'
      · exact fun e' => e e'.symm
      · exact hp p hp'
  · intro y hy
    obtain ⟨p, hp, h1⟩ := h.C y hy
    rw [hc] at hp
    rcases List.mem_cons.1 hp with rfl | hp
    · exact ⟨(u, ku), by simp, Nat.le_trans (Nat.le_of_lt (hr (u, ku) (by simp)).2) h1⟩
    · exact ⟨p, hp, h1⟩
  · intro p hp y hy hle hq x hx hxp
    show upd s.low u (min (s.low u) (s.low c)) p.1 ≤ s.ord x
    by_cases hcy : s.ord c ≤ s.ord y
    · -- what lay behind the one that is left
      have h1 : s.ord u ≤ s.ord p.1 := hq (u, ku) (by simp) (Nat.le_trans (Nat.le_of_lt (hr (u, ku) (by simp)).2) hcy)
      have h2 := htop2 p hp
      have e : p.1 = u := h.inj (h.csm p (hr p hp).1).1 (h.csm _ huu).1 (Nat.le_antisymm h2 h1)
      rw [e, upd_at]
      have := h.L _ hcc y hy hcy (fun q hq' _ => (h.top hc).2 q hq') x hx (hex y x hxp)
      simp only at this
      exact Nat.le_trans (Nat.min_le_right _ _) this
    · refine Nat.le_trans (hlow _) (h.L p (hr p hp).1 y hy hle (fun q hq' hqy => ?_) x hx (hex y x hxp))
      rw [hc] at hq'
      rcases List.mem_cons.1 hq' with rfl | hq'
      · exact absurd hqy hcy
      · exact hq q hq' hqy
  · intro p hp
    show upd s.low u (min (s.low u) (s.low c)) p.1 ≤ s.ord p.1 ∧ ∃ x ∈ s.os, s.ord x = upd s.low u (min (s.low u) (s.low c)) p.1 ∧ Reach next p.1 x
    have hW := h.W p (hr p hp).1
    refine ⟨Nat.le_trans (hlow _) hW.1, ?_⟩
    by_cases e : p.1 = u
    · rw [e, upd_at]
      rw [e] at hW
      rcases Nat.le_total (s.low u) (s.low c) with hm | hm
      · rw [Nat.min_eq_left hm]; exact hW.2
      · rw [Nat.min_eq_right hm]
        have hA := h.A (u, ku) huu c hco (Nat.le_of_lt (hr (u, ku) (by simp)).2)
        exact ⟨z0, hz0, hz1, hA.trans hz2⟩
    · rw [upd_ne _ _ e]; exact hW.2

/-- Where only one is under way it cannot stay open. -/
theorem TInv.root {c k : Nat} (h : TInv n next s none) (hc : s.cs = [(c, k)]) : s.low c = s.ord c := by
  have hcc : (c, k) ∈ s.cs := by rw [hc]; simp
  obtain ⟨h1, z, hz, h2, _⟩ := h.W _ hcc
  obtain ⟨p, hp, h3⟩ := h.C z hz
  rw [hc] at hp
  simp only [List.mem_singleton] at hp
  subst hp
  simp only at *
  omega

/-- The last one is left, and its part is whole. -/
theorem TInv.close {c k m : Nat} {rest : List (Nat × Nat)} {D os' : List Nat} {low' : Nat → Nat} (h : TInv n next s none) (hc : s.cs = (c, k) :: rest) (hk : k = (nbs next c).length) (heq : s.low c = s.ord c)
    (hl : ∀ p ∈ rest, low' p.1 = s.low p.1) (hos : s.os = D ++ os') (hD : ∀ y ∈ D, s.ord c ≤ s.ord y) (hO : ∀ y ∈ os', s.ord y < s.ord c) (hm : m ∈ D) (hmin : ∀ y ∈ D, m ≤ y) :
    TInv n next { s with cs := rest, low := low', os := os', part := fun a => if a ∈ D then (m : Int) else s.part a } none := by
  obtain ⟨hr, hco, hfull, hex, hfar⟩ := h.full hc hk
  have hcc : (c, k) ∈ s.cs := by rw [hc]; simp
  have hDo : ∀ y, y ∈ D → y ∈ s.os := fun y hy => by rw [hos]; exact List.mem_append_left _ hy
  have hOo : ∀ y, y ∈ os' → y ∈ s.os := fun y hy => by rw [hos]; exact List.mem_append_right _ hy
  have hDi : ∀ y ∈ s.os, s.ord c ≤ s.ord y → y ∈ D := fun y hy hle => by
    rw [hos] at hy
    rcases List.mem_append.1 hy with h | h
    · exact h
    · have := hO y h; omega
  have hOi : ∀ y ∈ s.os, s.ord y < s.ord c → y ∈ os' := fun y hy hlt => by
    rw [hos] at hy
    rcases List.mem_append.1 hy with h | h
    · have := hD y h; omega
    · exact h
  have hDp : ∀ y ∈ D, s.part y = -1 := fun y hy => ((h.osm y).1 (hDo y hy)).2
  have hOD : ∀ y ∈ os', y ∉ D := fun y hy hd => by have := hO y hy; have := hD y hd; omega
  have hcD : c ∈ D := hDi c hco (Nat.le_refl _)
  -- what is closed leads to what is closed
  have hstep : ∀ y z, y ∈ D → Edge next y z → z ∈ D ∨ s.part z ≠ -1 := fun y z hy he => by
    have hyo := hDo y hy
    have hyr := hfar y hyo (hD y hy)
    have hxp := hfull y z hyr ((h.osm y).1 hyo).1 he (fun _ => hyo)
    have hz0 : s.ord z ≠ 0 := by
      rcases h.exq y z ((h.osm y).1 hyo).1 hxp with h | h
      · exact h
      · cases h
    by_cases hp : s.part z = -1
    · have hzo := (h.osm z).2 ⟨hz0, hp⟩
      have := h.L _ hcc y hyo (hD y hy) (fun q hq _ => (h.top hc).2 q hq) z hzo hxp
      simp only [heq] at this
      exact .inl (hDi z hzo this)
    · exact .inr hp
  have hclo2 : ∀ y z, (y ∈ D ∨ s.part y ≠ -1) → Reach next y z → (z ∈ D ∨ s.part z ≠ -1) := fun y z hy hyz => by
    induction hyz with
    | refl => exact hy
    | step _ e ih =>
      rcases ih with h1 | h1
      · exact hstep _ _ h1 e
      · exact .inr (h.clo _ _ h1 e)
  have holdclo : ∀ y z, s.part y ≠ -1 → Reach next y z → s.part z ≠ -1 := fun y z hy hyz => by
    induction hyz with
    | refl => exact hy
    | step _ e ih => exact h.clo _ _ ih e
  -- all of it reaches the one that is left
  have hto : ∀ (b : Nat) (y : Nat), s.ord y ≤ b → y ∈ D → Reach next y c := by
    intro b
    induction b with
    | zero => intro y hb hy; have := ((h.osm y).1 (hDo y hy)).1; omega
    | succ b ih =>
      intro y hb hy
      by_cases e : y = c
      · subst e; exact Reach.refl _
      · have hyc : ∀ p ∈ s.cs, p.1 ≠ y := fun p hp => by
          rw [hc] at hp
          rcases List.mem_cons.1 hp with rfl | hp
          · exact fun e' => e e'.symm
          · exact hfar y (hDo y hy) (hD y hy) p hp
        obtain ⟨z, hz, h1, h2⟩ := h.B y (hDo y hy) hyc
        have hzD : z ∈ D := by
          rcases hclo2 y z (.inl hy) h2 with h3 | h3
          · exact h3
          · exact absurd ((h.osm z).1 hz).2 h3
        exact h2.trans (ih z (by omega) hzD)
  have hfrom : ∀ y ∈ D, Reach next c y := fun y hy => h.A _ hcc y (hDo y hy) (hD y hy)
  have hpart : ∀ a, (if a ∈ D then (m : Int) else s.part a) ≠ -1 → a ∈ D ∨ s.part a ≠ -1 := fun a ha => by
    by_cases e : a ∈ D
    · exact .inl e
    · rw [if_neg e] at ha; exact .inr ha
  have hpart2 : ∀ a, (a ∈ D ∨ s.part a ≠ -1) → (if a ∈ D then (m : Int) else s.part a) ≠ -1 := fun a ha => by
    by_cases e : a ∈ D
    · rw [if_pos e]; omega
    · rw [if_neg e]; exact ha.resolve_left e
  refine ⟨fun a ha => h.bnd a (hOo a ha), h.met, ?_, ?_, ?_, ?_, ?_, ?_, ?_, ?_, ?_, ?_, ?_, ?_, ?_⟩
  · have := h.oso; rw [hos, List.pairwise_append] at this; exact this.2.1
  · intro a
    show a ∈ os' ↔ s.ord a ≠ 0 ∧ (if a ∈ D then (m : Int) else s.part a) = -1
    constructor
    · intro ha
      rw [if_neg (hOD a ha)]
      exact (h.osm a).1 (hOo a ha)
    · rintro ⟨h1, h2⟩
      by_cases e : a ∈ D
      · rw [if_pos e] at h2; omega
      · rw [if_neg e] at h2
        have := (h.osm a).2 ⟨h1, h2⟩
        rw [hos] at this
        exact (List.mem_append.1 this).resolve_left e
  · intro a ha
    show (if a ∈ D then (m : Int) else s.part a) = -1
    rw [if_neg (fun hd => ((h.osm a).1 (hDo a hd)).1 ha)]
    exact h.pz a ha
  · have := h.cso; rw [hc, List.pairwise_cons] at this; exact this.2
  · exact fun p hp => ⟨hOi _ (h.csm p (hr p hp).1).1 (hr p hp).2, (h.csm p (hr p hp).1).2⟩
  · exact fun y x hy hx => h.exq y x hy (hex y x hx)
  · intro a b ha he
    exact hpart2 b (hclo2 a b (hpart a ha) (Reach.edge he))
  · exact fun p hp y hy hle => h.A p (hr p hp).1 y (hOo y hy) hle
  · intro y hy hp
    have hyo := hOo y hy
    have hyc : y ≠ c := fun e => by subst e; exact Nat.lt_irrefl _ (hO y hy)
    obtain ⟨z, hz, h1, h2⟩ := h.B y hyo fun p hp' => by
      rw [hc] at hp'
      rcases List.mem_cons.1 hp' with rfl | hp'
      · exact fun e => hyc e.symm
      · exact hp p hp'
    exact ⟨z, hOi z hz (by have := hO y hy; omega), h1, h2⟩
  · intro y hy
    obtain ⟨p, hp, h1⟩ := h.C y (hOo y hy)
    rw [hc] at hp
    rcases List.mem_cons.1 hp with rfl | hp
    · have := hO y hy; simp only at h1; omega
    · exact ⟨p, hp, h1⟩
  · intro p hp y hy hle hq x hx hxp
    show low' p.1 ≤ s.ord x
    rw [hl p hp]
    refine h.L p (hr p hp).1 y (hOo y hy) hle (fun q hq' hqy => ?_) x (hOo x hx) (hex y x hxp)
    rw [hc] at hq'
    rcases List.mem_cons.1 hq' with rfl | hq'
    · have := hO y hy; simp only at hqy; omega
    · exact hq q hq' hqy
  · intro p hp
    show low' p.1 ≤ s.ord p.1 ∧ ∃ x ∈ os', s.ord x = low' p.1 ∧ Reach next p.1 x
    rw [hl p hp]
    obtain ⟨h1, z, hz, h2, h3⟩ := h.W p (hr p hp).1
    exact ⟨h1, z, hOi z hz (by have := (hr p hp).2; omega), h2, h3⟩
  · intro a ha
    show PartOk next (fun a => if a ∈ D then (m : Int) else s.part a) a
    by_cases e : a ∈ D
    · have hac := hto _ a (Nat.le_refl _) e
      refine ⟨m, if_pos e, hac.trans (hfrom m hm), (hto _ m (Nat.le_refl _) hm).trans (hfrom a e), fun b hab hba => ?_⟩
      rcases hclo2 a b (.inl e) hab with hb | hb
      · exact hmin b hb
      · exact absurd (hDp a e) (holdclo b a hb hba)
    · have ha' : s.part a ≠ -1 := (hpart a ha).resolve_left e
      obtain ⟨m', h1, h2, h3, h4⟩ := h.P a ha'
      exact ⟨m', by show (if a ∈ D then (m : Int) else s.part a) = _; rw [if_neg e]; exact h1, h2, h3, h4⟩

end

end Go.Proofs.YtbmimdnpchldlaaDoor

namespace Go.Proofs.YtbmimdnpchldlaaDoor

def restU (n : Nat) (next : List (List Int)) (ord : Nat → Nat) : Nat := ((List.range n).map fun a => if ord a = 0 then (nbs next a).length + 2 else 0).sum
def restC (next : List (List Int)) (cs : List (Nat × Nat)) : Nat := (cs.map fun p => (nbs next p.1).length - p.2 + 1).sum
/-- So many steps are still to come at most. -/
def mu (n : Nat) (next : List (List Int)) (s : TS) : Nat := restU n next s.ord + restC next s.cs

theorem sum_range_upd (f g : Nat → Nat) (z : Nat) (h : ∀ a, a ≠ z → f a = g a) : ∀ n, z < n → ((List.range n).map f).sum + g z = ((List.range n).map g).sum + f z
  | 0, hz => by omega
  | n + 1, hz => by
    rw [List.range_succ, List.map_append, List.map_append, List.sum_append, List.sum_append]
    simp only [List.map_cons, List.map_nil, List.sum_cons, List.sum_nil, Nat.add_zero]
    by_cases e : z = n
    · subst e
      have : (List.range z).map f = (List.range z).map g := List.map_congr_left fun a ha => h a (by have := List.mem_range.1 ha; omega)
      rw [this]; omega
    · have := sum_range_upd f g z h n (by omega)
      have := h n (by omega)
      omega

theorem restU_enter {n : Nat} {next : List (List Int)} {ord : Nat → Nat} {z m : Nat} (hz : ord z = 0) (hn : z < n) : restU n next (upd ord z (m + 1)) + ((nbs next z).length + 2) = restU n next ord := by
  have := sum_range_upd (fun a => if upd ord z (m + 1) a = 0 then (nbs next a).length + 2 else 0) (fun a => if ord a = 0 then (nbs next a).length + 2 else 0) z (fun a ha => by simp only [upd_ne _ _ ha]) n hn
  simp only [upd_at, hz, if_true] at this
  simp only [restU]
  simpa using this

/-- So many spots were not met yet. -/
def unm (n : Nat) (ord : Nat → Nat) : Nat := ((List.range n).map fun a => if ord a = 0 then 1 else 0).sum
theorem unm_enter {n : Nat} {ord : Nat → Nat} {z m : Nat} (hz : ord z = 0) (hn : z < n) : unm n (upd ord z (m + 1)) + 1 = unm n ord := by
  have := sum_range_upd (fun a => if upd ord z (m + 1) a = 0 then 1 else 0) (fun a => if ord a = 0 then 1 else 0) z (fun a ha => by simp only [upd_ne _ _ ha]) n hn
  simp only [upd_at, hz, if_true] at this
  simp only [unm]
  simpa using this
theorem unm_init : ∀ n : Nat, unm n (fun _ => 0) = n
  | 0 => rfl
  | n + 1 => by
    have := unm_init n
    unfold unm at *
    rw [List.range_succ, List.map_append, List.sum_append, this]
    simp

/-- At the end: each spot that was met has its part, if nothing is under way. -/
theorem TInv.whole {n : Nat} {next : List (List Int)} {s : TS} (h : TInv n next s none) (hc : s.cs = []) : s.os = [] ∧ ∀ a, s.ord a ≠ 0 → PartOk next s.part a := by
  have ho : s.os = [] := by
    cases e : s.os with
    | nil => rfl
    | cons y l =>
      obtain ⟨p, hp, _⟩ := h.C y (by rw [e]; simp)
      rw [hc] at hp; simp at hp
  refine ⟨ho, fun a ha => h.P a fun hp => ?_⟩
  have := (h.osm a).2 ⟨ha, hp⟩
  rw [ho] at this; simp at this

theorem TInv.weak {n : Nat} {next : List (List Int)} {s : TS} {Z : Option Nat} (h : TInv n next s none) : TInv n next s Z :=
  { h with exq := fun y z a b => .inl ((h.exq y z a b).resolve_right (by simp)) }

/-- Two spots are of one part just if each reaches the other; a part is named by its least. -/
theorem part_iff {next : List (List Int)} {part : Nat → Int} {x y : Nat} (hx : PartOk next part x) (hy : PartOk next part y) : part x = part y ↔ Reach next x y ∧ Reach next y x := by
  obtain ⟨m, h1, h2, h3, h4⟩ := hx
  obtain ⟨k, g1, g2, g3, g4⟩ := hy
  constructor
  · intro e
    obtain rfl : m = k := by omega
    exact ⟨h2.trans g3, g2.trans h3⟩
  · rintro ⟨r1, r2⟩
    have a1 := h4 k (r1.trans g2) (g3.trans r2)
    have a2 := g4 m (r2.trans h2) (h3.trans r1)
    omega

end Go.Proofs.YtbmimdnpchldlaaDoor

namespace Go.Proofs.YtbmimdnpchldlaaDoor
open Go.RowKit

theorem i64_wrap_small (n : Nat) (h : n < 9223372036854775808) : IntKind.i64.wrap (n : Int) = (n : Int) := by
  have e : (n : Int) % 2 ^ 64 = n := Int.emod_eq_of_lt (by omega) (by omega)
  simp only [IntKind.wrap, IntKind.bits, IntKind.signed, e]
  rw [if_neg]
  simp
  omega

theorem i64_ofInt (n : Nat) (h : n < 18446744073709551616) : (BitVec.ofInt 64 (n : Int)).toNat = n := by
  rw [BitVec.toNat_ofInt]
  omega

theorem i64_or_nat (a b : Nat) (ha : a < 9223372036854775808) (hb : b < 9223372036854775808) : bits .or .i64 (a : Int) (b : Int) = ((a ||| b : Nat) : Int) := by
  show IntKind.i64.wrap ((BitVec.ofInt 64 (a : Int) ||| BitVec.ofInt 64 (b : Int)).toNat : Int) = _
  rw [BitVec.toNat_or, i64_ofInt a (by omega), i64_ofInt b (by omega)]
  exact i64_wrap_small _ (Nat.or_lt_two_pow (n := 63) ha hb)

theorem i64_and_nat (a b : Nat) (ha : a < 9223372036854775808) (hb : b < 9223372036854775808) : bits .and .i64 (a : Int) (b : Int) = ((a &&& b : Nat) : Int) := by
  show IntKind.i64.wrap ((BitVec.ofInt 64 (a : Int) &&& BitVec.ofInt 64 (b : Int)).toNat : Int) = _
  rw [BitVec.toNat_and, i64_ofInt a (by omega), i64_ofInt b (by omega)]
  exact i64_wrap_small _ (Nat.lt_of_le_of_lt Nat.and_le_left ha)

theorem i64_xor_nat (a b : Nat) (ha : a < 9223372036854775808) (hb : b < 9223372036854775808) : bits .xor .i64 (a : Int) (b : Int) = ((a ^^^ b : Nat) : Int) := by
  show IntKind.i64.wrap ((BitVec.ofInt 64 (a : Int) ^^^ BitVec.ofInt 64 (b : Int)).toNat : Int) = _
  rw [BitVec.toNat_xor, i64_ofInt a (by omega), i64_ofInt b (by omega)]
  exact i64_wrap_small _ (Nat.xor_lt_two_pow (n := 63) ha hb)

/-- What lies apart is added. -/
theorem or_add (a b i : Nat) (hb : b < 2 ^ i) : (a * 2 ^ i) ||| b = a * 2 ^ i + b := by
  rw [Nat.mul_comm]
  exact (Nat.two_pow_add_eq_or_of_lt hb a).symm

end Go.Proofs.YtbmimdnpchldlaaDoor
