/- Several texts in one: Base; Pick; Mem; Tag; Bld; Rgn; RgT; Bits. No condition. -/
import Derived.Test.YtfcaomejbcjfgaaGreatDoorRows
import Derived.WalkKit
import Derived.WalkSpells
import Derived.WalkLawsBesides
import Derived.Deep.QuietTactic
import Derived.BigQuiet
import Derived.Lib.Hide
import Derived.ProofKit
import Derived.OpenShut
import Derived.ChangeOld
import Derived.StillTailTactics
import Derived.Test.YtfcaomejbcjfgaaGreatDoorShelf
import Derived.Lib.Builder
import Derived.Lib.AppendStr
import Derived.Lib.UnsafeStr
import Derived.Laws.Externs
import Derived.Deep.Cut
import Derived.Orders
import Derived.Laws.World
namespace Go.Proofs.YtfcaomejbcjfgaaGreatDoor
open Go.RowKit
structure SlTy (P : Program) (t e : TypeId) (z : Value) (size bytes : Nat) : Prop where
  und : P.underlying t = some (.slice e)
  inf : ∃ i, P.info? e = some i ∧ i.zero = some z ∧ i.size = size ∧ i.bytes = bytes
  zs : z.cells.size = size
  pos : 0 < size
theorem SlTy.mk' {P : Program} {t e : TypeId} {z : Value} {size bytes : Nat} (und : P.underlying t = some (.slice e))
    (inf : (P.info? e).map (fun i => (i.zero, i.size, i.bytes)) = some (some z, size, bytes)) (zs : z.cells.size = size) (pos : 0 < size) : SlTy P t e z size bytes :=
  ⟨und, info_parts inf, zs, pos⟩
structure Row (w : World) (sz : Nat) (a : Option Addr) (n cap : Nat) (xs : List Value) : Prop where
  len : xs.length = n * sz
  le : n ≤ cap
  max : cap ≤ maxLen
  lie : ∃ b off, (a = none → cap = 0) ∧ (0 < xs.length → a = some ⟨b, off, none⟩) ∧ ∀ j u, xs[j]? = some u → w.cell? ⟨b, off + j, none⟩ = some u
theorem Row.nil (w : World) (sz : Nat) : Row w sz none 0 0 [] := ⟨by simp, by omega, by simp, 0, 0, fun _ => rfl, (by intro h; simp at h), by intro j u h; simp at h⟩
theorem getElem?_pos {α : Type} {xs : List α} {j : Nat} {u : α} (h : xs[j]? = some u) : 0 < xs.length := by have := (List.getElem?_eq_some_iff.1 h).1; omega
theorem Row.cells {w : World} {sz : Nat} {b off n cap : Nat} {xs : List Value} (h : Row w sz (some ⟨b, off, none⟩) n cap xs) : ∀ j u, xs[j]? = some u → w.cell? ⟨b, off + j, none⟩ = some u := by
  obtain ⟨b', off', _, h2, h3⟩ := h.lie
  intro j u hu
  have := h2 (getElem?_pos hu)
  simp only [Option.some.injEq, Addr.mk.injEq] at this
  obtain ⟨rfl, rfl, _⟩ := this
  exact h3 j u hu
theorem Row.none0 {w : World} {sz : Nat} {n cap : Nat} {xs : List Value} (h : Row w sz none n cap xs) : n = 0 ∧ cap = 0 ∧ xs = [] := by
  obtain ⟨b', off', h1, _, h3⟩ := h.lie
  have hc := h1 rfl
  have hn : n = 0 := by have := h.le; omega
  subst hn
  exact ⟨rfl, hc, List.eq_nil_of_length_eq_zero (by simpa using h.len)⟩
theorem Row.empty {w w' : World} {sz : Nat} {a : Option Addr} {n cap : Nat} (h : Row w sz a n cap []) : Row w' sz a n cap [] := by
  obtain ⟨b, off, h1, h2, _⟩ := h.lie
  exact ⟨h.len, h.le, h.max, b, off, h1, h2, by intro j u hu; simp at hu⟩
theorem Row.blk {w : World} {sz : Nat} {p : Addr} {n cap : Nat} {xs : List Value} (h : Row w sz (some p) n cap xs) (hx : 0 < xs.length) : p.block < w.heap.size := by
  obtain ⟨b, off, h1, h2, h3⟩ := h.lie
  have := World.block_lt_of_cell? _ _ (h3 0 xs[0] (by simp))
  have e := h2 hx
  simp only [Option.some.injEq] at e
  subst e
  exact this
theorem Row.keep {w w' : World} {sz : Nat} {a : Option Addr} {n cap : Nat} {xs : List Value} (h : Row w sz a n cap xs) (hk : ∀ p, a = some p → 0 < xs.length → w'.heap[p.block]? = w.heap[p.block]?) : Row w' sz a n cap xs := by
  refine ⟨h.len, h.le, h.max, ?_⟩
  obtain ⟨b, off, h1, h2, h3⟩ := h.lie
  refine ⟨b, off, h1, h2, fun j u hu => ?_⟩
  exact (World.cell?_of_block (w := w) (w' := w') (a := ⟨b, off + j, none⟩) (hk ⟨b, off, none⟩ (h2 (getElem?_pos hu)) (getElem?_pos hu))).trans (h3 j u hu)
abbrev Ext (w w' : World) : Prop := Below w.heap.size w w'
theorem Ext.refl (w : World) : Ext w w := Below.refl _ _
theorem Ext.trans {a b c : World} (h : Ext a b) (k : Ext b c) : Ext a c := Below.trans h (Below.mono k h.size)
theorem Row.below {w w' : World} {B sz : Nat} {a : Option Addr} {n cap : Nat} {xs : List Value} (h : Row w sz a n cap xs) (hb : Below B w w') (ha : ∀ p, a = some p → p.block < B) : Row w' sz a n cap xs :=
  h.keep fun p hp _ => hb.block _ (ha p hp)
theorem Row.ext {w w' : World} {sz : Nat} {a : Option Addr} {n cap : Nat} {xs : List Value} (h : Row w sz a n cap xs) (hb : Ext w w') : Row w' sz a n cap xs :=
  h.keep fun p hp hx => hb.block _ (by subst hp; exact h.blk hx)
theorem Row.drew {w : World} {sz : Nat} {a : Option Addr} {n cap : Nat} {xs : List Value} (h : Row w sz a n cap xs) : Row w.drew sz a n cap xs := h.keep fun _ _ _ => rfl
theorem Row.take {w : World} {sz : Nat} {a : Option Addr} {n cap : Nat} {xs : List Value} (h : Row w sz a n cap xs) (k : Nat) (hk : k ≤ n) : Row w sz a k cap (xs.take (k * sz)) := by
  refine ⟨?_, by have := h.le; omega, h.max, ?_⟩
  · rw [List.length_take, h.len]
    exact Nat.min_eq_left (Nat.mul_le_mul_right _ hk)
  · obtain ⟨b, off, h1, h2, h3⟩ := h.lie
    refine ⟨b, off, h1, fun hl => h2 (by rw [List.length_take] at hl; omega), fun j u hu => h3 j u ?_⟩
    rw [List.getElem?_take] at hu
    split at hu
    · exact hu
    · cases hu
def Reads (w : World) (sz : Nat) (v : Value) (n : Nat) (xs : List Value) : Prop := ∃ a cap, v = .slice a n cap ∧ Row w sz a n cap xs
theorem Reads.ext {w w' : World} {sz : Nat} {v : Value} {n : Nat} {xs : List Value} (h : Reads w sz v n xs) (hb : Ext w w') : Reads w' sz v n xs := by
  obtain ⟨a, cap, rfl, hr⟩ := h
  exact ⟨a, cap, rfl, hr.ext hb⟩
theorem Reads.nil (w : World) (sz : Nat) : Reads w sz (.slice none 0 0) 0 [] := ⟨_, _, rfl, Row.nil w sz⟩
theorem Reads.grown {w w' : World} {sz : Nat} {v : Value} {n : Nat} {xs : List Value} {row : Option Nat} (h : Reads w sz v n xs) (hg : w.grownBy w' row) (hn : xs = [] ∨ v.ownBlock = none ∨ v.ownBlock ≠ row) : Reads w' sz v n xs := by
  obtain ⟨a, cap, rfl, hr⟩ := h
  refine ⟨a, cap, rfl, hr.keep fun p hp hx => hg.block _ (by subst hp; exact hr.blk hx) ?_⟩
  subst hp
  rcases hn with h | h | h
  · subst h; simp at hx
  · simp [Value.ownBlock] at h
  · simpa [Value.ownBlock] using h
theorem _root_.Go.World.ownsRow.row {w : World} {base : Nat} {e : TypeId} {size : Nat} {v : Value} {n : Nat} {xs : List Value} (h : w.ownsRow base e size v n xs) : ∃ a cap, v = .slice a n cap ∧ Row w size a n cap xs := by
  rcases h.2 with ⟨rfl, rfl⟩ | ⟨g, cap, cur, rfl, hb, hg, hnc, hcm, hcs, htake⟩
  · have : xs = [] := List.eq_nil_of_length_eq_zero (by simpa using h.1)
    subst this
    exact ⟨_, _, rfl, Row.nil _ _⟩
  · refine ⟨_, _, rfl, h.1, hnc, hcm, g, 0, (by intro h; cases h), (by intro _; rfl), fun j u hu => ?_⟩
    have hj : j < n * size := by have := (List.getElem?_eq_some_iff.1 hu).1; rw [h.1] at this; exact this
    rw [Nat.zero_add, cell_of_row w g j cur e (0, 0) hg, ← Array.getElem?_toList]
    rw [← htake, List.getElem?_take, if_pos hj] at hu
    exact hu
theorem _root_.Go.World.ownsRow.reads {w : World} {base : Nat} {e : TypeId} {size : Nat} {v : Value} {n : Nat} {xs : List Value} (h : w.ownsRow base e size v n xs) : Reads w size v n xs := h.row
theorem _root_.Go.World.ownsRow.weaken {w : World} {base base' : Nat} {e : TypeId} {size : Nat} {v : Value} {n : Nat} {xs : List Value} (h : w.ownsRow base e size v n xs) (hb : ∀ k, v.ownBlock = some k → base' ≤ k) : w.ownsRow base' e size v n xs := by
  refine ⟨h.1, ?_⟩
  rcases h.2 with hn | ⟨g, cap, cur, rfl, _, rest⟩
  · exact .inl hn
  · exact .inr ⟨g, cap, cur, rfl, hb g rfl, rest⟩
theorem own_below {w w' : World} {B base : Nat} {e : TypeId} {size : Nat} {v : Value} {n : Nat} {xs : List Value} (h : w.ownsRow base e size v n xs) (hb : Below B w w') (hv : ∀ k, v.ownBlock = some k → k < B) : w'.ownsRow base e size v n xs := by
  refine ⟨h.1, ?_⟩
  rcases h.2 with hn | ⟨g, cap, cur, rfl, h1, hgg, rest⟩
  · exact .inl hn
  · exact .inr ⟨g, cap, cur, rfl, h1, by rw [hb.block g (hv g rfl)]; exact hgg, rest⟩
theorem own_ext {w w' : World} {base : Nat} {e : TypeId} {size : Nat} {v : Value} {n : Nat} {xs : List Value} (h : w.ownsRow base e size v n xs) (hb : Ext w w') : w'.ownsRow base e size v n xs :=
  own_below h hb fun k hk => (h.lt k hk).2
theorem own_down {w : World} {base base' : Nat} {e : TypeId} {size : Nat} {v : Value} {n : Nat} {xs : List Value} (h : w.ownsRow base e size v n xs) (hb : base' ≤ base) : w.ownsRow base' e size v n xs :=
  h.weaken fun k hk => by have := h.lt k hk; omega
theorem Row.add {w : World} {sz : Nat} {p : Addr} {n cap : Nat} {xs : List Value} (h : Row w sz (some p) n cap xs) : ∀ j u, xs[j]? = some u → w.cell? (p.add j) = some u := by
  obtain ⟨b, off, _, h2, h3⟩ := h.lie
  intro j u hu
  have e := h2 (getElem?_pos hu)
  simp only [Option.some.injEq] at e
  subst e
  rw [Addr.add_lit]
  exact h3 j u hu
section
variable {P : Program}
theorem run_append_row (w : World) (base : Nat) {t ty e : TypeId} {z : Value} {size bytes : Nat} (T : SlTy P t e z size bytes)
    (v : Value) (n : Nat) (xs : List Value) (hown : w.ownsRow base e size v n xs) (ao : Option Addr) (m c : Nat) (news : List Value) (hrow : Row w size ao m c news)
    (h1 : ∀ u ∈ news, u.oneCell' = true) (h63 : n + m ≤ maxLen) (hbytes : (n + m) * bytes ≤ 140737488355328) (hbase : base ≤ w.heap.size) :
    ∃ v' w', (Builtin.append_ #[t, t] ty #[v, .slice ao m c]).run P w = .ok v' w' ∧ w'.ownsRow base e size v' (n + m) (xs ++ news) ∧ w.grownBy w' v.ownBlock ∧
      (v'.ownBlock = v.ownBlock ∨ v'.ownBlock = some w.heap.size) ∧ (v' = .slice none 0 0 ↔ v = .slice none 0 0 ∧ m = 0) := by
  obtain ⟨i, hi, hz, hsz, hby⟩ := T.inf
  cases ao with
  | none =>
    obtain ⟨rfl, rfl, rfl⟩ := hrow.none0
    have hr := run_append_owned_none (P := P) w base t ty e i size T.und hi v n xs hown
    exact ⟨v, w, hr, by simpa using hown, ⟨rfl, rfl, rfl, Nat.le_refl _, fun _ _ _ => rfl⟩, .inl rfl, by simp⟩
  | some ad =>
    obtain ⟨v', w', hr, h2, h3, h4⟩ := run_append_own (P := P) w base t ty e i z size bytes T.und hi hz hsz hby T.zs T.pos v n xs hown ad m c news hrow.len hrow.add h1 h63 hbytes hbase
    refine ⟨v', w', hr, h2, h3, ?_, h4⟩
    subst hsz
    subst hby
    have hsmall : n + m ≤ 9223372036854775807 := by simp only [maxLen] at h63; omega
    rcases hown.2 with ⟨rfl, rfl⟩ | ⟨g, cap, cur, rfl, hbg, hg, hnc, hcm, hcs, htake⟩
    · by_cases hm : m = 0
      · have := h4.2 ⟨rfl, hm⟩
        subst this
        exact .inl rfl
      · have hr2 := run_append_nil (P := P) w t ty e i z T.und hi hz ad m c news hrow.len hrow.add (by omega) (by omega) (by have hb := hbytes; simp only [Nat.zero_add] at hb; omega)
        rw [hr2] at hr
        simp only [Result.ok.injEq] at hr
        rw [← hr.1]
        exact .inr rfl
    · by_cases hroom : n + m ≤ cap
      · have hfit : n * i.size + news.length ≤ cur.size := by rw [hrow.len, hcs, ← Nat.add_mul]; exact Nat.mul_le_mul_right _ hroom
        have hr2 := run_append_room (P := P) w t ty e i T.und hi g n cap cur hg ad m c news hrow.len hrow.add h1 hroom hfit
        rw [hr2] at hr
        simp only [Result.ok.injEq] at hr
        rw [← hr.1]
        exact .inl rfl
      · have holds : ∀ j u, xs[j]? = some u → w.cell? ((⟨g, 0, none⟩ : Addr).add j) = some u := hown.cells (g := g) rfl
        have hr2 := run_append_grow (P := P) w t ty e i z T.und hi hz ⟨g, 0, none⟩ n cap xs hown.1 holds ad m c news hrow.len hrow.add (by omega) (by omega) (growslice_fits (by omega) hbytes)
        rw [hr2] at hr
        simp only [Result.ok.injEq] at hr
        rw [← hr.1]
        exact .inr rfl
theorem wpl_append {w : World} {ops : Array Oper} {rest : List Oper} {o : Oper} {a : Act} {Q : Exit → Act → World → Prop} (hgd : o.guard = none) {s x : Operand} {t : TypeId}
    (ho : o.op = .call { callee := .builtin .append, args := #[s, x], argTypes := #[t, t] })
    {e : TypeId} {z : Value} {size bytes : Nat} (T : SlTy P t e z size bytes) (base : Nat)
    {v : Value} {n : Nat} {xs : List Value} (hs : a.eval s = v) (hown : w.ownsRow base e size v n xs)
    {ao : Option Addr} {m c : Nat} {news : List Value} (hx : a.eval x = .slice ao m c) (hrow : Row w size ao m c news)
    (h1 : ∀ u ∈ news, u.oneCell' = true) (h63 : n + m ≤ maxLen) (hbytes : (n + m) * bytes ≤ 140737488355328) (hbase : base ≤ w.heap.size)
    (h : ∀ v' w', w'.ownsRow base e size v' (n + m) (xs ++ news) → w.grownBy w' v.ownBlock → (v'.ownBlock = v.ownBlock ∨ v'.ownBlock = some w.heap.size) → (v' = .slice none 0 0 ↔ v = .slice none 0 0 ∧ m = 0) →
      wpList P ops Q rest (a.put o.dst v') w') : wpList P ops Q (o :: rest) a w := by
  refine wpList_plain hgd fun K hK => ?_
  obtain ⟨v', w', hr, h2, h3, h4, h5⟩ := run_append_row (P := P) w base (ty := o.type) T v n xs hown ao m c news hrow h1 h63 hbytes hbase
  unfold Oper.wp execOp
  simp only [ho, resolve, invoke, builtin, Sem.run_bind, Sem.run_pure, Result.andThen_ok, List.map_toArray, List.map_cons, List.map_nil, hs, hx, hr]
  exact hK _ _ (h v' w' h2 h3 h4 h5)
end
theorem _root_.Go.World.grownBy.trans' {a b c : World} {row : Option Nat} (h : a.grownBy b row) (k : b.grownBy c row) : a.grownBy c row :=
  ⟨k.os.trans h.os, k.tape.trans h.tape, k.output.trans h.output, Nat.le_trans h.size k.size, fun i hi hr => (k.block i (Nat.lt_of_lt_of_le hi h.size) hr).trans (h.block i hi hr)⟩
theorem Row.one (w : World) (t : TypeId) (x : Value) : Row (w.alloc (.cells #[x] t)) 1 (some ⟨w.heap.size, 0, none⟩) 1 1 [x] := by
  refine ⟨rfl, Nat.le_refl _, by unfold maxLen; omega, w.heap.size, 0, (by intro h; cases h), fun _ => rfl, fun j u hu => ?_⟩
  rw [Nat.zero_add, World.cell?_alloc_at _ _ _ _ rfl]
  simpa using hu
theorem Row.new (w : World) (t : TypeId) (cs : List Value) (hm : cs.length ≤ maxLen) : Row (w.alloc (.cells cs.toArray t)) 1 (some ⟨w.heap.size, 0, none⟩) cs.length cs.length cs := by
  refine ⟨by simp, Nat.le_refl _, hm, w.heap.size, 0, (by intro h; cases h), fun _ => rfl, fun j u hu => ?_⟩
  rw [Nat.zero_add, World.cell?_alloc_at _ _ _ _ rfl]
  simpa using hu
theorem region_tail {P : Program} {id : Nat} {Q : Exit → Act → World → Prop} {a : Act} {w : World} {l : List Oper} (n : Nat) (hm : P.follows .mixedOrders = true) (hB : Region.lexTailB .any l.toArray n = true)
    (h : wpStill P l.toArray w.drew (fun a' => wpList P l.toArray Q (l.drop n) a' w.drew) (l.take n) a) : (Code.region id l.toArray true).wp P Q a w := wp_region_still_tail n hm hB h
theorem still_of {P : Program} {f : FuncId} {args : Array Value} {w : World} {v : Value} (h : Calls P f args w fun e w' => e = .returned v ∧ w = w') : Calls P f args w fun e w' => e = .returned v ∧ w' = w :=
  h.mono fun _ _ ⟨h1, h2⟩ => ⟨h1, h2.symm⟩
def bv (c : UInt8) : Value := .int .u8 (c.toNat : Int)
def Bytes (w : World) (v : Value) (l : List UInt8) : Prop := Reads w 1 v l.length (l.map bv)
theorem Bytes.ext {w w' : World} {v : Value} {l : List UInt8} (h : Bytes w v l) (hb : Ext w w') : Bytes w' v l := Reads.ext h hb
def Cells (P : Program) (W : World) (t : TypeId) (cs : List Value) : Prop :=
  ∃ (H : Type) (enc : TypeId × Value → H) (spare : Nat → Bool) (held : Bool) (fuel : Nat) (x : DataW H × List MemPlace), DataW.trod enc P W 0 spare held fuel t cs = some x
theorem Cells.int {P : Program} {W : World} {t : TypeId} {cs : List Value} {k : IntKind} (ht : P.underlying t = some (.int k)) (h : Cells P W t cs) : ∃ n, cs = [.int k n] ∧ (Lit.int k n).wf = true := by
  obtain ⟨H, enc, spare, held, fuel, x, hx⟩ := h
  obtain ⟨n, h1, _, h2⟩ := DataW.trod_int ht hx
  exact ⟨n, h1, h2⟩
theorem Cells.bool {P : Program} {W : World} {t : TypeId} {cs : List Value} (ht : P.underlying t = some .bool) (h : Cells P W t cs) : ∃ b, cs = [.bool b] := by
  obtain ⟨H, enc, spare, held, fuel, x, hx⟩ := h
  obtain ⟨b, h1, _⟩ := DataW.trod_bool ht hx
  exact ⟨b, h1⟩
theorem Cells.string {P : Program} {W : World} {t : TypeId} {cs : List Value} (ht : P.underlying t = some .string) (h : Cells P W t cs) : ∃ s : ByteArray, cs = [.string s] ∧ s.size ≤ maxLen := by
  obtain ⟨H, enc, spare, held, fuel, x, hx⟩ := h
  obtain ⟨b, h1, _, h2⟩ := DataW.trod_string ht hx
  exact ⟨b, h1, h2⟩
theorem mapM_some {α β : Type} {f : α → Option β} : ∀ {l : List α} {cs : List β}, l.mapM f = some cs → cs.length = l.length ∧ ∀ (j : Nat) (u : β), cs[j]? = some u → ∃ x : α, l[j]? = some x ∧ f x = some u
  | [], cs, h => by simp at h; subst h; simp
  | x :: l, cs, h => by
    simp only [List.mapM_cons, Option.bind_eq_bind, Option.bind_eq_some_iff, Option.pure_def, Option.some.injEq] at h
    obtain ⟨y, hy, ys, hys, rfl⟩ := h
    have ih := mapM_some hys
    refine ⟨by simp [ih.1], fun j u hu => ?_⟩
    cases j with
    | zero => simp at hu; subst hu; exact ⟨x, by simp, hy⟩
    | succ j => simpa using ih.2 j u (by simpa using hu)
theorem cells_some {w : World} {base : Nat} {a : Addr} {n : Nat} {cs : List Value} (h : w.cells? base a n = some cs) : cs.length = n ∧ ∀ j u, cs[j]? = some u → w.cell? (a.add j) = some u := by
  unfold World.cells? at h
  split at h
  · obtain ⟨h1, h2⟩ := mapM_some h
    refine ⟨by simpa using h1, fun j u hu => ?_⟩
    obtain ⟨x, hx, hf⟩ := h2 j u hu
    have := (List.getElem?_eq_some_iff.1 hx).2
    simp at this
    subst this
    exact hf
  · cases h
theorem flatten_get {α : Type} {sz : Nat} : ∀ {xss : List (List α)}, (∀ xs ∈ xss, xs.length = sz) → ∀ {j : Nat} {u : α}, xss.flatten[j]? = some u → ∃ i k, k < sz ∧ j = i * sz + k ∧ ∃ xs, xss[i]? = some xs ∧ xs[k]? = some u
  | [], _, j, u, hu => by simp at hu
  | xs :: xss, h, j, u, hu => by
    have hl := h xs (by simp)
    rw [List.flatten_cons] at hu
    by_cases hj : j < xs.length
    · rw [List.getElem?_append_left hj] at hu
      exact ⟨0, j, by omega, by simp, xs, by simp, hu⟩
    · rw [List.getElem?_append_right (by omega)] at hu
      obtain ⟨i, k, hk, e, ys, h1, h2⟩ := flatten_get (fun ys hy => h ys (by simp [hy])) hu
      exact ⟨i + 1, k, hk, by rw [Nat.add_mul]; omega, ys, by simpa using h1, h2⟩
theorem flatten_len {α : Type} {sz : Nat} : ∀ {xss : List (List α)}, (∀ xs ∈ xss, xs.length = sz) → xss.flatten.length = xss.length * sz
  | [], _ => by simp
  | xs :: xss, h => by
    rw [List.flatten_cons, List.length_append, flatten_len (fun ys hy => h ys (by simp [hy])), h xs (by simp), List.length_cons, Nat.add_mul]
    omega
theorem addr_add_add (a : Addr) (i j : Nat) : (a.add i).add j = a.add (i + j) := by
  unfold Addr.add
  split <;> split <;> simp_all
  omega
theorem list_of {α : Type} {n : Nat} {p : Nat → α → Prop} (h : ∀ i, i < n → ∃ x, p i x) : ∃ l : List α, l.length = n ∧ ∀ i x, l[i]? = some x → p i x := by
  induction n with
  | zero => exact ⟨[], rfl, by simp⟩
  | succ k ih =>
    obtain ⟨xss, h1, h2⟩ := ih (fun i hi => h i (by omega))
    obtain ⟨xs, h3⟩ := h k (by omega)
    refine ⟨xss ++ [xs], by simp [h1], fun i ys hy => ?_⟩
    by_cases hi : i < k
    · rw [List.getElem?_append_left (by omega)] at hy
      exact h2 i ys hy
    · rw [List.getElem?_append_right (by omega)] at hy
      have e0 : i - xss.length = 0 := by have := (List.getElem?_eq_some_iff.1 hy).1; simp at this; omega
      rw [e0] at hy
      simp at hy
      subst hy
      obtain rfl : i = k := by omega
      exact h3
theorem Cells.slice {P : Program} {W : World} {t e : TypeId} {cs : List Value} {sz : Nat} (ht : P.underlying t = some (.slice e)) (hc : P.cellsOf e = sz) (h : Cells P W t cs) :
    ∃ (a : Option Addr) (cap : Nat) (xss : List (List Value)), cs = [.slice a xss.length cap] ∧ Row W sz a xss.length cap xss.flatten ∧ ∀ xs ∈ xss, xs.length = sz ∧ Cells P W e xs := by
  obtain ⟨H, enc, spare, held, fuel, x, hx⟩ := h
  rcases DataW.trod_slice ht hx with ⟨rfl, _⟩ | ⟨a, len, cap, elems, rest, n, _, rfl, _, _, hl, hm, hlen, hel, _, _⟩
  · exact ⟨none, 0, [], rfl, Row.nil _ _, by simp⟩
  · subst hc
    have each : ∀ i, i < len → ∃ xs, W.cells? 0 (a.add (i * P.cellsOf e)) (P.cellsOf e) = some xs ∧ Cells P W e xs := by
      intro i hi
      have := hel i hi
      rw [List.getElem?_eq_getElem (by omega)] at this
      obtain ⟨xs, h1, h2⟩ := Option.bind_eq_some_iff.1 this
      exact ⟨xs, h1, H, enc, spare, held, n, _, h2⟩
    obtain ⟨xss, hx1, hx2⟩ : ∃ xss : List (List Value), xss.length = len ∧ ∀ i xs, xss[i]? = some xs → W.cells? 0 (a.add (i * P.cellsOf e)) (P.cellsOf e) = some xs ∧ Cells P W e xs := list_of each
    have hsz : ∀ xs ∈ xss, xs.length = P.cellsOf e ∧ Cells P W e xs := by
      intro xs hxs
      obtain ⟨i, hi⟩ := List.mem_iff_getElem?.1 hxs
      exact ⟨(cells_some (hx2 i xs hi).1).1, (hx2 i xs hi).2⟩
    subst hx1
    have hcell : ∀ j u, xss.flatten[j]? = some u → W.cell? (a.add j) = some u := by
      intro j u hu
      obtain ⟨i, k, hk, rfl, xs, h1, h2⟩ := flatten_get (fun xs hx => (hsz xs hx).1) hu
      have := (cells_some (hx2 i xs h1).1).2 k u h2
      rwa [addr_add_add] at this
    refine ⟨some a, cap, xss, rfl, ⟨flatten_len fun xs hx => (hsz xs hx).1, hl, hm, a.block, a.off, (by intro h; cases h), fun hp => ?_, fun j u hu => ?_⟩, hsz⟩
    · have := hcell 0 xss.flatten[0] (by simp)
      have hs : a.spot = none := by
        have := World.cell?_spot this
        simpa [Addr.add] using this
      obtain ⟨b, off, sp⟩ := a
      simp at hs
      subst hs
      rfl
    · have h0 := hcell j u hu
      have hs : a.spot = none ∨ 0 < j := by
        by_cases hj : j = 0
        · left
          have := World.cell?_spot h0
          subst hj
          simpa [Addr.add] using this
        · right; omega
      obtain ⟨b, off, sp⟩ := a
      simp only [Addr.add] at h0
      split at h0
      · subst j
        simp at hs
        subst hs
        simpa using h0
      · exact h0
theorem Cells.field {P : Program} {W : World} {t : TypeId} {cs : List Value} {fs : Array Field} (ht : P.underlying t = some (.struct fs)) (h : Cells P W t cs) :
    cs.length = P.cellsOf t ∧ ∀ (i : Nat) (f : Field), fs[i]? = some f → Cells P W f.type ((cs.drop f.offset).take (P.cellsOf f.type)) := by
  obtain ⟨H, enc, spare, held, fuel, x, hx⟩ := h
  obtain ⟨xs, n, _, _, hl, hn, hf⟩ := DataW.trod_struct ht hx
  refine ⟨hl, fun i f hi => ?_⟩
  have := hf i f hi
  rw [List.getElem?_eq_getElem (by have := (Array.getElem?_eq_some_iff.1 hi).1; omega)] at this
  exact ⟨H, enc, spare, held, n, _, this⟩
theorem Cells.array {P : Program} {W : World} {t e : TypeId} {cs : List Value} {n : Nat} (ht : P.underlying t = some (.array n e)) (h : Cells P W t cs) :
    cs.length = P.cellsOf t ∧ ∀ (i : Nat), i < n → Cells P W e ((cs.drop (i * P.cellsOf e)).take (P.cellsOf e)) := by
  obtain ⟨H, enc, spare, held, fuel, x, hx⟩ := h
  obtain ⟨xs, m, _, _, hl, hn, hf⟩ := DataW.trod_array ht hx
  refine ⟨hl, fun i hi => ?_⟩
  have := hf i hi
  rw [List.getElem?_eq_getElem (by omega)] at this
  exact ⟨H, enc, spare, held, m, _, this⟩
theorem arg_slice {H : Type} {enc : TypeId × Value → H} {P : Program} {W : World} {r : Reach} {b0 t e : TypeId} {spare : Nat → Bool} {held : Bool} {v : Value} {d : DataW H} {ps : List MemPlace}
    (ht : P.underlying t = some (.slice e)) (hv : Value.okWide P W r b0 t v) (h : DataW.Trod enc P W 0 spare held t v d ps) : Cells P W t [v] := by
  obtain ⟨a, len, cap, rfl⟩ := WideShapes.okWide_slice ht hv
  obtain ⟨fuel, hf⟩ := h
  exact ⟨H, enc, spare, held, fuel, _, hf⟩
theorem arg_struct {H : Type} {enc : TypeId × Value → H} {P : Program} {W : World} {r : Reach} {b0 t : TypeId} {fs : Array Field} {spare : Nat → Bool} {held : Bool} {v : Value} {d : DataW H} {ps : List MemPlace}
    (ht : P.underlying t = some (.struct fs)) (hv : Value.okWide P W r b0 t v) (h : DataW.Trod enc P W 0 spare held t v d ps) : ∃ cs, v = .agg cs ∧ Cells P W t cs.toList := by
  simp only [Value.okWide, ht] at hv
  obtain ⟨cs, rfl, _⟩ := hv
  obtain ⟨fuel, hf⟩ := h
  exact ⟨cs, rfl, H, enc, spare, held, fuel, _, hf⟩
theorem flatten_single {α : Type} {xss : List (List Value)} {f : α → Value} (h : ∀ xs ∈ xss, ∃ x, xs = [f x]) : ∃ l : List α, xss.length = l.length ∧ xss.flatten = l.map f := by
  induction xss with
  | nil => exact ⟨[], rfl, rfl⟩
  | cons xs xss ih =>
    obtain ⟨x, rfl⟩ := h xs (by simp)
    obtain ⟨l, h1, h2⟩ := ih (fun ys hy => h ys (by simp [hy]))
    exact ⟨x :: l, by simp [h1], by simp [h2]⟩
theorem u8_of_wf {n : Int} (h : (Lit.int .u8 n).wf = true) : ∃ c : UInt8, n = (c.toNat : Int) := by
  have hb := bounds_u8 h
  exact ⟨UInt8.ofNat n.toNat, by rw [UInt8.toNat_ofNat_of_lt' (by have : UInt8.size = 256 := rfl; omega)]; omega⟩
theorem Cells.bytes {P : Program} {W : World} {t e : TypeId} {cs : List Value} (ht : P.underlying t = some (.slice e)) (he : P.underlying e = some (.int .u8)) (hc : P.cellsOf e = 1) (h : Cells P W t cs) : ∃ v l, cs = [v] ∧ Bytes W v l := by
  obtain ⟨a, cap, xss, rfl, hr, hx⟩ := h.slice ht hc
  obtain ⟨l, h1, h2⟩ := flatten_single (f := bv) (xss := xss) (fun xs hxs => by
    obtain ⟨n, rfl, hw⟩ := (hx xs hxs).2.int he
    obtain ⟨c, rfl⟩ := u8_of_wf hw
    exact ⟨c, rfl⟩)
  rw [h1, h2] at hr
  exact ⟨_, l, rfl, a, cap, by rw [h1], hr⟩
def I64 (n : Int) : Prop := -9223372036854775808 ≤ n ∧ n ≤ 9223372036854775807
theorem Cells.i64 {P : Program} {W : World} {t : TypeId} {cs : List Value} (ht : P.underlying t = some (.int .i64)) (h : Cells P W t cs) : ∃ n, cs = [.int .i64 n] ∧ I64 n := by
  obtain ⟨n, rfl, hw⟩ := h.int ht
  have := bounds_i64 hw
  exact ⟨n, rfl, by unfold I64; omega⟩
end Go.Proofs.YtfcaomejbcjfgaaGreatDoor

namespace Go.Proofs.YtfcaomejbcjfgaaGreatDoor
open Go.RowKit
def pk (n m : Int) : Int := (if n < 0 then -(n + 1) else n) % m
theorem pk_bd (n m : Int) (h : 0 < m) : 0 ≤ pk n m ∧ pk n m < m := ⟨Int.emod_nonneg _ (by omega), Int.emod_lt_of_pos _ h⟩
set_option maxHeartbeats 400000 in
theorem picked_any (n m : Int) (w : World) (h1 : -9223372036854775808 ≤ n) (h2 : n ≤ 9223372036854775807) (h3 : 0 < m) (h4 : m ≤ 9223372036854775807) :
    Calls Tryz.prog 22 #[.int .i64 n, .int .i64 m] w fun e w' => e = .returned (.int .i64 (pk n m)) ∧ w = w' := by
  by_cases hn : n < 0
  · have e : pk n m = -(n + 1) % m := by simp [pk, hn]
    rw [e]
    clear e
    rw [← Int.tmod_eq_emod_of_nonneg (by omega), Int.neg_tmod]
    go_enter Tryz.func22, Tryz.ntmps22
    go_wp2
    go_ret
    exact ⟨rfl, rfl⟩
  · have e : pk n m = n % m := by simp [pk, hn]
    rw [e]
    clear e
    have h5 : 0 ≤ n := by omega
    go_enter Tryz.func22, Tryz.ntmps22
    go_wp2
    go_ret
    exact ⟨rfl, rfl⟩
end Go.Proofs.YtfcaomejbcjfgaaGreatDoor

namespace Go.Proofs.YtfcaomejbcjfgaaGreatDoor
open Go.RowKit
theorem own_setCell {w : World} {base : Nat} {e : TypeId} {size : Nat} {v : Value} {n : Nat} {xs : List Value} (h : w.ownsRow base e size v n xs) {p : Addr} (u : Value) (hp : v.ownBlock ≠ some p.block) : (w.setCell p u).ownsRow base e size v n xs := by
  refine ⟨h.1, ?_⟩
  rcases h.2 with hn | ⟨g, cap, cur, rfl, h1, hgg, rest⟩
  · exact .inl hn
  · exact .inr ⟨g, cap, cur, rfl, h1, by rw [Below.heap_setCell _ _ _ _ (fun e => hp (by simp [Value.ownBlock, e]))]; exact hgg, rest⟩
theorem own_grown {w w' : World} {base : Nat} {e : TypeId} {size : Nat} {v : Value} {n : Nat} {xs : List Value} {row : Option Nat} (h : w.ownsRow base e size v n xs) (hg : w.grownBy w' row) (hn : v.ownBlock = none ∨ v.ownBlock ≠ row) : w'.ownsRow base e size v n xs := h.kept hg hn
theorem below_drewN {B : Nat} {a w : World} (h : Below B a w) (n : Nat) : Below B a (w.drewN n) := ⟨h.os, h.tape, h.output, h.size, h.block⟩
end Go.Proofs.YtfcaomejbcjfgaaGreatDoor

namespace Go.Proofs.YtfcaomejbcjfgaaGreatDoor
open Go.RowKit
def Ent (τ : Nat → Nat) (t : Nat) (w : World) (P : World → Prop) : Prop :=
  ∀ w', w.heap.size ≤ w'.heap.size → (∀ b, b < w.heap.size → τ b = t → w'.heap[b]? = w.heap[b]?) → P w'
section
variable {τ τ' : Nat → Nat} {t : Nat} {w w' : World} {P Q : World → Prop}
theorem Ent.now (h : Ent τ t w P) : P w := h w (Nat.le_refl _) fun _ _ _ => rfl
theorem Ent.ext (h : Ent τ t w P) (hE : Ext w w') : Ent τ t w' P := fun x hx hb =>
  h x (Nat.le_trans hE.size hx) fun b h1 h2 => (hb b (Nat.lt_of_lt_of_le h1 hE.size) h2).trans (hE.block b h1)
theorem Ent.grown {row : Option Nat} (h : Ent τ t w P) (hg : w.grownBy w' row) (hr : ∀ b, row = some b → τ b ≠ t) : Ent τ t w' P := fun x hx hb =>
  h x (Nat.le_trans hg.size hx) fun b h1 h2 => (hb b (Nat.lt_of_lt_of_le h1 hg.size) h2).trans (hg.block b h1 fun e => hr b e.symm h2)
theorem Ent.set (h : Ent τ t w P) {p : Addr} (hp : τ p.block ≠ t) (v : Value) : Ent τ t (w.setCell p v) P := fun x hx hb =>
  h x (by simpa using hx) fun b h1 h2 => (hb b (by simpa using h1) h2).trans (Below.heap_setCell _ _ _ _ (fun e => hp (by rw [← e]; exact h2)))
theorem Ent.tag (h : Ent τ t w P) (ht : ∀ b, b < w.heap.size → τ' b = τ b) : Ent τ' t w P := fun x hx hb => h x hx fun b h1 h2 => hb b h1 ((ht b h1).trans h2)
theorem Ent.keep (h : Ent τ t w P) (s : Nat) : Ent (fun b => if b < w.heap.size then τ b else s) t w P := h.tag fun _ hb => if_pos hb
theorem Ent.mono (h : Ent τ t w P) (hPQ : ∀ x, P x → Q x) : Ent τ t w Q := fun x hx hb => hPQ x (h x hx hb)
theorem Ent.both {R : World → Prop} (h : Ent τ t w P) (k : Ent τ t w Q) (f : ∀ x, P x → Q x → R x) : Ent τ t w R := fun x hx hb => f x (h x hx hb) (k x hx hb)
def tagAt (τ : Nat → Nat) (k t : Nat) : Nat → Nat := fun b => if b < k then τ b else t
theorem tagAt_lt {k b : Nat} (h : b < k) : tagAt τ k t b = τ b := if_pos h
theorem tagAt_ge {k b : Nat} (h : k ≤ b) : tagAt τ k t b = t := if_neg (by omega)
structure OwnT (τ : Nat → Nat) (t : Nat) (w : World) (base : Nat) (e : TypeId) (size : Nat) (v : Value) (n : Nat) (xs : List Value) : Prop where
  own : w.ownsRow base e size v n xs
  tag : ∀ b, v.ownBlock = some b → τ b = t
variable {base : Nat} {e : TypeId} {size n : Nat} {v : Value} {xs : List Value}
theorem OwnT.ext (h : OwnT τ t w base e size v n xs) (hE : Ext w w') : OwnT τ t w' base e size v n xs := ⟨own_ext h.own hE, h.tag⟩
theorem OwnT.grown {row : Option Nat} (h : OwnT τ t w base e size v n xs) (hg : w.grownBy w' row) (hr : ∀ b, row = some b → τ b ≠ t) : OwnT τ t w' base e size v n xs :=
  ⟨own_grown h.own hg (by
    cases hv : v.ownBlock with
    | none => exact .inl rfl
    | some b => exact .inr fun e => hr b e.symm (h.tag b hv)), h.tag⟩
theorem OwnT.set (h : OwnT τ t w base e size v n xs) {p : Addr} (hp : τ p.block ≠ t) (u : Value) : OwnT τ t (w.setCell p u) base e size v n xs :=
  ⟨own_setCell h.own u fun e => hp (h.tag _ e), h.tag⟩
theorem OwnT.retag (h : OwnT τ t w base e size v n xs) (ht : ∀ b, b < w.heap.size → τ' b = τ b) : OwnT τ' t w base e size v n xs :=
  ⟨h.own, fun b hb => (ht b (h.own.lt b hb).2).trans (h.tag b hb)⟩
theorem OwnT.keep (h : OwnT τ t w base e size v n xs) (s : Nat) : OwnT (tagAt τ w.heap.size s) t w base e size v n xs := h.retag fun _ hb => tagAt_lt hb
theorem OwnT.nil (τ : Nat → Nat) (t : Nat) (w : World) (base : Nat) (e : TypeId) (size : Nat) : OwnT τ t w base e size (.slice none 0 0) 0 [] := ⟨World.ownsRow_nil _ _ _ _, by simp [Value.ownBlock]⟩
theorem OwnT.reads (h : OwnT τ t w base e size v n xs) : Reads w size v n xs := h.own.reads
theorem OwnT.low (h : OwnT τ t w base e size v n xs) {p : Addr} (hp : p.block < base) (u : Value) : OwnT τ t (w.setCell p u) base e size v n xs :=
  ⟨own_setCell h.own u fun e => by have := (h.own.lt _ e).1; omega, h.tag⟩
theorem OwnT.app {v' : Value} {n' : Nat} {xs' : List Value} (h : OwnT τ t w base e size v n xs) (hown : w'.ownsRow base e size v' n' xs') (hb : v'.ownBlock = v.ownBlock ∨ v'.ownBlock = some w.heap.size) :
    OwnT (tagAt τ w.heap.size t) t w' base e size v' n' xs' :=
  ⟨hown, fun b hv => by
    rcases hb with h1 | h1
    · have h2 := h1 ▸ hv
      rw [tagAt_lt (h.own.lt b h2).2]
      exact h.tag b h2
    · rw [h1] at hv
      injection hv with hv
      exact tagAt_ge (by omega)⟩
theorem Ent.app {s : Nat} {u : Value} {m : Nat} {ys : List Value} {base2 : Nat} {e2 : TypeId} {size2 : Nat} (h : Ent τ t w P) (ho : OwnT τ s w base2 e2 size2 u m ys) (hg : w.grownBy w' u.ownBlock) (hs : s ≠ t) : Ent (tagAt τ w.heap.size s) t w' P :=
  Ent.grown (h.tag fun b hb => tagAt_lt hb) hg fun b hb => by rw [tagAt_lt (ho.own.lt b hb).2, ho.tag b hb]; exact hs
theorem OwnT.fresh (τ : Nat → Nat) (t : Nat) {k : Nat} (h : w.ownsRow k e size v n xs) : OwnT (tagAt τ k t) t w k e size v n xs := ⟨h, fun b hb => tagAt_ge (h.lt b hb).1⟩
theorem OwnT.ent (h : OwnT τ t w base e size v n xs) : Ent τ t w fun x => x.ownsRow base e size v n xs := fun x hx hb => by
  refine ⟨h.own.1, ?_⟩
  rcases h.own.2 with hn | ⟨g, cap, cur, rfl, h1, hg, rest⟩
  · exact .inl hn
  · exact .inr ⟨g, cap, cur, rfl, h1, by rw [hb g ((Array.getElem?_eq_some_iff.1 hg).1) (h.tag g rfl)]; exact hg, rest⟩
end
theorem ext_al {a w : World} (h : Ext a w) (o : Obj) : Ext a (w.alloc o) := Below.alloc h h.size o
theorem ext_st {a w : World} (h : Ext a w) {p : Addr} (hp : a.heap.size ≤ p.block) (v : Value) : Ext a (w.setCell p v) := Below.setCell h hp v
theorem blk_cell {w : World} {b i : Nat} {cs : Array Value} {t : TypeId} {v : Value} (h : w.heap[b]? = some (.cells cs t (0, 0))) (hi : cs[i]? = some v) : w.cell? ⟨b, i, none⟩ = some v := by simp [World.cell?, h, hi]
theorem blk_free {w : World} {b : Nat} {cs : Array Value} {t : TypeId} (h : w.heap[b]? = some (.cells cs t (0, 0))) (i : Nat) : w.frozen? ⟨b, i, none⟩ = false := by simp [World.frozen?, h]
theorem blk_lt {w : World} {b : Nat} {o : Obj} (h : w.heap[b]? = some o) : b < w.heap.size := (Array.getElem?_eq_some_iff.1 h).1
theorem blk_ext {w w' : World} {b : Nat} {o : Obj} (h : w.heap[b]? = some o) (hE : Ext w w') : w'.heap[b]? = some o := (hE.block b (blk_lt h)).trans h
theorem blk_below {w w' : World} {B b : Nat} {o : Obj} (h : w.heap[b]? = some o) (hE : Below B w w') (hb : b < B) : w'.heap[b]? = some o := (hE.block b hb).trans h
theorem blk_far {w : World} {b : Nat} {o : Obj} (h : w.heap[b]? = some o) {p : Addr} (hp : p.block ≠ b) (v : Value) : (w.setCell p v).heap[b]? = some o := (Below.heap_setCell _ _ _ _ (Ne.symm hp)).trans h
theorem blk_grown {w w' : World} {b : Nat} {o : Obj} {row : Option Nat} (h : w.heap[b]? = some o) (hg : w.grownBy w' row) (hn : some b ≠ row) : w'.heap[b]? = some o := (hg.block b (blk_lt h) hn).trans h
theorem blk_set {w : World} {b i : Nat} {cs : Array Value} {t : TypeId} (h : w.heap[b]? = some (.cells cs t (0, 0))) (v : Value) : (w.setCell ⟨b, i, none⟩ v).heap[b]? = some (.cells (cs.setIfInBounds i v) t (0, 0)) := by
  have hb := blk_lt h
  have hg : w.heap[b] = .cells cs t (0, 0) := by rw [Array.getElem?_eq_getElem hb] at h; exact Option.some.inj h
  show (w.heap.modify b _)[b]? = _
  rw [Array.getElem?_eq_getElem (by simpa using hb), Array.getElem_modify_self, hg]
  rfl
theorem blk_new (w : World) (o : Obj) : (w.alloc o).heap[w.heap.size]? = some o := heap_alloc_new w o
end Go.Proofs.YtfcaomejbcjfgaaGreatDoor

namespace Go.Proofs.YtfcaomejbcjfgaaGreatDoor
open Go Go.RowKit
theorem bsize : (Tryz.prog.info? 58).map (·.size) = some 2 := by kernel_rfl
theorem blies : liesAt Tryz.prog Tryz.prog.depth 58 (2 / Tryz.prog.cellsOf 58) 0 58 1 = true := by kernel_rfl
theorem binfo : (Tryz.prog.info? 5).map (fun i => (i.zero, i.size, i.bytes)) = some (some (.int .u8 0), 1, 1) := by kernel_rfl
set_option maxHeartbeats 1000000 in
set_option maxRecDepth 100000 in
theorem bcheck_used (b : Nat) (w : World) (h0 : w.cell? ⟨b, 0, none⟩ = some (.pointer (some ⟨b, 0, none⟩))) :
    Calls Tryz.prog 29 #[.pointer (some ⟨b, 0, none⟩)] w fun e w' => e = .returned (.tuple #[]) ∧ w' = w := by
  obtain ⟨j, hj, _⟩ := Option.map_eq_some_iff.1 bsize
  go_enter Tryz.func29, Tryz.ntmps29
  go_wp2
  rw [Lib.run_neq_ptr_same w _ Tryz.underlying55 hj]
  go_wp2
  go_end0
  exact ⟨rfl, rfl⟩
set_option maxHeartbeats 1000000 in
set_option maxRecDepth 100000 in
theorem bcheck_fresh (b : Nat) (w : World) (h0 : w.cell? ⟨b, 0, none⟩ = some (.pointer none)) (hsh : w.shape? b = some (58, 2)) (hfz : w.frozen? ⟨b, 0, none⟩ = false) :
    Calls Tryz.prog 29 #[.pointer (some ⟨b, 0, none⟩)] w fun e w' => e = .returned (.tuple #[]) ∧ w' = w.setCell ⟨b, 0, none⟩ (.pointer (some ⟨b, 0, none⟩)) := by
  obtain ⟨j, hj, hjs⟩ := Option.map_eq_some_iff.1 bsize
  go_enter Tryz.func29, Tryz.ntmps29
  go_wp2
  rw [Lib.run_to_unsafe w ⟨b, 0, none⟩ Tryz.underlying55 Tryz.underlying110 hj (by rw [hjs]; decide) hsh (Nat.zero_lt_succ 1)]
  simp only [Result.andThen]
  rw [Oper.upon_value]
  go_wp2
  rw [run_callFunc_extern Tryz.func47 (by kernel_rfl) (by kernel_rfl) (by kernel_rfl) (e := Extern.AbiNoEscape.same) (by kernel_rfl)]
  rw [Lib.run_noEscape]
  simp only [Result.andThen]
  rw [Oper.upon_value]
  go_wp2
  rw [Lib.run_from_unsafe w ⟨b, 0, none⟩ Tryz.underlying110 Tryz.underlying55 hj hsh blies]
  simp only [Result.andThen]
  rw [Oper.upon_value]
  go_wp2
  go_end0
  exact ⟨rfl, rfl⟩
def Bd (b : Nat) (l : List UInt8) (w : World) : Prop :=
  ∃ p v, (p = .pointer none ∨ p = .pointer (some ⟨b, 0, none⟩)) ∧ w.heap[b]? = some (.cells #[p, v] 58 (0, 0)) ∧ w.ownsRow b 5 1 v l.length (Lib.byteCells l) ∧ v.ownBlock ≠ some b
theorem bytes_len (l : List UInt8) : (Lib.byteCells l).length = l.length := by simp [Lib.byteCells]
theorem Bd.is {b : Nat} {l : List UInt8} {w : World} (h : Bd b l w) : Lib.IsBuilder 58 5 b b (Lib.byteCells l) w := by
  obtain ⟨p, v, hp, h1, h2, h3⟩ := h
  rw [← bytes_len l] at h2
  rcases hp with rfl | rfl
  · exact .inl ⟨Nat.le_refl _, v, h1, h2, h3⟩
  · exact .inr ⟨Nat.le_refl _, v, h1, h2, h3⟩
theorem Bd.ext {b : Nat} {l : List UInt8} {w w' : World} (h : Bd b l w) (hE : Ext w w') : Bd b l w' := by
  obtain ⟨p, v, hp, h1, h2, h3⟩ := h
  exact ⟨p, v, hp, (hE.block b (Array.getElem?_eq_some_iff.1 h1).1).trans h1, own_ext h2 hE, h3⟩
theorem Bd.fresh {b : Nat} {w : World} (h : w.heap[b]? = some (.cells #[.pointer none, .slice none 0 0] 58 (0, 0))) : Bd b [] w :=
  ⟨_, _, .inl rfl, h, World.ownsRow_nil _ _ _ _, by simp [Value.ownBlock]⟩
theorem Bd.lt {b : Nat} {l : List UInt8} {w : World} (h : Bd b l w) : b < w.heap.size := by
  obtain ⟨p, v, _, h1, _⟩ := h
  exact (Array.getElem?_eq_some_iff.1 h1).1
structure Kp (b : Nat) (w w' : World) : Prop where
  below : Below b w w'
  size : w.heap.size ≤ w'.heap.size
  same : ∀ (k : Nat) (cs : Array Value) (T : TypeId) (f : Nat × Nat), k ≠ b → w.heap[k]? = some (.cells cs T f) → T ≠ 5 → w'.heap[k]? = some (.cells cs T f)
theorem Kp.refl (b : Nat) (w : World) : Kp b w w := ⟨Below.refl _ _, Nat.le_refl _, fun _ _ _ _ _ h _ => h⟩
theorem Kp.trans {b : Nat} {w x y : World} (h : Kp b w x) (k : Kp b x y) : Kp b w y := ⟨h.below.trans k.below, Nat.le_trans h.size k.size, fun j cs T f h1 h2 h3 => k.same j cs T f h1 (h.same j cs T f h1 h2 h3) h3⟩
theorem Kp.ext {b : Nat} {w w' : World} (hE : Ext w w') (hb : b ≤ w.heap.size) : Kp b w w' := ⟨hE.mono hb, hE.size, fun k _ _ _ _ h _ => (hE.block k (Array.getElem?_eq_some_iff.1 h).1).trans h⟩
def Wr (b : Nat) (l : List UInt8) (w w' : World) : Prop := Bd b l w' ∧ Kp b w w'
theorem bcheck_any (b : Nat) (l : List UInt8) (w : World) (h : Bd b l w) :
    Calls Tryz.prog 29 #[.pointer (some ⟨b, 0, none⟩)] w fun e w' => e = .returned (.tuple #[]) ∧ (∃ v, w'.heap[b]? = some (.cells #[.pointer (some ⟨b, 0, none⟩), v] 58 (0, 0)) ∧ w'.ownsRow b 5 1 v l.length (Lib.byteCells l) ∧ v.ownBlock ≠ some b) ∧ Kp b w w' := by
  obtain ⟨p, v, hp, h1, h2, h3⟩ := h
  rcases hp with rfl | rfl
  · have hi : Lib.BuilderAt 58 5 b b (.pointer none) (Lib.byteCells l) w := ⟨Nat.le_refl _, v, h1, by rw [bytes_len]; exact h2, h3⟩
    refine (bcheck_fresh b w hi.cell0 hi.shape hi.frozen0).mono ?_
    rintro e w' ⟨rfl, rfl⟩
    refine ⟨rfl, ⟨v, ?_, own_setCell h2 _ (fun e => h3 e), h3⟩, (Below.refl b w).setCell (p := ⟨b, 0, none⟩) (Nat.le_refl _) _, by simp, fun j cs T f hj h _ => (Below.heap_setCell _ _ _ _ hj).trans h⟩
    have hb := (Array.getElem?_eq_some_iff.1 h1).1
    have hg : w.heap[b] = .cells #[.pointer none, v] 58 (0, 0) := by rw [Array.getElem?_eq_getElem hb] at h1; exact Option.some.inj h1
    show (w.heap.modify b _)[b]? = _
    rw [Array.getElem?_eq_getElem (by simpa using hb), Array.getElem_modify_self, hg]
    rfl
  · have hi : Lib.BuilderAt 58 5 b b (.pointer (some ⟨b, 0, none⟩)) (Lib.byteCells l) w := ⟨Nat.le_refl _, v, h1, by rw [bytes_len]; exact h2, h3⟩
    refine (bcheck_used b w hi.cell0).mono ?_
    rintro e w' ⟨rfl, rfl⟩
    exact ⟨rfl, ⟨v, h1, h2, h3⟩, Kp.refl _ _⟩
theorem wr_end {b n : Nat} {l : List UInt8} {w w1 w2 : World} {v v' : Value} {bs : List Value} (hk : Kp b w w1) (hbk : w1.heap[b]? = some (.cells #[.pointer (some ⟨b, 0, none⟩), v] 58 (0, 0))) (hown : w1.ownsRow b 5 1 v n bs)
    (hg : w1.grownBy w2 v.ownBlock) (hne : v.ownBlock ≠ some b) (hown' : w2.ownsRow b 5 1 v' l.length (Lib.byteCells l)) : Wr b l w (w2.setCell ⟨b, 1, none⟩ v') := by
  have hlt := (Array.getElem?_eq_some_iff.1 hbk).1
  have hb2 : w2.heap[b]? = some (.cells #[.pointer (some ⟨b, 0, none⟩), v] 58 (0, 0)) := (hg.block b hlt (fun e => hne e.symm)).trans hbk
  have hty : ∀ (x : World) (u : Value) (m : Nat) (ys : List Value) (k : Nat) (cs : Array Value) (T : TypeId) (f : Nat × Nat), x.ownsRow b 5 1 u m ys → x.heap[k]? = some (.cells cs T f) → T ≠ 5 → u.ownBlock ≠ some k := by
    intro x u m ys k cs T f ho h1 h2 e
    rcases ho.2 with ⟨rfl, _⟩ | ⟨g, cap, cur, rfl, _, h3, _⟩
    · cases e
    · simp only [Value.ownBlock, Option.some.injEq] at e
      subst e
      rw [h1] at h3
      simp only [Option.some.injEq, Obj.cells.injEq] at h3
      exact h2 h3.2.1
  have hvb : v'.ownBlock ≠ some b := hty w2 v' _ _ b _ _ _ hown' hb2 (by decide)
  refine ⟨⟨_, v', .inr rfl, ?_, own_setCell hown' _ (fun e => hvb e), hvb⟩, hk.trans ⟨?_, ?_, ?_⟩⟩
  · have hb := (Array.getElem?_eq_some_iff.1 hb2).1
    have hgg : w2.heap[b] = .cells #[.pointer (some ⟨b, 0, none⟩), v] 58 (0, 0) := by rw [Array.getElem?_eq_getElem hb] at hb2; exact Option.some.inj hb2
    show (w2.heap.modify b _)[b]? = _
    rw [Array.getElem?_eq_getElem (by simpa using hb), Array.getElem_modify_self, hgg]
    rfl
  · exact ((Below.refl b w1).grown hg (by omega) (fun k e => (hown.lt k e).1)).setCell (p := ⟨b, 1, none⟩) (Nat.le_refl _) _
  · have := hg.size; simpa using this
  · intro k cs T f h1 h2 h3
    exact (Below.heap_setCell _ _ _ _ h1).trans ((hg.block k (Array.getElem?_eq_some_iff.1 h2).1 (fun e => hty w1 v n bs k cs T f hown h2 h3 e.symm)).trans h2)
set_option maxHeartbeats 2000000 in
set_option maxRecDepth 100000 in
theorem wbyte_any (b : Nat) (l : List UInt8) (c : UInt8) (w : World) (h : Bd b l w) (hlen : l.length + 1 ≤ 1000000) :
    Calls Tryz.prog 15 #[.pointer (some ⟨b, 0, none⟩), .int .u8 (c.toNat : Int)] w fun e w' => e = .returned .nilIface ∧ Wr b (l ++ [c]) w w' := by
  obtain ⟨i0, hi, hz0, hz1, hz2⟩ := info_parts binfo
  go_enter Tryz.func15, Tryz.ntmps15
  go_wp2_with (go_at_call 29; refine (bcheck_any b l _ h).mono ?_)
  rintro e w1 ⟨rfl, ⟨v, hbk, hown, hne⟩, hk⟩
  have c0 : w1.cell? ⟨b, 0, none⟩ = some (.pointer (some ⟨b, 0, none⟩)) := by rw [Lib.cell_of_heap hbk]; rfl
  have c1 : w1.cell? ⟨b, 1, none⟩ = some v := by rw [Lib.cell_of_heap hbk]; rfl
  have hlt : b < w1.heap.size := (Array.getElem?_eq_some_iff.1 hbk).1
  have HK := Lib.hid hk
  clear hk
  go_wp2_with (at_builtin; refine wpList_append_own _ rfl _ _ 56 rfl b 5 i0 (.int .u8 0) 1 1 Tryz.underlying56 hi hz0 hz1 hz2 rfl (by decide) _ _ _ rfl (hown.alloc _) ⟨w1.heap.size, 0, none⟩ 1 1 [.int .u8 (c.toNat : Int)] rfl rfl ?c1 ?c2 ?c3 ?c4 ?c5 ?_)
  case c1 =>
    intro j u hj
    match j, hj with
    | 0, hj => simp at hj; subst hj; simp [Addr.add]
  case c2 => intro u hu; simp at hu; subst hu; rfl
  case c3 => unfold maxLen; omega
  case c4 => omega
  case c5 => simp; omega
  intro v' w2 hown' hgrow _
  have hbk3 : (w1.alloc (.cells #[.int .u8 (c.toNat : Int)] 5)).heap[b]? = some (.cells #[.pointer (some ⟨b, 0, none⟩), v] 58 (0, 0)) := by
    rw [Lib.alloc_old w1 _ b hlt]; exact hbk
  have hb2 : w2.heap[b]? = some (.cells #[.pointer (some ⟨b, 0, none⟩), v] 58 (0, 0)) := (hgrow.block b (by simp; omega) (fun e => hne e.symm)).trans hbk3
  have d0 : w2.cell? ⟨b, 0, none⟩ = some (.pointer (some ⟨b, 0, none⟩)) := by rw [Lib.cell_of_heap hb2]; rfl
  have d1 : w2.cell? ⟨b, 1, none⟩ = some v := by rw [Lib.cell_of_heap hb2]; rfl
  have f1 : w2.frozen? ⟨b, 1, none⟩ = false := Lib.frozen_of_heap hb2 1
  have HW := Lib.hid (wr_end (l := l ++ [c]) (HK.out.trans (Kp.ext (Below.alloc (Below.refl _ _) (Nat.le_refl _) _) (by omega))) hbk3 (hown.alloc _) hgrow hne (by simpa [Lib.byteCells] using hown'))
  obtain ⟨g, cap, rfl⟩ : ∃ g cap, v' = .slice (some ⟨g, 0, none⟩) (l.length + 1) cap := by
    rcases hown'.2 with ⟨_, h0⟩ | ⟨g, cap, cur, hv, _⟩
    · omega
    · exact ⟨g, cap, hv⟩
  go_wp2
  go_ret
  exact ⟨rfl, HW.out⟩
set_option maxHeartbeats 2000000 in
set_option maxRecDepth 100000 in
theorem wstr_any (b : Nat) (l : List UInt8) (s : ByteArray) (w : World) (h : Bd b l w) (hlen : l.length + s.size ≤ 1000000) :
    Calls Tryz.prog 13 #[.pointer (some ⟨b, 0, none⟩), .string s] w fun e w' => e = .returned (.tuple #[.int .i64 s.size, .nilIface]) ∧ Wr b (l ++ s.data.toList) w w' := by
  obtain ⟨i0, hi, hz0, hz1, hz2⟩ := info_parts binfo
  go_enter Tryz.func13, Tryz.ntmps13
  go_wp2_with (go_at_call 29; refine (bcheck_any b l _ h).mono ?_)
  rintro e w1 ⟨rfl, ⟨v, hbk, hown, hne⟩, hk⟩
  have c0 : w1.cell? ⟨b, 0, none⟩ = some (.pointer (some ⟨b, 0, none⟩)) := by rw [Lib.cell_of_heap hbk]; rfl
  have c1 : w1.cell? ⟨b, 1, none⟩ = some v := by rw [Lib.cell_of_heap hbk]; rfl
  have hlt : b < w1.heap.size := (Array.getElem?_eq_some_iff.1 hbk).1
  have HK := Lib.hid hk
  clear hk
  go_wp2_with (at_builtin; refine Lib.wpList_append_own_string _ rfl _ _ 56 9 rfl b 5 i0 Tryz.underlying56 Tryz.underlying9 hi hz0 hz1 hz2 _ _ _ rfl hown s rfl ?c3 ?c4 ?c5 ?_)
  case c3 => unfold maxLen; omega
  case c4 => omega
  case c5 => omega
  intro v' w2 hown' hgrow _
  have hb2 : w2.heap[b]? = some (.cells #[.pointer (some ⟨b, 0, none⟩), v] 58 (0, 0)) := (hgrow.block b hlt (fun e => hne e.symm)).trans hbk
  have d0 : w2.cell? ⟨b, 0, none⟩ = some (.pointer (some ⟨b, 0, none⟩)) := by rw [Lib.cell_of_heap hb2]; rfl
  have d1 : w2.cell? ⟨b, 1, none⟩ = some v := by rw [Lib.cell_of_heap hb2]; rfl
  have f1 : w2.frozen? ⟨b, 1, none⟩ = false := Lib.frozen_of_heap hb2 1
  have hsz : s.data.toList.length = s.size := Array.length_toList
  have hsc : Lib.strCells s = Lib.byteCells s.data.toList := by simp [Lib.strCells, Lib.byteCells]
  have e1 : Lib.byteCells (l ++ s.data.toList) = Lib.byteCells l ++ Lib.byteCells s.data.toList := by simp [Lib.byteCells]
  have HW := Lib.hid (wr_end (l := l ++ s.data.toList) HK.out hbk hown hgrow hne (by rw [e1, List.length_append, hsz, ← hsc]; exact hown'))
  clear hsz hsc e1
  obtain ⟨ao, n', cap, rfl⟩ : ∃ ao n' cap, v' = .slice ao n' cap := by
    rcases hown'.2 with ⟨hv, _⟩ | ⟨g, cap, cur, hv, _⟩
    · exact ⟨_, _, _, hv⟩
    · exact ⟨_, _, _, hv⟩
  go_wp2
  go_ret2
  exact ⟨rfl, HW.out⟩
theorem bstr_any (b : Nat) (l : List UInt8) (w : World) (h : Bd b l w) :
    Calls Tryz.prog 17 #[.pointer (some ⟨b, 0, none⟩)] w fun e w' => e = .returned (.string ⟨l.toArray⟩) ∧ Below b w w' :=
  Tryz.Builder_String_any b b l w h.is (Nat.le_of_lt h.lt)
end Go.Proofs.YtfcaomejbcjfgaaGreatDoor

namespace Go.Proofs.YtfcaomejbcjfgaaGreatDoor
open Go
section
end
end Go.Proofs.YtfcaomejbcjfgaaGreatDoor

namespace Go.Proofs.YtfcaomejbcjfgaaGreatDoor
open Go Go.RowKit
abbrev TW := (Nat → Nat) × World
structure Nw (B t : Nat) (x x' : TW) : Prop where
  size : x.2.heap.size ≤ x'.2.heap.size
  tag : ∀ b, b < x.2.heap.size → x'.1 b = x.1 b
  block : ∀ b, B ≤ b → b < x.2.heap.size → x.1 b ≠ t → x'.2.heap[b]? = x.2.heap[b]?
section
variable {B t s : Nat} {x x' : TW} {e : TypeId} {size n : Nat} {v : Value} {xs : List Value}
theorem Nw.refl (x : TW) : Nw B t x x := ⟨Nat.le_refl _, fun _ _ => rfl, fun _ _ _ _ => rfl⟩
theorem Nw.own (h : OwnT x.1 s x.2 B e size v n xs) (k : Nw B t x x') (hs : s ≠ t) : OwnT x'.1 s x'.2 B e size v n xs := by
  refine ⟨⟨h.own.1, ?_⟩, fun b hb => by rw [k.tag b (h.own.lt b hb).2]; exact h.tag b hb⟩
  rcases h.own.2 with hn | ⟨g, cap, cur, rfl, h1, hg, rest⟩
  · exact .inl hn
  · have hl := (Array.getElem?_eq_some_iff.1 hg).1
    exact .inr ⟨g, cap, cur, rfl, h1, by rw [k.block g h1 hl (by rw [h.tag g rfl]; exact hs)]; exact hg, rest⟩
theorem Nw.ext {w : World} {τ : Nat → Nat} (hE : Ext w x'.2) (ht : x'.1 = tagAt τ w.heap.size s) : Nw B t (τ, w) x' :=
  ⟨hE.size, fun b hb => by rw [ht]; exact tagAt_lt hb, fun b _ hb _ => hE.block b hb⟩
theorem Nw.call {τ : Nat → Nat} {w w' : World} (hE : Ext w w') (s : Nat) : Nw B t (τ, w) (tagAt τ w.heap.size s, w') := ⟨hE.size, fun _ hb => tagAt_lt hb, fun b _ hb _ => hE.block b hb⟩
theorem Nw.alloc (τ : Nat → Nat) (w : World) (o : Obj) (s : Nat) : Nw B t (τ, w) (tagAt τ w.heap.size s, w.alloc o) := Nw.call (ext_al (Ext.refl w) o) s
theorem Nw.app {τ : Nat → Nat} {w w' : World} (h : OwnT τ s w B e size v n xs) (hg : w.grownBy w' v.ownBlock) : Nw B s (τ, w) (tagAt τ w.heap.size s, w') :=
  ⟨hg.size, fun _ hb => tagAt_lt hb, fun b _ hb hn => hg.block b hb fun e => hn (h.tag b e.symm)⟩
theorem Nw.store (τ : Nat → Nat) (w : World) {p : Addr} (hp : p.block < B) (u : Value) : Nw B t (τ, w) (τ, w.setCell p u) :=
  ⟨by simp, fun _ _ => rfl, fun b h1 _ _ => Below.heap_setCell _ _ _ _ (by omega)⟩
structure EntB (B s : Nat) (x : TW) (P : World → Prop) : Prop where
  ent : Ent x.1 s x.2 P
  old : ∀ b, b < B → x.1 b ≠ s
  size : B ≤ x.2.heap.size
variable {P : World → Prop}
theorem Nw.ent (h : EntB B s x P) (k : Nw B t x x') (hs : s ≠ t) : EntB B s x' P := by
  have ha : ∀ b, b < x.2.heap.size → x.1 b = s → x'.2.heap[b]? = x.2.heap[b]? := fun b h1 h2 => by
    by_cases hb : B ≤ b
    · exact k.block b hb h1 (by rw [h2]; exact hs)
    · exact absurd h2 (h.old b (by omega))
  refine ⟨fun w hw hb => h.ent w (Nat.le_trans k.size hw) fun b h1 h2 => ?_, fun b hb => by rw [k.tag b (Nat.lt_of_lt_of_le hb h.size)]; exact h.old b hb, Nat.le_trans h.size k.size⟩
  rw [← ha b h1 h2]
  exact hb b (Nat.lt_of_lt_of_le h1 k.size) (by rw [k.tag b h1]; exact h2)
theorem EntB.now (h : EntB B s x P) : P x.2 := h.ent.now
theorem EntB.row {τ : Nat → Nat} {w : World} {T : TypeId} {cs : List Value} {sz k : Nat} (hB : B ≤ w.heap.size) (ho : ∀ b, b < B → τ b ≠ s) (hr : Row (w.alloc (.cells cs.toArray T)) sz (some ⟨w.heap.size, 0, none⟩) k k cs) :
    EntB B s (tagAt τ w.heap.size s, w.alloc (.cells cs.toArray T)) fun y => Row y sz (some ⟨w.heap.size, 0, none⟩) k k cs :=
  ⟨fun y hy hb => hr.keep fun p hp _ => by
    injection hp with hp; subst hp
    exact hb _ (by simp) (tagAt_ge (Nat.le_refl _)), fun b hb => by show tagAt τ w.heap.size s b ≠ s; rw [tagAt_lt (Nat.lt_of_lt_of_le hb hB)]; exact ho b hb, by simp; omega⟩
end
end Go.Proofs.YtfcaomejbcjfgaaGreatDoor

namespace Go.Proofs.YtfcaomejbcjfgaaGreatDoor
open Go.RowKit
end Go.Proofs.YtfcaomejbcjfgaaGreatDoor
