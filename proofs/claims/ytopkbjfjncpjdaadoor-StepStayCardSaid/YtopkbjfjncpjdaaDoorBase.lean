/- Base: what is needed of it. No condition. -/
import Derived.Test.YtopkbjfjncpjdaaDoorRows
import Derived.WalkKit
import Derived.WalkSpells
import Derived.WalkLawsBesides
import Derived.Deep.QuietTactic
import Derived.BigQuiet
import Derived.Lib.Hide
import Derived.ProofKit
import Derived.OpenShut
import Derived.ChangeOld
import Derived.StillTailTactics
namespace Go.Proofs.YtopkbjfjncpjdaaDoor
open Go.RowKit
structure SlTy (P : Program) (t e : TypeId) (z : Value) (size bytes : Nat) : Prop where
  und : P.underlying t = some (.slice e)
  inf : ∃ i, P.info? e = some i ∧ i.zero = some z ∧ i.size = size ∧ i.bytes = bytes
  zs : z.cells.size = size
  pos : 0 < size
theorem SlTy.mk' {P : Program} {t e : TypeId} {z : Value} {size bytes : Nat} (und : P.underlying t = some (.slice e))
    (inf : (P.info? e).map (fun i => (i.zero, i.size, i.bytes)) = some (some z, size, bytes)) (zs : z.cells.size = size) (pos : 0 < size) : SlTy P t e z size bytes :=
  ⟨und, info_parts inf, zs, pos⟩
structure Row (w : World) (sz : Nat) (a : Option Addr) (n cap : Nat) (xs : List Value) : Prop where
  len : xs.length = n * sz
  le : n ≤ cap
  max : cap ≤ maxLen
  lie : ∃ b off, (a = none → cap = 0) ∧ (0 < xs.length → a = some ⟨b, off, none⟩) ∧ ∀ j u, xs[j]? = some u → w.cell? ⟨b, off + j, none⟩ = some u
theorem Row.nil (w : World) (sz : Nat) : Row w sz none 0 0 [] := ⟨by simp, by omega, by simp, 0, 0, fun _ => rfl, (by intro h; simp at h), by intro j u h; simp at h⟩
theorem getElem?_pos {α : Type} {xs : List α} {j : Nat} {u : α} (h : xs[j]? = some u) : 0 < xs.length := by have := (List.getElem?_eq_some_iff.1 h).1; omega
theorem Row.cells {w : World} {sz : Nat} {b off n cap : Nat} {xs : List Value} (h : Row w sz (some ⟨b, off, none⟩) n cap xs) : ∀ j u, xs[j]? = some u → w.cell? ⟨b, off + j, none⟩ = some u := by
  obtain ⟨b', off', _, h2, h3⟩ := h.lie
  intro j u hu
  have := h2 (getElem?_pos hu)
  simp only [Option.some.injEq, Addr.mk.injEq] at this
  obtain ⟨rfl, rfl, _⟩ := this
  exact h3 j u hu
theorem Row.none0 {w : World} {sz : Nat} {n cap : Nat} {xs : List Value} (h : Row w sz none n cap xs) : n = 0 ∧ cap = 0 ∧ xs = [] := by
  obtain ⟨b', off', h1, _, h3⟩ := h.lie
  have hc := h1 rfl
  have hn : n = 0 := by have := h.le; omega
  subst hn
  exact ⟨rfl, hc, List.eq_nil_of_length_eq_zero (by simpa using h.len)⟩
theorem Row.empty {w w' : World} {sz : Nat} {a : Option Addr} {n cap : Nat} (h : Row w sz a n cap []) : Row w' sz a n cap [] := by
  obtain ⟨b, off, h1, h2, _⟩ := h.lie
  exact ⟨h.len, h.le, h.max, b, off, h1, h2, by intro j u hu; simp at hu⟩
theorem Row.blk {w : World} {sz : Nat} {p : Addr} {n cap : Nat} {xs : List Value} (h : Row w sz (some p) n cap xs) (hx : 0 < xs.length) : p.block < w.heap.size := by
  obtain ⟨b, off, h1, h2, h3⟩ := h.lie
  have := World.block_lt_of_cell? _ _ (h3 0 xs[0] (by simp))
  have e := h2 hx
  simp only [Option.some.injEq] at e
  subst e
  exact this
theorem Row.keep {w w' : World} {sz : Nat} {a : Option Addr} {n cap : Nat} {xs : List Value} (h : Row w sz a n cap xs) (hk : ∀ p, a = some p → 0 < xs.length → w'.heap[p.block]? = w.heap[p.block]?) : Row w' sz a n cap xs := by
  refine ⟨h.len, h.le, h.max, ?_⟩
  obtain ⟨b, off, h1, h2, h3⟩ := h.lie
  refine ⟨b, off, h1, h2, fun j u hu => ?_⟩
  exact (World.cell?_of_block (w := w) (w' := w') (a := ⟨b, off + j, none⟩) (hk ⟨b, off, none⟩ (h2 (getElem?_pos hu)) (getElem?_pos hu))).trans (h3 j u hu)
abbrev Ext (w w' : World) : Prop := Below w.heap.size w w'
theorem Ext.refl (w : World) : Ext w w := Below.refl _ _
theorem Ext.trans {a b c : World} (h : Ext a b) (k : Ext b c) : Ext a c := Below.trans h (Below.mono k h.size)
theorem Row.ext {w w' : World} {sz : Nat} {a : Option Addr} {n cap : Nat} {xs : List Value} (h : Row w sz a n cap xs) (hb : Ext w w') : Row w' sz a n cap xs :=
  h.keep fun p hp hx => hb.block _ (by subst hp; exact h.blk hx)
theorem Row.drew {w : World} {sz : Nat} {a : Option Addr} {n cap : Nat} {xs : List Value} (h : Row w sz a n cap xs) : Row w.drew sz a n cap xs := h.keep fun _ _ _ => rfl
theorem Row.take {w : World} {sz : Nat} {a : Option Addr} {n cap : Nat} {xs : List Value} (h : Row w sz a n cap xs) (k : Nat) (hk : k ≤ n) : Row w sz a k cap (xs.take (k * sz)) := by
  refine ⟨?_, by have := h.le; omega, h.max, ?_⟩
  · rw [List.length_take, h.len]
    exact Nat.min_eq_left (Nat.mul_le_mul_right _ hk)
  · obtain ⟨b, off, h1, h2, h3⟩ := h.lie
    refine ⟨b, off, h1, fun hl => h2 (by rw [List.length_take] at hl; omega), fun j u hu => h3 j u ?_⟩
    rw [List.getElem?_take] at hu
    split at hu
    · exact hu
    · cases hu
def Reads (w : World) (sz : Nat) (v : Value) (n : Nat) (xs : List Value) : Prop := ∃ a cap, v = .slice a n cap ∧ Row w sz a n cap xs
theorem Reads.ext {w w' : World} {sz : Nat} {v : Value} {n : Nat} {xs : List Value} (h : Reads w sz v n xs) (hb : Ext w w') : Reads w' sz v n xs := by
  obtain ⟨a, cap, rfl, hr⟩ := h
  exact ⟨a, cap, rfl, hr.ext hb⟩
theorem Reads.nil (w : World) (sz : Nat) : Reads w sz (.slice none 0 0) 0 [] := ⟨_, _, rfl, Row.nil w sz⟩
theorem Reads.grown {w w' : World} {sz : Nat} {v : Value} {n : Nat} {xs : List Value} {row : Option Nat} (h : Reads w sz v n xs) (hg : w.grownBy w' row) (hn : xs = [] ∨ v.ownBlock = none ∨ v.ownBlock ≠ row) : Reads w' sz v n xs := by
  obtain ⟨a, cap, rfl, hr⟩ := h
  refine ⟨a, cap, rfl, hr.keep fun p hp hx => hg.block _ (by subst hp; exact hr.blk hx) ?_⟩
  subst hp
  rcases hn with h | h | h
  · subst h; simp at hx
  · simp [Value.ownBlock] at h
  · simpa [Value.ownBlock] using h
theorem _root_.Go.World.ownsRow.row {w : World} {base : Nat} {e : TypeId} {size : Nat} {v : Value} {n : Nat} {xs : List Value} (h : w.ownsRow base e size v n xs) : ∃ a cap, v = .slice a n cap ∧ Row w size a n cap xs := by
  rcases h.2 with ⟨rfl, rfl⟩ | ⟨g, cap, cur, rfl, hb, hg, hnc, hcm, hcs, htake⟩
  · have : xs = [] := List.eq_nil_of_length_eq_zero (by simpa using h.1)
    subst this
    exact ⟨_, _, rfl, Row.nil _ _⟩
  · refine ⟨_, _, rfl, h.1, hnc, hcm, g, 0, (by intro h; cases h), (by intro _; rfl), fun j u hu => ?_⟩
    have hj : j < n * size := by have := (List.getElem?_eq_some_iff.1 hu).1; rw [h.1] at this; exact this
    rw [Nat.zero_add, cell_of_row w g j cur e (0, 0) hg, ← Array.getElem?_toList]
    rw [← htake, List.getElem?_take, if_pos hj] at hu
    exact hu
theorem _root_.Go.World.ownsRow.reads {w : World} {base : Nat} {e : TypeId} {size : Nat} {v : Value} {n : Nat} {xs : List Value} (h : w.ownsRow base e size v n xs) : Reads w size v n xs := h.row
theorem _root_.Go.World.ownsRow.weaken {w : World} {base base' : Nat} {e : TypeId} {size : Nat} {v : Value} {n : Nat} {xs : List Value} (h : w.ownsRow base e size v n xs) (hb : ∀ k, v.ownBlock = some k → base' ≤ k) : w.ownsRow base' e size v n xs := by
  refine ⟨h.1, ?_⟩
  rcases h.2 with hn | ⟨g, cap, cur, rfl, _, rest⟩
  · exact .inl hn
  · exact .inr ⟨g, cap, cur, rfl, hb g rfl, rest⟩
theorem own_below {w w' : World} {B base : Nat} {e : TypeId} {size : Nat} {v : Value} {n : Nat} {xs : List Value} (h : w.ownsRow base e size v n xs) (hb : Below B w w') (hv : ∀ k, v.ownBlock = some k → k < B) : w'.ownsRow base e size v n xs := by
  refine ⟨h.1, ?_⟩
  rcases h.2 with hn | ⟨g, cap, cur, rfl, h1, hgg, rest⟩
  · exact .inl hn
  · exact .inr ⟨g, cap, cur, rfl, h1, by rw [hb.block g (hv g rfl)]; exact hgg, rest⟩
theorem own_ext {w w' : World} {base : Nat} {e : TypeId} {size : Nat} {v : Value} {n : Nat} {xs : List Value} (h : w.ownsRow base e size v n xs) (hb : Ext w w') : w'.ownsRow base e size v n xs :=
  own_below h hb fun k hk => (h.lt k hk).2
theorem own_down {w : World} {base base' : Nat} {e : TypeId} {size : Nat} {v : Value} {n : Nat} {xs : List Value} (h : w.ownsRow base e size v n xs) (hb : base' ≤ base) : w.ownsRow base' e size v n xs :=
  h.weaken fun k hk => by have := h.lt k hk; omega
theorem Row.add {w : World} {sz : Nat} {p : Addr} {n cap : Nat} {xs : List Value} (h : Row w sz (some p) n cap xs) : ∀ j u, xs[j]? = some u → w.cell? (p.add j) = some u := by
  obtain ⟨b, off, _, h2, h3⟩ := h.lie
  intro j u hu
  have e := h2 (getElem?_pos hu)
  simp only [Option.some.injEq] at e
  subst e
  rw [Addr.add_lit]
  exact h3 j u hu
section
variable {P : Program}
theorem run_append_row (w : World) (base : Nat) {t ty e : TypeId} {z : Value} {size bytes : Nat} (T : SlTy P t e z size bytes)
    (v : Value) (n : Nat) (xs : List Value) (hown : w.ownsRow base e size v n xs) (ao : Option Addr) (m c : Nat) (news : List Value) (hrow : Row w size ao m c news)
    (h1 : ∀ u ∈ news, u.oneCell' = true) (h63 : n + m ≤ maxLen) (hbytes : (n + m) * bytes ≤ 140737488355328) (hbase : base ≤ w.heap.size) :
    ∃ v' w', (Builtin.append_ #[t, t] ty #[v, .slice ao m c]).run P w = .ok v' w' ∧ w'.ownsRow base e size v' (n + m) (xs ++ news) ∧ w.grownBy w' v.ownBlock ∧
      (v'.ownBlock = v.ownBlock ∨ v'.ownBlock = some w.heap.size) ∧ (v' = .slice none 0 0 ↔ v = .slice none 0 0 ∧ m = 0) := by
  obtain ⟨i, hi, hz, hsz, hby⟩ := T.inf
  cases ao with
  | none =>
    obtain ⟨rfl, rfl, rfl⟩ := hrow.none0
    have hr := run_append_owned_none (P := P) w base t ty e i size T.und hi v n xs hown
    exact ⟨v, w, hr, by simpa using hown, ⟨rfl, rfl, rfl, Nat.le_refl _, fun _ _ _ => rfl⟩, .inl rfl, by simp⟩
  | some ad =>
    obtain ⟨v', w', hr, h2, h3, h4⟩ := run_append_own (P := P) w base t ty e i z size bytes T.und hi hz hsz hby T.zs T.pos v n xs hown ad m c news hrow.len hrow.add h1 h63 hbytes hbase
    refine ⟨v', w', hr, h2, h3, ?_, h4⟩
    subst hsz
    subst hby
    have hsmall : n + m ≤ 9223372036854775807 := by simp only [maxLen] at h63; omega
    rcases hown.2 with ⟨rfl, rfl⟩ | ⟨g, cap, cur, rfl, hbg, hg, hnc, hcm, hcs, htake⟩
    · by_cases hm : m = 0
      · have := h4.2 ⟨rfl, hm⟩
        subst this
        exact .inl rfl
      · have hr2 := run_append_nil (P := P) w t ty e i z T.und hi hz ad m c news hrow.len hrow.add (by omega) (by omega) (by have hb := hbytes; simp only [Nat.zero_add] at hb; omega)
        rw [hr2] at hr
        simp only [Result.ok.injEq] at hr
        rw [← hr.1]
        exact .inr rfl
    · by_cases hroom : n + m ≤ cap
      · have hfit : n * i.size + news.length ≤ cur.size := by rw [hrow.len, hcs, ← Nat.add_mul]; exact Nat.mul_le_mul_right _ hroom
        have hr2 := run_append_room (P := P) w t ty e i T.und hi g n cap cur hg ad m c news hrow.len hrow.add h1 hroom hfit
        rw [hr2] at hr
        simp only [Result.ok.injEq] at hr
        rw [← hr.1]
        exact .inl rfl
      · have holds : ∀ j u, xs[j]? = some u → w.cell? ((⟨g, 0, none⟩ : Addr).add j) = some u := hown.cells (g := g) rfl
        have hr2 := run_append_grow (P := P) w t ty e i z T.und hi hz ⟨g, 0, none⟩ n cap xs hown.1 holds ad m c news hrow.len hrow.add (by omega) (by omega) (growslice_fits (by omega) hbytes)
        rw [hr2] at hr
        simp only [Result.ok.injEq] at hr
        rw [← hr.1]
        exact .inr rfl
theorem wpl_append {w : World} {ops : Array Oper} {rest : List Oper} {o : Oper} {a : Act} {Q : Exit → Act → World → Prop} (hgd : o.guard = none) {s x : Operand} {t : TypeId}
    (ho : o.op = .call { callee := .builtin .append, args := #[s, x], argTypes := #[t, t] })
    {e : TypeId} {z : Value} {size bytes : Nat} (T : SlTy P t e z size bytes) (base : Nat)
    {v : Value} {n : Nat} {xs : List Value} (hs : a.eval s = v) (hown : w.ownsRow base e size v n xs)
    {ao : Option Addr} {m c : Nat} {news : List Value} (hx : a.eval x = .slice ao m c) (hrow : Row w size ao m c news)
    (h1 : ∀ u ∈ news, u.oneCell' = true) (h63 : n + m ≤ maxLen) (hbytes : (n + m) * bytes ≤ 140737488355328) (hbase : base ≤ w.heap.size)
    (h : ∀ v' w', w'.ownsRow base e size v' (n + m) (xs ++ news) → w.grownBy w' v.ownBlock → (v'.ownBlock = v.ownBlock ∨ v'.ownBlock = some w.heap.size) → (v' = .slice none 0 0 ↔ v = .slice none 0 0 ∧ m = 0) →
      wpList P ops Q rest (a.put o.dst v') w') : wpList P ops Q (o :: rest) a w := by
  refine wpList_plain hgd fun K hK => ?_
  obtain ⟨v', w', hr, h2, h3, h4, h5⟩ := run_append_row (P := P) w base (ty := o.type) T v n xs hown ao m c news hrow h1 h63 hbytes hbase
  unfold Oper.wp execOp
  simp only [ho, resolve, invoke, builtin, Sem.run_bind, Sem.run_pure, Result.andThen_ok, List.map_toArray, List.map_cons, List.map_nil, hs, hx, hr]
  exact hK _ _ (h v' w' h2 h3 h4 h5)
end
theorem _root_.Go.World.grownBy.trans' {a b c : World} {row : Option Nat} (h : a.grownBy b row) (k : b.grownBy c row) : a.grownBy c row :=
  ⟨k.os.trans h.os, k.tape.trans h.tape, k.output.trans h.output, Nat.le_trans h.size k.size, fun i hi hr => (k.block i (Nat.lt_of_lt_of_le hi h.size) hr).trans (h.block i hi hr)⟩
theorem Row.one (w : World) (t : TypeId) (x : Value) : Row (w.alloc (.cells #[x] t)) 1 (some ⟨w.heap.size, 0, none⟩) 1 1 [x] := by
  refine ⟨rfl, Nat.le_refl _, by unfold maxLen; omega, w.heap.size, 0, (by intro h; cases h), fun _ => rfl, fun j u hu => ?_⟩
  rw [Nat.zero_add, World.cell?_alloc_at _ _ _ _ rfl]
  simpa using hu
theorem Row.new (w : World) (t : TypeId) (cs : List Value) (hm : cs.length ≤ maxLen) : Row (w.alloc (.cells cs.toArray t)) 1 (some ⟨w.heap.size, 0, none⟩) cs.length cs.length cs := by
  refine ⟨by simp, Nat.le_refl _, hm, w.heap.size, 0, (by intro h; cases h), fun _ => rfl, fun j u hu => ?_⟩
  rw [Nat.zero_add, World.cell?_alloc_at _ _ _ _ rfl]
  simpa using hu
theorem one_int {k : IntKind} (n : Int) : ∀ u ∈ [Value.int k n], u.oneCell' = true := by simp [Value.oneCell']
theorem region_tail {P : Program} {id : Nat} {Q : Exit → Act → World → Prop} {a : Act} {w : World} {l : List Oper} (n : Nat) (hm : P.follows .mixedOrders = true) (hB : Region.lexTailB .any l.toArray n = true)
    (h : wpStill P l.toArray w.drew (fun a' => wpList P l.toArray Q (l.drop n) a' w.drew) (l.take n) a) : (Code.region id l.toArray true).wp P Q a w := wp_region_still_tail n hm hB h
theorem still_of {P : Program} {f : FuncId} {args : Array Value} {w : World} {v : Value} (h : Calls P f args w fun e w' => e = .returned v ∧ w = w') : Calls P f args w fun e w' => e = .returned v ∧ w' = w :=
  h.mono fun _ _ ⟨h1, h2⟩ => ⟨h1, h2.symm⟩
def bv (c : UInt8) : Value := .int .u8 (c.toNat : Int)
def Bytes (w : World) (v : Value) (l : List UInt8) : Prop := Reads w 1 v l.length (l.map bv)
def Ints (w : World) (v : Value) (l : List Int) : Prop := Reads w 1 v l.length (l.map (.int .i64))
theorem Bytes.ext {w w' : World} {v : Value} {l : List UInt8} (h : Bytes w v l) (hb : Ext w w') : Bytes w' v l := Reads.ext h hb
theorem Ints.ext {w w' : World} {v : Value} {l : List Int} (h : Ints w v l) (hb : Ext w w') : Ints w' v l := Reads.ext h hb
def Cells (P : Program) (W : World) (t : TypeId) (cs : List Value) : Prop :=
  ∃ (H : Type) (enc : TypeId × Value → H) (spare : Nat → Bool) (held : Bool) (fuel : Nat) (x : DataW H × List MemPlace), DataW.trod enc P W 0 spare held fuel t cs = some x
theorem Cells.int {P : Program} {W : World} {t : TypeId} {cs : List Value} {k : IntKind} (ht : P.underlying t = some (.int k)) (h : Cells P W t cs) : ∃ n, cs = [.int k n] ∧ (Lit.int k n).wf = true := by
  obtain ⟨H, enc, spare, held, fuel, x, hx⟩ := h
  obtain ⟨n, h1, _, h2⟩ := DataW.trod_int ht hx
  exact ⟨n, h1, h2⟩
theorem Cells.bool {P : Program} {W : World} {t : TypeId} {cs : List Value} (ht : P.underlying t = some .bool) (h : Cells P W t cs) : ∃ b, cs = [.bool b] := by
  obtain ⟨H, enc, spare, held, fuel, x, hx⟩ := h
  obtain ⟨b, h1, _⟩ := DataW.trod_bool ht hx
  exact ⟨b, h1⟩
theorem Cells.string {P : Program} {W : World} {t : TypeId} {cs : List Value} (ht : P.underlying t = some .string) (h : Cells P W t cs) : ∃ s : ByteArray, cs = [.string s] ∧ s.size ≤ maxLen := by
  obtain ⟨H, enc, spare, held, fuel, x, hx⟩ := h
  obtain ⟨b, h1, _, h2⟩ := DataW.trod_string ht hx
  exact ⟨b, h1, h2⟩
theorem mapM_some {α β : Type} {f : α → Option β} : ∀ {l : List α} {cs : List β}, l.mapM f = some cs → cs.length = l.length ∧ ∀ (j : Nat) (u : β), cs[j]? = some u → ∃ x : α, l[j]? = some x ∧ f x = some u
  | [], cs, h => by simp at h; subst h; simp
  | x :: l, cs, h => by
    simp only [List.mapM_cons, Option.bind_eq_bind, Option.bind_eq_some_iff, Option.pure_def, Option.some.injEq] at h
    obtain ⟨y, hy, ys, hys, rfl⟩ := h
    have ih := mapM_some hys
    refine ⟨by simp [ih.1], fun j u hu => ?_⟩
    cases j with
    | zero => simp at hu; subst hu; exact ⟨x, by simp, hy⟩
    | succ j => simpa using ih.2 j u (by simpa using hu)
theorem cells_some {w : World} {base : Nat} {a : Addr} {n : Nat} {cs : List Value} (h : w.cells? base a n = some cs) : cs.length = n ∧ ∀ j u, cs[j]? = some u → w.cell? (a.add j) = some u := by
  unfold World.cells? at h
  split at h
  · obtain ⟨h1, h2⟩ := mapM_some h
    refine ⟨by simpa using h1, fun j u hu => ?_⟩
    obtain ⟨x, hx, hf⟩ := h2 j u hu
    have := (List.getElem?_eq_some_iff.1 hx).2
    simp at this
    subst this
    exact hf
  · cases h
theorem flatten_get {α : Type} {sz : Nat} : ∀ {xss : List (List α)}, (∀ xs ∈ xss, xs.length = sz) → ∀ {j : Nat} {u : α}, xss.flatten[j]? = some u → ∃ i k, k < sz ∧ j = i * sz + k ∧ ∃ xs, xss[i]? = some xs ∧ xs[k]? = some u
  | [], _, j, u, hu => by simp at hu
  | xs :: xss, h, j, u, hu => by
    have hl := h xs (by simp)
    rw [List.flatten_cons] at hu
    by_cases hj : j < xs.length
    · rw [List.getElem?_append_left hj] at hu
      exact ⟨0, j, by omega, by simp, xs, by simp, hu⟩
    · rw [List.getElem?_append_right (by omega)] at hu
      obtain ⟨i, k, hk, e, ys, h1, h2⟩ := flatten_get (fun ys hy => h ys (by simp [hy])) hu
      exact ⟨i + 1, k, hk, by rw [Nat.add_mul]; omega, ys, by simpa using h1, h2⟩
theorem flatten_len {α : Type} {sz : Nat} : ∀ {xss : List (List α)}, (∀ xs ∈ xss, xs.length = sz) → xss.flatten.length = xss.length * sz
  | [], _ => by simp
  | xs :: xss, h => by
    rw [List.flatten_cons, List.length_append, flatten_len (fun ys hy => h ys (by simp [hy])), h xs (by simp), List.length_cons, Nat.add_mul]
    omega
theorem addr_add_add (a : Addr) (i j : Nat) : (a.add i).add j = a.add (i + j) := by
  unfold Addr.add
  split <;> split <;> simp_all
  omega
theorem list_of {α : Type} {n : Nat} {p : Nat → α → Prop} (h : ∀ i, i < n → ∃ x, p i x) : ∃ l : List α, l.length = n ∧ ∀ i x, l[i]? = some x → p i x := by
  induction n with
  | zero => exact ⟨[], rfl, by simp⟩
  | succ k ih =>
    obtain ⟨xss, h1, h2⟩ := ih (fun i hi => h i (by omega))
    obtain ⟨xs, h3⟩ := h k (by omega)
    refine ⟨xss ++ [xs], by simp [h1], fun i ys hy => ?_⟩
    by_cases hi : i < k
    · rw [List.getElem?_append_left (by omega)] at hy
      exact h2 i ys hy
    · rw [List.getElem?_append_right (by omega)] at hy
      have e0 : i - xss.length = 0 := by have := (List.getElem?_eq_some_iff.1 hy).1; simp at this; omega
      rw [e0] at hy
      simp at hy
      subst hy
      obtain rfl : i = k := by omega
      exact h3
theorem Cells.slice {P : Program} {W : World} {t e : TypeId} {cs : List Value} {sz : Nat} (ht : P.underlying t = some (.slice e)) (hc : P.cellsOf e = sz) (h : Cells P W t cs) :
    ∃ (a : Option Addr) (cap : Nat) (xss : List (List Value)), cs = [.slice a xss.length cap] ∧ Row W sz a xss.length cap xss.flatten ∧ ∀ xs ∈ xss, xs.length = sz ∧ Cells P W e xs := by
  obtain ⟨H, enc, spare, held, fuel, x, hx⟩ := h
  rcases DataW.trod_slice ht hx with ⟨rfl, _⟩ | ⟨a, len, cap, elems, rest, n, _, rfl, _, _, hl, hm, hlen, hel, _, _⟩
  · exact ⟨none, 0, [], rfl, Row.nil _ _, by simp⟩
  · subst hc
    have each : ∀ i, i < len → ∃ xs, W.cells? 0 (a.add (i * P.cellsOf e)) (P.cellsOf e) = some xs ∧ Cells P W e xs := by
      intro i hi
      have := hel i hi
      rw [List.getElem?_eq_getElem (by omega)] at this
      obtain ⟨xs, h1, h2⟩ := Option.bind_eq_some_iff.1 this
      exact ⟨xs, h1, H, enc, spare, held, n, _, h2⟩
    obtain ⟨xss, hx1, hx2⟩ : ∃ xss : List (List Value), xss.length = len ∧ ∀ i xs, xss[i]? = some xs → W.cells? 0 (a.add (i * P.cellsOf e)) (P.cellsOf e) = some xs ∧ Cells P W e xs := list_of each
    have hsz : ∀ xs ∈ xss, xs.length = P.cellsOf e ∧ Cells P W e xs := by
      intro xs hxs
      obtain ⟨i, hi⟩ := List.mem_iff_getElem?.1 hxs
      exact ⟨(cells_some (hx2 i xs hi).1).1, (hx2 i xs hi).2⟩
    subst hx1
    have hcell : ∀ j u, xss.flatten[j]? = some u → W.cell? (a.add j) = some u := by
      intro j u hu
      obtain ⟨i, k, hk, rfl, xs, h1, h2⟩ := flatten_get (fun xs hx => (hsz xs hx).1) hu
      have := (cells_some (hx2 i xs h1).1).2 k u h2
      rwa [addr_add_add] at this
    refine ⟨some a, cap, xss, rfl, ⟨flatten_len fun xs hx => (hsz xs hx).1, hl, hm, a.block, a.off, (by intro h; cases h), fun hp => ?_, fun j u hu => ?_⟩, hsz⟩
    · have := hcell 0 xss.flatten[0] (by simp)
      have hs : a.spot = none := by
        have := World.cell?_spot this
        simpa [Addr.add] using this
      obtain ⟨b, off, sp⟩ := a
      simp at hs
      subst hs
      rfl
    · have h0 := hcell j u hu
      have hs : a.spot = none ∨ 0 < j := by
        by_cases hj : j = 0
        · left
          have := World.cell?_spot h0
          subst hj
          simpa [Addr.add] using this
        · right; omega
      obtain ⟨b, off, sp⟩ := a
      simp only [Addr.add] at h0
      split at h0
      · subst j
        simp at hs
        subst hs
        simpa using h0
      · exact h0
theorem Cells.field {P : Program} {W : World} {t : TypeId} {cs : List Value} {fs : Array Field} (ht : P.underlying t = some (.struct fs)) (h : Cells P W t cs) :
    cs.length = P.cellsOf t ∧ ∀ (i : Nat) (f : Field), fs[i]? = some f → Cells P W f.type ((cs.drop f.offset).take (P.cellsOf f.type)) := by
  obtain ⟨H, enc, spare, held, fuel, x, hx⟩ := h
  obtain ⟨xs, n, _, _, hl, hn, hf⟩ := DataW.trod_struct ht hx
  refine ⟨hl, fun i f hi => ?_⟩
  have := hf i f hi
  rw [List.getElem?_eq_getElem (by have := (Array.getElem?_eq_some_iff.1 hi).1; omega)] at this
  exact ⟨H, enc, spare, held, n, _, this⟩
theorem Cells.array {P : Program} {W : World} {t e : TypeId} {cs : List Value} {n : Nat} (ht : P.underlying t = some (.array n e)) (h : Cells P W t cs) :
    cs.length = P.cellsOf t ∧ ∀ (i : Nat), i < n → Cells P W e ((cs.drop (i * P.cellsOf e)).take (P.cellsOf e)) := by
  obtain ⟨H, enc, spare, held, fuel, x, hx⟩ := h
  obtain ⟨xs, m, _, _, hl, hn, hf⟩ := DataW.trod_array ht hx
  refine ⟨hl, fun i hi => ?_⟩
  have := hf i hi
  rw [List.getElem?_eq_getElem (by omega)] at this
  exact ⟨H, enc, spare, held, m, _, this⟩
theorem arg_int {H : Type} {enc : TypeId × Value → H} {P : Program} {W : World} {r : Reach} {b0 t : TypeId} {k : IntKind} {spare : Nat → Bool} {held : Bool} {v : Value} {d : DataW H} {ps : List MemPlace}
    (ht : P.underlying t = some (.int k)) (hv : Value.okWide P W r b0 t v) (h : DataW.Trod enc P W 0 spare held t v d ps) : Cells P W t [v] := by
  obtain ⟨n, rfl⟩ := WideShapes.okWide_int ht hv
  obtain ⟨fuel, hf⟩ := h
  exact ⟨H, enc, spare, held, fuel, _, hf⟩
theorem arg_struct {H : Type} {enc : TypeId × Value → H} {P : Program} {W : World} {r : Reach} {b0 t : TypeId} {fs : Array Field} {spare : Nat → Bool} {held : Bool} {v : Value} {d : DataW H} {ps : List MemPlace}
    (ht : P.underlying t = some (.struct fs)) (hv : Value.okWide P W r b0 t v) (h : DataW.Trod enc P W 0 spare held t v d ps) : ∃ cs, v = .agg cs ∧ Cells P W t cs.toList := by
  simp only [Value.okWide, ht] at hv
  obtain ⟨cs, rfl, _⟩ := hv
  obtain ⟨fuel, hf⟩ := h
  exact ⟨cs, rfl, H, enc, spare, held, fuel, _, hf⟩
theorem flatten_single {α : Type} {xss : List (List Value)} {f : α → Value} (h : ∀ xs ∈ xss, ∃ x, xs = [f x]) : ∃ l : List α, xss.length = l.length ∧ xss.flatten = l.map f := by
  induction xss with
  | nil => exact ⟨[], rfl, rfl⟩
  | cons xs xss ih =>
    obtain ⟨x, rfl⟩ := h xs (by simp)
    obtain ⟨l, h1, h2⟩ := ih (fun ys hy => h ys (by simp [hy]))
    exact ⟨x :: l, by simp [h1], by simp [h2]⟩
theorem u8_of_wf {n : Int} (h : (Lit.int .u8 n).wf = true) : ∃ c : UInt8, n = (c.toNat : Int) := by
  have hb := bounds_u8 h
  exact ⟨UInt8.ofNat n.toNat, by rw [UInt8.toNat_ofNat_of_lt' (by have : UInt8.size = 256 := rfl; omega)]; omega⟩
theorem Cells.bytes {P : Program} {W : World} {t e : TypeId} {cs : List Value} (ht : P.underlying t = some (.slice e)) (he : P.underlying e = some (.int .u8)) (hc : P.cellsOf e = 1) (h : Cells P W t cs) : ∃ v l, cs = [v] ∧ Bytes W v l := by
  obtain ⟨a, cap, xss, rfl, hr, hx⟩ := h.slice ht hc
  obtain ⟨l, h1, h2⟩ := flatten_single (f := bv) (xss := xss) (fun xs hxs => by
    obtain ⟨n, rfl, hw⟩ := (hx xs hxs).2.int he
    obtain ⟨c, rfl⟩ := u8_of_wf hw
    exact ⟨c, rfl⟩)
  rw [h1, h2] at hr
  exact ⟨_, l, rfl, a, cap, by rw [h1], hr⟩
def I64 (n : Int) : Prop := -9223372036854775808 ≤ n ∧ n ≤ 9223372036854775807
theorem Cells.i64 {P : Program} {W : World} {t : TypeId} {cs : List Value} (ht : P.underlying t = some (.int .i64)) (h : Cells P W t cs) : ∃ n, cs = [.int .i64 n] ∧ I64 n := by
  obtain ⟨n, rfl, hw⟩ := h.int ht
  have := bounds_i64 hw
  exact ⟨n, rfl, by unfold I64; omega⟩
end Go.Proofs.YtopkbjfjncpjdaaDoor
