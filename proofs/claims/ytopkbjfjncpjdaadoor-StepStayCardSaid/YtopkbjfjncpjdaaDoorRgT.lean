/- Regions that draw their order: worlds with tags, and what an operation leaves of them. No condition. -/
import Derived.Test.YtopkbjfjncpjdaaDoorRgn
import Derived.Test.YtopkbjfjncpjdaaDoorTag
namespace Go.Proofs.YtopkbjfjncpjdaaDoor
open Go Go.RowKit
abbrev TW := (Nat → Nat) × World
structure Nw (B t : Nat) (x x' : TW) : Prop where
  size : x.2.heap.size ≤ x'.2.heap.size
  tag : ∀ b, b < x.2.heap.size → x'.1 b = x.1 b
  block : ∀ b, B ≤ b → b < x.2.heap.size → x.1 b ≠ t → x'.2.heap[b]? = x.2.heap[b]?
section
variable {B t s : Nat} {x x' : TW} {e : TypeId} {size n : Nat} {v : Value} {xs : List Value}
theorem Nw.refl (x : TW) : Nw B t x x := ⟨Nat.le_refl _, fun _ _ => rfl, fun _ _ _ _ => rfl⟩
theorem Nw.own (h : OwnT x.1 s x.2 B e size v n xs) (k : Nw B t x x') (hs : s ≠ t) : OwnT x'.1 s x'.2 B e size v n xs := by
  refine ⟨⟨h.own.1, ?_⟩, fun b hb => by rw [k.tag b (h.own.lt b hb).2]; exact h.tag b hb⟩
  rcases h.own.2 with hn | ⟨g, cap, cur, rfl, h1, hg, rest⟩
  · exact .inl hn
  · have hl := (Array.getElem?_eq_some_iff.1 hg).1
    exact .inr ⟨g, cap, cur, rfl, h1, by rw [k.block g h1 hl (by rw [h.tag g rfl]; exact hs)]; exact hg, rest⟩
theorem Nw.ext {w : World} {τ : Nat → Nat} (hE : Ext w x'.2) (ht : x'.1 = tagAt τ w.heap.size s) : Nw B t (τ, w) x' :=
  ⟨hE.size, fun b hb => by rw [ht]; exact tagAt_lt hb, fun b _ hb _ => hE.block b hb⟩
theorem Nw.call {τ : Nat → Nat} {w w' : World} (hE : Ext w w') (s : Nat) : Nw B t (τ, w) (tagAt τ w.heap.size s, w') := ⟨hE.size, fun _ hb => tagAt_lt hb, fun b _ hb _ => hE.block b hb⟩
theorem Nw.alloc (τ : Nat → Nat) (w : World) (o : Obj) (s : Nat) : Nw B t (τ, w) (tagAt τ w.heap.size s, w.alloc o) := Nw.call (ext_al (Ext.refl w) o) s
theorem Nw.app {τ : Nat → Nat} {w w' : World} (h : OwnT τ s w B e size v n xs) (hg : w.grownBy w' v.ownBlock) : Nw B s (τ, w) (tagAt τ w.heap.size s, w') :=
  ⟨hg.size, fun _ hb => tagAt_lt hb, fun b _ hb hn => hg.block b hb fun e => hn (h.tag b e.symm)⟩
theorem Nw.store (τ : Nat → Nat) (w : World) {p : Addr} (hp : p.block < B) (u : Value) : Nw B t (τ, w) (τ, w.setCell p u) :=
  ⟨by simp, fun _ _ => rfl, fun b h1 _ _ => Below.heap_setCell _ _ _ _ (by omega)⟩
structure EntB (B s : Nat) (x : TW) (P : World → Prop) : Prop where
  ent : Ent x.1 s x.2 P
  old : ∀ b, b < B → x.1 b ≠ s
  size : B ≤ x.2.heap.size
variable {P : World → Prop}
theorem Nw.ent (h : EntB B s x P) (k : Nw B t x x') (hs : s ≠ t) : EntB B s x' P := by
  have ha : ∀ b, b < x.2.heap.size → x.1 b = s → x'.2.heap[b]? = x.2.heap[b]? := fun b h1 h2 => by
    by_cases hb : B ≤ b
    · exact k.block b hb h1 (by rw [h2]; exact hs)
    · exact absurd h2 (h.old b (by omega))
  refine ⟨fun w hw hb => h.ent w (Nat.le_trans k.size hw) fun b h1 h2 => ?_, fun b hb => by rw [k.tag b (Nat.lt_of_lt_of_le hb h.size)]; exact h.old b hb, Nat.le_trans h.size k.size⟩
  rw [← ha b h1 h2]
  exact hb b (Nat.lt_of_lt_of_le h1 k.size) (by rw [k.tag b h1]; exact h2)
theorem EntB.now (h : EntB B s x P) : P x.2 := h.ent.now
theorem EntB.row {τ : Nat → Nat} {w : World} {T : TypeId} {cs : List Value} {sz k : Nat} (hB : B ≤ w.heap.size) (ho : ∀ b, b < B → τ b ≠ s) (hr : Row (w.alloc (.cells cs.toArray T)) sz (some ⟨w.heap.size, 0, none⟩) k k cs) :
    EntB B s (tagAt τ w.heap.size s, w.alloc (.cells cs.toArray T)) fun y => Row y sz (some ⟨w.heap.size, 0, none⟩) k k cs :=
  ⟨fun y hy hb => hr.keep fun p hp _ => by
    injection hp with hp; subst hp
    exact hb _ (by simp) (tagAt_ge (Nat.le_refl _)), fun b hb => by show tagAt τ w.heap.size s b ≠ s; rw [tagAt_lt (Nat.lt_of_lt_of_le hb hB)]; exact ho b hb, by simp; omega⟩
end
theorem wp_append {P : Program} {w : World} {o : Oper} {a : Act} {K : Act → World → Prop} {Q : Exit → Act → World → Prop} {s x : Operand} {t : TypeId}
    (ho : o.op = .call { callee := .builtin .append, args := #[s, x], argTypes := #[t, t] })
    {e : TypeId} {z : Value} {size bytes : Nat} (T : SlTy P t e z size bytes) (base : Nat)
    {v : Value} {n : Nat} {xs : List Value} (hs : a.eval s = v) (hown : w.ownsRow base e size v n xs)
    {ao : Option Addr} {m c : Nat} {news : List Value} (hx : a.eval x = .slice ao m c) (hrow : Row w size ao m c news)
    (h1 : ∀ u ∈ news, u.oneCell' = true) (h63 : n + m ≤ maxLen) (hbytes : (n + m) * bytes ≤ 140737488355328) (hbase : base ≤ w.heap.size)
    (h : ∀ v' w', w'.ownsRow base e size v' (n + m) (xs ++ news) → w.grownBy w' v.ownBlock → (v'.ownBlock = v.ownBlock ∨ v'.ownBlock = some w.heap.size) → K (a.put o.dst v') w') : o.wp P a w K Q := by
  obtain ⟨v', w', hr, h2, h3, h4, h5⟩ := run_append_row (P := P) w base (ty := o.type) T v n xs hown ao m c news hrow h1 h63 hbytes hbase
  unfold Oper.wp execOp
  simp only [ho, resolve, invoke, builtin, Sem.run_bind, Sem.run_pure, Result.andThen_ok, List.map_toArray, List.map_cons, List.map_nil, hs, hx, hr]
  exact h v' w' h2 h3 h4
theorem rg_new {P : Program} (τ : Nat → Nat) (B tg : Nat) {w : World} {o : Oper} {a : Act} {K : Act → World → Prop} {Q : Exit → Act → World → Prop} {s x : Operand} {t : TypeId}
    (ho : o.op = .call { callee := .builtin .append, args := #[s, x], argTypes := #[t, t] })
    {e : TypeId} {z : Value} {size bytes : Nat} (T : SlTy P t e z size bytes) (hs : a.eval s = .slice none 0 0)
    {ao : Option Addr} {m c : Nat} {news : List Value} (hx : a.eval x = .slice ao m c) (hrow : Row w size ao m c news)
    (h1 : ∀ u ∈ news, u.oneCell' = true) (h63 : m ≤ maxLen) (hbytes : m * bytes ≤ 140737488355328) (hbase : B ≤ w.heap.size)
    (h : ∀ (a' : Option Addr) (c' : Nat) (w' : World), OwnT (tagAt τ w.heap.size tg) tg w' B e size (.slice a' m c') m news → Ext w w' → K (a.put o.dst (.slice a' m c')) w') : o.wp P a w K Q :=
  wp_append ho T B hs (World.ownsRow_nil _ _ _ _) hx hrow h1 (by omega) (by simpa using hbytes) hbase fun v' w' k1 k2 k3 => by
    rw [Nat.zero_add, List.nil_append] at k1
    obtain ⟨a', c', rfl, _⟩ := k1.row
    exact h a' c' w' ⟨k1, fun b hb => by
      rcases k3 with h3 | h3
      · rw [h3] at hb; cases hb
      · rw [h3] at hb
        injection hb with hb
        exact tagAt_ge (by omega)⟩ (Below.grown (Ext.refl w) k2 (Nat.le_refl _) (by intro b hb; cases hb))
theorem rg_append {P : Program} {τ : Nat → Nat} {B tg : Nat} {w : World} {o : Oper} {a : Act} {K : Act → World → Prop} {Q : Exit → Act → World → Prop} {s x : Operand} {t : TypeId}
    (ho : o.op = .call { callee := .builtin .append, args := #[s, x], argTypes := #[t, t] })
    {e : TypeId} {z : Value} {size bytes : Nat} (T : SlTy P t e z size bytes)
    {v : Value} {n : Nat} {xs : List Value} (hs : a.eval s = v) (hown : OwnT τ tg w B e size v n xs)
    {ao : Option Addr} {m c : Nat} {news : List Value} (hx : a.eval x = .slice ao m c) (hrow : Row w size ao m c news)
    (h1 : ∀ u ∈ news, u.oneCell' = true) (h63 : n + m ≤ maxLen) (hbytes : (n + m) * bytes ≤ 140737488355328) (hbase : B ≤ w.heap.size)
    (h : ∀ (a' : Option Addr) (c' : Nat) (w' : World), OwnT (tagAt τ w.heap.size tg) tg w' B e size (.slice a' (n + m) c') (n + m) (xs ++ news) → Nw B tg (τ, w) (tagAt τ w.heap.size tg, w') → Below B w w' → K (a.put o.dst (.slice a' (n + m) c')) w') : o.wp P a w K Q :=
  wp_append ho T B hs hown.own hx hrow h1 h63 hbytes hbase fun v' w' k1 k2 k3 => by
    obtain ⟨a', c', rfl, _⟩ := k1.row
    exact h a' c' w' (hown.app k1 k3) (Nw.app hown k2) (Below.grown (Below.refl _ _) k2 hbase fun b hb => (hown.own.lt b hb).1)
theorem Row.dropT {w : World} {sz : Nat} {b off n cap : Nat} {xs : List Value} (h : Row w sz (some ⟨b, off, none⟩) n cap xs) (k : Nat) (hk : k ≤ n) : Row w sz (some ⟨b, off + k * sz, none⟩) (n - k) (cap - k) (xs.drop (k * sz)) := by
  refine ⟨?_, by have := h.le; omega, by have := h.max; omega, b, off + k * sz, (by intro h; cases h), fun _ => rfl, fun j u hu => ?_⟩
  · rw [List.length_drop, h.len, Nat.sub_mul]
  · rw [List.getElem?_drop] at hu
    have := h.cells _ _ hu
    rwa [← Nat.add_assoc] at this
end Go.Proofs.YtopkbjfjncpjdaaDoor
