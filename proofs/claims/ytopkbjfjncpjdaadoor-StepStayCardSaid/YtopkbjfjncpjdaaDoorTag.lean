/- General words: who owns which block. Each block bears a tag; what is said of the blocks with one tag stays while others are written. No condition on any program. -/
import Derived.Test.YtopkbjfjncpjdaaDoorMem
namespace Go.Proofs.YtopkbjfjncpjdaaDoor
open Go.RowKit
def Ent (τ : Nat → Nat) (t : Nat) (w : World) (P : World → Prop) : Prop :=
  ∀ w', w.heap.size ≤ w'.heap.size → (∀ b, b < w.heap.size → τ b = t → w'.heap[b]? = w.heap[b]?) → P w'
section
variable {τ τ' : Nat → Nat} {t : Nat} {w w' : World} {P Q : World → Prop}
theorem Ent.now (h : Ent τ t w P) : P w := h w (Nat.le_refl _) fun _ _ _ => rfl
theorem Ent.ext (h : Ent τ t w P) (hE : Ext w w') : Ent τ t w' P := fun x hx hb =>
  h x (Nat.le_trans hE.size hx) fun b h1 h2 => (hb b (Nat.lt_of_lt_of_le h1 hE.size) h2).trans (hE.block b h1)
theorem Ent.grown {row : Option Nat} (h : Ent τ t w P) (hg : w.grownBy w' row) (hr : ∀ b, row = some b → τ b ≠ t) : Ent τ t w' P := fun x hx hb =>
  h x (Nat.le_trans hg.size hx) fun b h1 h2 => (hb b (Nat.lt_of_lt_of_le h1 hg.size) h2).trans (hg.block b h1 fun e => hr b e.symm h2)
theorem Ent.set (h : Ent τ t w P) {p : Addr} (hp : τ p.block ≠ t) (v : Value) : Ent τ t (w.setCell p v) P := fun x hx hb =>
  h x (by simpa using hx) fun b h1 h2 => (hb b (by simpa using h1) h2).trans (Below.heap_setCell _ _ _ _ (fun e => hp (by rw [← e]; exact h2)))
theorem Ent.tag (h : Ent τ t w P) (ht : ∀ b, b < w.heap.size → τ' b = τ b) : Ent τ' t w P := fun x hx hb => h x hx fun b h1 h2 => hb b h1 ((ht b h1).trans h2)
theorem Ent.keep (h : Ent τ t w P) (s : Nat) : Ent (fun b => if b < w.heap.size then τ b else s) t w P := h.tag fun _ hb => if_pos hb
theorem Ent.mono (h : Ent τ t w P) (hPQ : ∀ x, P x → Q x) : Ent τ t w Q := fun x hx hb => hPQ x (h x hx hb)
theorem Ent.and (h : Ent τ t w P) (k : Ent τ t w Q) : Ent τ t w fun x => P x ∧ Q x := fun x hx hb => ⟨h x hx hb, k x hx hb⟩
theorem Ent.both {R : World → Prop} (h : Ent τ t w P) (k : Ent τ t w Q) (f : ∀ x, P x → Q x → R x) : Ent τ t w R := fun x hx hb => f x (h x hx hb) (k x hx hb)
def tagAt (τ : Nat → Nat) (k t : Nat) : Nat → Nat := fun b => if b < k then τ b else t
theorem tagAt_lt {k b : Nat} (h : b < k) : tagAt τ k t b = τ b := if_pos h
theorem tagAt_ge {k b : Nat} (h : k ≤ b) : tagAt τ k t b = t := if_neg (by omega)
structure OwnT (τ : Nat → Nat) (t : Nat) (w : World) (base : Nat) (e : TypeId) (size : Nat) (v : Value) (n : Nat) (xs : List Value) : Prop where
  own : w.ownsRow base e size v n xs
  tag : ∀ b, v.ownBlock = some b → τ b = t
variable {base : Nat} {e : TypeId} {size n : Nat} {v : Value} {xs : List Value}
theorem OwnT.ext (h : OwnT τ t w base e size v n xs) (hE : Ext w w') : OwnT τ t w' base e size v n xs := ⟨own_ext h.own hE, h.tag⟩
theorem OwnT.grown {row : Option Nat} (h : OwnT τ t w base e size v n xs) (hg : w.grownBy w' row) (hr : ∀ b, row = some b → τ b ≠ t) : OwnT τ t w' base e size v n xs :=
  ⟨own_grown h.own hg (by
    cases hv : v.ownBlock with
    | none => exact .inl rfl
    | some b => exact .inr fun e => hr b e.symm (h.tag b hv)), h.tag⟩
theorem OwnT.set (h : OwnT τ t w base e size v n xs) {p : Addr} (hp : τ p.block ≠ t) (u : Value) : OwnT τ t (w.setCell p u) base e size v n xs :=
  ⟨own_setCell h.own u fun e => hp (h.tag _ e), h.tag⟩
theorem OwnT.retag (h : OwnT τ t w base e size v n xs) (ht : ∀ b, b < w.heap.size → τ' b = τ b) : OwnT τ' t w base e size v n xs :=
  ⟨h.own, fun b hb => (ht b (h.own.lt b hb).2).trans (h.tag b hb)⟩
theorem OwnT.keep (h : OwnT τ t w base e size v n xs) (s : Nat) : OwnT (tagAt τ w.heap.size s) t w base e size v n xs := h.retag fun _ hb => tagAt_lt hb
theorem OwnT.nil (τ : Nat → Nat) (t : Nat) (w : World) (base : Nat) (e : TypeId) (size : Nat) : OwnT τ t w base e size (.slice none 0 0) 0 [] := ⟨World.ownsRow_nil _ _ _ _, by simp [Value.ownBlock]⟩
theorem OwnT.reads (h : OwnT τ t w base e size v n xs) : Reads w size v n xs := h.own.reads
theorem OwnT.low (h : OwnT τ t w base e size v n xs) {p : Addr} (hp : p.block < base) (u : Value) : OwnT τ t (w.setCell p u) base e size v n xs :=
  ⟨own_setCell h.own u fun e => by have := (h.own.lt _ e).1; omega, h.tag⟩
theorem OwnT.app {v' : Value} {n' : Nat} {xs' : List Value} (h : OwnT τ t w base e size v n xs) (hown : w'.ownsRow base e size v' n' xs') (hb : v'.ownBlock = v.ownBlock ∨ v'.ownBlock = some w.heap.size) :
    OwnT (tagAt τ w.heap.size t) t w' base e size v' n' xs' :=
  ⟨hown, fun b hv => by
    rcases hb with h1 | h1
    · have h2 := h1 ▸ hv
      rw [tagAt_lt (h.own.lt b h2).2]
      exact h.tag b h2
    · rw [h1] at hv
      injection hv with hv
      exact tagAt_ge (by omega)⟩
theorem Ent.app {s : Nat} {u : Value} {m : Nat} {ys : List Value} {base2 : Nat} {e2 : TypeId} {size2 : Nat} (h : Ent τ t w P) (ho : OwnT τ s w base2 e2 size2 u m ys) (hg : w.grownBy w' u.ownBlock) (hs : s ≠ t) : Ent (tagAt τ w.heap.size s) t w' P :=
  Ent.grown (h.tag fun b hb => tagAt_lt hb) hg fun b hb => by rw [tagAt_lt (ho.own.lt b hb).2, ho.tag b hb]; exact hs
theorem OwnT.other {s : Nat} {u : Value} {m : Nat} {ys : List Value} {base2 : Nat} {e2 : TypeId} {size2 : Nat} (h : OwnT τ t w base e size v n xs) (ho : OwnT τ s w base2 e2 size2 u m ys) (hg : w.grownBy w' u.ownBlock) (hs : s ≠ t) : OwnT (tagAt τ w.heap.size s) t w' base e size v n xs :=
  OwnT.grown (h.retag fun b hb => tagAt_lt hb) hg fun b hb => by rw [tagAt_lt (ho.own.lt b hb).2, ho.tag b hb]; exact hs
theorem OwnT.fresh (τ : Nat → Nat) (t : Nat) {k : Nat} (h : w.ownsRow k e size v n xs) : OwnT (tagAt τ k t) t w k e size v n xs := ⟨h, fun b hb => tagAt_ge (h.lt b hb).1⟩
theorem OwnT.ent (h : OwnT τ t w base e size v n xs) : Ent τ t w fun x => x.ownsRow base e size v n xs := fun x hx hb => by
  refine ⟨h.own.1, ?_⟩
  rcases h.own.2 with hn | ⟨g, cap, cur, rfl, h1, hg, rest⟩
  · exact .inl hn
  · exact .inr ⟨g, cap, cur, rfl, h1, by rw [hb g ((Array.getElem?_eq_some_iff.1 hg).1) (h.tag g rfl)]; exact hg, rest⟩
end
theorem ext_al {a w : World} (h : Ext a w) (o : Obj) : Ext a (w.alloc o) := Below.alloc h h.size o
theorem ext_st {a w : World} (h : Ext a w) {p : Addr} (hp : a.heap.size ≤ p.block) (v : Value) : Ext a (w.setCell p v) := Below.setCell h hp v
theorem blk_cell {w : World} {b i : Nat} {cs : Array Value} {t : TypeId} {v : Value} (h : w.heap[b]? = some (.cells cs t (0, 0))) (hi : cs[i]? = some v) : w.cell? ⟨b, i, none⟩ = some v := by simp [World.cell?, h, hi]
theorem blk_free {w : World} {b : Nat} {cs : Array Value} {t : TypeId} (h : w.heap[b]? = some (.cells cs t (0, 0))) (i : Nat) : w.frozen? ⟨b, i, none⟩ = false := by simp [World.frozen?, h]
theorem blk_lt {w : World} {b : Nat} {o : Obj} (h : w.heap[b]? = some o) : b < w.heap.size := (Array.getElem?_eq_some_iff.1 h).1
theorem blk_ext {w w' : World} {b : Nat} {o : Obj} (h : w.heap[b]? = some o) (hE : Ext w w') : w'.heap[b]? = some o := (hE.block b (blk_lt h)).trans h
theorem blk_below {w w' : World} {B b : Nat} {o : Obj} (h : w.heap[b]? = some o) (hE : Below B w w') (hb : b < B) : w'.heap[b]? = some o := (hE.block b hb).trans h
theorem blk_far {w : World} {b : Nat} {o : Obj} (h : w.heap[b]? = some o) {p : Addr} (hp : p.block ≠ b) (v : Value) : (w.setCell p v).heap[b]? = some o := (Below.heap_setCell _ _ _ _ (Ne.symm hp)).trans h
theorem blk_grown {w w' : World} {b : Nat} {o : Obj} {row : Option Nat} (h : w.heap[b]? = some o) (hg : w.grownBy w' row) (hn : some b ≠ row) : w'.heap[b]? = some o := (hg.block b (blk_lt h) hn).trans h
theorem blk_set {w : World} {b i : Nat} {cs : Array Value} {t : TypeId} (h : w.heap[b]? = some (.cells cs t (0, 0))) (v : Value) : (w.setCell ⟨b, i, none⟩ v).heap[b]? = some (.cells (cs.setIfInBounds i v) t (0, 0)) := by
  have hb := blk_lt h
  have hg : w.heap[b] = .cells cs t (0, 0) := by rw [Array.getElem?_eq_getElem hb] at h; exact Option.some.inj h
  show (w.heap.modify b _)[b]? = _
  rw [Array.getElem?_eq_getElem (by simpa using hb), Array.getElem_modify_self, hg]
  rfl
theorem blk_new (w : World) (o : Obj) : (w.alloc o).heap[w.heap.size]? = some o := heap_alloc_new w o
theorem own_block {w : World} {base : Nat} {e : TypeId} {H off n cap : Nat} {v : Value} {xs : List Value} (h : w.ownsRow base e 1 v n xs) (hv : v = .slice (some ⟨H, off, none⟩) n cap) : off = 0 ∧ ∃ cur : Array Value, w.heap[H]? = some (.cells cur e (0, 0)) ∧ cur.toList.take n = xs := by
  subst hv
  rcases h.2 with ⟨h1, _⟩ | ⟨g, c, cur, h1, _, h3, _, _, _, h7⟩
  · cases h1
  · simp only [Value.slice.injEq, Option.some.injEq, Addr.mk.injEq] at h1
    obtain ⟨⟨rfl, rfl, _⟩, _, rfl⟩ := h1
    exact ⟨rfl, cur, h3, by simpa using h7⟩
theorem own_cellAt {w : World} {base : Nat} {e : TypeId} {H n cap i : Nat} {xs : List Value} (h : w.ownsRow base e 1 (.slice (some ⟨H, 0, none⟩) n cap) n xs) (hi : i < xs.length) : w.cell? ⟨H, i, none⟩ = some xs[i] := by
  obtain ⟨_, cur, h1, h2⟩ := own_block h rfl
  subst h2
  have h3 : i < cur.size := by simp at hi; omega
  rw [blk_cell h1 (v := cur[i]) (by rw [Array.getElem?_eq_getElem h3])]
  simp
theorem own_freeAt {w : World} {base : Nat} {e : TypeId} {H n cap : Nat} {xs : List Value} (h : w.ownsRow base e 1 (.slice (some ⟨H, 0, none⟩) n cap) n xs) (i : Nat) : w.frozen? ⟨H, i, none⟩ = false := by
  obtain ⟨_, cur, h1, h2⟩ := own_block h rfl
  exact blk_free h1 i
theorem own_setAt {w : World} {base : Nat} {e : TypeId} {H n cap i : Nat} {xs : List Value} (h : w.ownsRow base e 1 (.slice (some ⟨H, 0, none⟩) n cap) n xs) (u : Value) : (w.setCell ⟨H, i, none⟩ u).ownsRow base e 1 (.slice (some ⟨H, 0, none⟩) n cap) n (xs.set i u) := by
  refine ⟨by simpa using h.1, ?_⟩
  rcases h.2 with ⟨h1, _⟩ | ⟨g, c, cur, h1, h2, h3, h4, h5, h6, h7⟩
  · cases h1
  · have h1' := h1
    simp only [Value.slice.injEq, Option.some.injEq, Addr.mk.injEq] at h1'
    obtain ⟨⟨rfl, _, _⟩, _, rfl⟩ := h1'
    exact .inr ⟨_, _, cur.setIfInBounds i u, rfl, h2, blk_set h3 u, h4, h5, by simpa using h6, by rw [Array.toList_setIfInBounds, List.take_set, h7]⟩
theorem OwnT.setAt {τ : Nat → Nat} {t : Nat} {w : World} {base : Nat} {e : TypeId} {H n cap i : Nat} {xs : List Value} (h : OwnT τ t w base e 1 (.slice (some ⟨H, 0, none⟩) n cap) n xs) (u : Value) : OwnT τ t (w.setCell ⟨H, i, none⟩ u) base e 1 (.slice (some ⟨H, 0, none⟩) n cap) n (xs.set i u) := ⟨own_setAt h.own u, h.tag⟩
end Go.Proofs.YtopkbjfjncpjdaaDoor
