/- ShRd: what is needed of it. No condition. -/
import Derived.Test.YtfcaomejbcjfgaaGreatDoorKxShRi
import Derived.Test.YtfcaomejbcjfgaaGreatDoorKx22
import Derived.RangeFuncRecord
namespace Go.Proofs.YtfcaomejbcjfgaaGreatDoor
open Go Go.RowKit Go.Shelf
theorem PadM.keep {x x' : TW} {p B : Nat} {t : Rt} {vv rv pv fv : Value} (h : PadM x p B t vv rv pv fv) (k : Nw B 9 x x') (hp : x'.2.heap[p]? = x.2.heap[p]?) : PadM x' p B t vv rv pv fv :=
  ⟨h.low, hp.trans h.blk, h.vars.nw k (by decide) (by decide), h.rules.nw k (by decide) (by decide) (fun i _ => by omega), h.props.nw k (by decide) (by decide), k.ent h.form (by decide)⟩
theorem nw_put (τ : Nat → Nat) (W : World) {B r t : Nat} (o : Obj) (hr : r < B) : Nw B t (τ, W) (τ, W.putObj r o) :=
  ⟨by simp, fun _ _ => rfl, fun b h1 _ _ => World.putObj_heap_other (by omega)⟩
theorem nw_heap (τ : Nat → Nat) {W W' : World} {B t : Nat} (h : W'.heap = W.heap) : Nw B t (τ, W) (τ, W') :=
  ⟨by simp [h], fun _ _ => rfl, fun b _ _ _ => by simp [h]⟩
structure RdI (w : World) (o : Obj) (pre : List (List UInt8)) (W : World) : Prop where
  pad : ∃ τ vv rv pv fv, (∀ b, b < w.heap.size + 6 → τ b ≠ 0) ∧ PadM (τ, W) (w.heap.size + 1) (w.heap.size + 6) (rdAll noRt pre) vv rv pv fv
  low : Ext w W
  sz : w.heap.size + 6 ≤ W.heap.size
  res : W.heap[w.heap.size]? = some (.cells #[.slice none 0 0, .slice none 0 0, .slice none 0 0, .slice none 0 0] 34 (0, 0))
  box : W.heap[w.heap.size + 2]? = some (.cells #[.pointer (some ⟨w.heap.size + 1, 0, none⟩)] 68 (0, 0))
  loop : W.heap[w.heap.size + 5]? = some o
  dfr : W.heap[w.heap.size + 4]? = some (.deferred (some []))
  small : SmallT pre.length (rdAll noRt pre)
theorem Ext.put {w W : World} {r : Nat} (h : Ext w W) (o : Obj) (hr : w.heap.size ≤ r) : Ext w (W.putObj r o) :=
  ⟨h.os, h.tape, h.output, by simpa using h.size, fun b hb => (World.putObj_heap_other (by omega)).trans (h.block b hb)⟩
theorem RdI.put {w W : World} {o : Obj} {pre : List (List UInt8)} (h : RdI w o pre W) (o' : Obj) : RdI w o' pre (W.putObj (w.heap.size + 5) o') := by
  obtain ⟨τ, vv, rv, pv, fv, h1, h2⟩ := h.pad
  have hs := h.sz
  exact ⟨⟨τ, vv, rv, pv, fv, h1, h2.keep (nw_put τ W o' (by omega)) (World.putObj_heap_other (by omega))⟩, Ext.put h.low o' (by omega), by simpa using hs,
    (World.putObj_heap_other (by omega)).trans h.res, (World.putObj_heap_other (by omega)).trans h.box, World.putObj_heap_same (by omega), (World.putObj_heap_other (by omega)).trans h.dfr, h.small⟩
theorem RdI.set {w W : World} {o : Obj} {pre : List (List UInt8)} (h : RdI w o pre W) (v : Value) : RdI w o pre (W.setCell ⟨w.heap.size + 3, 0, none⟩ v) := by
  obtain ⟨τ, vv, rv, pv, fv, h1, h2⟩ := h.pad
  have hs := h.sz
  have ne : ∀ k, k ≠ w.heap.size + 3 → (W.setCell ⟨w.heap.size + 3, 0, none⟩ v).heap[k]? = W.heap[k]? := fun k hk => Below.heap_setCell _ _ _ _ hk
  exact ⟨⟨τ, vv, rv, pv, fv, h1, h2.keep (Nw.store τ W (p := ⟨w.heap.size + 3, 0, none⟩) (by show w.heap.size + 3 < _; omega) v) (ne _ (by omega))⟩, ext_st h.low (p := ⟨w.heap.size + 3, 0, none⟩) (by show _ ≤ w.heap.size + 3; omega) v, by simpa using hs,
    (ne _ (by omega)).trans h.res, (ne _ (by omega)).trans h.box, (ne _ (by omega)).trans h.loop, (ne _ (by omega)).trans h.dfr, h.small⟩
theorem RdI.drew {w W : World} {o : Obj} {pre : List (List UInt8)} (h : RdI w o pre W) : RdI w o pre W.drew := by
  obtain ⟨τ, vv, rv, pv, fv, h1, h2⟩ := h.pad
  exact ⟨⟨τ, vv, rv, pv, fv, h1, h2.keep (nw_heap τ rfl) rfl⟩, Below.drew h.low, h.sz, h.res, h.box, h.loop, h.dfr, h.small⟩
theorem PadF.old {p B k : Nat} {w w' : World} (h : PadF p B w w') (h1 : k ≠ p) (h2 : k < B) : w'.heap[k]? = w.heap[k]? := by
  by_cases hk : k < p
  · exact h.below.block k hk
  · exact h.mid k (by omega) h2
theorem RdI.line {w W wy w' : World} {o : Obj} {pre : List (List UInt8)} (h : RdI w o pre W) (x : List UInt8) (hE : Ext W wy) (hL : LineP (w.heap.size + 1) (w.heap.size + 6) wy w' (lineR (rdAll noRt pre) (wordsB ⟨x.toArray⟩))) :
    RdI w o (pre ++ [x]) w' ∧ w'.heap[w.heap.size + 3]? = W.heap[w.heap.size + 3]? := by
  obtain ⟨hF, τ, vv, rv, pv, fv, h1, h2⟩ := hL
  have hs := h.sz
  have old : ∀ k, k ≠ w.heap.size + 1 → k < w.heap.size + 6 → w'.heap[k]? = W.heap[k]? := fun k hk hk2 => (hF.old hk hk2).trans (hE.block k (by omega))
  refine ⟨⟨⟨τ, vv, rv, pv, fv, h1, by rw [rdAll_snoc]; exact h2⟩, ?_, by have := hF.size; have := hE.size; omega, (old _ (by omega) (by omega)).trans h.res, (old _ (by omega) (by omega)).trans h.box, (old _ (by omega) (by omega)).trans h.loop, (old _ (by omega) (by omega)).trans h.dfr, ?_⟩, old _ (by omega) (by omega)⟩
  · exact Below.trans (Below.trans h.low (Below.mono hE (by omega))) (Below.mono hF.below (by omega))
  · rw [rdAll_snoc]
    have := h.small.line (wordsB ⟨x.toArray⟩)
    simpa using this
theorem lines_any (s : ByteArray) (w : World) :
    Calls Tryz.prog 18 #[.string s] w fun e w' => e = .returned (.func (.func 31) #[] #[.pointer (some ⟨w.heap.size, 0, none⟩)]) ∧ w' = w.alloc (.cells #[.string s] 9) := by
  go_enter Tryz.func18, Tryz.ntmps18
  have hmf : ∀ (fn : Fn) (first cap : Array Value) (w : World), (Instr.makeFunc fn first cap).run Tryz.prog w = .ok (.func fn first cap) w := fun _ _ _ _ => rfl
  go_wp2
  go_ret
  exact ⟨rfl, rfl⟩
end Go.Proofs.YtfcaomejbcjfgaaGreatDoor
