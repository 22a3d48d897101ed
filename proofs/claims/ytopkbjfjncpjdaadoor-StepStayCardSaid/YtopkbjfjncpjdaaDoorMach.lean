/- Mach: what is needed of it. No condition. -/
import Derived.Test.YtopkbjfjncpjdaaDoorFitC
import Derived.WalkSmall
namespace Go.Proofs.YtopkbjfjncpjdaaDoor
open Go.RowKit
structure Mc (w : World) (M B : Nat) (ar : Option Addr) (cr : Nat) (env st : List Int) : Prop where
  c0 : ∃ ao co, w.cell? ⟨M, 0, none⟩ = some (.slice ao st.length co) ∧ w.ownsRow B 3 1 (.slice ao st.length co) st.length (st.map (.int .i64)) ∧ (Value.slice ao st.length co).ownBlock ≠ some M
  c1 : w.cell? ⟨M, 1, none⟩ = some (.slice ar env.length cr)
  fz : ∀ i, w.frozen? ⟨M, i, none⟩ = false
  row : Row w 1 ar env.length cr (env.map (.int .i64))
  old : ∀ q, ar = some q → 0 < env.length → q.block < B
  new : B ≤ M
theorem Mc.ext {w w' : World} {M B : Nat} {ar : Option Addr} {cr : Nat} {env st : List Int} (h : Mc w M B ar cr env st) (hb : Ext w w') : Mc w' M B ar cr env st := by
  have hG := World.block_lt_of_cell? _ _ h.c1
  have hk := hb.block M hG
  obtain ⟨ao, co, h5, h6, h7⟩ := h.c0
  exact ⟨⟨ao, co, cells_of h5 hk, own_ext h6 hb, h7⟩, cells_of h.c1 hk, fun i => (World.frozen?_of_block (w := w) hk).trans (h.fz i), h.row.ext hb, h.old, h.new⟩
theorem Mc.lt {w : World} {M B : Nat} {ar : Option Addr} {cr : Nat} {env st : List Int} (h : Mc w M B ar cr env st) : M < w.heap.size := World.block_lt_of_cell? _ _ h.c1
theorem Mc.put {w : World} {M B : Nat} {ar : Option Addr} {cr : Nat} {env st : List Int} (h : Mc w M B ar cr env st) {st' : List Int} {a' : Option Addr} {m c' : Nat} (hm : m = st'.length)
    (ho : w.ownsRow B 3 1 (.slice a' m c') m (st'.map (.int .i64))) (hn : (Value.slice a' m c').ownBlock ≠ some M) : Mc (w.setCell ⟨M, 0, none⟩ (.slice a' m c')) M B ar cr env st' := by
  obtain ⟨ao, co, h5, _, _⟩ := h.c0
  have hG := h.new
  subst hm
  exact ⟨⟨a', c', cell_set h5, own_setCell ho _ hn, hn⟩, cell_set_ne h.c1 (by omega), fun i => (World.frozen?_setCell _ _ _ _).trans (h.fz i),
    row_setCell h.row _ (fun q hq hx => by have := h.old q hq (by simpa using hx); show q.block ≠ M; omega), h.old, h.new⟩
theorem int_row {w : World} {a : Option Addr} {cap : Nat} {l : List Int} (h : Row w 1 a l.length cap (l.map (.int .i64))) : ∃ b off, (0 < l.length → a = some ⟨b, off, none⟩) ∧ ∀ (i : Nat) (hi : i < l.length), w.cell? ⟨b, off + i, none⟩ = some (.int .i64 l[i]) := by
  obtain ⟨b, off, _, h2, h3⟩ := h.lie
  refine ⟨b, off, fun hl => h2 (by simpa using hl), fun i hi => h3 i _ (by simp [hi])⟩
set_option maxRecDepth 100000 in
set_option maxHeartbeats 1000000 in
theorem pop_any (w : World) (M B : Nat) (ar : Option Addr) (cr : Nat) (env s : List Int) (n : Int) (h : Mc w M B ar cr env (s ++ [n])) (hs : s.length ≤ 1000) :
    Calls Tryd.prog 33 #[.pointer (some ⟨M, 0, none⟩)] w fun e w' =>
      e = .returned (.int .i64 n) ∧ Mc w' M B ar cr env s ∧ w.grownBy w' (some M) := by
  obtain ⟨ao, co, c0, h6, h7⟩ := h.c0
  have hg : ∃ g, ao = some ⟨g, 0, none⟩ ∧ B ≤ g ∧ s.length + 1 ≤ co ∧ w.cell? ⟨g, s.length, none⟩ = some (.int .i64 n) := by
    rcases h6.2 with ⟨_, hn⟩ | ⟨g, cap, cur, hv, hb, hgg, hnc, hcm, hcs, ht⟩
    · simp at hn
    · simp only [Value.slice.injEq] at hv
      obtain ⟨rfl, _, rfl⟩ := hv
      refine ⟨g, rfl, hb, by simpa using hnc, ?_⟩
      have := h6.cells (g := g) rfl s.length (.int .i64 n) (by simp)
      simpa [Addr.add_lit] using this
  obtain ⟨g, rfl, hBg, hco, cg⟩ := hg
  have gz := h.fz 0
  simp only [List.length_append, List.length_singleton] at c0 h7
  have H := Lib.hid h
  have hMlt := h.lt
  simp only [List.length_append, List.length_singleton, List.map_append, List.map_cons, List.map_nil] at h6
  have H6 := Lib.hid (ownsRow_pop (size := 1) (by simp) h6)
  have H7 := Lib.hid h7
  have hcm : co ≤ maxLen := by obtain ⟨a, c, e, hr⟩ := h6.row; simp only [Value.slice.injEq] at e; obtain ⟨_, _, rfl⟩ := e; exact hr.max
  unfold maxLen at hcm
  clear h h6 h7
  go_enter Tryd.func33, Tryd.ntmps33
  go_wp2_with fail
  go_quiet (fail)
  go_wp2_with fail
  refine region_tail 14 (by kernel_rfl) (by kernel_rfl) ?_
  simp only [List.take_succ_cons, List.take_zero, List.drop_succ_cons, List.drop_zero]
  repeat still_step
  have hwr : IntKind.i64.wrap (s.length : Int) = (s.length : Int) := IntWalk.i64_in _ (by omega)
  have hle : s.length ≤ co := by omega
  simp only [hwr]
  repeat still_step
  try refine wpStill_nil ?_
  go_wp2
  go_ret
  have hE : Ext w (w.drewN (nq + 1)) := below_drewN (Ext.refl w) _
  exact ⟨rfl, (H.out.ext hE).put rfl (own_ext H6.out hE) (by simpa [Value.ownBlock] using H7.out), ⟨rfl, rfl, rfl, by simp, fun i hi hn => Below.heap_setCell _ _ _ _ (fun e => hn (by rw [e]))⟩⟩
theorem flag_fn (b : Bool) (w : World) : Calls Tryd.prog 43 #[.bool b] w fun e w' => e = .returned (.int .i64 (if b then 1 else 0)) ∧ w = w' := by
  cases b
  all_goals
    go_enter Tryd.func43, Tryd.ntmps43
    go_wp2
    go_ret
    exact ⟨rfl, rfl⟩
end Go.Proofs.YtopkbjfjncpjdaaDoor
