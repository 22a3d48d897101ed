/- ShRe: what is needed of it. No condition. -/
import Derived.Test.YtfcaomejbcjfgaaGreatDoorKxShRd
namespace Go.Proofs.YtfcaomejbcjfgaaGreatDoor
open Go Go.RowKit Go.Shelf
theorem linesL_mem : ∀ (n : Nat) (l : List UInt8), l.length ≤ n → ∀ x ∈ linesL l, x.length ≤ l.length
  | 0, l, h, x, hx => by
    have : l = [] := List.length_eq_zero_iff.1 (by omega)
    subst this; simp [linesL_nil] at hx
  | n + 1, l, h, x, hx => by
    by_cases e : l = []
    · subst e; simp [linesL_nil] at hx
    · have h1 := cutN_rest e
      have h2 := congrArg List.length (cutN_app l)
      rw [linesL_more e] at hx
      rcases List.mem_cons.1 hx with rfl | hx
      · simp at h2; omega
      · have := linesL_mem n (cutN l).2 (by omega) x hx
        omega
theorem ops_nil (w : World) : Ops w (.slice none 0 0) [] := (OwnT.nil (fun _ => 1) 0 w 0 79 2).reads
theorem noRt_small : SmallT 0 noRt := ⟨Nat.le_refl _, Nat.le_refl _, Nat.le_refl _, fun r hr => by cases hr⟩
theorem PadM.new {W : World} {p B : Nat} (hp : p < B) (hB : B ≤ W.heap.size) (h : W.heap[p]? = some (.cells #[.slice none 0 0, .slice none 0 0, .slice none 0 0, .slice none 0 0] 70 (0, 0))) :
    PadM (fun _ => 1, W) p B noRt (.slice none 0 0) (.slice none 0 0) (.slice none 0 0) (.slice none 0 0) :=
  ⟨hp, h, EachO.nil _ _ _ _ _ _, ⟨[], rfl, OwnT.nil _ _ _ _ _ _, fun i c r p => by simp at p⟩, EachO.nil _ _ _ _ _ _, ⟨fun x _ _ => ops_nil x, fun _ _ => Nat.one_ne_zero, hB⟩⟩
def lineEnd (w : World) (o : Obj) (xs : List (List UInt8)) (W : World) : Exit → Act → World → Prop
  | .normal, _, W' => RdI w o xs W' ∧ W'.heap[w.heap.size + 3]? = W.heap[w.heap.size + 3]?
  | _, _, _ => False
theorem wpIn_readLines {n : Nat} {g : Operand} {ps : Array Tmp} {assign body : Code} {Q : Exit → Act → World → Prop} {a : Act} {w W0 : World} (hn : 2 ≤ n)
    (hg : a.eval g = .func (.func 31) #[] #[.pointer (some ⟨w.heap.size + 3, 0, none⟩)]) (hps : ps.size = 1) (s : List UInt8) (hs : s.length ≤ 10000)
    (hD : W0.heap.size = w.heap.size + 4) (hlow : Ext w W0)
    (hres : W0.heap[w.heap.size]? = some (.cells #[.slice none 0 0, .slice none 0 0, .slice none 0 0, .slice none 0 0] 34 (0, 0)))
    (hpad : W0.heap[w.heap.size + 1]? = some (.cells #[.slice none 0 0, .slice none 0 0, .slice none 0 0, .slice none 0 0] 70 (0, 0)))
    (hbox : W0.heap[w.heap.size + 2]? = some (.cells #[.pointer (some ⟨w.heap.size + 1, 0, none⟩)] 68 (0, 0)))
    (htxt : W0.heap[w.heap.size + 3]? = some (.cells #[.string ⟨s.toArray⟩] 9 (0, 0)))
    (a₁ : List UInt8 → Act)
    (hassign : ∀ (x : List UInt8) (W : World) (K : Act → World → Prop), K (a₁ x) W →
      assign.wpIn (Fence.wide.inRound (w.heap.size + 5)) (n - 1 - 1) Tryz.prog (Exit.then K (fun _ _ _ => False)) { tmps := (ps.zip #[.string ⟨x.toArray⟩]).foldl (fun t (p, v) => t.setIfInBounds p v) a.tmps, defers := [] } W)
    (hbody : ∀ (o : Obj) (pre : List (List UInt8)) (x : List UInt8) (W : World), RdI w o pre W → pre.length ≤ 10000 → x.length ≤ 10000 →
      body.wpIn (Fence.wide.inRound (w.heap.size + 5)) (n - 1 - 1) Tryz.prog (lineEnd w o (pre ++ [x]) W) (a₁ x) W)
    (hdone : ∀ (o : Obj) (W : World), RdI w o (linesL s) W → Q .normal { a with defers := { target := .collected (w.heap.size + 4), args := #[] } :: a.defers } W) :
    (Code.rangeFunc g ps assign body).wpIn Fence.wide n Tryz.prog Q a W0 := by
  refine wpIn_rangeFunc ?_
  intro fn hfn
  rw [show Fence.wide.round = none from rfl]
  obtain ⟨rec, hrec⟩ : ∃ rec : LoopState → Option Code → Loop, rec = fun st pe => { state := st, pending := pe, fn, tmps := a.tmps, params := ps, assign, body, defers := w.heap.size + 4 } := ⟨_, rfl⟩
  obtain ⟨W1, hW1⟩ : ∃ W1, (W0.alloc (.deferred (some []))).alloc (.loop (rec .ready none)) = W1 := ⟨_, rfl⟩
  have hold : ∀ k, k < w.heap.size + 4 → W1.heap[k]? = W0.heap[k]? := fun k hk => by
    rw [← hW1]; exact (Below.heap_alloc _ _ k (by simp; omega)).trans (Below.heap_alloc _ _ k (by omega))
  have hsz : W1.heap.size = w.heap.size + 6 := by rw [← hW1]; simp; omega
  have hI1 : RdI w (.loop (rec .ready none)) [] W1 := by
    refine ⟨⟨fun _ => 1, _, _, _, _, fun _ _ => Nat.one_ne_zero, PadM.new (by omega) (by omega) ((hold _ (by omega)).trans hpad)⟩, ?_, by omega, (hold _ (by omega)).trans hres, (hold _ (by omega)).trans hbox, ?_, ?_, noRt_small⟩
    · rw [← hW1]; exact ext_al (ext_al hlow _) _
    · rw [← hW1]; have := World.alloc_heap_new (W0.alloc (.deferred (some []))) (.loop (rec .ready none)); rw [World.size_alloc, hD] at this; exact this
    · have h1 := World.alloc_heap_new W0 (.deferred (some []))
      rw [hD] at h1
      rw [← hW1]
      exact (Below.heap_alloc (W0.alloc (.deferred (some []))) (.loop (rec .ready none)) (w.heap.size + 4) (by simp; omega)).trans h1
  refine ⟨w.heap.size + 5, [{ target := .collected (w.heap.size + 4), args := #[] }], W1, { target := .fn (.func 31) #[.pointer (some ⟨w.heap.size + 3, 0, none⟩)], args := #[.func (.yield (w.heap.size + 5)) #[] #[]] }, W1, 31,
    #[.func (.yield (w.heap.size + 5)) #[] #[], .pointer (some ⟨w.heap.size + 3, 0, none⟩)], W1, ?_, ?_, ?_, ?_, fun _ => by omega, ?_⟩
  · have := run_enterLoop_outer (P := Tryz.prog) (w := W0) fn a.tmps ps assign body
    rw [hD] at this
    rw [this, ← hW1, hrec]
  · simp only [resolve, hg]
    simp [go_sem]
  · intro f' hf'; simp [Target.leads] at hf'; subst hf'; trivial
  · simp [invoke, go_sem]
  · refine (lines1_any (n - 1) (w.heap.size + 5) (w.heap.size + 3) (by omega) (linesL s) (RdI w (.loop (rec .ready none))) (fun pre W v h => h.set v) (fun pre W h => h.drew) ?_ s rfl (by omega) W1 ((hold _ (by omega)).trans htxt) hI1).mono ?_
    · intro pre x rest W hS hI
      have hpl : pre.length ≤ 10000 := by have := congrArg List.length hS; have := linesL_len _ s (Nat.le_refl _); simp at *; omega
      have hxl : x.length ≤ 10000 := by have := linesL_mem _ s (Nat.le_refl _) x (by rw [hS]; simp); omega
      have hl := hI.loop
      have hy := run_yield (P := Tryz.prog) (args := #[.string ⟨x.toArray⟩]) hl (by rw [hrec]; simpa using hps.symm)
      rw [hrec] at hy
      refine ⟨fn, _, assign, body, hy, roundIn_of_wpIn hfn (hassign x W _ ⟨_, run_beginRound hl (by rw [hrec]), ?_⟩)⟩
      refine wpIn_mono (hbody _ pre x _ (hI.put _) hpl hxl) ?_
      rintro e a3 W3 hp
      cases e <;> simp only [lineEnd] at hp
      obtain ⟨hp, hq⟩ := hp
      have hr := run_endRound (P := Tryz.prog) none hp.loop
      have hfin := hp.put (.loop (rec .ready none))
      rw [hrec] at hr hfin ⊢
      exact ⟨_, _, hr, rfl, hfin, (World.putObj_heap_other (by omega)).trans (hq.trans (World.putObj_heap_other (by omega)))⟩
    · rintro e W2 ⟨⟨v, rfl⟩, hI⟩
      have hr := run_endLoop (P := Tryz.prog) hI.loop (by rw [hrec]; simp)
      rw [hrec] at hr
      exact ⟨none, _, hr, hdone _ _ (hI.put _)⟩
end Go.Proofs.YtfcaomejbcjfgaaGreatDoor
