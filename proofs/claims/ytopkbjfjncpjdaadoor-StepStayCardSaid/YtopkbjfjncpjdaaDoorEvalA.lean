/- EvalA: what is needed of it. No condition. -/
import Derived.Test.YtopkbjfjncpjdaaDoorEval
namespace Go.Proofs.YtopkbjfjncpjdaaDoor
open Go.RowKit
def AtPost (w : World) (M B : Nat) (ar : Option Addr) (cr : Nat) (env : List Int) (r : Option (List Int)) (e : Ending) (w' : World) : Prop :=
  Below B w w' ∧ match r with
    | some st => e = .returned (.tuple #[]) ∧ Mc w' M B ar cr env st.reverse
    | none => e = .panicked [{ v := errV 8, recovered := false }]
theorem at_of {w : World} {M B : Nat} {ar : Option Addr} {cr : Nat} {env s : List Int} {n : Int} {e : Ending} {w' : World} (h : DoPost w M B ar cr env s.reverse n e w') : AtPost w M B ar cr env ((over n).map (· :: s)) e w' := by
  refine ⟨h.1, ?_⟩
  have := h.2
  unfold over
  split at this
  · rename_i hs
    rw [if_pos hs]
    simpa using this
  · rename_i hs
    rw [if_neg hs]
    exact this
theorem i64_small {n : Int} (h : Small n) : I64 n := by unfold Small at h; unfold I64; omega
theorem do_at (w : World) (M B : Nat) (ar : Option Addr) (cr : Nat) (env st : List Int) (k v : Int) (h : Mc w M B ar cr env st.reverse) (hs : st.length ≤ 800) (henv : ∀ x ∈ env, Small x) (h1 : 1 ≤ k) (h2 : k ≤ 12) (ho : opE (k, v) env.length = 0)
    (hst : (partsOf k = 0 ∧ (k = 1 ∨ k = 2 ∨ k = 11 ∨ k = 12)) ∨ (k = 10 ∧ ∃ x s, st = x :: s ∧ Small x) ∨
        (3 ≤ k ∧ k ≤ 9 ∧ ∃ x y s, st = x :: y :: s ∧ Small x ∧ Small y ∧ (8 ≤ k → (x = 0 ∨ x = 1) ∧ (y = 0 ∨ y = 1)))) :
    Calls Tryd.prog 32 #[.pointer (some ⟨M, 0, none⟩), .agg #[.int .i64 k, .int .i64 v]] w (AtPost w M B ar cr env (doS env k v st)) := by
  have hop : okK k = true := by simp [okK]; omega
  simp only [opE, hop, Bool.true_eq_false, if_false] at ho
  rcases hst with ⟨hp, hk⟩ | ⟨rfl, x, s, rfl, hx⟩ | ⟨hk3, hk9, x, y, s, rfl, hx, hy, h8⟩
  · have hd : doS env k v st = (over (leafV env k v)).map (· :: st) := by unfold doS; rw [if_pos hp]
    rw [hd]
    have hl : st.reverse.length ≤ 900 := by simp; omega
    rcases hk with rfl | rfl | rfl | rfl
    · simp only [if_true] at ho
      exact (do_num w M B ar cr env st.reverse v h hl (by unfold I64; split at ho <;> omega)).mono fun e w' hh => at_of hh
    · simp only [show ¬ (2 : Int) = 1 by omega, if_false, if_true] at ho
      have hv : 0 ≤ v ∧ v < env.length := by split at ho <;> omega
      obtain ⟨n, rfl⟩ : ∃ n : Nat, v = n := ⟨v.toNat, by omega⟩
      have hn : n < env.length := by omega
      have he : leafV env 2 (n : Int) = env[n] := by simp [leafV, hn]
      rw [he]
      exact (do_var w M B ar cr env st.reverse n hn h hl (i64_small (henv _ (by simp)))).mono fun e w' hh => at_of hh
    · simp only [show ¬ (11 : Int) = 1 by omega, show ¬ (11 : Int) = 2 by omega, if_false] at ho
      obtain rfl : v = 0 := by split at ho <;> omega
      exact (do_yes w M B ar cr env st.reverse h hl).mono fun e w' hh => at_of hh
    · simp only [show ¬ (12 : Int) = 1 by omega, show ¬ (12 : Int) = 2 by omega, if_false] at ho
      obtain rfl : v = 0 := by split at ho <;> omega
      exact (do_no w M B ar cr env st.reverse h hl).mono fun e w' hh => at_of hh
  · simp only [show ¬ (10 : Int) = 1 by omega, show ¬ (10 : Int) = 2 by omega, if_false] at ho
    obtain rfl : v = 0 := by split at ho <;> omega
    have hd : doS env 10 0 (x :: s) = (over (1 - x)).map (· :: s) := rfl
    rw [hd]
    rw [List.reverse_cons] at h
    exact (do_not w M B ar cr env s.reverse x h (by simp at hs ⊢; omega) hx).mono fun e w' hh => at_of hh
  · have k1 : ¬ k = 1 := by omega
    have k2 : ¬ k = 2 := by omega
    simp only [k1, k2, if_false] at ho
    obtain rfl : v = 0 := by split at ho <;> omega
    have hl : s.reverse.length ≤ 900 := by simp at hs ⊢; omega
    have hp : partsOf k = 2 := by
      rcases parts_kind h1 h2 with ⟨e, _⟩ | ⟨e, _⟩ | ⟨e, _⟩
      · unfold partsOf at e; rw [if_pos (by omega)] at e; cases e
      · unfold partsOf at e; rw [if_pos (by omega)] at e; cases e
      · exact e
    have hd : doS env k 0 (x :: y :: s) = (over (opV k x y)).map (· :: s) := by unfold doS; rw [if_neg (by omega), if_neg (by omega)]
    rw [hd]
    rw [List.reverse_cons, List.reverse_cons] at h
    have hk : k = 3 ∨ k = 4 ∨ k = 5 ∨ k = 6 ∨ k = 7 ∨ k = 8 ∨ k = 9 := by omega
    rcases hk with rfl | rfl | rfl | rfl | rfl | rfl | rfl
    · exact (do_add w M B ar cr env s.reverse x y h hl hx hy).mono fun e w' hh => at_of hh
    · exact (do_sub w M B ar cr env s.reverse x y h hl hx hy).mono fun e w' hh => at_of hh
    · exact (do_mul w M B ar cr env s.reverse x y h hl hx hy).mono fun e w' hh => at_of hh
    · exact (do_eq w M B ar cr env s.reverse x y h hl).mono fun e w' hh => at_of hh
    · exact (do_lt w M B ar cr env s.reverse x y h hl).mono fun e w' hh => at_of hh
    · exact (do_and w M B ar cr env s.reverse x y h hl (h8 (by omega)).1 (h8 (by omega)).2).mono fun e w' hh => at_of hh
    · exact (do_or w M B ar cr env s.reverse x y h hl (h8 (by omega)).1 (h8 (by omega)).2).mono fun e w' hh => at_of hh
theorem catch_eval (p q : Addr) (c z y : Int) (older : List PanicEntry) (w : World) (hpq : p.block ≠ q.block) (hc : w.cell? p = some (.int .i64 y)) (hz : w.frozen? p = false) (hc2 : w.cell? q = some (.int .i64 z)) (hz2 : w.frozen? q = false) :
    CallsD Tryd.prog 31 #[.pointer (some p), .pointer (some q)] (.panicking ({ v := errV c, recovered := false } :: older)) w fun e u' w' =>
      e = .returned (.tuple #[]) ∧ u' = .panicking ({ v := errV c, recovered := true } :: older) ∧ Two w w' p q (.int .i64 0) (.int .i64 c) := by
  refine callsD_of_wpS Tryd.func31 rfl fun c₀ cs hu => ?_
  apply wpS_seq
  apply wpS_region
  simp [wpOpsS, go_sem, recoverD, hu, Tryd.ntmps31, Exit.thenS]
  refine wpS_of_wp ?_
  rw [show (#[Value.pointer (some p), .pointer (some q)] ++ ((Array.replicate 6 undef).setIfInBounds 1 (errV c)).setIfInBounds 0 (errV c)) = #[.pointer (some p), .pointer (some q), errV c, errV c, undef, undef, undef, undef] from rfl]
  unfold errV
  have hne : p ≠ q := fun e => hpq (by rw [e])
  have hne2 : q ≠ p := Ne.symm hne
  have x1 : (w.setCell p (.int .i64 0)).cell? q = some (.int .i64 z) := by rw [World.cell?_setCell_other (h := hne)]; exact hc2
  have x2 : (w.setCell q (.int .i64 c)).cell? p = some (.int .i64 y) := by rw [World.cell?_setCell_other (h := hne2)]; exact hc
  have hta : ∀ wx : World, (Instr.typeAssert (.iface 31 (.int .i64 c)) 20 31 false).run Tryd.prog wx = .ok (.int .i64 c) wx := fun _ => by kernel_rfl
  go_wp2
  go_region
  exact ⟨rfl, _, rfl, _, by simp [results, Tryd.results31], rfl, rfl, (Two.of hpq hc hc2).drew⟩
theorem idle_eval (p q : Addr) (w : World) :
    CallsD Tryd.prog 31 #[.pointer (some p), .pointer (some q)] .returning w fun e u' w' => e = .returned (.tuple #[]) ∧ u' = .returning ∧ w = w' := by
  refine callsD_of_wpS Tryd.func31 rfl fun c₀ cs hu => ?_
  apply wpS_seq
  apply wpS_region
  simp [wpOpsS, go_sem, recoverD, hu, Tryd.ntmps31, Exit.thenS]
  refine wpS_of_wp ?_
  go_wp2
  cases c₀
  simp_all [bodyPostS, results, Tryd.results31]
end Go.Proofs.YtopkbjfjncpjdaaDoor
