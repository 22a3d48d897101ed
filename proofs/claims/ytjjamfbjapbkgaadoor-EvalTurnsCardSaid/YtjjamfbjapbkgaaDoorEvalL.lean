/- What the laws of expr.Eval need of a term; an argument that is an array of three ints. -/
import Derived.Test.YtjjamfbjapbkgaaDoorEnv
namespace Go.Proofs.YtjjamfbjapbkgaaDoor
open Go.RowKit

structure Ex (t : Tm) (m : Nat) (b : Bool) (env : List Int) (r : Option Int) : Prop where
  sub : Sub t 3
  size : t.size ≤ m
  kind : mkK t.kind = b
  val : evalT env t = r

theorem Ex.two {a b : Tm} {m n : Nat} {p q : Bool} {env : List Int} {r s : Option Int} (ha : Ex a m p env r) (hb : Ex b n q env s) (k : Int) (hk : 3 ≤ k ∧ k ≤ 9) (hp : p = tkK k) (hq : q = tkK k) :
    Ex (.n2 k 0 a b) (m + n + 1) (mkK k) env (s.bind fun y => r.bind fun x => over (opV k x y)) :=
  ⟨⟨ok_n2 hk ha.sub.ok hb.sub.ok, good_n2 (by omega) (by omega) ha.sub.good hb.sub.good, by simp [Tm.typed, ha.sub.typed, hb.sub.typed, ha.kind, hb.kind, hp, hq]⟩,
    by have := ha.size; have := hb.size; simp only [Tm.size]; omega, rfl, by simp [evalT, ha.val, hb.val]⟩

theorem Ex.not {a : Tm} {m : Nat} {env : List Int} {r : Option Int} (ha : Ex a m true env r) : Ex (.n1 10 0 a) (m + 1) true env (r.bind fun x => over (1 - x)) :=
  ⟨⟨ok_n1 ha.sub.ok, good_n1 (by omega) (by omega) ha.sub.good, by have : tkK 10 = true := rfl; simp [Tm.typed, ha.sub.typed, ha.kind, this]⟩,
    by have := ha.size; simp only [Tm.size]; omega, rfl, by simp [evalT, ha.val]⟩

/-- .. with what the parts come to. -/
theorem Ex.two' {a b : Tm} {m n : Nat} {p q : Bool} {env : List Int} {x y : Int} (ha : Ex a m p env (some x)) (hb : Ex b n q env (some y)) (k : Int) (hk : 3 ≤ k ∧ k ≤ 9) (hp : p = tkK k) (hq : q = tkK k) (j : Nat) (hj : m + n + 1 ≤ j) (bb : Bool) (hbb : bb = mkK k) (z : Int) (hz : opV k x y = z) (hs : Small z) :
    Ex (.n2 k 0 a b) j bb env (some z) := by
  have h := ha.two hb k hk hp hq
  subst hbb
  exact ⟨h.sub, by have := h.size; omega, h.kind, by rw [h.val]; show over (opV k x y) = _; rw [hz]; exact over_of hs⟩

theorem Ex.not' {a : Tm} {m : Nat} {env : List Int} {x : Int} (ha : Ex a m true env (some x)) (j : Nat) (hj : m + 1 ≤ j) (z : Int) (hz : 1 - x = z) (hs : Small z) : Ex (.n1 10 0 a) j true env (some z) := by
  have h := ha.not
  exact ⟨h.sub, by have := h.size; omega, h.kind, by rw [h.val]; show over (1 - x) = _; rw [hz]; exact over_of hs⟩

theorem ex_num (raw : List Op2) (x y z : Int) : ∃ n, Ex (numO raw 3) 7 false (envL x y z) (some n) ∧ n.natAbs ≤ 4096 := by
  have h := fit_num raw 3 (by omega)
  obtain ⟨n, h1, h2⟩ := numO_eval x y z raw 3
  exact ⟨n, ⟨⟨h.ok, h.good, h.typed⟩, h.size, h.kind, h1⟩, h2⟩

theorem ex_tru (raw : List Op2) (x y z : Int) : ∃ n, Ex (truO raw 3) 26 true (envL x y z) (some n) ∧ (n = 0 ∨ n = 1) := by
  have h := fit_tru raw 3 (by omega)
  obtain ⟨n, h1, h2⟩ := truO_eval x y z raw 3
  exact ⟨n, ⟨⟨h.ok, h.good, h.typed⟩, h.size, h.kind, h1⟩, h2⟩

theorem eval_ex (v ve : Value) (t : Tm) (env : List Int) (w : World) (h : IsT w v t) (he : Ints w ve env) (ht : Tab w) {m : Nat} {b : Bool} {r : Option Int} (hx : Ex t m b env r) (hm : m ≤ 60) (h3 : env.length = 3) (henv : ∀ x ∈ env, Small x) :
    Calls Tryd.prog 24 #[v, ve] w (EvalPost w r) := by
  have hs := hx.sub
  have e3 : (3 : Int) = env.length := by omega
  rw [e3] at hs
  rw [← hx.val]
  exact eval_t v ve t env w h he ht hs (by have := hx.size; omega) (by omega) henv

theorem eval_ok (v ve : Value) (t : Tm) (env : List Int) (w : World) (h : IsT w v t) (he : Ints w ve env) (ht : Tab w) {m : Nat} {b : Bool} {n : Int} (hx : Ex t m b env (some n)) (hm : m ≤ 60) (h3 : env.length = 3) (henv : ∀ x ∈ env, Small x) :
    Calls Tryd.prog 24 #[v, ve] w fun e w' => e = .returned (.tuple #[.int .i64 n, .int .i64 0]) ∧ Ext w w' :=
  (eval_ex v ve t env w h he ht hx hm h3 henv).mono fun _ _ h => ⟨h.2, h.1⟩

theorem eval_bad (v ve : Value) (t : Tm) (env : List Int) (w : World) (h : IsT w v t) (he : Ints w ve env) (ht : Tab w) {m : Nat} {b : Bool} (hx : Ex t m b env none) (hm : m ≤ 60) (h3 : env.length = 3) (henv : ∀ x ∈ env, Small x) :
    Calls Tryd.prog 24 #[v, ve] w fun e w' => e = .returned (.tuple #[.int .i64 0, .int .i64 8]) ∧ Ext w w' :=
  (eval_ex v ve t env w h he ht hx hm h3 henv).mono fun _ _ h => ⟨h.2, h.1⟩

theorem ex_lit (env : List Int) (n : Int) (h1 : -1000 ≤ n) (h2 : n ≤ 1000) : Ex (.n0 1 n) 1 false env (some n) := by
  refine ⟨⟨⟨by omega, by omega, by decide⟩, fun o ho => ?_, rfl⟩, Nat.le_refl _, rfl, over_of (by unfold Small; show -1000000 ≤ n ∧ n ≤ 1000000; omega)⟩
  simp only [Tm.flat, List.mem_singleton] at ho
  subst ho
  simp [opE, okK]
  omega

theorem sub_lit (n vars : Int) (h1 : -1000 ≤ n) (h2 : n ≤ 1000) : Sub (.n0 1 n) vars := by
  refine ⟨⟨by omega, by omega, by decide⟩, fun o ho => ?_, rfl⟩
  simp only [Tm.flat, List.mem_singleton] at ho
  subst ho
  simp [opE, okK]
  omega

/-- .. where one of the parts is too great. -/
theorem Ex.bad {a b : Tm} {m n : Nat} {p q : Bool} {env : List Int} {r s : Option Int} (ha : Ex a m p env r) (hb : Ex b n q env s) (h : r = none ∨ s = none) (k : Int) (hk : 3 ≤ k ∧ k ≤ 9) (hp : p = tkK k) (hq : q = tkK k) (j : Nat) (hj : m + n + 1 ≤ j) (bb : Bool) (hbb : bb = mkK k) :
    Ex (.n2 k 0 a b) j bb env none := by
  have hh := ha.two hb k hk hp hq
  subst hbb
  refine ⟨hh.sub, by have := hh.size; omega, hh.kind, ?_⟩
  rw [hh.val]
  rcases h with rfl | rfl
  · cases s <;> rfl
  · rfl

/-- .. whatever it comes to. -/
theorem Ex.any {a b : Tm} {m n : Nat} {p q : Bool} {env : List Int} {x y : Int} (ha : Ex a m p env (some x)) (hb : Ex b n q env (some y)) (k : Int) (hk : 3 ≤ k ∧ k ≤ 9) (hp : p = tkK k) (hq : q = tkK k) (j : Nat) (hj : m + n + 1 ≤ j) (r : Option Int) (hr : over (opV k x y) = r) :
    Ex (.n2 k 0 a b) j (mkK k) env r := by
  have h := ha.two hb k hk hp hq
  exact ⟨h.sub, by have := h.size; omega, h.kind, by rw [h.val]; exact hr⟩

theorem Ex.fit {t : Tm} {m : Nat} {b : Bool} {env : List Int} {r : Option Int} (h : Ex t m b env r) : Fit t 3 m b := ⟨h.sub.ok, h.sub.typed, h.kind, h.sub.good, h.size⟩

theorem lit_at (w : World) (T : TypeId) (n : Int) (k : Nat) (hk : k = w.heap.size) : IsT (w.alloc (.cells #[.int .i64 1, .int .i64 n] T)) (.slice (some ⟨k, 0, none⟩) 1 1) (.n0 1 n) := by
  subst hk
  exact ⟨_, _, rfl, Row.newOp _ _ _ _⟩

theorem joinK2 (k : Int) (va vb : Value) (a b : Tm) (w : World) (T : TypeId) (j : Nat) (hj : j = w.heap.size) (ha : IsT w va a) (hb : IsT w vb b) (hl : a.size + b.size ≤ 10000) :
    Calls Tryd.prog 21 #[.int .i64 k, .slice (some ⟨j, 0, none⟩) 2 2] (w.alloc (.cells #[va, vb] T)) fun e w' => ∃ v', e = .returned v' ∧ IsT w' v' (.n2 k 0 a b) ∧ Ext w w' := by
  subst hj
  exact joinT2 k va vb a b w T ha hb hl

/-- A list of one term. -/
def IsL1 (w : World) (s : Value) (a : Tm) : Prop := OpsL w s [a.flat]

theorem IsL1.ext {w w' : World} {s : Value} {a : Tm} (h : IsL1 w s a) (hb : Ext w w') : IsL1 w' s a := by
  obtain ⟨vs, hl, hr, he⟩ := h
  exact ⟨vs, hl, hr.ext hb, fun i x l hx hl' => ops_ext (he i x l hx hl') hb⟩

theorem il1_new (w : World) (T : TypeId) (va : Value) (a : Tm) (ha : IsT w va a) : IsL1 (w.alloc (.cells #[va] T)) (.slice (some ⟨w.heap.size, 0, none⟩) 1 1) a :=
  opsL_new w T [va] [a.flat] rfl (by simp [maxLen]) (by
    intro i x l hx hl'
    match i with
    | 0 => simp at hx hl'; subst hx; subst hl'; exact ha
    | i + 1 => simp at hx)

theorem two_args (w : World) (T : TypeId) (va vb : Value) (a b : Tm) (ha : IsT w va a) (hb : IsT w vb b) :
    IsL1 ((w.alloc (.cells #[va] T)).alloc (.cells #[vb] T)).drew (.slice (some ⟨w.heap.size, 0, none⟩) 1 1) a ∧ IsL1 ((w.alloc (.cells #[va] T)).alloc (.cells #[vb] T)).drew (.slice (some ⟨w.heap.size + 1, 0, none⟩) 1 1) b ∧ Ext w ((w.alloc (.cells #[va] T)).alloc (.cells #[vb] T)).drew := by
  have h1 : Ext w (w.alloc (.cells #[va] T)) := (Ext.refl w).alloc (Nat.le_refl _) _
  have h2 : Ext (w.alloc (.cells #[va] T)) ((w.alloc (.cells #[va] T)).alloc (.cells #[vb] T)).drew := ((Ext.refl _).alloc (Nat.le_refl _) _).drew
  refine ⟨(il1_new w T va a ha).ext h2, ?_, h1.trans h2⟩
  have := (il1_new (w.alloc (.cells #[va] T)) T vb b (hb.ext h1)).ext (Below.drew (Ext.refl _))
  simpa using this

theorem joinS1 (k : Int) (s : Value) (a : Tm) (w : World) (hs : IsL1 w s a) (hl : a.size ≤ 10000) :
    Calls Tryd.prog 21 #[.int .i64 k, s] w fun e w' => ∃ v', e = .returned v' ∧ IsT w' v' (.n1 k 0 a) ∧ Ext w w' := by
  refine (joined_any k s [a.flat] w hs (by simp [Tm.flat_len]; omega) (by simp)).mono ?_
  rintro e w' ⟨v', rfl, hown, hx⟩
  have e : joinL k [a.flat] = (k, 0) :: a.flat := by simp [joinL]
  rw [e] at hown
  exact ⟨v', rfl, ops_own hown, hx⟩

theorem arr_alloc {w : World} {o : Obj} {g : Nat} {u v x : Value} (h : w.cell? ⟨g, 0, none⟩ = some u ∧ w.cell? ⟨g, 1, none⟩ = some v ∧ w.cell? ⟨g, 2, none⟩ = some x) : (w.alloc o).cell? ⟨g, 0, none⟩ = some u ∧ (w.alloc o).cell? ⟨g, 1, none⟩ = some v ∧ (w.alloc o).cell? ⟨g, 2, none⟩ = some x :=
  arr_later ((Ext.refl w).alloc (Nat.le_refl _) o) h

theorem arr_drew {w : World} {g : Nat} {u v x : Value} (h : w.cell? ⟨g, 0, none⟩ = some u ∧ w.cell? ⟨g, 1, none⟩ = some v ∧ w.cell? ⟨g, 2, none⟩ = some x) : w.drew.cell? ⟨g, 0, none⟩ = some u ∧ w.drew.cell? ⟨g, 1, none⟩ = some v ∧ w.drew.cell? ⟨g, 2, none⟩ = some x :=
  arr_later (Below.drew (Ext.refl w)) h

/-- joined behind a region's draw. -/
theorem joinD2 (k : Int) (va vb : Value) (a b : Tm) (w : World) (T : TypeId) (ha : IsT w va a) (hb : IsT w vb b) (hl : a.size + b.size ≤ 10000) :
    Calls Tryd.prog 21 #[.int .i64 k, .slice (some ⟨w.heap.size, 0, none⟩) 2 2] (w.alloc (.cells #[va, vb] T)).drew fun e w' => ∃ v', e = .returned v' ∧ IsT w' v' (.n2 k 0 a b) ∧ Ext w w' :=
  (joinT2 k va vb a b w.drew T (ha.ext (Below.drew (Ext.refl w))) (hb.ext (Below.drew (Ext.refl w))) hl).mono fun _ _ ⟨v, h1, h2, h3⟩ => ⟨v, h1, h2, (Below.drew (Ext.refl w)).trans h3⟩

theorem joinD1 (k : Int) (va : Value) (a : Tm) (w : World) (T : TypeId) (ha : IsT w va a) (hl : a.size ≤ 10000) :
    Calls Tryd.prog 21 #[.int .i64 k, .slice (some ⟨w.heap.size, 0, none⟩) 1 1] (w.alloc (.cells #[va] T)).drew fun e w' => ∃ v', e = .returned v' ∧ IsT w' v' (.n1 k 0 a) ∧ Ext w w' :=
  (joinT1 k va a w.drew T (ha.ext (Below.drew (Ext.refl w))) hl).mono fun _ _ ⟨v, h1, h2, h3⟩ => ⟨v, h1, h2, (Below.drew (Ext.refl w)).trans h3⟩

theorem arr3 {W : World} {cs : Array Value} (h : Cells Tryd.prog W 45 cs.toList) : ∃ x y z, cs = #[.int .i64 x, .int .i64 y, .int .i64 z] ∧ I64 x ∧ I64 y ∧ I64 z := by
  obtain ⟨hl, hc⟩ := h.array Tryd.underlying45
  have hsz : Tryd.prog.cellsOf 45 = 3 := by kernel_rfl
  have hs1 : Tryd.prog.cellsOf 3 = 1 := by kernel_rfl
  rw [hsz] at hl
  obtain ⟨l, rfl⟩ : ∃ l : List Value, cs = l.toArray := ⟨cs.toList, by simp⟩
  simp only at hl hc
  match l, hl with
  | [a, b, c], _ =>
    have h0 := hc 0 (by omega)
    have h1 := hc 1 (by omega)
    have h2 := hc 2 (by omega)
    simp only [hs1] at h0 h1 h2
    obtain ⟨x, e0, hx⟩ := h0.i64 Tryd.underlying3
    obtain ⟨y, e1, hy⟩ := h1.i64 Tryd.underlying3
    obtain ⟨z, e2, hz⟩ := h2.i64 Tryd.underlying3
    simp at e0 e1 e2
    subst e0; subst e1; subst e2
    exact ⟨x, y, z, rfl, hx, hy, hz⟩

end Go.Proofs.YtjjamfbjapbkgaaDoor
