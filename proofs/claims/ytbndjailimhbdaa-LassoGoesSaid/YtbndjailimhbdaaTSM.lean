/- A search's memory as Tarjan's state. -/
import Derived.Test.YtbndjailimhbdaaLeave
import Derived.Test.YtbndjailimhbdaaTarjanM
namespace Go.Proofs.Ytbndjailimhbdaa
open Go.RowKit

def lst (n : Nat) (f : Nat → Nat) : List Int := (List.range n).map fun a => (f a : Int)
def lstI (n : Nat) (f : Nat → Int) : List Int := (List.range n).map f
def osL (os : List Nat) : List Int := os.reverse.map fun a : Nat => (a : Int)
def csL (cs : List (Nat × Nat)) : List Sp2 := cs.reverse.map fun p => ((p.1 : Int), (p.2 : Int))

theorem lst_len (n : Nat) (f : Nat → Nat) : (lst n f).length = n := by simp [lst]
theorem lst_get (n : Nat) (f : Nat → Nat) {a : Nat} (h : a < n) : (lst n f)[a]? = some (f a : Int) := by simp [lst, h]
theorem lst_getD (n : Nat) (f : Nat → Nat) {a : Nat} (h : a < n) : (lst n f).getD a 0 = (f a : Int) := by rw [List.getD, lst_get n f h]; rfl
theorem lstI_len (n : Nat) (f : Nat → Int) : (lstI n f).length = n := by simp [lstI]
theorem lstI_get (n : Nat) (f : Nat → Int) {a : Nat} (h : a < n) : (lstI n f)[a]? = some (f a) := by simp [lstI, h]
theorem lst_upd (n : Nat) (f : Nat → Nat) {a : Nat} (v : Nat) (h : a < n) : (lst n f).set a (v : Int) = lst n (upd f a v) := by
  apply List.ext_getElem?
  intro i
  rw [List.getElem?_set, lst_len]
  by_cases hi : i < n
  · rw [lst_get n (upd f a v) hi]
    by_cases e : a = i
    · subst e; rw [if_pos rfl, if_pos h, upd_at]
    · rw [if_neg e, lst_get n f hi, upd_ne _ _ (Ne.symm e)]
  · have e : a ≠ i := by omega
    rw [if_neg e, List.getElem?_eq_none (by rw [lst_len]; omega), List.getElem?_eq_none (by rw [lst_len]; omega)]
theorem lstI_upd (n : Nat) (f : Nat → Int) {a : Nat} (v : Int) (h : a < n) : (lstI n f).set a v = lstI n (upd f a v) := by
  apply List.ext_getElem?
  intro i
  rw [List.getElem?_set, lstI_len]
  by_cases hi : i < n
  · rw [lstI_get n (upd f a v) hi]
    by_cases e : a = i
    · subst e; rw [if_pos rfl, if_pos h, upd_at]
    · rw [if_neg e, lstI_get n f hi, upd_ne _ _ (Ne.symm e)]
  · have e : a ≠ i := by omega
    rw [if_neg e, List.getElem?_eq_none (by rw [lstI_len]; omega), List.getElem?_eq_none (by rw [lstI_len]; omega)]
theorem osL_cons (z : Nat) (os : List Nat) : osL (z :: os) = osL os ++ [(z : Int)] := by simp [osL]
theorem csL_cons (p : Nat × Nat) (cs : List (Nat × Nat)) : csL (p :: cs) = csL cs ++ [((p.1 : Int), (p.2 : Int))] := by simp [csL]
theorem osL_len (os : List Nat) : (osL os).length = os.length := by simp [osL]
theorem csL_len (cs : List (Nat × Nat)) : (csL cs).length = cs.length := by simp [csL]

/-- All of a part's spots are told its least. -/
theorem setAll_lst (n : Nat) (part : Nat → Int) (m : Int) : ∀ (D : List Nat), (∀ d ∈ D, d < n) → setAll (lstI n part) (D.map fun (d : Nat) => (d : Int)) m = lstI n (fun a => if a ∈ D then m else part a)
  | [], _ => by simp [setAll]
  | d :: D, h => by
    have hd := h d (by simp)
    have ih := setAll_lst n (upd part d m) m D (fun x hx => h x (List.mem_cons_of_mem _ hx))
    unfold setAll at ih ⊢
    rw [List.map_cons, List.foldl_cons]
    have e : ((d : Int)).toNat = d := by omega
    rw [e, lstI_upd n part m hd, ih]
    congr 1
    funext a
    by_cases h1 : a ∈ D
    · simp [h1]
    · by_cases h2 : a = d
      · subst h2; simp [h1, upd_at]
      · simp [h1, h2, upd_ne _ _ h2]

/-- The last frame's second cell is stored anew. -/
theorem frames_set {w : World} {B g cc : Nat} {cl : List Sp2} {x : Sp2} (h : w.ownsRow B 62 2 (.slice (some ⟨g, 0, none⟩) (cl.length + 1) cc) (cl.length + 1) (cl.flatMap spc ++ spc x)) (v : Int) :
    (w.setCell ⟨g, cl.length * 2 + 1, none⟩ (.int .i64 v)).ownsRow B 62 2 (.slice (some ⟨g, 0, none⟩) (cl.length + 1) cc) (cl.length + 1) (cl.flatMap spc ++ spc (x.1, v)) := by
  have hl := flat_opc_len cl
  refine ⟨by rw [List.length_append, hl]; simp [spc]; omega, ?_⟩
  rcases h.2 with ⟨hn, _⟩ | ⟨g', cap, cur, hv, hb, hgg, hnc, hcm, hcs, ht⟩
  · cases hn
  · simp only [Value.slice.injEq, Option.some.injEq, Addr.mk.injEq] at hv
    obtain ⟨⟨rfl, _, _⟩, _, rfl⟩ := hv
    refine .inr ⟨_, _, cur.setIfInBounds (cl.length * 2 + 1) (.int .i64 v), rfl, hb, blk_set hgg _, hnc, hcm, by simpa using hcs, ?_⟩
    rw [Array.toList_setIfInBounds, List.take_set, ht, List.set_append_right _ _ (by omega), hl]
    have e : cl.length * 2 + 1 - cl.length * 2 = 1 := by omega
    rw [e]
    rfl
theorem SM.setFrame {τ : Nat → Nat} {B P n Do Dl Dp : Nat} {g0 g1 g2 g3 g4 : Value} {w : World} {vo : Value} {ow lw pw : List Int} {ol : List Int} {cl : List Sp2} {x : Sp2} {met : Int} {g cc : Nat}
    (h : SM τ B P n Do Dl Dp g0 g1 g2 g3 g4 w vo (.slice (some ⟨g, 0, none⟩) (cl.length + 1) cc) ow lw pw ol (cl ++ [x]) met) (v : Int) :
    SM τ B P n Do Dl Dp g0 g1 g2 g3 g4 (w.setCell ⟨g, cl.length * 2 + 1, none⟩ (.int .i64 v)) vo (.slice (some ⟨g, 0, none⟩) (cl.length + 1) cc) ow lw pw ol (cl ++ [(x.1, v)]) met ∧ B ≤ g := by
  have tg : τ g = 5 := h.cls.tag g rfl
  have hP : P ≠ g := fun e => by have := h.tag; rw [e] at this; omega
  have hc := h.cls.own
  simp only [List.length_append, List.length_singleton, List.flatMap_append, List.flatMap_cons, List.flatMap_nil, List.append_nil] at hc
  have hs := frames_set hc v
  refine ⟨⟨blk_far h.blk (p := ⟨g, cl.length * 2 + 1, none⟩) (Ne.symm hP) _, h.ord.set (p := ⟨g, cl.length * 2 + 1, none⟩) (by show τ g ≠ 1; omega) _, h.low.set (p := ⟨g, cl.length * 2 + 1, none⟩) (by show τ g ≠ 2; omega) _, h.prt.set (p := ⟨g, cl.length * 2 + 1, none⟩) (by show τ g ≠ 3; omega) _, h.opn.set (p := ⟨g, cl.length * 2 + 1, none⟩) (by show τ g ≠ 4; omega) _, ?_, h.tag, h.new⟩, (h.cls.own.lt g rfl).1⟩
  refine ⟨?_, fun b hb => h.cls.tag b hb⟩
  simpa using hs

structure TSM (τ : Nat → Nat) (B P n : Nat) (Do Dl Dp : Nat) (g0 g1 g2 g3 g4 : Value) (w : World) (s : TS) : Prop where
  mem : ∃ vo vc, SM τ B P n Do Dl Dp g0 g1 g2 g3 g4 w vo vc (lst n s.ord) (lst n s.low) (lstI n s.part) (osL s.os) (csL s.cs) (s.met : Int)

/-- A list whose spots differ and lie below n is no longer than n. -/
theorem pairwise_len {n : Nat} {f : Nat → Nat} {l : List Nat} (hb : ∀ a ∈ l, a < n) (hp : l.Pairwise fun a b => f b < f a) : l.length ≤ n := by
  have hnd : l.Nodup := hp.imp fun h e => by subst e; omega
  have := hnd.length_le_of_subset (l₂ := List.range n) fun a ha => List.mem_range.2 (hb a ha)
  simpa using this

end Go.Proofs.Ytbndjailimhbdaa
