/- The map of back pointers, entry by entry. No condition. -/
import Derived.Test.YtbndjailimhbdaaWayP
import Derived.Test.YtbndjailimhbdaaWayM
import Derived.Test.YtbndjailimhbdaaMapG
namespace Go.Proofs.Ytbndjailimhbdaa
open Go.RowKit

def encN (n : Int) : Value := .int .i64 n
theorem Try.keyN : KeyLaw Try.prog 3 encN := KeyLaw.int Try.underlying3
theorem Try.zeroN (w : World) : (zeroValue 3).run Try.prog w = .ok (.int .i64 0) w := by kernel_rfl
theorem Try.slIntsW : SlTy Try.prog 23 3 (.int .i64 0) 1 8 := SlTy.mk' Try.underlying23 (by kernel_rfl) (by rfl) (by omega)

def entB (Q : List Nat) (par : List Int) : List (Int × Value) := (Q.zip par).map fun p => ((p.1 : Int), Value.int .i64 p.2)
theorem entB_snoc {Q : List Nat} {par : List Int} (h : par.length = Q.length) (k : Nat) (p : Int) : entB (Q ++ [k]) (par ++ [p]) = entB Q par ++ [((k : Int), .int .i64 p)] := by
  unfold entB
  rw [List.zip_append h.symm]
  simp
theorem entB_none {Q : List Nat} {par : List Int} {k : Nat} (h : k ∉ Q) : lkp (k : Int) (entB Q par) = none := by
  rw [lkp_none]
  intro p hp
  obtain ⟨⟨a, b⟩, hq, rfl⟩ := List.mem_map.1 hp
  have := (List.of_mem_zip hq).1
  intro e
  have e2 : a = k := by simp only at e; omega
  exact h (e2 ▸ this)
theorem entB_at : ∀ {Q : List Nat} {par : List Int} {j x : Nat} {p : Int}, Q.Nodup → Q[j]? = some x → par[j]? = some p → lkp (x : Int) (entB Q par) = some (.int .i64 p)
  | [], _, j, _, _, _, h, _ => by simp at h
  | _ :: _, [], j, _, _, _, _, h => by simp at h
  | q :: Q, p :: par, 0, x, p', hn, h, g => by
    simp at h g
    subst h; subst g
    simp [entB, lkp]
  | q :: Q, p :: par, j + 1, x, p', hn, h, g => by
    have hn2 := List.nodup_cons.1 hn
    have hx : Q[j]? = some x := by simpa using h
    have hne : ¬ (x : Int) = (q : Int) := by
      intro e
      have e2 : x = q := by omega
      exact hn2.1 (e2 ▸ List.mem_of_getElem? hx)
    have ih := entB_at hn2.2 hx (by simpa using g : par[j]? = some p')
    have e : entB (q :: Q) (p :: par) = ((q : Int), .int .i64 p) :: entB Q par := rfl
    rw [e]
    unfold lkp
    rw [if_neg hne]
    exact ih
theorem entB_root (F : List Nat) (j : Nat) (hj : j < F.length) : entB (F.take (j + 1)) (List.replicate (j + 1) (-1)) = entB (F.take j) (List.replicate j (-1)) ++ [(((F[j] : Nat) : Int), .int .i64 (-1))] := by
  have e : F.take (j + 1) = F.take j ++ [F[j]] := List.take_succ_eq_append_getElem hj
  have e2 : List.replicate (j + 1) (-1 : Int) = List.replicate j (-1) ++ [-1] := by rw [List.replicate_succ']
  rw [e, e2, entB_snoc (by simp; omega)]

theorem nodup_nat : ∀ (n : Nat) {l : List Nat}, l.Nodup → (∀ x ∈ l, x < n) → l.length ≤ n
  | 0, l, _, h => by
    cases l with
    | nil => simp
    | cons x r => have := h x (by simp); omega
  | n + 1, l, hn, h => by
    by_cases hm : n ∈ l
    · have h1 := nodup_nat n (l := l.erase n) (hn.erase _) fun x hx => by
        have h2 := hn.mem_erase_iff.1 hx
        have h3 := h x h2.2
        have h4 := h2.1
        omega
      rw [List.length_erase_of_mem hm] at h1
      omega
    · have h1 := nodup_nat n hn fun x hx => by
        have h3 := h x hx
        have : x ≠ n := fun e => hm (e ▸ hx)
        omega
      omega

/-- Spots as values. -/
def natV (l : List Nat) : List Value := l.map fun x : Nat => Value.int .i64 (x : Int)
theorem natV_map (l : List Nat) : natV l = (l.map fun x : Nat => (x : Int)).map (.int .i64) := by simp [natV]

end Go.Proofs.Ytbndjailimhbdaa
