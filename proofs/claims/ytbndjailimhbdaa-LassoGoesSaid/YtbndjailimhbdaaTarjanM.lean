/- Plain words on Tarjan's search: each step brings its end nearer; what it says at its end. No condition. -/
import Derived.Test.YtbndjailimhbdaaTarjan
namespace Go.Proofs.Ytbndjailimhbdaa

def restU (n : Nat) (next : List (List Int)) (ord : Nat → Nat) : Nat := ((List.range n).map fun a => if ord a = 0 then (nbs next a).length + 2 else 0).sum
def restC (next : List (List Int)) (cs : List (Nat × Nat)) : Nat := (cs.map fun p => (nbs next p.1).length - p.2 + 1).sum
/-- So many steps are still to come at most. -/
def mu (n : Nat) (next : List (List Int)) (s : TS) : Nat := restU n next s.ord + restC next s.cs

theorem sum_range_upd (f g : Nat → Nat) (z : Nat) (h : ∀ a, a ≠ z → f a = g a) : ∀ n, z < n → ((List.range n).map f).sum + g z = ((List.range n).map g).sum + f z
  | 0, hz => by omega
  | n + 1, hz => by
    rw [List.range_succ, List.map_append, List.map_append, List.sum_append, List.sum_append]
    simp only [List.map_cons, List.map_nil, List.sum_cons, List.sum_nil, Nat.add_zero]
    by_cases e : z = n
    · subst e
      have : (List.range z).map f = (List.range z).map g := List.map_congr_left fun a ha => h a (by have := List.mem_range.1 ha; omega)
      rw [this]; omega
    · have := sum_range_upd f g z h n (by omega)
      have := h n (by omega)
      omega

theorem restU_enter {n : Nat} {next : List (List Int)} {ord : Nat → Nat} {z m : Nat} (hz : ord z = 0) (hn : z < n) : restU n next (upd ord z (m + 1)) + ((nbs next z).length + 2) = restU n next ord := by
  have := sum_range_upd (fun a => if upd ord z (m + 1) a = 0 then (nbs next a).length + 2 else 0) (fun a => if ord a = 0 then (nbs next a).length + 2 else 0) z (fun a ha => by simp only [upd_ne _ _ ha]) n hn
  simp only [upd_at, hz, if_true] at this
  simp only [restU]
  simpa using this

/-- So many spots were not met yet. -/
def unm (n : Nat) (ord : Nat → Nat) : Nat := ((List.range n).map fun a => if ord a = 0 then 1 else 0).sum
theorem unm_enter {n : Nat} {ord : Nat → Nat} {z m : Nat} (hz : ord z = 0) (hn : z < n) : unm n (upd ord z (m + 1)) + 1 = unm n ord := by
  have := sum_range_upd (fun a => if upd ord z (m + 1) a = 0 then 1 else 0) (fun a => if ord a = 0 then 1 else 0) z (fun a ha => by simp only [upd_ne _ _ ha]) n hn
  simp only [upd_at, hz, if_true] at this
  simp only [unm]
  simpa using this
theorem unm_init : ∀ n : Nat, unm n (fun _ => 0) = n
  | 0 => rfl
  | n + 1 => by
    have := unm_init n
    unfold unm at *
    rw [List.range_succ, List.map_append, List.sum_append, this]
    simp

/-- At the end: each spot that was met has its part, if nothing is under way. -/
theorem TInv.whole {n : Nat} {next : List (List Int)} {s : TS} (h : TInv n next s none) (hc : s.cs = []) : s.os = [] ∧ ∀ a, s.ord a ≠ 0 → PartOk next s.part a := by
  have ho : s.os = [] := by
    cases e : s.os with
    | nil => rfl
    | cons y l =>
      obtain ⟨p, hp, _⟩ := h.C y (by rw [e]; simp)
      rw [hc] at hp; simp at hp
  refine ⟨ho, fun a ha => h.P a fun hp => ?_⟩
  have := (h.osm a).2 ⟨ha, hp⟩
  rw [ho] at this; simp at this

theorem TInv.weak {n : Nat} {next : List (List Int)} {s : TS} {Z : Option Nat} (h : TInv n next s none) : TInv n next s Z :=
  { h with exq := fun y z a b => .inl ((h.exq y z a b).resolve_right (by simp)) }

/-- Two spots are of one part just if each reaches the other; a part is named by its least. -/
theorem part_iff {next : List (List Int)} {part : Nat → Int} {x y : Nat} (hx : PartOk next part x) (hy : PartOk next part y) : part x = part y ↔ Reach next x y ∧ Reach next y x := by
  obtain ⟨m, h1, h2, h3, h4⟩ := hx
  obtain ⟨k, g1, g2, g3, g4⟩ := hy
  constructor
  · intro e
    obtain rfl : m = k := by omega
    exact ⟨h2.trans g3, g2.trans h3⟩
  · rintro ⟨r1, r2⟩
    have a1 := h4 k (r1.trans g2) (g3.trans r2)
    have a2 := g4 m (r2.trans h2) (h3.trans r1)
    omega

end Go.Proofs.Ytbndjailimhbdaa
