/- The contract of foretellkeep.Graph once more: any wires make a graph that may be checked. -/
import Derived.Test.YtbndjailimhbdaaRchG
namespace Go.Proofs.Ytbndjailimhbdaa
open Go.RowKit

def GPost (n : Nat) (next : List (List Int)) (bits : List Int) (spots : List Sp2) (ini M : Nat) (w : World) (e : Ending) (w' : World) : Prop :=
  ∃ τ asp ax at' csp cx ct, e = .returned (.agg #[.slice asp n csp, .int .i64 (ini : Int), .slice ax n cx, .slice at' n ct, .int .i64 (M : Int)]) ∧
    GMem τ w.heap.size w' (.slice asp n csp) (.slice ax n cx) (.slice at' n ct) spots next bits ∧ Ext w w'

theorem ints_one (l : List Int) : ∀ u ∈ l.map (Value.int .i64), u.oneCell' = true := by
  intro u hu
  obtain ⟨x, _, rfl⟩ := List.mem_map.1 hu
  rfl

theorem graph_two (vn vs : Value) (ll : List (List Int)) (sets : List Int) (init many : Int) (w : World) (hN : Lists w vn ll) (hS : Ints w vs sets) (hI : ∀ l ∈ ll, ∀ n ∈ l, I64 n) (hT : ∀ n ∈ sets, I64 n) (h1 : I64 init) (h2 : I64 many) :
    ∃ (n : Nat) (next : List (List Int)) (bits : List Int) (spots : List Sp2) (ini M : Nat), n ≤ 20 ∧ M ≤ 3 ∧ spots.length = n ∧ GOk n next bits ini M ∧ (0 < n → 0 < ini) ∧ (∀ l ∈ next, l.length ≤ 6) ∧
      ∀ wx, Ext w wx → Calls Try.prog 4 #[.agg #[vn, vs, .int .i64 init, .int .i64 many]] wx (GPost n next bits spots ini M wx) := by
  obtain ⟨M, hM, hM3⟩ := pow_small many
  obtain ⟨n, hn⟩ : ∃ n, n = min ll.length 20 := ⟨_, rfl⟩
  have hok := graph_ok init ll sets M hM3 n hn
  have hsl := gSpots_len n
  have hie := gInit_eq init n
  rw [hsl] at hok
  refine ⟨n, gNext n ll n, gSets ((2 ^ M : Nat) : Int) sets n, gSpots n, gInit init n, M, by omega, hM3, hsl, hok, fun h => ?_, fun l hl => ?_, fun wx hx => ?_⟩
  · rw [if_pos h] at hie
    have := pk_bd init n (by omega)
    omega
  · unfold gNext at hl
    obtain ⟨l', _, rfl⟩ := List.mem_map.1 hl
    unfold gL
    rw [List.length_map, List.length_take]
    omega
  · refine (graph_any vn vs ll sets init many wx (hN.ext hx) (hS.ext hx) hI hT h1 h2 M hM).mono ?_
    rw [← hn]
    rintro e w' ⟨τ, sp, nx, st, rfl, h2, h3⟩
    have e1 := h2.spots
    have e2 := h2.lists
    have e3 := h2.ints
    obtain ⟨a1, c1, rfl, _⟩ := e1
    obtain ⟨a3, c3, rfl, _⟩ := e3
    obtain ⟨vs, he, a2, c2, rfl, _⟩ := e2
    rw [hsl, hok.nx, hok.st] at h2
    rw [hsl, hok.nx, hok.st, hie]
    exact ⟨τ, a1, a2, a3, c1, c2, c3, rfl, h2, h3⟩

end Go.Proofs.Ytbndjailimhbdaa
