/- Graphs of raw numbers: plain, and what a Wires reads as. No condition. -/
import Derived.Test.YtbndjailimhbdaaReached
import Derived.Test.YtbndjailimhbdaaRowC
import Derived.Test.YtbndjailimhbdaaGraph
namespace Go.Proofs.Ytbndjailimhbdaa
open Go.RowKit

theorem gInside (n : Nat) (ll : List (List Int)) (h : 0 < n ∨ ll = []) (k : Nat) : Inside n (gNext n ll k) := by
  intro l hl x hx
  unfold gNext at hl
  obtain ⟨l', hl', rfl⟩ := List.mem_map.1 hl
  rcases h with h | h
  · unfold gL at hx
    obtain ⟨y, _, rfl⟩ := List.mem_map.1 hx
    exact pk_bd y n (by omega)
  · subst h; simp at hl'

theorem gSets_bd (M : Nat) (sets : List Int) (k : Nat) : ∀ s ∈ gSets ((2 ^ M : Nat) : Int) sets k, (0 : Int) ≤ s ∧ s < (2 : Int) ^ M := by
  intro s hs
  unfold gSets at hs
  obtain ⟨i, _, rfl⟩ := List.mem_map.1 hs
  have hp : (0 : Int) < ((2 ^ M : Nat) : Int) := by have := Nat.two_pow_pos M; omega
  have e : ((2 ^ M : Nat) : Int) = (2 : Int) ^ M := by push_cast; rfl
  unfold gSet
  split
  · have := pk_bd (sets.getD i 0) _ hp
    omega
  · omega

/-- Where a graph of raw numbers begins. -/
def gInit (init : Int) (n : Nat) : Nat := if 0 < n then (pk init n + 1).toNat else 0

theorem gInit_eq (init : Int) (n : Nat) : (if 0 < n then pk init n + 1 else 0) = (gInit init n : Int) := by
  unfold gInit
  split
  · have := pk_bd init n (by omega); omega
  · rfl

theorem graph_ok (init : Int) (ll : List (List Int)) (sets : List Int) (M : Nat) (hM : M ≤ 3) (n : Nat) (hn : n = min ll.length 20) : GOk (gSpots n).length (gNext n ll n) (gSets ((2 ^ M : Nat) : Int) sets n) (gInit init n) M := by
  rw [gSpots_len]
  refine ⟨gNext_len _ _ _ (by omega), gSets_len _ _ _, by omega, by omega, ?_, by omega, gInside n ll ?_ n, gSets_bd M sets n⟩
  · rw [← gInit_eq]
    split
    · have := pk_bd init n (by omega); omega
    · omega
  · by_cases h : 0 < n
    · exact .inl h
    · exact .inr (List.eq_nil_of_length_eq_zero (by omega))

theorem pow_small (many : Int) : ∃ M : Nat, pk many 4 = M ∧ M ≤ 3 := by
  have := pk_bd many 4 (by omega)
  exact ⟨(pk many 4).toNat, by omega, by omega⟩

/-- What a 'Wires' reads as. -/
theorem Cells.wires {W : World} {cs : Array Value} (h : Cells Try.prog W 25 cs.toList) :
    ∃ vn vs ll sets init many, cs = #[vn, vs, .int .i64 init, .int .i64 many] ∧ Lists W vn ll ∧ Ints W vs sets ∧ (∀ l ∈ ll, ∀ n ∈ l, I64 n) ∧ (∀ n ∈ sets, I64 n) ∧ I64 init ∧ I64 many := by
  obtain ⟨hl, hf⟩ := h.field Try.underlying25
  obtain ⟨c0, c1, c2, c3, e⟩ : ∃ c0 c1 c2 c3, cs.toList = [c0, c1, c2, c3] := by
    have : cs.toList.length = 4 := hl
    match hcs : cs.toList, this with
    | [c0, c1, c2, c3], _ => exact ⟨c0, c1, c2, c3, rfl⟩
  rw [e] at hf
  have f0 : Cells Try.prog W 22 [c0] := hf 0 _ rfl
  have f1 : Cells Try.prog W 23 [c1] := hf 1 _ rfl
  have f2 : Cells Try.prog W 3 [c2] := hf 2 _ rfl
  have f3 : Cells Try.prog W 3 [c3] := hf 3 _ rfl
  obtain ⟨v, ll, hv, hL, hI⟩ := f0.lists Try.underlying22 Try.underlying23 Try.underlying3 (by kernel_rfl) (by kernel_rfl)
  obtain ⟨vs, sets, hvs, hS, hSI⟩ := f1.ints Try.underlying23 Try.underlying3 (by kernel_rfl)
  obtain ⟨i, hi, i64⟩ := f2.i64 Try.underlying3
  obtain ⟨m, hm, m64⟩ := f3.i64 Try.underlying3
  cases hv; cases hvs; cases hi; cases hm
  exact ⟨_, _, ll, sets, i, m, by rw [← Array.toList_inj, e], hL, hS, hI, hSI, i64, m64⟩

end Go.Proofs.Ytbndjailimhbdaa
