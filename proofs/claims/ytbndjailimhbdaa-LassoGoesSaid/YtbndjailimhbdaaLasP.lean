/- Plain: ways in a fair part: what a lasso is made of. No condition. -/
import Derived.Test.YtbndjailimhbdaaWayP
namespace Go.Proofs.Ytbndjailimhbdaa

/-- A lasso: a stem from where the graph begins, and a loop that meets all sets. -/
def LassoOk (next : List (List Int)) (bits : Nat → Nat) (M init : Nat) (st lp : List Nat) : Prop :=
  ∃ s home, s < init ∧ Way next s st home ∧ 0 < lp.length ∧ Way next home lp home ∧ ∀ t, t < M → ∃ i ∈ lp, (bits i).testBit t = true

section
variable {next : List (List Int)} {bits : Nat → Nat} {M n init home : Nat}
theorem way_same {a b : Nat} {l : List Nat} (h : Way next a l b) (ha : Same next home a) (hb : Same next home b) : ∀ x ∈ l ++ [b], Same next home x := by
  intro x hx
  rcases List.mem_append.1 hx with hx | hx
  · obtain ⟨h1, h2⟩ := h.all x hx
    exact ⟨ha.1.trans h1, h2.trans hb.2⟩
  · simp at hx; subst hx; exact hb
theorem tail_sub {α : Type} {l : List α} {x : α} (h : x ∈ l.tail) : x ∈ l := List.mem_of_mem_tail h

theorem way_stem (hr : ∃ s, s < init ∧ Reach next s home) : ∃ l b, WayTo next (List.range init) (fun _ => true) (fun i => i == home) l b := by
  obtain ⟨s, hs, hr⟩ := hr
  obtain ⟨l, hl⟩ := Way.of_reach hr
  exact ⟨l, home, s, List.mem_range.2 hs, hl, by simp, fun _ _ => rfl⟩
theorem way_seg {ins : Nat → Bool} (hins : ∀ x, x < n → Same next home x → ins x = true) (hin : ∀ x, Same next home x → x < n) {a b : Nat} (ha : Same next home a) (hb : Same next home b) {wan : Nat → Bool} (hw : wan b = true) : ∃ l b, WayTo next [a] ins wan l b := by
  obtain ⟨l, hl⟩ := Way.of_reach (ha.2.trans hb.1)
  exact ⟨l, b, a, by simp, hl, hw, fun x hx => by
    have h := way_same hl ha hb x (tail_sub hx)
    exact hins x (hin x h) h⟩
theorem way_on (hf : FairAt next bits M n home) {a : Nat} (ha : Same next home a) : ∃ k, Edge next a k ∧ Same next home k := by
  obtain ⟨i, k, _, hs, he, hk⟩ := hf.loop
  obtain ⟨l, hl⟩ := Way.of_reach (ha.2.trans hs.1)
  cases hl with
  | nil => exact ⟨k, he, hk⟩
  | cons e hw => exact ⟨_, e, ha.1.step e, hw.reach.trans hs.2⟩
end

/-- What some spots meet, together. -/
def orL (bits : Nat → Nat) (l : List Nat) : Nat := l.foldl (fun m i => m ||| bits i) 0
theorem orL_snoc (bits : Nat → Nat) (l : List Nat) (x : Nat) : orL bits (l ++ [x]) = orL bits l ||| bits x := by simp [orL]
theorem orL_one (bits : Nat → Nat) (x : Nat) : orL bits [x] = bits x := by simp [orL]
theorem foldl_bit (bits : Nat → Nat) (t : Nat) : ∀ (l : List Nat) (m : Nat), (l.foldl (fun m i => m ||| bits i) m).testBit t = true ↔ m.testBit t = true ∨ ∃ i ∈ l, (bits i).testBit t = true
  | [], m => by simp
  | x :: l, m => by
    rw [List.foldl_cons, foldl_bit bits t l, Nat.testBit_or, Bool.or_eq_true]
    simp only [List.mem_cons, exists_eq_or_imp, or_assoc]
theorem orL_bit (bits : Nat → Nat) (t : Nat) (l : List Nat) : (orL bits l).testBit t = true ↔ ∃ i ∈ l, (bits i).testBit t = true := by
  unfold orL
  rw [foldl_bit]
  simp
theorem orL_lt {bits : Nat → Nat} {M : Nat} (h : ∀ i, bits i < 2 ^ M) (l : List Nat) : orL bits l < 2 ^ M := by
  unfold orL
  have key : ∀ (l : List Nat) (m : Nat), m < 2 ^ M → l.foldl (fun m i => m ||| bits i) m < 2 ^ M := by
    intro l
    induction l with
    | nil => intro m hm; exact hm
    | cons x l ih => intro m hm; exact ih _ (Nat.or_lt_two_pow hm (h x))
  exact key l 0 (Nat.two_pow_pos M)

/-- Whose part is the fair one's. -/
theorem part_home {n : Nat} {next : List (List Int)} {part : Nat → Int} {pn bits : Nat → Nat} {M m : Nat} (hp : ∀ a, a < n → PartOk next part a) (hpn : ∀ a, a < n → part a = (pn a : Int)) (hf : FairAt next bits M n m) (hm : m < n) :
    ∀ x, x < n → ((pn x == m) = true ↔ Same next m x) := by
  intro x hx
  rw [beq_iff_eq]
  have h1 : pn m = m := by
    obtain ⟨m', h1, h2, h3, h4⟩ := hp m hm
    rw [hpn m hm] at h1
    have a1 := hf.least m' ⟨h2, h3⟩
    have a2 := h4 m (Reach.refl _) (Reach.refl _)
    omega
  have h2 := part_iff (hp m hm) (hp x hx)
  rw [hpn m hm, hpn x hx, h1] at h2
  unfold Same
  rw [← h2]
  omega

end Go.Proofs.Ytbndjailimhbdaa
