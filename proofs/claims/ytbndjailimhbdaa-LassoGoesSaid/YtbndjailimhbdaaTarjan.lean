/- Plain words on Tarjan's search: what holds of it, and that each step keeps it. No condition. -/
import Derived.Test.YtbndjailimhbdaaReach
namespace Go.Proofs.Ytbndjailimhbdaa

def nbs (next : List (List Int)) (a : Nat) : List Int := next.getD a []

theorem edge_iff {next : List (List Int)} {a b : Nat} : Edge next a b ↔ (b : Int) ∈ nbs next a := by
  unfold Edge nbs
  constructor
  · rintro ⟨l, h1, h2⟩
    simpa [List.getD, h1] using h2
  · intro h
    cases hl : next[a]? with
    | none => simp [List.getD, hl] at h
    | some l => exact ⟨l, rfl, by simpa [List.getD, hl] using h⟩

/-- A search: when a spot was met (0: not yet), how low it reaches, its part (-1: not known), what is open and what is under way (the last one first). -/
structure TS where
  ord : Nat → Nat
  low : Nat → Nat
  part : Nat → Int
  os : List Nat
  cs : List (Nat × Nat)
  met : Nat

def upd {α : Type} (f : Nat → α) (a : Nat) (v : α) : Nat → α := fun x => if x = a then v else f x
theorem upd_at {α : Type} (f : Nat → α) (a : Nat) (v : α) : upd f a v a = v := if_pos rfl
theorem upd_ne {α : Type} (f : Nat → α) {a x : Nat} (v : α) (h : x ≠ a) : upd f a v x = f x := if_neg h

/-- An edge that was looked at. -/
def Expl (next : List (List Int)) (cs : List (Nat × Nat)) (y z : Nat) : Prop :=
  (∃ k, (y, k) ∈ cs ∧ (z : Int) ∈ (nbs next y).take k) ∨ ((∀ q ∈ cs, q.1 ≠ y) ∧ Edge next y z)

/-- A spot's part is the least spot that it reaches and that reaches it. -/
def PartOk (next : List (List Int)) (part : Nat → Int) (a : Nat) : Prop :=
  ∃ m : Nat, part a = m ∧ Reach next a m ∧ Reach next m a ∧ ∀ b, Reach next a b → Reach next b a → m ≤ b

/-- What holds of a search; Z: a spot that is about to be met. -/
structure TInv (n : Nat) (next : List (List Int)) (s : TS) (Z : Option Nat) : Prop where
  bnd : ∀ a ∈ s.os, a < n
  met : ∀ a, s.ord a ≤ s.met
  oso : s.os.Pairwise fun a b => s.ord b < s.ord a
  osm : ∀ a, a ∈ s.os ↔ s.ord a ≠ 0 ∧ s.part a = -1
  pz : ∀ a, s.ord a = 0 → s.part a = -1
  cso : s.cs.Pairwise fun a b => s.ord b.1 < s.ord a.1
  csm : ∀ p ∈ s.cs, p.1 ∈ s.os ∧ p.2 ≤ (nbs next p.1).length
  exq : ∀ y z, s.ord y ≠ 0 → Expl next s.cs y z → s.ord z ≠ 0 ∨ Z = some z
  clo : ∀ a b, s.part a ≠ -1 → Edge next a b → s.part b ≠ -1
  A : ∀ p ∈ s.cs, ∀ y ∈ s.os, s.ord p.1 ≤ s.ord y → Reach next p.1 y
  B : ∀ y ∈ s.os, (∀ p ∈ s.cs, p.1 ≠ y) → ∃ z ∈ s.os, s.ord z < s.ord y ∧ Reach next y z
  C : ∀ y ∈ s.os, ∃ p ∈ s.cs, s.ord p.1 ≤ s.ord y
  L : ∀ p ∈ s.cs, ∀ y ∈ s.os, s.ord p.1 ≤ s.ord y → (∀ q ∈ s.cs, s.ord q.1 ≤ s.ord y → s.ord q.1 ≤ s.ord p.1) → ∀ z ∈ s.os, Expl next s.cs y z → s.low p.1 ≤ s.ord z
  W : ∀ p ∈ s.cs, s.low p.1 ≤ s.ord p.1 ∧ ∃ z ∈ s.os, s.ord z = s.low p.1 ∧ Reach next p.1 z
  P : ∀ a, s.part a ≠ -1 → PartOk next s.part a

section
variable {n : Nat} {next : List (List Int)} {s : TS} {Z : Option Nat}

theorem TInv.init (n : Nat) (next : List (List Int)) : TInv n next ⟨fun _ => 0, fun _ => 0, fun _ => -1, [], [], 0⟩ none := by
  refine ⟨by simp, by simp, by simp, by simp, by simp, by simp, by simp, by simp, by simp, by simp, by simp, by simp, by simp, by simp, by simp⟩

/-- What is open is told by when it was met. -/
theorem TInv.inj (h : TInv n next s Z) {a b : Nat} (ha : a ∈ s.os) (hb : b ∈ s.os) (e : s.ord a = s.ord b) : a = b := by
  by_cases hab : a = b
  · exact hab
  · have : ∀ (l : List Nat), l.Pairwise (fun a b => s.ord b < s.ord a) → a ∈ l → b ∈ l → False := by
      intro l
      induction l with
      | nil => intro _ h; simp at h
      | cons x l ih =>
        intro hp ha hb
        rw [List.pairwise_cons] at hp
        rcases List.mem_cons.1 ha with rfl | ha'
        · rcases List.mem_cons.1 hb with rfl | hb'
          · exact hab rfl
          · have := hp.1 b hb'; omega
        · rcases List.mem_cons.1 hb with rfl | hb'
          · have := hp.1 a ha'; omega
          · exact ih hp.2 ha' hb'
    exact (this s.os h.oso ha hb).elim

/-- The last one is the highest. -/
theorem TInv.top (h : TInv n next s Z) {c : Nat × Nat} {rest : List (Nat × Nat)} (hc : s.cs = c :: rest) : (∀ q ∈ rest, s.ord q.1 < s.ord c.1) ∧ (∀ q ∈ s.cs, s.ord q.1 ≤ s.ord c.1) := by
  have := h.cso
  rw [hc, List.pairwise_cons] at this
  refine ⟨this.1, fun q hq => ?_⟩
  rw [hc] at hq
  rcases List.mem_cons.1 hq with rfl | hq
  · exact Nat.le_refl _
  · exact Nat.le_of_lt (this.1 q hq)

theorem TInv.enter {z : Nat} (h : TInv n next s (some z)) (hz : s.ord z = 0) (hn : z < n) (hr : ∀ p ∈ s.cs, Reach next p.1 z) :
    TInv n next ⟨upd s.ord z (s.met + 1), upd s.low z (s.met + 1), s.part, z :: s.os, (z, 0) :: s.cs, s.met + 1⟩ none := by
  have hne : ∀ a ∈ s.os, a ≠ z := fun a ha e => by subst e; exact ((h.osm a).1 ha).1 hz
  have ho : ∀ a ∈ s.os, upd s.ord z (s.met + 1) a = s.ord a := fun a ha => upd_ne _ _ (hne a ha)
  have hoc : ∀ p ∈ s.cs, upd s.ord z (s.met + 1) p.1 = s.ord p.1 := fun p hp => ho _ (h.csm p hp).1
  have hlc : ∀ p ∈ s.cs, upd s.low z (s.met + 1) p.1 = s.low p.1 := fun p hp => upd_ne _ _ (hne _ (h.csm p hp).1)
  have hex : ∀ y x, y ≠ z → Expl next ((z, 0) :: s.cs) y x → Expl next s.cs y x := by
    rintro y x hy (⟨k, h1, h2⟩ | ⟨h1, h2⟩)
    · rcases List.mem_cons.1 h1 with e | h1
      · simp only [Prod.mk.injEq] at e; exact absurd e.1 hy
      · exact .inl ⟨k, h1, h2⟩
    · exact .inr ⟨fun q hq => h1 q (List.mem_cons_of_mem _ hq), h2⟩
  have hexz : ∀ x, ¬ Expl next ((z, 0) :: s.cs) z x := by
    rintro x (⟨k, h1, h2⟩ | ⟨h1, h2⟩)
    · rcases List.mem_cons.1 h1 with e | h1
      · simp only [Prod.mk.injEq] at e; rw [e.2] at h2; simp at h2
      · exact hne z (h.csm _ h1).1 rfl
    · exact h1 (z, 0) (by simp) rfl
  refine ⟨?_, ?_, ?_, ?_, ?_, ?_, ?_, ?_, h.clo, ?_, ?_, ?_, ?_, ?_, h.P⟩
  · intro a ha
    rcases List.mem_cons.1 ha with rfl | ha
    · exact hn
    · exact h.bnd a ha
  · intro a
    by_cases e : a = z
    · subst e; simp [upd_at]
    · show upd s.ord z (s.met + 1) a ≤ s.met + 1; rw [upd_ne _ _ e]; have := h.met a; omega
  · show List.Pairwise (fun a b => upd s.ord z (s.met + 1) b < upd s.ord z (s.met + 1) a) (z :: s.os)
    rw [List.pairwise_cons]
    refine ⟨fun a ha => by rw [ho a ha, upd_at]; have := h.met a; omega, ?_⟩
    exact h.oso.imp_of_mem fun ha hb hab => by rw [ho _ ha, ho _ hb]; exact hab
  · intro a
    show a ∈ z :: s.os ↔ upd s.ord z (s.met + 1) a ≠ 0 ∧ s.part a = -1
    by_cases e : a = z
    · subst e; simp [upd_at, h.pz _ hz]
    · rw [List.mem_cons, upd_ne _ _ e, h.osm a]; simp [e]
  · intro a ha
    have ha' : upd s.ord z (s.met + 1) a = 0 := ha
    by_cases e : a = z
    · subst e; rw [upd_at] at ha'; omega
    · rw [upd_ne _ _ e] at ha'; exact h.pz a ha'
  · show List.Pairwise (fun a b => upd s.ord z (s.met + 1) b.1 < upd s.ord z (s.met + 1) a.1) ((z, 0) :: s.cs)
    rw [List.pairwise_cons]
    refine ⟨fun p hp => by rw [hoc p hp]; show _ < upd s.ord z (s.met + 1) z; rw [upd_at]; have := h.met p.1; omega, ?_⟩
    exact h.cso.imp_of_mem fun ha hb hab => by rw [hoc _ ha, hoc _ hb]; exact hab
  · intro p hp
    rcases List.mem_cons.1 hp with rfl | hp
    · exact ⟨by simp, Nat.zero_le _⟩
    · exact ⟨List.mem_cons_of_mem _ (h.csm p hp).1, (h.csm p hp).2⟩
  · intro y x hy hx
    have hy' : upd s.ord z (s.met + 1) y ≠ 0 := hy
    left
    show upd s.ord z (s.met + 1) x ≠ 0
    by_cases e : y = z
    · subst e; exact absurd hx (hexz x)
    · rw [upd_ne _ _ e] at hy'
      by_cases ex : x = z
      · subst ex; rw [upd_at]; omega
      · rw [upd_ne _ _ ex]
        rcases h.exq y x hy' (hex y x e hx) with h | h
        · exact h
        · injection h with h; exact absurd h.symm ex
  · intro p hp y hy hle
    have hle' : upd s.ord z (s.met + 1) p.1 ≤ upd s.ord z (s.met + 1) y := hle
    rcases List.mem_cons.1 hp with rfl | hp2
    · rcases List.mem_cons.1 hy with rfl | hy
      · exact Reach.refl _
      · rw [ho y hy] at hle'
        have : upd s.ord z (s.met + 1) z = s.met + 1 := upd_at _ _ _
        have h2 := h.met y
        simp only [this] at hle'
        omega
    · rcases List.mem_cons.1 hy with rfl | hy
      · exact hr p hp2
      · rw [ho y hy, hoc p hp2] at hle'; exact h.A p hp2 y hy hle'
  · intro y hy hp
    rcases List.mem_cons.1 hy with rfl | hy
    · exact absurd rfl (hp (y, 0) (by simp))
    · obtain ⟨x, hx, h1, h2⟩ := h.B y hy fun p hp' => hp p (List.mem_cons_of_mem _ hp')
      exact ⟨x, List.mem_cons_of_mem _ hx, by show upd _ _ _ _ < upd _ _ _ _; rw [ho x hx, ho y hy]; exact h1, h2⟩
  · intro y hy
    rcases List.mem_cons.1 hy with rfl | hy
    · exact ⟨(y, 0), by simp, Nat.le_refl _⟩
    · obtain ⟨p, hp, h1⟩ := h.C y hy
      exact ⟨p, List.mem_cons_of_mem _ hp, by show upd _ _ _ _ ≤ upd _ _ _ _; rw [hoc p hp, ho y hy]; exact h1⟩
  · intro p hp y hy hle hq x hx hxp
    have hle' : upd s.ord z (s.met + 1) p.1 ≤ upd s.ord z (s.met + 1) y := hle
    show upd s.low z (s.met + 1) p.1 ≤ upd s.ord z (s.met + 1) x
    rcases List.mem_cons.1 hy with rfl | hy
    · exact absurd hxp (hexz x)
    · have hyz := hne y hy
      rcases List.mem_cons.1 hp with rfl | hp2
      · rw [ho y hy] at hle'
        have : upd s.ord z (s.met + 1) z = s.met + 1 := upd_at _ _ _
        have h2 := h.met y
        simp only [this] at hle'
        omega
      · rw [hlc p hp2]
        rcases List.mem_cons.1 hx with rfl | hx
        · rw [upd_at]; have h1 := (h.W p hp2).1; have h2 := h.met p.1; omega
        · rw [ho x hx]
          rw [ho y hy, hoc p hp2] at hle'
          refine h.L p hp2 y hy hle' (fun q hq' hqy => ?_) x hx (hex y x hyz hxp)
          have h3 := hq q (List.mem_cons_of_mem _ hq')
          have h4 : upd s.ord z (s.met + 1) q.1 ≤ upd s.ord z (s.met + 1) y → upd s.ord z (s.met + 1) q.1 ≤ upd s.ord z (s.met + 1) p.1 := h3
          rw [hoc q hq', hoc p hp2, ho y hy] at h4
          exact h4 hqy
  · intro p hp
    show upd s.low z (s.met + 1) p.1 ≤ upd s.ord z (s.met + 1) p.1 ∧ ∃ x ∈ z :: s.os, upd s.ord z (s.met + 1) x = upd s.low z (s.met + 1) p.1 ∧ Reach next p.1 x
    rcases List.mem_cons.1 hp with rfl | hp
    · refine ⟨by simp [upd_at], z, by simp, by simp [upd_at], Reach.refl _⟩
    · rw [hlc p hp, hoc p hp]
      obtain ⟨h1, x, hx, h2, h3⟩ := h.W p hp
      exact ⟨h1, x, List.mem_cons_of_mem _ hx, by rw [ho x hx]; exact h2, h3⟩

/-- One more edge of the last one is looked at. -/
theorem TInv.look {Z' : Option Nat} {c k z : Nat} {rest : List (Nat × Nat)} {low' : Nat → Nat} (h : TInv n next s none) (hc : s.cs = (c, k) :: rest) (hk : (nbs next c)[k]? = some (z : Int)) (hz : s.ord z ≠ 0 ∨ Z' = some z)
    (hl : low' = s.low ∨ (z ∈ s.os ∧ low' = upd s.low c (min (s.low c) (s.ord z)))) (hzo : z ∈ s.os → low' c ≤ s.ord z) : TInv n next { s with cs := (c, k + 1) :: rest, low := low' } Z' := by
  have hkl := (List.getElem?_eq_some_iff.1 hk).1
  have hcc : (c, k) ∈ s.cs := by rw [hc]; simp
  have hco := (h.csm _ hcc).1
  have hed : Edge next c z := edge_iff.2 (List.mem_of_getElem? hk)
  have htop := h.top hc
  have hrne : ∀ p ∈ rest, p.1 ≠ c := fun p hp e => by have := htop.1 p hp; simp only [e] at this; omega
  have hrest : ∀ p, p ∈ rest → p ∈ s.cs := fun p hp => by rw [hc]; exact List.mem_cons_of_mem _ hp
  -- each frame of the new search has one of the old search at the same spot
  have hback : ∀ p ∈ (c, k + 1) :: rest, ∃ p' ∈ s.cs, p'.1 = p.1 := fun p hp => by
    rcases List.mem_cons.1 hp with rfl | hp2
    · exact ⟨(c, k), hcc, rfl⟩
    · exact ⟨p, hrest p hp2, rfl⟩
  have hforth : ∀ p ∈ s.cs, ∃ p' ∈ (c, k + 1) :: rest, p'.1 = p.1 := fun p hp => by
    rw [hc] at hp
    rcases List.mem_cons.1 hp with rfl | hp2
    · exact ⟨(c, k + 1), by simp, rfl⟩
    · exact ⟨p, List.mem_cons_of_mem _ hp2, rfl⟩
  have hex : ∀ y x, Expl next ((c, k + 1) :: rest) y x → Expl next s.cs y x ∨ (y = c ∧ x = z) := by
    rintro y x (⟨j, h1, h2⟩ | ⟨h1, h2⟩)
    · rcases List.mem_cons.1 h1 with e | h1
      · simp only [Prod.mk.injEq] at e
        obtain ⟨rfl, rfl⟩ := e
        rw [List.take_add_one, hk] at h2
        rcases List.mem_append.1 h2 with h2 | h2
        · exact .inl (.inl ⟨k, hcc, h2⟩)
        · right
          simp only [Option.toList_some, List.mem_singleton] at h2
          exact ⟨rfl, by omega⟩
      · exact .inl (.inl ⟨j, hrest _ h1, h2⟩)
    · refine .inl (.inr ⟨fun q hq => ?_, h2⟩)
      obtain ⟨q', hq', e⟩ := hforth q hq
      rw [← e]; exact h1 q' hq'
  have hlow : ∀ a, low' a ≤ s.low a := fun a => by
    rcases hl with rfl | ⟨_, rfl⟩
    · exact Nat.le_refl _
    · by_cases e : a = c
      · subst e; rw [upd_at]; exact Nat.min_le_left _ _
      · rw [upd_ne _ _ e]; exact Nat.le_refl _
  refine ⟨h.bnd, h.met, h.oso, h.osm, h.pz, ?_, ?_, ?_, h.clo, ?_, ?_, ?_, ?_, ?_, h.P⟩
  · show List.Pairwise _ ((c, k + 1) :: rest)
    have := h.cso
    rw [hc, List.pairwise_cons] at this
    rw [List.pairwise_cons]
    exact this
  · intro p hp
    rcases List.mem_cons.1 hp with rfl | hp2
    · exact ⟨hco, Nat.succ_le_of_lt hkl⟩
    · exact h.csm p (hrest p hp2)
  · intro y x hy hx
    rcases hex y x hx with hx | ⟨rfl, rfl⟩
    · rcases h.exq y x hy hx with h | h
      · exact .inl h
      · cases h
    · exact hz
  · intro p hp y hy hle
    obtain ⟨p', hp', e⟩ := hback p hp
    rw [← e] at hle ⊢
    exact h.A p' hp' y hy hle
  · intro y hy hp
    refine h.B y hy fun p hp' => ?_
    obtain ⟨p', hp'', e⟩ := hforth p hp'
    rw [← e]; exact hp p' hp''
  · intro y hy
    obtain ⟨p, hp, h1⟩ := h.C y hy
    obtain ⟨p', hp', e⟩ := hforth p hp
    exact ⟨p', hp', by show s.ord p'.1 ≤ _; rw [e]; exact h1⟩
  · intro p hp y hy hle hq x hx hxp
    show low' p.1 ≤ s.ord x
    rcases hex y x hxp with hxp | ⟨rfl, rfl⟩
    · obtain ⟨p', hp', e⟩ := hback p hp
      have := h.L p' hp' y hy (by rw [e]; exact hle) (fun q hq' hqy => by
        obtain ⟨q', hq'', e'⟩ := hforth q hq'
        have := hq q' hq'' (by show s.ord q'.1 ≤ _; rw [e']; exact hqy)
        rw [e, ← e']; exact this) x hx hxp
      rw [e] at this
      exact Nat.le_trans (hlow _) this
    · -- the frame must be that of the last one
      have h1 := hq (y, k + 1) (by simp) (Nat.le_refl _)
      have h2 : s.ord y ≤ s.ord p.1 := h1
      rcases List.mem_cons.1 hp with rfl | hp2
      · exact hzo hx
      · have := htop.1 p hp2
        simp only at this
        omega
  · intro p hp
    show low' p.1 ≤ s.ord p.1 ∧ ∃ x ∈ s.os, s.ord x = low' p.1 ∧ Reach next p.1 x
    obtain ⟨p', hp', e⟩ := hback p hp
    have hW := h.W p' hp'
    rw [e] at hW
    refine ⟨Nat.le_trans (hlow _) hW.1, ?_⟩
    rcases hl with rfl | ⟨hzos, rfl⟩
    · exact hW.2
    · by_cases e2 : p.1 = c
      · rw [e2, upd_at]
        rw [e2] at hW
        rcases Nat.le_total (s.low c) (s.ord z) with hm | hm
        · rw [Nat.min_eq_left hm]; exact hW.2
        · rw [Nat.min_eq_right hm]; exact ⟨z, hzos, rfl, Reach.edge hed⟩
      · rw [upd_ne _ _ e2]; exact hW.2

/-- What is known of the last one, when all of its edges were looked at. -/
theorem TInv.full {c k : Nat} {rest : List (Nat × Nat)} (h : TInv n next s none) (hc : s.cs = (c, k) :: rest) (hk : k = (nbs next c).length) :
    (∀ p ∈ rest, p ∈ s.cs ∧ s.ord p.1 < s.ord c) ∧ c ∈ s.os ∧ (∀ y x, (∀ p ∈ rest, p.1 ≠ y) → s.ord y ≠ 0 → Edge next y x → (s.ord c ≤ s.ord y → y ∈ s.os) → Expl next s.cs y x) ∧
      (∀ y x, Expl next rest y x → Expl next s.cs y x) ∧ (∀ y ∈ s.os, s.ord c ≤ s.ord y → ∀ p ∈ rest, p.1 ≠ y) := by
  have htop := h.top hc
  have hcc : (c, k) ∈ s.cs := by rw [hc]; simp
  have hrest : ∀ p, p ∈ rest → p ∈ s.cs := fun p hp => by rw [hc]; exact List.mem_cons_of_mem _ hp
  refine ⟨fun p hp => ⟨hrest p hp, htop.1 p hp⟩, (h.csm _ hcc).1, fun y x hy _ he _ => ?_, fun y x hx => ?_, fun y _ hle p hp e => ?_⟩
  · by_cases e : y = c
    · subst e
      exact .inl ⟨k, hcc, by rw [hk, List.take_length]; exact edge_iff.1 he⟩
    · refine .inr ⟨fun q hq => ?_, he⟩
      rw [hc] at hq
      rcases List.mem_cons.1 hq with rfl | hq
      · exact fun e' => e e'.symm
      · exact hy q hq
  · rcases hx with ⟨j, h1, h2⟩ | ⟨h1, h2⟩
    · exact .inl ⟨j, hrest _ h1, h2⟩
    · by_cases e : y = c
      · subst e
        exact .inl ⟨k, hcc, by rw [hk, List.take_length]; exact edge_iff.1 h2⟩
      · refine .inr ⟨fun q hq => ?_, h2⟩
        rw [hc] at hq
        rcases List.mem_cons.1 hq with rfl | hq
        · exact fun e' => e e'.symm
        · exact h1 q hq
  · have := htop.1 p hp
    rw [e] at this
    simp only at this
    omega

/-- The last one is left, and stays open. -/
theorem TInv.pop {c k u ku : Nat} {rest : List (Nat × Nat)} (h : TInv n next s none) (hc : s.cs = (c, k) :: (u, ku) :: rest) (hk : k = (nbs next c).length) (hne : s.low c ≠ s.ord c) :
    TInv n next { s with cs := (u, ku) :: rest, low := upd s.low u (min (s.low u) (s.low c)) } none := by
  obtain ⟨hr, hco, hfull, hex, hfar⟩ := h.full hc hk
  have hcc : (c, k) ∈ s.cs := by rw [hc]; simp
  have huu : (u, ku) ∈ s.cs := by rw [hc]; simp
  obtain ⟨hW1, z0, hz0, hz1, hz2⟩ := h.W _ hcc
  have hlt : s.low c < s.ord c := by simp only at hW1; omega
  have hlow : ∀ a, upd s.low u (min (s.low u) (s.low c)) a ≤ s.low a := fun a => by
    by_cases e : a = u
    · subst e; rw [upd_at]; exact Nat.min_le_left _ _
    · rw [upd_ne _ _ e]; exact Nat.le_refl _
  have htop2 : ∀ q ∈ (u, ku) :: rest, s.ord q.1 ≤ s.ord u := fun q hq => by
    have := h.cso
    rw [hc, List.pairwise_cons, List.pairwise_cons] at this
    rcases List.mem_cons.1 hq with rfl | hq
    · exact Nat.le_refl _
    · exact Nat.le_of_lt (this.2.1 q hq)
  refine ⟨h.bnd, h.met, h.oso, h.osm, h.pz, ?_, ?_, ?_, h.clo, ?_, ?_, ?_, ?_, ?_, h.P⟩
  · show List.Pairwise _ ((u, ku) :: rest)
    have := h.cso
    rw [hc, List.pairwise_cons] at this
    exact this.2
  · exact fun p hp => h.csm p (hr p hp).1
  · exact fun y x hy hx => h.exq y x hy (hex y x hx)
  · exact fun p hp y hy hle => h.A p (hr p hp).1 y hy hle
  · intro y hy hp
    by_cases e : y = c
    · subst e; exact ⟨z0, hz0, by show s.ord z0 < s.ord y; rw [hz1]; exact hlt, hz2⟩
    · refine h.B y hy fun p hp' => ?_
      rw [hc] at hp'
      rcases List.mem_cons.1 hp' with rfl | hp'
      · exact fun e' => e e'.symm
      · exact hp p hp'
  · intro y hy
    obtain ⟨p, hp, h1⟩ := h.C y hy
    rw [hc] at hp
    rcases List.mem_cons.1 hp with rfl | hp
    · exact ⟨(u, ku), by simp, Nat.le_trans (Nat.le_of_lt (hr (u, ku) (by simp)).2) h1⟩
    · exact ⟨p, hp, h1⟩
  · intro p hp y hy hle hq x hx hxp
    show upd s.low u (min (s.low u) (s.low c)) p.1 ≤ s.ord x
    by_cases hcy : s.ord c ≤ s.ord y
    · -- what lay behind the one that is left
      have h1 : s.ord u ≤ s.ord p.1 := hq (u, ku) (by simp) (Nat.le_trans (Nat.le_of_lt (hr (u, ku) (by simp)).2) hcy)
      have h2 := htop2 p hp
      have e : p.1 = u := h.inj (h.csm p (hr p hp).1).1 (h.csm _ huu).1 (Nat.le_antisymm h2 h1)
      rw [e, upd_at]
      have := h.L _ hcc y hy hcy (fun q hq' _ => (h.top hc).2 q hq') x hx (hex y x hxp)
      simp only at this
      exact Nat.le_trans (Nat.min_le_right _ _) this
    · refine Nat.le_trans (hlow _) (h.L p (hr p hp).1 y hy hle (fun q hq' hqy => ?_) x hx (hex y x hxp))
      rw [hc] at hq'
      rcases List.mem_cons.1 hq' with rfl | hq'
      · exact absurd hqy hcy
      · exact hq q hq' hqy
  · intro p hp
    show upd s.low u (min (s.low u) (s.low c)) p.1 ≤ s.ord p.1 ∧ ∃ x ∈ s.os, s.ord x = upd s.low u (min (s.low u) (s.low c)) p.1 ∧ Reach next p.1 x
    have hW := h.W p (hr p hp).1
    refine ⟨Nat.le_trans (hlow _) hW.1, ?_⟩
    by_cases e : p.1 = u
    · rw [e, upd_at]
      rw [e] at hW
      rcases Nat.le_total (s.low u) (s.low c) with hm | hm
      · rw [Nat.min_eq_left hm]; exact hW.2
      · rw [Nat.min_eq_right hm]
        have hA := h.A (u, ku) huu c hco (Nat.le_of_lt (hr (u, ku) (by simp)).2)
        exact ⟨z0, hz0, hz1, hA.trans hz2⟩
    · rw [upd_ne _ _ e]; exact hW.2

/-- Where only one is under way it cannot stay open. -/
theorem TInv.root {c k : Nat} (h : TInv n next s none) (hc : s.cs = [(c, k)]) : s.low c = s.ord c := by
  have hcc : (c, k) ∈ s.cs := by rw [hc]; simp
  obtain ⟨h1, z, hz, h2, _⟩ := h.W _ hcc
  obtain ⟨p, hp, h3⟩ := h.C z hz
  rw [hc] at hp
  simp only [List.mem_singleton] at hp
  subst hp
  simp only at *
  omega

/-- The last one is left, and its part is whole. -/
theorem TInv.close {c k m : Nat} {rest : List (Nat × Nat)} {D os' : List Nat} {low' : Nat → Nat} (h : TInv n next s none) (hc : s.cs = (c, k) :: rest) (hk : k = (nbs next c).length) (heq : s.low c = s.ord c)
    (hl : ∀ p ∈ rest, low' p.1 = s.low p.1) (hos : s.os = D ++ os') (hD : ∀ y ∈ D, s.ord c ≤ s.ord y) (hO : ∀ y ∈ os', s.ord y < s.ord c) (hm : m ∈ D) (hmin : ∀ y ∈ D, m ≤ y) :
    TInv n next { s with cs := rest, low := low', os := os', part := fun a => if a ∈ D then (m : Int) else s.part a } none := by
  obtain ⟨hr, hco, hfull, hex, hfar⟩ := h.full hc hk
  have hcc : (c, k) ∈ s.cs := by rw [hc]; simp
  have hDo : ∀ y, y ∈ D → y ∈ s.os := fun y hy => by rw [hos]; exact List.mem_append_left _ hy
  have hOo : ∀ y, y ∈ os' → y ∈ s.os := fun y hy => by rw [hos]; exact List.mem_append_right _ hy
  have hDi : ∀ y ∈ s.os, s.ord c ≤ s.ord y → y ∈ D := fun y hy hle => by
    rw [hos] at hy
    rcases List.mem_append.1 hy with h | h
    · exact h
    · have := hO y h; omega
  have hOi : ∀ y ∈ s.os, s.ord y < s.ord c → y ∈ os' := fun y hy hlt => by
    rw [hos] at hy
    rcases List.mem_append.1 hy with h | h
    · have := hD y h; omega
    · exact h
  have hDp : ∀ y ∈ D, s.part y = -1 := fun y hy => ((h.osm y).1 (hDo y hy)).2
  have hOD : ∀ y ∈ os', y ∉ D := fun y hy hd => by have := hO y hy; have := hD y hd; omega
  have hcD : c ∈ D := hDi c hco (Nat.le_refl _)
  -- what is closed leads to what is closed
  have hstep : ∀ y z, y ∈ D → Edge next y z → z ∈ D ∨ s.part z ≠ -1 := fun y z hy he => by
    have hyo := hDo y hy
    have hyr := hfar y hyo (hD y hy)
    have hxp := hfull y z hyr ((h.osm y).1 hyo).1 he (fun _ => hyo)
    have hz0 : s.ord z ≠ 0 := by
      rcases h.exq y z ((h.osm y).1 hyo).1 hxp with h | h
      · exact h
      · cases h
    by_cases hp : s.part z = -1
    · have hzo := (h.osm z).2 ⟨hz0, hp⟩
      have := h.L _ hcc y hyo (hD y hy) (fun q hq _ => (h.top hc).2 q hq) z hzo hxp
      simp only [heq] at this
      exact .inl (hDi z hzo this)
    · exact .inr hp
  have hclo2 : ∀ y z, (y ∈ D ∨ s.part y ≠ -1) → Reach next y z → (z ∈ D ∨ s.part z ≠ -1) := fun y z hy hyz => by
    induction hyz with
    | refl => exact hy
    | step _ e ih =>
      rcases ih with h1 | h1
      · exact hstep _ _ h1 e
      · exact .inr (h.clo _ _ h1 e)
  have holdclo : ∀ y z, s.part y ≠ -1 → Reach next y z → s.part z ≠ -1 := fun y z hy hyz => by
    induction hyz with
    | refl => exact hy
    | step _ e ih => exact h.clo _ _ ih e
  -- all of it reaches the one that is left
  have hto : ∀ (b : Nat) (y : Nat), s.ord y ≤ b → y ∈ D → Reach next y c := by
    intro b
    induction b with
    | zero => intro y hb hy; have := ((h.osm y).1 (hDo y hy)).1; omega
    | succ b ih =>
      intro y hb hy
      by_cases e : y = c
      · subst e; exact Reach.refl _
      · have hyc : ∀ p ∈ s.cs, p.1 ≠ y := fun p hp => by
          rw [hc] at hp
          rcases List.mem_cons.1 hp with rfl | hp
          · exact fun e' => e e'.symm
          · exact hfar y (hDo y hy) (hD y hy) p hp
        obtain ⟨z, hz, h1, h2⟩ := h.B y (hDo y hy) hyc
        have hzD : z ∈ D := by
          rcases hclo2 y z (.inl hy) h2 with h3 | h3
          · exact h3
          · exact absurd ((h.osm z).1 hz).2 h3
        exact h2.trans (ih z (by omega) hzD)
  have hfrom : ∀ y ∈ D, Reach next c y := fun y hy => h.A _ hcc y (hDo y hy) (hD y hy)
  have hpart : ∀ a, (if a ∈ D then (m : Int) else s.part a) ≠ -1 → a ∈ D ∨ s.part a ≠ -1 := fun a ha => by
    by_cases e : a ∈ D
    · exact .inl e
    · rw [if_neg e] at ha; exact .inr ha
  have hpart2 : ∀ a, (a ∈ D ∨ s.part a ≠ -1) → (if a ∈ D then (m : Int) else s.part a) ≠ -1 := fun a ha => by
    by_cases e : a ∈ D
    · rw [if_pos e]; omega
    · rw [if_neg e]; exact ha.resolve_left e
  refine ⟨fun a ha => h.bnd a (hOo a ha), h.met, ?_, ?_, ?_, ?_, ?_, ?_, ?_, ?_, ?_, ?_, ?_, ?_, ?_⟩
  · have := h.oso; rw [hos, List.pairwise_append] at this; exact this.2.1
  · intro a
    show a ∈ os' ↔ s.ord a ≠ 0 ∧ (if a ∈ D then (m : Int) else s.part a) = -1
    constructor
    · intro ha
      rw [if_neg (hOD a ha)]
      exact (h.osm a).1 (hOo a ha)
    · rintro ⟨h1, h2⟩
      by_cases e : a ∈ D
      · rw [if_pos e] at h2; omega
      · rw [if_neg e] at h2
        have := (h.osm a).2 ⟨h1, h2⟩
        rw [hos] at this
        exact (List.mem_append.1 this).resolve_left e
  · intro a ha
    show (if a ∈ D then (m : Int) else s.part a) = -1
    rw [if_neg (fun hd => ((h.osm a).1 (hDo a hd)).1 ha)]
    exact h.pz a ha
  · have := h.cso; rw [hc, List.pairwise_cons] at this; exact this.2
  · exact fun p hp => ⟨hOi _ (h.csm p (hr p hp).1).1 (hr p hp).2, (h.csm p (hr p hp).1).2⟩
  · exact fun y x hy hx => h.exq y x hy (hex y x hx)
  · intro a b ha he
    exact hpart2 b (hclo2 a b (hpart a ha) (Reach.edge he))
  · exact fun p hp y hy hle => h.A p (hr p hp).1 y (hOo y hy) hle
  · intro y hy hp
    have hyo := hOo y hy
    have hyc : y ≠ c := fun e => by subst e; exact Nat.lt_irrefl _ (hO y hy)
    obtain ⟨z, hz, h1, h2⟩ := h.B y hyo fun p hp' => by
      rw [hc] at hp'
      rcases List.mem_cons.1 hp' with rfl | hp'
      · exact fun e => hyc e.symm
      · exact hp p hp'
    exact ⟨z, hOi z hz (by have := hO y hy; omega), h1, h2⟩
  · intro y hy
    obtain ⟨p, hp, h1⟩ := h.C y (hOo y hy)
    rw [hc] at hp
    rcases List.mem_cons.1 hp with rfl | hp
    · have := hO y hy; simp only at h1; omega
    · exact ⟨p, hp, h1⟩
  · intro p hp y hy hle hq x hx hxp
    show low' p.1 ≤ s.ord x
    rw [hl p hp]
    refine h.L p (hr p hp).1 y (hOo y hy) hle (fun q hq' hqy => ?_) x (hOo x hx) (hex y x hxp)
    rw [hc] at hq'
    rcases List.mem_cons.1 hq' with rfl | hq'
    · have := hO y hy; simp only at hqy; omega
    · exact hq q hq' hqy
  · intro p hp
    show low' p.1 ≤ s.ord p.1 ∧ ∃ x ∈ os', s.ord x = low' p.1 ∧ Reach next p.1 x
    rw [hl p hp]
    obtain ⟨h1, z, hz, h2, h3⟩ := h.W p (hr p hp).1
    exact ⟨h1, z, hOi z hz (by have := (hr p hp).2; omega), h2, h3⟩
  · intro a ha
    show PartOk next (fun a => if a ∈ D then (m : Int) else s.part a) a
    by_cases e : a ∈ D
    · have hac := hto _ a (Nat.le_refl _) e
      refine ⟨m, if_pos e, hac.trans (hfrom m hm), (hto _ m (Nat.le_refl _) hm).trans (hfrom a e), fun b hab hba => ?_⟩
      rcases hclo2 a b (.inl e) hab with hb | hb
      · exact hmin b hb
      · exact absurd (hDp a e) (holdclo b a hb hba)
    · have ha' : s.part a ≠ -1 := (hpart a ha).resolve_left e
      obtain ⟨m', h1, h2, h3, h4⟩ := h.P a ha'
      exact ⟨m', by show (if a ∈ D then (m : Int) else s.part a) = _; rw [if_neg e]; exact h1, h2, h3, h4⟩

end

end Go.Proofs.Ytbndjailimhbdaa
