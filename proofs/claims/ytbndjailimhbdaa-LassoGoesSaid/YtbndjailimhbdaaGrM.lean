/- What foretellkeep.Graph makes, and how it lies. -/
import Derived.Test.YtbndjailimhbdaaLi
import Derived.Test.YtbndjailimhbdaaSpC
import Derived.Test.YtbndjailimhbdaaPick
namespace Go.Proofs.Ytbndjailimhbdaa
open Go.RowKit

theorem ints_cells {w : World} {a : Option Addr} {n c : Nat} {l : List Int} (h : Row w 1 a n c (l.map (.int .i64))) : ∃ b off, (0 < l.length → a = some ⟨b, off, none⟩) ∧ ∀ (i : Nat) (hi : i < l.length), w.cell? ⟨b, off + i, none⟩ = some (.int .i64 l[i]) := by
  obtain ⟨b, off, _, h2, h3⟩ := h.lie
  exact ⟨b, off, fun hl => h2 (by simpa using hl), fun i hi => h3 i _ (by rw [List.getElem?_map, List.getElem?_eq_getElem hi]; rfl)⟩

def Spots (w : World) (v : Value) (l : List Sp2) : Prop := Reads w 2 v l.length (l.flatMap spc)
theorem Spots.ext {w w' : World} {v : Value} {l : List Sp2} (h : Spots w v l) (hb : Ext w w') : Spots w' v l := Reads.ext h hb

theorem Row.oneG (w : World) (t : TypeId) (x : Value) (k : Nat) (hk : k = w.heap.size) : Row (w.alloc (.cells #[x] t)) 1 (some ⟨k, 0, none⟩) 1 1 [x] := by subst hk; exact Row.one w t x
theorem Row.newSp (w : World) (t : TypeId) (k v : Int) : Row (w.alloc (.cells #[.int .i64 k, .int .i64 v] t)) 2 (some ⟨w.heap.size, 0, none⟩) 1 1 (spc (k, v)) := by
  refine ⟨rfl, Nat.le_refl _, by unfold maxLen; omega, w.heap.size, 0, (by intro h; cases h), fun _ => rfl, fun j u hu => ?_⟩
  rw [Nat.zero_add, World.cell?_alloc_at _ _ _ _ rfl]
  simpa [spc] using hu

def gSpots (k : Nat) : List Sp2 := (List.range k).map fun i : Nat => ((i : Int), (0 : Int))
def gL (n : Int) (l : List Int) : List Int := (l.take 6).map fun x => pk x n
def gNext (n : Int) (ll : List (List Int)) (k : Nat) : List (List Int) := (ll.take k).map (gL n)
def gSet (M : Int) (sets : List Int) (i : Nat) : Int := if i < sets.length then pk (sets.getD i 0) M else 0
def gSets (M : Int) (sets : List Int) (k : Nat) : List Int := (List.range k).map (gSet M sets)

theorem gSpots_len (k : Nat) : (gSpots k).length = k := by simp [gSpots]
theorem gSpots_succ (k : Nat) : gSpots (k + 1) = gSpots k ++ [((k : Int), 0)] := by simp [gSpots, List.range_succ]
theorem gNext_len (n : Int) (ll : List (List Int)) (k : Nat) (h : k ≤ ll.length) : (gNext n ll k).length = k := by simp [gNext]; omega
theorem gNext_succ (n : Int) (ll : List (List Int)) (k : Nat) (h : k < ll.length) : gNext n ll (k + 1) = gNext n ll k ++ [gL n ll[k]] := by
  unfold gNext
  rw [List.take_succ_eq_append_getElem h, List.map_append]
  rfl
theorem gSets_len (M : Int) (sets : List Int) (k : Nat) : (gSets M sets k).length = k := by simp [gSets]
theorem gSets_succ (M : Int) (sets : List Int) (k : Nat) : gSets M sets (k + 1) = gSets M sets k ++ [gSet M sets k] := by simp [gSets, List.range_succ]

/-- Three rows of a call's own: spots, lists, sets; each in blocks of its own. -/
structure GMem (τ : Nat → Nat) (B : Nat) (w : World) (sp nx st : Value) (S : List Sp2) (L : List (List Int)) (T : List Int) : Prop where
  lo : ∀ b, b < B → τ b = 0
  size : B ≤ w.heap.size
  sp : OwnT τ 1 w B 41 2 sp S.length (S.flatMap spc)
  nx : ∃ vs, OwnT τ 2 w B 23 1 nx L.length vs ∧ Ent τ 3 w fun x => Each x vs L
  st : OwnT τ 4 w B 3 1 st T.length (T.map (.int .i64))

section
variable {τ : Nat → Nat} {B : Nat} {w w' : World} {sp nx st : Value} {S : List Sp2} {L : List (List Int)} {T : List Int}
theorem GMem.nil (w : World) (B : Nat) (h : B ≤ w.heap.size) : GMem (fun _ => 0) B w (.slice none 0 0) (.slice none 0 0) (.slice none 0 0) [] [] [] :=
  ⟨fun _ _ => rfl, h, OwnT.nil _ _ _ _ _ _, ⟨[], OwnT.nil _ _ _ _ _ _, fun x _ _ => ⟨rfl, by intro i u l hu; simp at hu⟩⟩, OwnT.nil _ _ _ _ _ _⟩
theorem GMem.ext (h : GMem τ B w sp nx st S L T) (hE : Ext w w') : GMem τ B w' sp nx st S L T := by
  obtain ⟨vs, h1, h2⟩ := h.nx
  exact ⟨h.lo, Nat.le_trans h.size hE.size, h.sp.ext hE, ⟨vs, h1.ext hE, h2.ext hE⟩, h.st.ext hE⟩
theorem GMem.low (h : GMem τ B w sp nx st S L T) {p : Addr} (hp : p.block < B) (v : Value) : GMem τ B (w.setCell p v) sp nx st S L T := by
  obtain ⟨vs, h1, h2⟩ := h.nx
  exact ⟨h.lo, by simpa using h.size, h.sp.low hp v, ⟨vs, h1.low hp v, h2.set (by rw [h.lo _ hp]; omega) v⟩, h.st.low hp v⟩
theorem GMem.retag (h : GMem τ B w sp nx st S L T) (t : Nat) : GMem (tagAt τ w.heap.size t) B w sp nx st S L T := by
  obtain ⟨vs, h1, h2⟩ := h.nx
  have e : ∀ b, b < w.heap.size → tagAt τ w.heap.size t b = τ b := fun b hb => tagAt_lt hb
  exact ⟨fun b hb => by have := h.size; rw [e b (by omega)]; exact h.lo b hb, h.size, h.sp.retag e, ⟨vs, h1.retag e, h2.tag e⟩, h.st.retag e⟩
theorem GMem.appSp (h : GMem τ B w sp nx st S L T) {sp' : Value} {n : Nat} {xs : List Value} {x : Sp2} (ho : w'.ownsRow B 41 2 sp' n xs) (hn : n = S.length + 1) (hx : xs = S.flatMap spc ++ spc x)
    (hg : w.grownBy w' sp.ownBlock) (hb : sp'.ownBlock = sp.ownBlock ∨ sp'.ownBlock = some w.heap.size) : GMem (tagAt τ w.heap.size 1) B w' sp' nx st (S ++ [x]) L T := by
  obtain ⟨vs, h1, h2⟩ := h.nx
  refine ⟨fun b hb => by have := h.size; rw [tagAt_lt (by omega)]; exact h.lo b hb, Nat.le_trans h.size hg.size, ?_, ⟨vs, h1.other h.sp hg (by omega), h2.app h.sp hg (by omega)⟩, h.st.other h.sp hg (by omega)⟩
  have := h.sp.app ho hb
  subst hn; subst hx
  simpa using this
theorem GMem.appNx (h : GMem τ B w sp nx st S L T) {nx' u : Value} {l : List Int} {n : Nat} {vs vs' : List Value} (h1 : OwnT τ 2 w B 23 1 nx L.length vs) (h2 : Ent τ 3 w fun x => Each x vs L) (hu : Ent τ 3 w fun x => Ints x u l)
    (ho : w'.ownsRow B 23 1 nx' n vs') (hn : n = L.length + 1) (hv : vs' = vs ++ [u])
    (hg : w.grownBy w' nx.ownBlock) (hb : nx'.ownBlock = nx.ownBlock ∨ nx'.ownBlock = some w.heap.size) : GMem (tagAt τ w.heap.size 2) B w' sp nx' st S (L ++ [l]) T := by
  subst hn; subst hv
  refine ⟨fun b hb => by have := h.size; rw [tagAt_lt (by omega)]; exact h.lo b hb, Nat.le_trans h.size hg.size, h.sp.other h1 hg (by omega), ⟨vs ++ [u], ?_, ?_⟩, h.st.other h1 hg (by omega)⟩
  · have := h1.app ho hb
    simpa using this
  · exact Ent.both (h2.app h1 hg (by omega)) (hu.app h1 hg (by omega)) fun x ha hb => ha.snoc hb
theorem GMem.appSt (h : GMem τ B w sp nx st S L T) {st' : Value} {n : Nat} {xs : List Value} {x : Int} (ho : w'.ownsRow B 3 1 st' n xs) (hn : n = T.length + 1) (hx : xs = T.map (.int .i64) ++ [.int .i64 x])
    (hg : w.grownBy w' st.ownBlock) (hb : st'.ownBlock = st.ownBlock ∨ st'.ownBlock = some w.heap.size) : GMem (tagAt τ w.heap.size 4) B w' sp nx st' S L (T ++ [x]) := by
  obtain ⟨vs, h1, h2⟩ := h.nx
  refine ⟨fun b hb => by have := h.size; rw [tagAt_lt (by omega)]; exact h.lo b hb, Nat.le_trans h.size hg.size, h.sp.other h.st hg (by omega), ⟨vs, h1.other h.st hg (by omega), h2.app h.st hg (by omega)⟩, ?_⟩
  have := h.st.app ho hb
  subst hn; subst hx
  simpa using this
theorem GMem.base (h : GMem τ B w sp nx st S L T) {B' : Nat} (hb : B' ≤ B) : GMem τ B' w sp nx st S L T := by
  obtain ⟨vs, h1, h2⟩ := h.nx
  exact ⟨fun b hlt => h.lo b (by omega), Nat.le_trans hb h.size, ⟨own_down h.sp.own hb, h.sp.tag⟩, ⟨vs, ⟨own_down h1.own hb, h1.tag⟩, h2⟩, ⟨own_down h.st.own hb, h.st.tag⟩⟩
theorem GMem.spots (h : GMem τ B w sp nx st S L T) : Spots w sp S := h.sp.reads
theorem GMem.lists (h : GMem τ B w sp nx st S L T) : Lists w nx L := by
  obtain ⟨vs, h1, h2⟩ := h.nx
  exact ⟨vs, h2.now, h1.reads⟩
theorem GMem.ints (h : GMem τ B w sp nx st S L T) : Ints w st T := by
  have := h.st.reads
  rwa [show T.length = T.length from rfl] at this
end

end Go.Proofs.Ytbndjailimhbdaa
