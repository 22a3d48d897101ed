/- Several texts in one: GrM; ReachM; SccChk; Visit; Reached; SMem; Enter; Leave; TSM; FairP. No condition. -/
import Derived.Test.YtbmimdnpchldlaaDoorKd1
import Derived.Deep.LoopGhost
import Derived.WalkSmall
import Derived.Deep.RegionWith
namespace Go.Proofs.YtbmimdnpchldlaaDoor
open Go.RowKit

theorem ints_cells {w : World} {a : Option Addr} {n c : Nat} {l : List Int} (h : Row w 1 a n c (l.map (.int .i64))) : ∃ b off, (0 < l.length → a = some ⟨b, off, none⟩) ∧ ∀ (i : Nat) (hi : i < l.length), w.cell? ⟨b, off + i, none⟩ = some (.int .i64 l[i]) := by
  obtain ⟨b, off, _, h2, h3⟩ := h.lie
  exact ⟨b, off, fun hl => h2 (by simpa using hl), fun i hi => h3 i _ (by rw [List.getElem?_map, List.getElem?_eq_getElem hi]; rfl)⟩

def Spots (w : World) (v : Value) (l : List Sp2) : Prop := Reads w 2 v l.length (l.flatMap spc)
theorem Spots.ext {w w' : World} {v : Value} {l : List Sp2} (h : Spots w v l) (hb : Ext w w') : Spots w' v l := Reads.ext h hb

theorem Row.oneG (w : World) (t : TypeId) (x : Value) (k : Nat) (hk : k = w.heap.size) : Row (w.alloc (.cells #[x] t)) 1 (some ⟨k, 0, none⟩) 1 1 [x] := by subst hk; exact Row.one w t x
theorem Row.newSp (w : World) (t : TypeId) (k v : Int) : Row (w.alloc (.cells #[.int .i64 k, .int .i64 v] t)) 2 (some ⟨w.heap.size, 0, none⟩) 1 1 (spc (k, v)) := by
  refine ⟨rfl, Nat.le_refl _, by unfold maxLen; omega, w.heap.size, 0, (by intro h; cases h), fun _ => rfl, fun j u hu => ?_⟩
  rw [Nat.zero_add, World.cell?_alloc_at _ _ _ _ rfl]
  simpa [spc] using hu

def gSpots (k : Nat) : List Sp2 := (List.range k).map fun i : Nat => ((i : Int), (0 : Int))
def gL (n : Int) (l : List Int) : List Int := (l.take 6).map fun x => pk x n
def gNext (n : Int) (ll : List (List Int)) (k : Nat) : List (List Int) := (ll.take k).map (gL n)
def gSet (M : Int) (sets : List Int) (i : Nat) : Int := if i < sets.length then pk (sets.getD i 0) M else 0
def gSets (M : Int) (sets : List Int) (k : Nat) : List Int := (List.range k).map (gSet M sets)

theorem gSpots_len (k : Nat) : (gSpots k).length = k := by simp [gSpots]
theorem gSpots_succ (k : Nat) : gSpots (k + 1) = gSpots k ++ [((k : Int), 0)] := by simp [gSpots, List.range_succ]
theorem gNext_len (n : Int) (ll : List (List Int)) (k : Nat) (h : k ≤ ll.length) : (gNext n ll k).length = k := by simp [gNext]; omega
theorem gNext_succ (n : Int) (ll : List (List Int)) (k : Nat) (h : k < ll.length) : gNext n ll (k + 1) = gNext n ll k ++ [gL n ll[k]] := by
  unfold gNext
  rw [List.take_succ_eq_append_getElem h, List.map_append]
  rfl
theorem gSets_len (M : Int) (sets : List Int) (k : Nat) : (gSets M sets k).length = k := by simp [gSets]
theorem gSets_succ (M : Int) (sets : List Int) (k : Nat) : gSets M sets (k + 1) = gSets M sets k ++ [gSet M sets k] := by simp [gSets, List.range_succ]

/-- Three rows of a call's own: spots, lists, sets; each in blocks of its own. -/
structure GMem (τ : Nat → Nat) (B : Nat) (w : World) (sp nx st : Value) (S : List Sp2) (L : List (List Int)) (T : List Int) : Prop where
  lo : ∀ b, b < B → τ b = 0
  size : B ≤ w.heap.size
  sp : OwnT τ 1 w B 49 2 sp S.length (S.flatMap spc)
  nx : ∃ vs, OwnT τ 2 w B 38 1 nx L.length vs ∧ Ent τ 3 w fun x => Each x vs L
  st : OwnT τ 4 w B 3 1 st T.length (T.map (.int .i64))

section
variable {τ : Nat → Nat} {B : Nat} {w w' : World} {sp nx st : Value} {S : List Sp2} {L : List (List Int)} {T : List Int}
theorem GMem.nil (w : World) (B : Nat) (h : B ≤ w.heap.size) : GMem (fun _ => 0) B w (.slice none 0 0) (.slice none 0 0) (.slice none 0 0) [] [] [] :=
  ⟨fun _ _ => rfl, h, OwnT.nil _ _ _ _ _ _, ⟨[], OwnT.nil _ _ _ _ _ _, fun x _ _ => ⟨rfl, by intro i u l hu; simp at hu⟩⟩, OwnT.nil _ _ _ _ _ _⟩
theorem GMem.ext (h : GMem τ B w sp nx st S L T) (hE : Ext w w') : GMem τ B w' sp nx st S L T := by
  obtain ⟨vs, h1, h2⟩ := h.nx
  exact ⟨h.lo, Nat.le_trans h.size hE.size, h.sp.ext hE, ⟨vs, h1.ext hE, h2.ext hE⟩, h.st.ext hE⟩
theorem GMem.low (h : GMem τ B w sp nx st S L T) {p : Addr} (hp : p.block < B) (v : Value) : GMem τ B (w.setCell p v) sp nx st S L T := by
  obtain ⟨vs, h1, h2⟩ := h.nx
  exact ⟨h.lo, by simpa using h.size, h.sp.low hp v, ⟨vs, h1.low hp v, h2.set (by rw [h.lo _ hp]; omega) v⟩, h.st.low hp v⟩
theorem GMem.retag (h : GMem τ B w sp nx st S L T) (t : Nat) : GMem (tagAt τ w.heap.size t) B w sp nx st S L T := by
  obtain ⟨vs, h1, h2⟩ := h.nx
  have e : ∀ b, b < w.heap.size → tagAt τ w.heap.size t b = τ b := fun b hb => tagAt_lt hb
  exact ⟨fun b hb => by have := h.size; rw [e b (by omega)]; exact h.lo b hb, h.size, h.sp.retag e, ⟨vs, h1.retag e, h2.tag e⟩, h.st.retag e⟩
theorem GMem.appSp (h : GMem τ B w sp nx st S L T) {sp' : Value} {n : Nat} {xs : List Value} {x : Sp2} (ho : w'.ownsRow B 49 2 sp' n xs) (hn : n = S.length + 1) (hx : xs = S.flatMap spc ++ spc x)
    (hg : w.grownBy w' sp.ownBlock) (hb : sp'.ownBlock = sp.ownBlock ∨ sp'.ownBlock = some w.heap.size) : GMem (tagAt τ w.heap.size 1) B w' sp' nx st (S ++ [x]) L T := by
  obtain ⟨vs, h1, h2⟩ := h.nx
  refine ⟨fun b hb => by have := h.size; rw [tagAt_lt (by omega)]; exact h.lo b hb, Nat.le_trans h.size hg.size, ?_, ⟨vs, h1.other h.sp hg (by omega), h2.app h.sp hg (by omega)⟩, h.st.other h.sp hg (by omega)⟩
  have := h.sp.app ho hb
  subst hn; subst hx
  simpa using this
theorem GMem.appNx (h : GMem τ B w sp nx st S L T) {nx' u : Value} {l : List Int} {n : Nat} {vs vs' : List Value} (h1 : OwnT τ 2 w B 38 1 nx L.length vs) (h2 : Ent τ 3 w fun x => Each x vs L) (hu : Ent τ 3 w fun x => Ints x u l)
    (ho : w'.ownsRow B 38 1 nx' n vs') (hn : n = L.length + 1) (hv : vs' = vs ++ [u])
    (hg : w.grownBy w' nx.ownBlock) (hb : nx'.ownBlock = nx.ownBlock ∨ nx'.ownBlock = some w.heap.size) : GMem (tagAt τ w.heap.size 2) B w' sp nx' st S (L ++ [l]) T := by
  subst hn; subst hv
  refine ⟨fun b hb => by have := h.size; rw [tagAt_lt (by omega)]; exact h.lo b hb, Nat.le_trans h.size hg.size, h.sp.other h1 hg (by omega), ⟨vs ++ [u], ?_, ?_⟩, h.st.other h1 hg (by omega)⟩
  · have := h1.app ho hb
    simpa using this
  · exact Ent.both (h2.app h1 hg (by omega)) (hu.app h1 hg (by omega)) fun x ha hb => ha.snoc hb
theorem GMem.appSt (h : GMem τ B w sp nx st S L T) {st' : Value} {n : Nat} {xs : List Value} {x : Int} (ho : w'.ownsRow B 3 1 st' n xs) (hn : n = T.length + 1) (hx : xs = T.map (.int .i64) ++ [.int .i64 x])
    (hg : w.grownBy w' st.ownBlock) (hb : st'.ownBlock = st.ownBlock ∨ st'.ownBlock = some w.heap.size) : GMem (tagAt τ w.heap.size 4) B w' sp nx st' S L (T ++ [x]) := by
  obtain ⟨vs, h1, h2⟩ := h.nx
  refine ⟨fun b hb => by have := h.size; rw [tagAt_lt (by omega)]; exact h.lo b hb, Nat.le_trans h.size hg.size, h.sp.other h.st hg (by omega), ⟨vs, h1.other h.st hg (by omega), h2.app h.st hg (by omega)⟩, ?_⟩
  have := h.st.app ho hb
  subst hn; subst hx
  simpa using this
theorem GMem.base (h : GMem τ B w sp nx st S L T) {B' : Nat} (hb : B' ≤ B) : GMem τ B' w sp nx st S L T := by
  obtain ⟨vs, h1, h2⟩ := h.nx
  exact ⟨fun b hlt => h.lo b (by omega), Nat.le_trans hb h.size, ⟨own_down h.sp.own hb, h.sp.tag⟩, ⟨vs, ⟨own_down h1.own hb, h1.tag⟩, h2⟩, ⟨own_down h.st.own hb, h.st.tag⟩⟩
theorem GMem.spots (h : GMem τ B w sp nx st S L T) : Spots w sp S := h.sp.reads
theorem GMem.lists (h : GMem τ B w sp nx st S L T) : Lists w nx L := by
  obtain ⟨vs, h1, h2⟩ := h.nx
  exact ⟨vs, h2.now, h1.reads⟩
theorem GMem.ints (h : GMem τ B w sp nx st S L T) : Ints w st T := by
  have := h.st.reads
  rwa [show T.length = T.length from rfl] at this
end

end Go.Proofs.YtbmimdnpchldlaaDoor

namespace Go.Proofs.YtbmimdnpchldlaaDoor
open Go.RowKit

theorem Tryd.slBoolsG : SlTy Tryd.prog 76 4 (.bool false) 1 1 := SlTy.mk' Tryd.underlying76 (by kernel_rfl) (by rfl) (by omega)

/-- What a search leaves: the marks. -/
def MarkPost (w : World) (n : Nat) (next : List (List Int)) (src : Nat → Prop) (v : Value) (w' : World) : Prop :=
  ∃ seen : List Bool, w'.ownsRow w.heap.size 4 1 v n (seen.map .bool) ∧ seen.length = n ∧ (∀ a : Nat, seen[a]? = some true ↔ ∃ s, src s ∧ Reach next s a) ∧ Ext w w'

theorem made_false (n : Nat) : (madeCells #[Value.bool false] n).toList = (List.replicate n false).map .bool := by rw [toList_madeCells_one, List.map_replicate]

theorem set_map_bool (l : List Bool) (i : Nat) (b : Bool) : (l.map Value.bool).set i (.bool b) = (l.set i b).map .bool := by rw [List.map_set]

end Go.Proofs.YtbmimdnpchldlaaDoor

namespace Go.Proofs.YtbmimdnpchldlaaDoor
open Go.RowKit

/-- A graph in form. -/
structure GOk (n : Nat) (next : List (List Int)) (sets : List Int) (init : Int) (M : Nat) : Prop where
  nx : next.length = n
  st : sets.length = n
  max : n ≤ 20000
  i0 : 0 ≤ init
  i1 : init ≤ n
  m6 : M ≤ 6
  ins : Inside n next
  bits : ∀ s ∈ sets, (0 : Int) ≤ s ∧ s < (2 : Int) ^ M

theorem wrap_pow {M : Nat} (h : M ≤ 6) : IntKind.i64.wrap ((2 : Int) ^ M) = (2 : Int) ^ M := by
  rcases (show M = 0 ∨ M = 1 ∨ M = 2 ∨ M = 3 ∨ M = 4 ∨ M = 5 ∨ M = 6 by omega) with rfl | rfl | rfl | rfl | rfl | rfl | rfl <;> decide

set_option maxRecDepth 100000 in
set_option maxHeartbeats 4000000 in
theorem gcheck_ok (sp nx st : Value) (init : Int) (M : Nat) (S : List Sp2) (next : List (List Int)) (sets : List Int) (w : World) (hS : Spots w sp S) (hN : Lists w nx next) (hT : Ints w st sets) (hk : GOk S.length next sets init M) :
    Calls Tryd.prog 87 #[.agg #[sp, .int .i64 init, nx, st, .int .i64 (M : Int)]] w fun e w' => e = .returned (.int .i64 0) ∧ Ext w w' := by
  obtain ⟨asp, csp, rfl, _⟩ := hS
  obtain ⟨ax, cx, rfl⟩ : ∃ a c, nx = .slice a next.length c := by
    obtain ⟨vs, he, a, c, rfl, _⟩ := hN
    exact ⟨a, c, rfl⟩
  obtain ⟨at', ct, rfl, hrt⟩ := hT
  obtain ⟨_, _, _, bn, on, han, hcn⟩ := hN.cells
  obtain ⟨bs, os, hs1, hs2⟩ := ints_cells hrt
  have HC := Lib.hid hcn
  have HA := Lib.hid han
  have HS1 := Lib.hid hs1
  have HS2 := Lib.hid hs2
  have HK := Lib.hid hk
  have h1 := hk.max
  have h2 := hk.i0
  have h3 := hk.i1
  have h4 := hk.m6
  have h5 := hk.nx
  have h6 := hk.st
  generalize S.length = n at *
  have HN := Lib.hid h5
  have HST := Lib.hid h6
  have hq1 : ((next.length : Int) != (n : Int)) = false := by rw [bne_eq_false_iff_eq]; omega
  have hq2 : ((sets.length : Int) != (n : Int)) = false := by rw [bne_eq_false_iff_eq]; omega
  have hM : (M : Int) ≤ 6 := by omega
  have h1' : (n : Int) ≤ 20000 := by omega
  obtain ⟨PM, hPM⟩ : ∃ PM, (2 : Int) ^ M = PM := ⟨_, rfl⟩
  have hw0 : IntKind.i64.wrap ((2 : Int) ^ M) = PM := (wrap_pow h4).trans hPM
  have HPM := Lib.hid hPM
  clear hPM
  clear hN hcn han hk hrt hs1 hs2 h5 h6 h4
  go_enter Tryd.func87, Tryd.ntmps87
  go_wp2_with fail
  have bA := blk_new w (Obj.cells #[.slice asp n csp, .int .i64 init, .slice ax next.length cx, .slice at' sets.length ct, .int .i64 (M : Int)] 40)
  have hE := ext_al (Ext.refl w) (Obj.cells #[.slice asp n csp, .int .i64 init, .slice ax next.length cx, .slice at' sets.length ct, .int .i64 (M : Int)] 40)
  have BA := Lib.hid bA
  have HE := Lib.hid hE
  clear bA hE
  go_loopg [51] next.length (fun m x wr => ∃ i : Nat, m + i = next.length ∧ x = .int .i64 (i : Int) ∧ wr.heap[w.heap.size]? = some (.cells #[.slice asp n csp, .int .i64 init, .slice ax next.length cx, .slice at' sets.length ct, .int .i64 (M : Int)] 40 (0, 0)) ∧ Ext w wr)
  case atStart => exact ⟨0, by omega, by go_num, BA.out, HE.out⟩
  case round =>
    obtain ⟨i, hm, rfl, bA, hE⟩ := hrel
    clear BA HE
    have HM := Lib.hid hm
    have BA := Lib.hid bA
    have HE := Lib.hid hE
    clear hm bA hE
    by_cases hi : i < next.length
    · obtain rfl := HA.out (by omega)
      obtain ⟨ai, ci, hx, hx2⟩ := HC.out i hi
      replace hx := cell_later HE.out hx
      obtain ⟨_, _, e, hri⟩ := hx2
      simp only [Value.slice.injEq] at e
      obtain ⟨rfl, _, rfl⟩ := e
      have hmi : next[i].length ≤ 9223372036854775807 := by have h1 := hri.max; have h2 := hri.le; unfold maxLen at h1; omega
      obtain ⟨bi, oi, hri1, hri2⟩ := ints_cells hri
      have HLI := Lib.hid (HK.out.ins next[i] (by simp))
      have HI1 := Lib.hid hri1
      have HI2 := Lib.hid hri2
      generalize next[i] = l at *
      clear hri hri1 hri2
      have hiI : (i : Int) < (next.length : Int) := by omega
      have hiI0 : (0 : Int) ≤ (i : Int) := by omega
      have hn9 : next.length ≤ 20000 := by have := HN.out; omega
      go_wp2_with fail
      obtain ⟨wo, rfl⟩ : ∃ wo : World, wo = wr := ⟨_, rfl⟩
      go_loopg [58] l.length (fun m x wi => ∃ k : Nat, m + k = l.length ∧ x = .int .i64 (k : Int) ∧ wi = wo)
      case atStart => exact ⟨0, by omega, by go_num, rfl⟩
      case round =>
        obtain ⟨k, hmk, rfl, rfl⟩ := hrel
        have HMK := Lib.hid hmk
        clear hmk
        by_cases hk : k < l.length
        · obtain rfl := HI1.out (by omega)
          have ck := cell_later HE.out (HI2.out k hk)
          obtain ⟨y0, y1⟩ := HLI.out l[k] (by simp)
          generalize l[k] = y at *
          have y2 : ¬ y < 0 := by omega
          have y3 : ¬ (n : Int) ≤ y := by omega
          go_wp2_with fail
          go_roundg (gk - 1)
          case measure => have := HMK.out; omega
          case rel => exact ⟨k + 1, by have := HMK.out; omega, by go_num, rfl⟩
        · have hkl : ¬ (k : Int) < (l.length : Int) := by omega
          have hist : i < sets.length := by have := HN.out; have := HST.out; omega
          obtain rfl := HS1.out (by omega)
          have cst := cell_later HE.out (HS2.out i hist)
          obtain ⟨s0, s1⟩ := HK.out.bits sets[i] (by simp)
          rw [HPM.out] at s1
          have hiS : (i : Int) < (sets.length : Int) := by omega
          have cA3 := blk_cell BA.out (i := 3) rfl
          have cA4 := blk_cell BA.out (i := 4) rfl
          generalize sets[i] = y at *
          have y2 : decide (y < 0) = false := by rw [decide_eq_false_iff_not]; omega
          have y3 : decide (PM ≤ y) = false := by rw [decide_eq_false_iff_not]; omega
          clear hk
          go_wp2_with fail
          go_quiet (fail)
          go_wp2_with fail
          go_roundg (next.length - (i + 1))
          case measure => have := HM.out; omega
          case rel =>
            have hW : ∀ m, Ext wr (wr.drewN m) := fun m => below_drewN (Ext.refl wr) m
            exact ⟨i + 1, by omega, by go_num, blk_ext BA.out (hW _), HE.out.trans (hW _)⟩
    · have hnI : ¬ (i : Int) < (next.length : Int) := by omega
      clear hi
      go_wp2
      go_ret
      exact ⟨rfl, HE.out⟩

set_option maxRecDepth 100000 in
set_option maxHeartbeats 1000000 in
theorem check_bad (w : World) : Calls Tryd.prog 87 #[.agg #[.slice none 0 0, .int .i64 1, .slice none 0 0, .slice none 0 0, .int .i64 0]] w fun e w' => e = .returned (.int .i64 9) ∧ Ext w w' := by
  go_enter Tryd.func87, Tryd.ntmps87
  go_wp2
  go_ret
  exact ⟨rfl, ext_al (Ext.refl w) _⟩

end Go.Proofs.YtbmimdnpchldlaaDoor

namespace Go.Proofs.YtbmimdnpchldlaaDoor
open Go.RowKit

/-- What the search's two variables hold: S the marks, T what is still to be gone through. -/
structure VMem (τ : Nat → Nat) (B S T D n : Nat) (w : World) (seen : List Bool) (todo : List Int) : Prop where
  ms : w.heap[S]? = some (.cells #[.slice (some ⟨D, 0, none⟩) n n] 76 (0, 0))
  mt : ∃ a c, w.heap[T]? = some (.cells #[.slice a todo.length c] 38 (0, 0)) ∧ OwnT τ 2 w B 3 1 (.slice a todo.length c) todo.length (todo.map (.int .i64))
  os : OwnT τ 1 w D 4 1 (.slice (some ⟨D, 0, none⟩) n n) n (seen.map .bool)
  ord : D < S ∧ S < T ∧ T < B
  tag : τ T = 0 ∧ B ≤ w.heap.size

theorem VMem.ext {τ : Nat → Nat} {B S T D n : Nat} {w w' : World} {seen : List Bool} {todo : List Int} (h : VMem τ B S T D n w seen todo) (hE : Ext w w') : VMem τ B S T D n w' seen todo := by
  obtain ⟨a, c, h1, h2⟩ := h.mt
  exact ⟨blk_ext h.ms hE, ⟨a, c, blk_ext h1 hE, h2.ext hE⟩, h.os.ext hE, h.ord, h.tag.1, Nat.le_trans h.tag.2 hE.size⟩
theorem VMem.len {τ : Nat → Nat} {B S T D n : Nat} {w : World} {seen : List Bool} {todo : List Int} (h : VMem τ B S T D n w seen todo) : seen.length = n := by simpa using h.os.own.1

def visL (seen : List Bool) (todo : List Int) (y : Nat) : List Bool × List Int := if seen[y]? = some true then (seen, todo) else (seen.set y true, todo ++ [(y : Int)])

set_option maxRecDepth 100000 in
set_option maxHeartbeats 2000000 in
theorem visit_any (τ : Nat → Nat) (B S T D n : Nat) (w : World) (seen : List Bool) (todo : List Int) (y : Nat) (h : VMem τ B S T D n w seen todo) (hy : y < n) (ht : todo.length ≤ 100000) :
    Calls Tryd.prog 110 #[.int .i64 (y : Int), .pointer (some ⟨S, 0, none⟩), .pointer (some ⟨T, 0, none⟩)] w fun e w' => e = .returned (.tuple #[]) ∧ (∃ τ', VMem τ' B S T D n w' (visL seen todo y).1 (visL seen todo y).2) ∧ Below D w w' := by
  have hl := h.len
  obtain ⟨h1, h2, h3⟩ := h.ord
  obtain ⟨h4, h5⟩ := h.tag
  have H4 := Lib.hid h4
  clear h4
  obtain ⟨a, c, b1, b2⟩ := h.mt
  have cS := blk_cell h.ms (i := 0) rfl
  have cT := blk_cell b1 (i := 0) rfl
  have fT := blk_free b1 0
  have hyl : y < seen.length := by omega
  have cy := own_cellAt h.os.own (i := y) (by simpa using hyl)
  have fy := own_freeAt h.os.own y
  rw [List.getElem_map] at cy
  have hD : D < w.heap.size := (h.os.own.lt D rfl).2
  have H := Lib.hid h
  have B2 := Lib.hid b2
  have B1 := Lib.hid b1
  have hyI : (y : Int) < (n : Int) := by omega
  have htD : τ D = 1 := h.os.tag D rfl
  have HTD := Lib.hid htD
  clear h b1 b2 hl htD
  cases hsy : seen[y] with
  | true =>
    rw [hsy] at cy
    have HV := Lib.hid (show visL seen todo y = (seen, todo) by simp [visL, List.getElem?_eq_getElem hyl, hsy])
    clear hsy
    go_enter Tryd.func110, Tryd.ntmps110
    go_wp2
    go_end0
    exact ⟨rfl, ⟨τ, by rw [HV.out]; exact H.out⟩, Below.refl _ _⟩
  | false =>
    rw [hsy] at cy
    have HV := Lib.hid (show visL seen todo y = (seen.set y true, todo ++ [(y : Int)]) by simp [visL, List.getElem?_eq_getElem hyl, hsy])
    clear hsy
    have q1 := H.out.os.setAt (i := y) (.bool true)
    rw [set_map_bool] at q1
    have q2 := B2.out.set (p := ⟨D, y, none⟩) (by show τ D ≠ 2; have := HTD.out; omega) (.bool true)
    have hal : Ext (w.setCell ⟨D, y, none⟩ (.bool true)) ((w.setCell ⟨D, y, none⟩ (.bool true)).alloc (Obj.cells #[.int .i64 (y : Int)] 3)) := ext_al (Ext.refl _) _
    have ho2 := q2.own.alloc (Obj.cells #[.int .i64 (y : Int)] 3)
    have bS := blk_ext (blk_far H.out.ms (p := ⟨D, y, none⟩) (by show D ≠ S; omega) (.bool true)) hal
    have bT := blk_ext (blk_far B1.out (p := ⟨D, y, none⟩) (by show D ≠ T; omega) (.bool true)) hal
    have Q1 := Lib.hid (q1.ext hal)
    have Q2 := Lib.hid (q2.ext hal)
    have BS := Lib.hid bS
    have BT := Lib.hid bT
    have HE := Lib.hid (show Below D w ((w.setCell ⟨D, y, none⟩ (.bool true)).alloc (Obj.cells #[.int .i64 (y : Int)] 3)) from Below.alloc (Below.setCell (Below.refl _ _) (p := ⟨D, y, none⟩) (by show D ≤ D; omega) _) (by simp; omega) _)
    clear q1 q2 bS bT hal
    go_enter Tryd.func110, Tryd.ntmps110
    go_wp2_with (at_builtin; go_must (refine wpl_append rfl rfl Tryd.slIntsG B rfl ho2 rfl (Row.oneG _ _ _ _ (by simp)) (one_int _) (by unfold maxLen; omega) (by omega) (by simp; omega) ?_))
    intro v3 w3 hown3 hg3 hb3 _
    have hb3' : v3.ownBlock = (Value.slice a todo.length c).ownBlock ∨ v3.ownBlock = some ((w.setCell ⟨D, y, none⟩ (.bool true)).alloc (Obj.cells #[.int .i64 (y : Int)] 3)).heap.size := by
      rcases hb3 with h | h
      · exact .inl h
      · right; rw [h]; simp
    have hlo : ∀ b, (Value.slice a todo.length c).ownBlock = some b → B ≤ b := fun b hb => (B2.out.own.lt b hb).1
    have r2 := Q2.out.app hown3 hb3'
    have r1 := Q1.out.other Q2.out hg3 (by omega)
    have rS := blk_grown BS.out hg3 (fun e => by have := hlo _ e.symm; omega)
    have rT := blk_grown BT.out hg3 (fun e => by have := hlo _ e.symm; omega)
    have rE := HE.out.grown hg3 (by simp; omega) (fun b hb => by have := hlo b hb; omega)
    obtain ⟨a3, c3, rfl, _⟩ := hown3.row
    have cT := blk_cell rT (i := 0) rfl
    have fT := blk_free rT 0
    have HR := Lib.hid r2
    have HG := Lib.hid hg3
    have R1 := Lib.hid r1
    have RS := Lib.hid rS
    have RT := Lib.hid rT
    have RE := Lib.hid rE
    clear hown3 hg3 hb3 hb3' r1 r2 rS rT rE cy fy ho2
    go_wp2
    go_end0
    refine ⟨rfl, ?_, RE.out.setCell (p := ⟨T, 0, none⟩) (by show D ≤ T; omega) _⟩
    rw [HV.out]
    have z := blk_set RT.out (i := 0) (.slice a3 (todo.length + 1) c3)
    have z2 := HR.out.low (p := ⟨T, 0, none⟩) (by show T < B; omega) (.slice a3 (todo.length + 1) c3)
    have t0 : tagAt τ ((w.setCell ⟨D, y, none⟩ (.bool true)).alloc (Obj.cells #[.int .i64 (y : Int)] 3)).heap.size 2 T = 0 := by rw [tagAt_lt (by simp; omega)]; exact H4.out
    have hsz := HG.out.size
    exact ⟨_, blk_far RS.out (p := ⟨T, 0, none⟩) (by show T ≠ S; omega) _, ⟨a3, c3, by simpa using z, by simpa using z2⟩, R1.out.set (p := ⟨T, 0, none⟩) (by rw [t0]; omega) _, ⟨h1, h2, h3⟩, t0, by simp at hsz ⊢; omega⟩

end Go.Proofs.YtbmimdnpchldlaaDoor

namespace Go.Proofs.YtbmimdnpchldlaaDoor
open Go.RowKit

theorem vis_seek {n : Nat} {next : List (List Int)} {src : Nat → Prop} {seen : List Bool} {todo : List Int} {c : Option (Nat × Nat)} {y : Nat} (h : Seek n next src seen todo) (hc : Closed next seen todo c) (hy : ∃ s, src s ∧ Reach next s y) (hn : y < n) :
    Seek n next src (visL seen todo y).1 (visL seen todo y).2 ∧ Closed next (visL seen todo y).1 (visL seen todo y).2 c ∧ (visL seen todo y).1[y]? = some true ∧ (∀ a : Nat, seen[a]? = some true → (visL seen todo y).1[a]? = some true) ∧
      2 * (n - (visL seen todo y).1.count true) + (visL seen todo y).2.length ≤ 2 * (n - seen.count true) + todo.length ∧ (todo.length ≤ seen.count true → (visL seen todo y).2.length ≤ (visL seen todo y).1.count true) := by
  unfold visL
  split
  · rename_i hs
    exact ⟨h, hc, hs, fun _ h => h, Nat.le_refl _, fun h => h⟩
  · rename_i hs
    have hl : y < seen.length := by rw [h.len]; exact hn
    have hf : seen[y]? = some false := by
      rw [List.getElem?_eq_getElem hl] at hs ⊢
      cases hb : seen[y] with
      | true => exact absurd (by rw [hb]) hs
      | false => rfl
    have hcs := count_set seen y hf
    have hle := List.count_le_length (a := true) (l := seen.set y true)
    rw [List.length_set, h.len] at hle
    refine ⟨h.mark hy hn (by simp), hc.mark (by simp +contextual) (by simp), by rw [List.getElem?_set]; simp [hl], fun a ha => seen_set ha, ?_, fun ht => ?_⟩
    · simp only [hcs, List.length_append, List.length_singleton]; omega
    · simp only [hcs, List.length_append, List.length_singleton]; omega

theorem VMem.pop {τ : Nat → Nat} {B S T D n : Nat} {w : World} {seen : List Bool} {s : List Int} {x : Int} (h : VMem τ B S T D n w seen (s ++ [x])) :
    ∃ g cap, w.heap[T]? = some (.cells #[.slice (some ⟨g, 0, none⟩) (s.length + 1) cap] 38 (0, 0)) ∧ w.cell? ⟨g, s.length, none⟩ = some (.int .i64 x) ∧ s.length + 1 ≤ cap ∧ cap ≤ maxLen ∧
      VMem τ B S T D n (w.setCell ⟨T, 0, none⟩ (.slice (some ⟨g, 0, none⟩) s.length cap)) seen s := by
  obtain ⟨h1, h2, h3⟩ := h.ord
  obtain ⟨h4, h5⟩ := h.tag
  obtain ⟨a, c, b1, b2⟩ := h.mt
  simp only [List.length_append, List.length_singleton, List.map_append, List.map_cons, List.map_nil] at b1 b2
  have hr := b2.own.row
  obtain ⟨a', c', e, hrow⟩ := hr
  simp only [Value.slice.injEq] at e
  obtain ⟨rfl, _, rfl⟩ := e
  rcases b2.own.2 with ⟨hn, _⟩ | ⟨g, cap, cur, hv, hb, hgg, hnc, hcm, hcs, ht⟩
  · cases hn
  · simp only [Value.slice.injEq] at hv
    obtain ⟨rfl, _, rfl⟩ := hv
    refine ⟨g, c, b1, ?_, hnc, hcm, blk_far h.ms (p := ⟨T, 0, none⟩) (by show T ≠ S; omega) _, ⟨some ⟨g, 0, none⟩, c, ?_, ?_⟩, h.os.set (p := ⟨T, 0, none⟩) (by rw [h4]; omega) _, h.ord, h4, by simpa using h5⟩
    · have := b2.own.cells (g := g) rfl s.length (.int .i64 x) (by simp)
      simpa [Addr.add_lit] using this
    · have := blk_set b1 (i := 0) (.slice (some ⟨g, 0, none⟩) s.length c)
      simpa using this
    · exact OwnT.low ⟨ownsRow_pop (size := 1) (by simp) b2.own, fun b hb => b2.tag b hb⟩ (p := ⟨T, 0, none⟩) (by show T < B; omega) _

set_option maxRecDepth 100000 in
set_option maxHeartbeats 4000000 in
theorem reached_any (sp nx st : Value) (init : Nat) (M : Nat) (S : List Sp2) (next : List (List Int)) (sets : List Int) (w : World) (hS : Spots w sp S) (hN : Lists w nx next) (hT : Ints w st sets) (hk : GOk S.length next sets init M) :
    Calls Tryd.prog 85 #[.agg #[sp, .int .i64 (init : Int), nx, st, .int .i64 (M : Int)]] w fun e w' => ∃ v, e = .returned (.tuple #[v, .int .i64 0]) ∧ MarkPost w S.length next (fun s => s < init) v w' := by
  have HCK := Lib.hid fun wx (hx : Ext w wx) => gcheck_ok sp nx st init M S next sets wx (hS.ext hx) (hN.ext hx) (hT.ext hx) hk
  obtain ⟨asp, csp, rfl, _⟩ := hS
  obtain ⟨ax, cx, rfl⟩ : ∃ a c, nx = .slice a next.length c := by
    obtain ⟨vs, he, a, c, rfl, _⟩ := hN
    exact ⟨a, c, rfl⟩
  obtain ⟨at', ct, rfl, hrt⟩ := hT
  obtain ⟨_, _, _, bn, on, han, hcn⟩ := hN.cells
  have hmf : ∀ (fn : Fn) (first cap : Array Value) (w : World), (Instr.makeFunc fn first cap).run Tryd.prog w = .ok (.func fn first cap) w := fun _ _ _ _ => rfl
  have HC := Lib.hid hcn
  have HA := Lib.hid han
  have HI := Lib.hid hk.ins
  have HN := Lib.hid hk.nx
  have h20 := hk.max
  have hin := hk.i1
  generalize S.length = n at *
  clear hN hcn han hk hrt
  go_enter Tryd.func85, Tryd.ntmps85
  go_wp2_with fail
  refine (HCK.out _ (ext_al (Ext.refl w) _)).mono ?_
  rintro e w1 ⟨rfl, hE1⟩
  have hA : Ext w (w.alloc (Obj.cells #[.slice asp n csp, .int .i64 (init : Int), .slice ax next.length cx, .slice at' sets.length ct, .int .i64 (M : Int)] 40)) := ext_al (Ext.refl w) _
  have bA := blk_ext (blk_new w (Obj.cells #[.slice asp n csp, .int .i64 (init : Int), .slice ax next.length cx, .slice at' sets.length ct, .int .i64 (M : Int)] 40)) hE1
  have cA0 := blk_cell bA (i := 0) rfl
  have HE1 := Lib.hid (hA.trans hE1)
  have BA := Lib.hid bA
  have hs1 : w.heap.size < w1.heap.size := blk_lt bA
  clear hA bA hE1 HCK
  go_wp2_with (at_make; go_must (refine wpList_make_full _ rfl _ _ 76 rfl w1.heap.size 4 (Tryd.slBoolsG.inf.choose) (.bool false) 1 Tryd.underlying76 Tryd.slBoolsG.inf.choose_spec.1 Tryd.slBoolsG.inf.choose_spec.2.1 Tryd.slBoolsG.inf.choose_spec.2.2.1 .i64 .i64 n n n rfl rfl rfl rfl (by rw [Tryd.slBoolsG.inf.choose_spec.2.2.2]; omega) (by unfold maxLen; omega) (Nat.le_refl _) ?_))
  intro w2 hown2 hg2
  rw [made_false] at hown2
  have HO2 := Lib.hid hown2
  have HE2 := Lib.hid ((Ext.refl w1).grown hg2 (Nat.le_refl _) (by simp))
  have hs2 : w1.heap.size < w2.heap.size := (hown2.lt _ rfl).2
  clear hown2 hg2 cA0
  have BA2 := Lib.hid (blk_ext BA.out HE2.out)
  have cA1 := blk_cell BA2.out (i := 1) rfl
  have cA2 : ((w2.alloc (Obj.cells #[.slice (some ⟨w1.heap.size, 0, none⟩) n n] 76)).alloc (Obj.cells #[.slice none 0 0] 38)).cell? ⟨w.heap.size, 1, none⟩ = some (.int .i64 (init : Int)) := cell_later (ext_al (ext_al (Ext.refl _) _) _) cA1
  go_wp2_with fail
  clear cA2
  have hW : Ext w2 ((w2.alloc (Obj.cells #[.slice (some ⟨w1.heap.size, 0, none⟩) n n] 76)).alloc (Obj.cells #[.slice none 0 0] 38)) := ext_al (ext_al (Ext.refl _) _) _
  have bS := blk_ext (blk_new w2 (Obj.cells #[.slice (some ⟨w1.heap.size, 0, none⟩) n n] 76)) (ext_al (Ext.refl _) (Obj.cells #[.slice none 0 0] 38))
  have bT := blk_new (w2.alloc (Obj.cells #[.slice (some ⟨w1.heap.size, 0, none⟩) n n] 76)) (Obj.cells #[.slice none 0 0] 38)
  have hsT : (w2.alloc (Obj.cells #[.slice (some ⟨w1.heap.size, 0, none⟩) n n] 76)).heap.size = w2.heap.size + 1 := by simp
  rw [hsT] at bT
  have hv0 : VMem (fun b => if b = w1.heap.size then 1 else 0) (w2.heap.size + 2) w2.heap.size (w2.heap.size + 1) w1.heap.size n ((w2.alloc (Obj.cells #[.slice (some ⟨w1.heap.size, 0, none⟩) n n] 76)).alloc (Obj.cells #[.slice none 0 0] 38)) (List.replicate n false) [] :=
    ⟨bS, ⟨none, 0, bT, OwnT.nil _ _ _ _ _ _⟩, ⟨own_ext HO2.out hW, fun b hb => by simp [Value.ownBlock] at hb; simp [hb]⟩, ⟨hs2, by omega, by omega⟩, (if_neg (by omega)), by simp⟩
  have HV0 := Lib.hid hv0
  have BA3 := Lib.hid (blk_ext BA2.out hW)
  have HE3 := Lib.hid ((HE1.out.trans HE2.out).trans hW)
  have hsk := seek_begin n next (fun s => s < init)
  have hc0 : (List.replicate n false).count true = 0 := by simp [List.count_replicate]
  have HSK := Lib.hid hsk
  clear hW bS bT hsT hv0 hsk BA2 BA HE1 HE2 cA1 HO2
  generalize hS : w2.heap.size = S at *
  generalize hD : w1.heap.size = D at *
  generalize (w2.alloc (Obj.cells #[.slice (some ⟨D, 0, none⟩) n n] 76)).alloc (Obj.cells #[.slice none 0 0] 38) = W3 at *
  clear hS hD
  go_loopg [24] init (fun m x wr => ∃ (i : Nat) (τ : Nat → Nat) (seen : List Bool) (todo : List Int), m + i = init ∧ x = .int .i64 (i : Int) ∧ VMem τ (S + 2) S (S + 1) D n wr seen todo ∧
    wr.heap[w.heap.size]? = some (.cells #[.slice asp n csp, .int .i64 (init : Int), .slice ax next.length cx, .slice at' sets.length ct, .int .i64 (M : Int)] 40 (0, 0)) ∧ Ext w wr ∧
    Seek n next (fun s => s < init) seen todo ∧ Closed next seen todo none ∧ todo.length ≤ seen.count true ∧ ∀ s, s < i → seen[s]? = some true)
  case atStart => exact ⟨0, _, _, [], by omega, by go_num, HV0.out, BA3.out, HE3.out, HSK.out.1, HSK.out.2, by simp, by omega⟩
  case round =>
    obtain ⟨i, τ, seen, todo, hm, rfl, hV, bA, hE, hsk, hcl, htc, hsi⟩ := hrel
    clear HV0 BA3 HE3 HSK hc0
    have hcn : todo.length ≤ n := by have := List.count_le_length (a := true) (l := seen); have := hsk.len; omega
    have HV := Lib.hid hV
    have BA := Lib.hid bA
    have HE := Lib.hid hE
    have HM := Lib.hid hm
    by_cases hi : i < init
    · have hvs := vis_seek (y := i) hsk hcl ⟨i, hi, Reach.refl _⟩ (by omega)
      have HVS := Lib.hid hvs
      have HSI := Lib.hid hsi
      have HTC := Lib.hid htc
      have hiI : (i : Int) < (init : Int) := by omega
      clear hV bA hE hsk hcl hsi htc hvs hm
      go_wp2_with fail
      refine (visit_any τ (S + 2) S (S + 1) D n wr seen todo i HV.out (by omega) (by omega)).mono ?_
      rintro e w4 ⟨rfl, ⟨τ', hV'⟩, hB⟩
      have HV' := Lib.hid hV'
      have HB := Lib.hid hB
      clear hV' hB
      go_wp2_with fail
      go_roundg (gk - 1)
      case measure => have := HM.out; omega
      case rel => exact ⟨i + 1, τ', _, _, by have := HM.out; omega, by go_num, HV'.out, blk_below BA.out HB.out (by omega), Below.trans HE.out (HB.out.mono (by omega)), HVS.out.1, HVS.out.2.1, HVS.out.2.2.2.2.2 HTC.out, fun s hs => by
        by_cases e : s = i
        · subst e; exact HVS.out.2.2.1
        · exact HVS.out.2.2.2.1 s (HSI.out s (by omega))⟩
    · have hsi' : ∀ s, s < init → seen[s]? = some true := fun s hs => hsi s (by omega)
      have HSK := Lib.hid hsk
      have HCL := Lib.hid hcl
      have HSI := Lib.hid hsi'
      have HTC := Lib.hid htc
      have hiI : ¬ (i : Int) < (init : Int) := by omega
      clear hV bA hE hsk hcl hsi hsi' htc hm
      go_wp2_with fail
      obtain ⟨wo, rfl⟩ : ∃ wo : World, wo = wr := ⟨_, rfl⟩
      go_loopg [] (2 * (n - seen.count true) + todo.length) (fun m wr => ∃ (τ : Nat → Nat) (seen : List Bool) (todo : List Int), m = 2 * (n - seen.count true) + todo.length ∧ VMem τ (S + 2) S (S + 1) D n wr seen todo ∧
        wr.heap[w.heap.size]? = some (.cells #[.slice asp n csp, .int .i64 (init : Int), .slice ax next.length cx, .slice at' sets.length ct, .int .i64 (M : Int)] 40 (0, 0)) ∧ Ext w wr ∧
        Seek n next (fun s => s < init) seen todo ∧ Closed next seen todo none ∧ todo.length ≤ seen.count true ∧ ∀ s, s < init → seen[s]? = some true)
      case atStart => exact ⟨τ, seen, todo, rfl, HV.out, BA.out, HE.out, HSK.out, HCL.out, HTC.out, HSI.out⟩
      case round =>
        obtain ⟨τ, seen, todo, hgk, hV, bA, hE, hsk, hcl, htc, hsi⟩ := hrel
        clear HV BA HE HM HSK HCL HSI HTC hcn hiI
        rcases List.eq_nil_or_concat todo with rfl | ⟨s, x, rfl⟩
        · obtain ⟨a, c, b1, _⟩ := hV.mt
          have cT := blk_cell b1 (i := 0) rfl
          have cS := blk_cell hV.ms (i := 0) rfl
          have HEND := Lib.hid (seek_end hsk hcl (fun s hs => hsi s hs))
          have HL := Lib.hid hV.len
          have HO := Lib.hid hV.os.own
          have HE := Lib.hid hE
          clear b1 hV bA hE hsk hcl htc hsi hgk
          go_wp2
          go_ret2
          exact ⟨_, rfl, seen, own_down HO.out (by omega), HL.out, HEND.out, HE.out⟩
        · rw [List.concat_eq_append] at hgk hV hsk hcl htc
          obtain ⟨c, rfl, hcs⟩ := hsk.pen x (by simp)
          have hcn : c < n := by have := (List.getElem?_eq_some_iff.1 hcs).1; rw [hsk.len] at this; exact this
          have hcx : c < next.length := by have := HN.out; omega
          obtain ⟨g, cap, b1, cg, hcap, hcm, hVp⟩ := hV.pop
          have cT := blk_cell b1 (i := 0) rfl
          have fT := blk_free b1 0
          obtain rfl := HA.out (by omega)
          obtain ⟨ai, ci, hx, hx2⟩ := HC.out c hcx
          obtain ⟨_, _, e, hri⟩ := hx2
          simp only [Value.slice.injEq] at e
          obtain ⟨rfl, _, rfl⟩ := e
          have hmi : next[c].length ≤ 9223372036854775807 := by have h1 := hri.max; have h2 := hri.le; unfold maxLen at h1; omega
          obtain ⟨bi, oi, hri1, hri2⟩ := ints_cells hri
          have HL := Lib.hid (show next[c]? = some next[c] from List.getElem?_eq_getElem hcx)
          have HLI := Lib.hid (HI.out next[c] (by simp))
          have HX := Lib.hid hx
          have HI1 := Lib.hid hri1
          have HI2 := Lib.hid hri2
          generalize next[c] = l at *
          have hD : w.heap.size < S + 1 := by have := hV.ord; omega
          have hcl' : Closed next seen s (some (c, 0)) := hcl.begin fun x hx => by
            rcases List.mem_append.1 hx with h | h
            · exact .inr h
            · exact .inl (by simpa using h)
          have HSK := Lib.hid (show Seek n next (fun s => s < init) seen s from ⟨hsk.len, hsk.rch, fun x hx => hsk.pen x (by simp [hx])⟩)
          have HCL := Lib.hid hcl'
          have HSI := Lib.hid hsi
          have HTC := Lib.hid htc
          have HGK := Lib.hid hgk
          have HCS := Lib.hid hcs
          have HVP := Lib.hid hVp
          have HBA := Lib.hid (blk_far bA (p := ⟨S + 1, 0, none⟩) (by show S + 1 ≠ w.heap.size; omega) (.slice (some ⟨g, 0, none⟩) s.length cap))
          have cA2 := blk_cell HBA.out (i := 2) rfl
          have HEE := Lib.hid (ext_st hE (p := ⟨S + 1, 0, none⟩) (by show w.heap.size ≤ S + 1; omega) (.slice (some ⟨g, 0, none⟩) s.length cap))
          have cx2 := cell_later HEE.out hx
          have hsl : s.length ≤ 20000 := by
            have := List.count_le_length (a := true) (l := seen)
            have := hsk.len
            simp only [List.length_append, List.length_singleton] at htc
            omega
          have hcI : (c : Int) < (next.length : Int) := by omega
          clear hcl' hri hri1 hri2 hx b1 hV bA hE hsk hcl htc hsi hgk hcs hVp
          unfold maxLen at hcm
          go_wp2_with fail
          generalize wr.setCell ⟨S + 1, 0, none⟩ (.slice (some ⟨g, 0, none⟩) s.length cap) = W4 at *
          clear cT fT cg cA2 cx2
          obtain ⟨G0, rfl⟩ : ∃ G0 : Nat, G0 = gk := ⟨_, rfl⟩
          go_loopg [51] l.length (fun m x wi => ∃ (k : Nat) (τ : Nat → Nat) (seen : List Bool) (todo : List Int), m + k = l.length ∧ x = .int .i64 (k : Int) ∧ VMem τ (S + 2) S (S + 1) D n wi seen todo ∧
            wi.heap[w.heap.size]? = some (.cells #[.slice asp n csp, .int .i64 (init : Int), .slice (some ⟨bn, on, none⟩) next.length cx, .slice at' sets.length ct, .int .i64 (M : Int)] 40 (0, 0)) ∧ Ext w wi ∧
            Seek n next (fun s => s < init) seen todo ∧ Closed next seen todo (some (c, k)) ∧ todo.length ≤ seen.count true ∧ (∀ s, s < init → seen[s]? = some true) ∧ seen[c]? = some true ∧ 2 * (n - seen.count true) + todo.length < G0)
          case atStart => exact ⟨0, τ, seen, s, by omega, by go_num, HVP.out, HBA.out, HEE.out, HSK.out, HCL.out, by have := HTC.out; simp only [List.length_append, List.length_singleton] at this; omega, HSI.out, HCS.out, by have := HGK.out; simp only [List.length_append, List.length_singleton] at this; omega⟩
          case round =>
            clear HVP HBA HEE HSK HCL HTC HSI HCS HGK hsl
            obtain ⟨k, τ, seen, todo, hmk, rfl, hV, bA, hE, hsk, hcl, htc, hsi, hcs, hR⟩ := hrel
            have hcn2 : todo.length ≤ n := by have := List.count_le_length (a := true) (l := seen); have := hsk.len; omega
            have HV := Lib.hid hV
            have BA := Lib.hid bA
            have HE := Lib.hid hE
            have HM := Lib.hid hmk
            have hVo := hV.ord
            have HVO := Lib.hid hVo
            by_cases hk : k < l.length
            · obtain rfl := HI1.out (by omega)
              have ck := cell_later hE (HI2.out k hk)
              obtain ⟨hy0, hy1⟩ := HLI.out l[k] (by simp)
              obtain ⟨y, hy⟩ : ∃ y : Nat, l[k] = (y : Int) := ⟨l[k].toNat, by omega⟩
              rw [hy] at ck hy0 hy1
              have hyn : y < n := by omega
              have hlk : l[k]? = some (y : Int) := by rw [List.getElem?_eq_getElem hk, hy]
              have hed : Edge next c y := ⟨l, HL.out, List.mem_of_getElem? hlk⟩
              have hyr : ∃ s, s < init ∧ Reach next s y := by
                obtain ⟨s, h1, h2⟩ := hsk.rch c hcs
                exact ⟨s, h1, h2.step hed⟩
              have HVS := Lib.hid (vis_seek hsk hcl hyr hyn)
              have HLK := Lib.hid hlk
              have HSI := Lib.hid hsi
              have HTC := Lib.hid htc
              have HCS := Lib.hid hcs
              have HR := Lib.hid hR
              have hkI : (k : Int) < (l.length : Int) := by omega
              clear hV bA hE hsk hcl hsi htc hcs hR hmk hVo hed hyr hlk hy
              go_wp2_with fail
              refine (visit_any τ (S + 2) S (S + 1) D n wr seen todo y HV.out hyn (by omega)).mono ?_
              rintro e w5 ⟨rfl, ⟨τ', hV'⟩, hB⟩
              have HV' := Lib.hid hV'
              have HB := Lib.hid hB
              clear hV' hB
              go_wp2_with fail
              go_roundg (gk - 1)
              case measure => have := HM.out; omega
              case rel =>
                have hDw : w.heap.size < D ∧ D < S := ⟨by omega, HVO.out.1⟩
                exact ⟨k + 1, τ', _, _, by have := HM.out; omega, by go_num, HV'.out, blk_below BA.out HB.out (by omega), Below.trans HE.out (HB.out.mono (by omega)), HVS.out.1, HVS.out.2.1.next HL.out HLK.out HVS.out.2.2.1, HVS.out.2.2.2.2.2 HTC.out, fun s hs => HVS.out.2.2.2.1 s (HSI.out s hs), HVS.out.2.2.2.1 c HCS.out, Nat.lt_of_le_of_lt HVS.out.2.2.2.2.1 HR.out⟩
            · obtain rfl : k = l.length := by omega
              have HSK := Lib.hid hsk
              have HCL := Lib.hid (hcl.done HL.out)
              have HSI := Lib.hid hsi
              have HTC := Lib.hid htc
              have HR := Lib.hid hR
              clear hV bA hE hsk hcl hsi htc hcs hR hmk hVo
              go_wp2_with fail
              go_roundg (2 * (n - seen.count true) + todo.length)
              case measure => exact HR.out
              case rel => exact ⟨τ, seen, todo, rfl, HV.out, BA.out, HE.out, HSK.out, HCL.out, HTC.out, HSI.out⟩

end Go.Proofs.YtbmimdnpchldlaaDoor

namespace Go.Proofs.YtbmimdnpchldlaaDoor
open Go.RowKit

theorem Tryd.slFrames : SlTy Tryd.prog 162 180 (.agg #[.int .i64 0, .int .i64 0]) 2 16 := SlTy.mk' Tryd.underlying162 (by kernel_rfl) (by rfl) (by omega)

theorem Row.newOpAt (w : World) (t : TypeId) (k v : Int) (b : Nat) (hb : b = w.heap.size) : Row (w.alloc (.cells #[.int .i64 k, .int .i64 v] t)) 2 (some ⟨b, 0, none⟩) 1 1 (spc (k, v)) := by subst hb; exact Row.newSp w t k v

/-- The search's block P (its graph's five cells, then order, low, part, open, calls, met), and the rows behind it. -/
structure SM (τ : Nat → Nat) (B P n : Nat) (Do Dl Dp : Nat) (g0 g1 g2 g3 g4 : Value) (w : World) (vo vc : Value) (ow lw pw : List Int) (ol : List Int) (cl : List Sp2) (met : Int) : Prop where
  blk : w.heap[P]? = some (.cells #[g0, g1, g2, g3, g4, .slice (some ⟨Do, 0, none⟩) n n, .slice (some ⟨Dl, 0, none⟩) n n, .slice (some ⟨Dp, 0, none⟩) n n, vo, vc, .int .i64 met] 164 (0, 0))
  ord : OwnT τ 1 w B 3 1 (.slice (some ⟨Do, 0, none⟩) n n) n (ow.map (.int .i64))
  low : OwnT τ 2 w B 3 1 (.slice (some ⟨Dl, 0, none⟩) n n) n (lw.map (.int .i64))
  prt : OwnT τ 3 w B 3 1 (.slice (some ⟨Dp, 0, none⟩) n n) n (pw.map (.int .i64))
  opn : OwnT τ 4 w B 3 1 vo ol.length (ol.map (.int .i64))
  cls : OwnT τ 5 w B 180 2 vc cl.length (cl.flatMap spc)
  tag : τ P = 0
  new : B ≤ P

section
variable {τ : Nat → Nat} {B P n Do Dl Dp : Nat} {g0 g1 g2 g3 g4 : Value} {w w' : World} {vo vc : Value} {ow lw pw : List Int} {ol : List Int} {cl : List Sp2} {met : Int}
theorem SM.ext (h : SM τ B P n Do Dl Dp g0 g1 g2 g3 g4 w vo vc ow lw pw ol cl met) (hE : Ext w w') : SM τ B P n Do Dl Dp g0 g1 g2 g3 g4 w' vo vc ow lw pw ol cl met :=
  ⟨blk_ext h.blk hE, h.ord.ext hE, h.low.ext hE, h.prt.ext hE, h.opn.ext hE, h.cls.ext hE, h.tag, h.new⟩
theorem SM.lens (h : SM τ B P n Do Dl Dp g0 g1 g2 g3 g4 w vo vc ow lw pw ol cl met) : ow.length = n ∧ lw.length = n ∧ pw.length = n := ⟨by simpa using h.ord.own.1, by simpa using h.low.own.1, by simpa using h.prt.own.1⟩
theorem SM.tags (h : SM τ B P n Do Dl Dp g0 g1 g2 g3 g4 w vo vc ow lw pw ol cl met) : τ Do = 1 ∧ τ Dl = 2 ∧ τ Dp = 3 := ⟨h.ord.tag Do rfl, h.low.tag Dl rfl, h.prt.tag Dp rfl⟩
theorem SM.nes (h : SM τ B P n Do Dl Dp g0 g1 g2 g3 g4 w vo vc ow lw pw ol cl met) : P ≠ Do ∧ P ≠ Dl ∧ P ≠ Dp ∧ Do ≠ Dl ∧ Do ≠ Dp ∧ Dl ≠ Dp := by
  obtain ⟨h1, h2, h3⟩ := h.tags
  have h0 := h.tag
  exact ⟨fun e => by rw [e] at h0; omega, fun e => by rw [e] at h0; omega, fun e => by rw [e] at h0; omega, fun e => by rw [e] at h1; omega, fun e => by rw [e] at h1; omega, fun e => by rw [e] at h2; omega⟩
theorem SM.bases (h : SM τ B P n Do Dl Dp g0 g1 g2 g3 g4 w vo vc ow lw pw ol cl met) : B ≤ Do ∧ B ≤ Dl ∧ B ≤ Dp := ⟨(h.ord.own.lt Do rfl).1, (h.low.own.lt Dl rfl).1, (h.prt.own.lt Dp rfl).1⟩

theorem set_map_int (l : List Int) (i : Nat) (x : Int) : (l.map (Value.int .i64)).set i (.int .i64 x) = (l.set i x).map (.int .i64) := by rw [List.map_set]

theorem SM.setOrd (h : SM τ B P n Do Dl Dp g0 g1 g2 g3 g4 w vo vc ow lw pw ol cl met) (i : Nat) (x : Int) : SM τ B P n Do Dl Dp g0 g1 g2 g3 g4 (w.setCell ⟨Do, i, none⟩ (.int .i64 x)) vo vc (ow.set i x) lw pw ol cl met := by
  obtain ⟨t1, t2, t3⟩ := h.tags
  obtain ⟨n1, n2, n3, n4, n5, n6⟩ := h.nes
  exact ⟨blk_far h.blk (p := ⟨Do, i, none⟩) (Ne.symm n1) _, by rw [← set_map_int]; exact h.ord.setAt _, h.low.set (p := ⟨Do, i, none⟩) (by show τ Do ≠ 2; omega) _, h.prt.set (p := ⟨Do, i, none⟩) (by show τ Do ≠ 3; omega) _, h.opn.set (p := ⟨Do, i, none⟩) (by show τ Do ≠ 4; omega) _, h.cls.set (p := ⟨Do, i, none⟩) (by show τ Do ≠ 5; omega) _, h.tag, h.new⟩
theorem SM.setLow (h : SM τ B P n Do Dl Dp g0 g1 g2 g3 g4 w vo vc ow lw pw ol cl met) (i : Nat) (x : Int) : SM τ B P n Do Dl Dp g0 g1 g2 g3 g4 (w.setCell ⟨Dl, i, none⟩ (.int .i64 x)) vo vc ow (lw.set i x) pw ol cl met := by
  obtain ⟨t1, t2, t3⟩ := h.tags
  obtain ⟨n1, n2, n3, n4, n5, n6⟩ := h.nes
  exact ⟨blk_far h.blk (p := ⟨Dl, i, none⟩) (Ne.symm n2) _, h.ord.set (p := ⟨Dl, i, none⟩) (by show τ Dl ≠ 1; omega) _, by rw [← set_map_int]; exact h.low.setAt _, h.prt.set (p := ⟨Dl, i, none⟩) (by show τ Dl ≠ 3; omega) _, h.opn.set (p := ⟨Dl, i, none⟩) (by show τ Dl ≠ 4; omega) _, h.cls.set (p := ⟨Dl, i, none⟩) (by show τ Dl ≠ 5; omega) _, h.tag, h.new⟩
theorem SM.setPrt (h : SM τ B P n Do Dl Dp g0 g1 g2 g3 g4 w vo vc ow lw pw ol cl met) (i : Nat) (x : Int) : SM τ B P n Do Dl Dp g0 g1 g2 g3 g4 (w.setCell ⟨Dp, i, none⟩ (.int .i64 x)) vo vc ow lw (pw.set i x) ol cl met := by
  obtain ⟨t1, t2, t3⟩ := h.tags
  obtain ⟨n1, n2, n3, n4, n5, n6⟩ := h.nes
  exact ⟨blk_far h.blk (p := ⟨Dp, i, none⟩) (Ne.symm n3) _, h.ord.set (p := ⟨Dp, i, none⟩) (by show τ Dp ≠ 1; omega) _, h.low.set (p := ⟨Dp, i, none⟩) (by show τ Dp ≠ 2; omega) _, by rw [← set_map_int]; exact h.prt.setAt _, h.opn.set (p := ⟨Dp, i, none⟩) (by show τ Dp ≠ 4; omega) _, h.cls.set (p := ⟨Dp, i, none⟩) (by show τ Dp ≠ 5; omega) _, h.tag, h.new⟩
theorem SM.setMet (h : SM τ B P n Do Dl Dp g0 g1 g2 g3 g4 w vo vc ow lw pw ol cl met) (x : Int) : SM τ B P n Do Dl Dp g0 g1 g2 g3 g4 (w.setCell ⟨P, 10, none⟩ (.int .i64 x)) vo vc ow lw pw ol cl x := by
  have t0 := h.tag
  exact ⟨blk_set h.blk (i := 10) _, h.ord.set (p := ⟨P, 10, none⟩) (by show τ P ≠ 1; omega) _, h.low.set (p := ⟨P, 10, none⟩) (by show τ P ≠ 2; omega) _, h.prt.set (p := ⟨P, 10, none⟩) (by show τ P ≠ 3; omega) _, h.opn.set (p := ⟨P, 10, none⟩) (by show τ P ≠ 4; omega) _, h.cls.set (p := ⟨P, 10, none⟩) (by show τ P ≠ 5; omega) _, h.tag, h.new⟩
/-- Open is stored anew. -/
theorem SM.setOpn (h : SM τ B P n Do Dl Dp g0 g1 g2 g3 g4 w vo vc ow lw pw ol cl met) {vo' : Value} {ol' : List Int} (ho : OwnT τ 4 w B 3 1 vo' ol'.length (ol'.map (.int .i64))) : SM τ B P n Do Dl Dp g0 g1 g2 g3 g4 (w.setCell ⟨P, 8, none⟩ vo') vo' vc ow lw pw ol' cl met := by
  have t0 := h.tag
  exact ⟨blk_set h.blk (i := 8) _, h.ord.set (p := ⟨P, 8, none⟩) (by show τ P ≠ 1; omega) _, h.low.set (p := ⟨P, 8, none⟩) (by show τ P ≠ 2; omega) _, h.prt.set (p := ⟨P, 8, none⟩) (by show τ P ≠ 3; omega) _, ho.set (p := ⟨P, 8, none⟩) (by show τ P ≠ 4; omega) _, h.cls.set (p := ⟨P, 8, none⟩) (by show τ P ≠ 5; omega) _, h.tag, h.new⟩
theorem SM.setCls (h : SM τ B P n Do Dl Dp g0 g1 g2 g3 g4 w vo vc ow lw pw ol cl met) {vc' : Value} {cl' : List Sp2} (ho : OwnT τ 5 w B 180 2 vc' cl'.length (cl'.flatMap spc)) : SM τ B P n Do Dl Dp g0 g1 g2 g3 g4 (w.setCell ⟨P, 9, none⟩ vc') vo vc' ow lw pw ol cl' met := by
  have t0 := h.tag
  exact ⟨blk_set h.blk (i := 9) _, h.ord.set (p := ⟨P, 9, none⟩) (by show τ P ≠ 1; omega) _, h.low.set (p := ⟨P, 9, none⟩) (by show τ P ≠ 2; omega) _, h.prt.set (p := ⟨P, 9, none⟩) (by show τ P ≠ 3; omega) _, h.opn.set (p := ⟨P, 9, none⟩) (by show τ P ≠ 4; omega) _, ho.set (p := ⟨P, 9, none⟩) (by show τ P ≠ 5; omega) _, h.tag, h.new⟩
/-- Behind an append onto open's row (not yet stored). -/
theorem SM.appOpn (h : SM τ B P n Do Dl Dp g0 g1 g2 g3 g4 w vo vc ow lw pw ol cl met) {v' : Value} {m : Nat} {xs : List Value} (x : Int) (ho : w'.ownsRow B 3 1 v' m xs) (hm : m = ol.length + 1) (hx : xs = ol.map (.int .i64) ++ [.int .i64 x])
    (hg : w.grownBy w' vo.ownBlock) (hb : v'.ownBlock = vo.ownBlock ∨ v'.ownBlock = some w.heap.size) :
    ∃ τ', (∀ b, b < w.heap.size → τ' b = τ b) ∧ OwnT τ' 4 w' B 3 1 v' (ol ++ [x]).length ((ol ++ [x]).map (.int .i64)) ∧ w'.heap[P]? = w.heap[P]? ∧ τ' P = 0 ∧
      OwnT τ' 1 w' B 3 1 (.slice (some ⟨Do, 0, none⟩) n n) n (ow.map (.int .i64)) ∧ OwnT τ' 2 w' B 3 1 (.slice (some ⟨Dl, 0, none⟩) n n) n (lw.map (.int .i64)) ∧ OwnT τ' 3 w' B 3 1 (.slice (some ⟨Dp, 0, none⟩) n n) n (pw.map (.int .i64)) ∧ OwnT τ' 5 w' B 180 2 vc cl.length (cl.flatMap spc) ∧ Below B w w' := by
  subst hm; subst hx
  have hP := blk_lt h.blk
  have hne : some P ≠ vo.ownBlock := fun e => by have := h.opn.tag P e.symm; have := h.tag; omega
  have o4 := h.opn.app ho hb
  have hB : B ≤ w.heap.size := by have := h.new; omega
  refine ⟨tagAt τ w.heap.size 4, fun b hb => tagAt_lt hb, by simpa using o4, hg.block P hP hne, by rw [tagAt_lt hP]; exact h.tag, h.ord.other h.opn hg (by omega), h.low.other h.opn hg (by omega), h.prt.other h.opn hg (by omega), h.cls.other h.opn hg (by omega), (Below.refl B w).grown hg hB (fun b hb => (h.opn.own.lt b hb).1)⟩
theorem SM.appCls (h : SM τ B P n Do Dl Dp g0 g1 g2 g3 g4 w vo vc ow lw pw ol cl met) {v' : Value} {m : Nat} {xs : List Value} (x : Sp2) (ho : w'.ownsRow B 180 2 v' m xs) (hm : m = cl.length + 1) (hx : xs = cl.flatMap spc ++ spc x)
    (hg : w.grownBy w' vc.ownBlock) (hb : v'.ownBlock = vc.ownBlock ∨ v'.ownBlock = some w.heap.size) :
    ∃ τ', (∀ b, b < w.heap.size → τ' b = τ b) ∧ OwnT τ' 5 w' B 180 2 v' (cl ++ [x]).length ((cl ++ [x]).flatMap spc) ∧ w'.heap[P]? = w.heap[P]? ∧ τ' P = 0 ∧
      OwnT τ' 1 w' B 3 1 (.slice (some ⟨Do, 0, none⟩) n n) n (ow.map (.int .i64)) ∧ OwnT τ' 2 w' B 3 1 (.slice (some ⟨Dl, 0, none⟩) n n) n (lw.map (.int .i64)) ∧ OwnT τ' 3 w' B 3 1 (.slice (some ⟨Dp, 0, none⟩) n n) n (pw.map (.int .i64)) ∧ OwnT τ' 4 w' B 3 1 vo ol.length (ol.map (.int .i64)) ∧ Below B w w' := by
  subst hm; subst hx
  have hP := blk_lt h.blk
  have hne : some P ≠ vc.ownBlock := fun e => by have := h.cls.tag P e.symm; have := h.tag; omega
  have o5 := h.cls.app ho hb
  have hB : B ≤ w.heap.size := by have := h.new; omega
  refine ⟨tagAt τ w.heap.size 5, fun b hb => tagAt_lt hb, by simpa using o5, hg.block P hP hne, by rw [tagAt_lt hP]; exact h.tag, h.ord.other h.cls hg (by omega), h.low.other h.cls hg (by omega), h.prt.other h.cls hg (by omega), h.opn.other h.cls hg (by omega), (Below.refl B w).grown hg hB (fun b hb => (h.cls.own.lt b hb).1)⟩
end

end Go.Proofs.YtbmimdnpchldlaaDoor

namespace Go.Proofs.YtbmimdnpchldlaaDoor
open Go.RowKit

section
variable {τ : Nat → Nat} {B P n Do Dl Dp : Nat} {g0 g1 g2 g3 g4 : Value} {w w' : World} {vo vc : Value} {ow lw pw : List Int} {ol : List Int} {cl : List Sp2} {met : Int}
theorem SM.pushOpn (h : SM τ B P n Do Dl Dp g0 g1 g2 g3 g4 w vo vc ow lw pw ol cl met) {v' : Value} {m : Nat} {xs : List Value} (x : Int) (ho : w'.ownsRow B 3 1 v' m xs) (hm : m = ol.length + 1) (hx : xs = ol.map (.int .i64) ++ [.int .i64 x])
    (hg : w.grownBy w' vo.ownBlock) (hb : v'.ownBlock = vo.ownBlock ∨ v'.ownBlock = some w.heap.size) :
    w'.heap[P]? = w.heap[P]? ∧ ∃ τ', SM τ' B P n Do Dl Dp g0 g1 g2 g3 g4 (w'.setCell ⟨P, 8, none⟩ v') v' vc ow lw pw (ol ++ [x]) cl met ∧ Below B w (w'.setCell ⟨P, 8, none⟩ v') := by
  obtain ⟨τ', _, o4, hP, hP0, o1, o2, o3, o5, hB⟩ := h.appOpn x ho hm hx hg hb
  have b := blk_set (hP.trans h.blk) (i := 8) v'
  refine ⟨hP, τ', ⟨b, o1.set (p := ⟨P, 8, none⟩) (by show τ' P ≠ 1; omega) _, o2.set (p := ⟨P, 8, none⟩) (by show τ' P ≠ 2; omega) _, o3.set (p := ⟨P, 8, none⟩) (by show τ' P ≠ 3; omega) _, o4.set (p := ⟨P, 8, none⟩) (by show τ' P ≠ 4; omega) _, o5.set (p := ⟨P, 8, none⟩) (by show τ' P ≠ 5; omega) _, hP0, h.new⟩, hB.setCell (p := ⟨P, 8, none⟩) h.new _⟩
theorem SM.pushCls (h : SM τ B P n Do Dl Dp g0 g1 g2 g3 g4 w vo vc ow lw pw ol cl met) {v' : Value} {m : Nat} {xs : List Value} (x : Sp2) (ho : w'.ownsRow B 180 2 v' m xs) (hm : m = cl.length + 1) (hx : xs = cl.flatMap spc ++ spc x)
    (hg : w.grownBy w' vc.ownBlock) (hb : v'.ownBlock = vc.ownBlock ∨ v'.ownBlock = some w.heap.size) :
    w'.heap[P]? = w.heap[P]? ∧ ∃ τ', SM τ' B P n Do Dl Dp g0 g1 g2 g3 g4 (w'.setCell ⟨P, 9, none⟩ v') vo v' ow lw pw ol (cl ++ [x]) met ∧ Below B w (w'.setCell ⟨P, 9, none⟩ v') := by
  obtain ⟨τ', _, o5, hP, hP0, o1, o2, o3, o4, hB⟩ := h.appCls x ho hm hx hg hb
  have b := blk_set (hP.trans h.blk) (i := 9) v'
  refine ⟨hP, τ', ⟨b, o1.set (p := ⟨P, 9, none⟩) (by show τ' P ≠ 1; omega) _, o2.set (p := ⟨P, 9, none⟩) (by show τ' P ≠ 2; omega) _, o3.set (p := ⟨P, 9, none⟩) (by show τ' P ≠ 3; omega) _, o4.set (p := ⟨P, 9, none⟩) (by show τ' P ≠ 4; omega) _, o5.set (p := ⟨P, 9, none⟩) (by show τ' P ≠ 5; omega) _, hP0, h.new⟩, hB.setCell (p := ⟨P, 9, none⟩) h.new _⟩
end

set_option maxRecDepth 100000 in
set_option maxHeartbeats 4000000 in
theorem enter_any (τ : Nat → Nat) (B P n Do Dl Dp : Nat) (g0 g1 g2 g3 g4 : Value) (w : World) (vo vc : Value) (ow lw pw : List Int) (ol : List Int) (cl : List Sp2) (met : Int) (h : SM τ B P n Do Dl Dp g0 g1 g2 g3 g4 w vo vc ow lw pw ol cl met)
    (a : Nat) (ha : a < n) (h1 : ol.length ≤ 20000) (h2 : cl.length ≤ 20000) (h3 : 0 ≤ met) (h4 : met ≤ 20000) :
    Calls Tryd.prog 88 #[.pointer (some ⟨P, 0, none⟩), .int .i64 (a : Int)] w fun e w' => e = .returned (.tuple #[]) ∧ (∃ τ' vo' vc', SM τ' B P n Do Dl Dp g0 g1 g2 g3 g4 w' vo' vc' (ow.set a (met + 1)) (lw.set a (met + 1)) pw (ol ++ [(a : Int)]) (cl ++ [((a : Int), 0)]) (met + 1)) ∧ Below B w w' := by
  obtain ⟨ao, co, rfl, _⟩ := h.opn.own.row
  obtain ⟨ac, cc, rfl, _⟩ := h.cls.own.row
  have hnew := h.new
  have hP := blk_lt h.blk
  have c10 := blk_cell h.blk (i := 10) rfl
  have f10 := blk_free h.blk 10
  have hm := h.setMet (met + 1)
  have c5 := blk_cell hm.blk (i := 5) rfl
  have c6 := blk_cell hm.blk (i := 6) rfl
  have c10' := blk_cell hm.blk (i := 10) rfl
  obtain ⟨l1, l2, l3⟩ := h.lens
  obtain ⟨y1, co0⟩ : ∃ y, (w.setCell ⟨P, 10, none⟩ (.int .i64 (met + 1))).cell? ⟨Do, a, none⟩ = some (.int .i64 y) := ⟨_, (own_cellAt hm.ord.own (i := a) (by simpa using (by omega : a < ow.length))).trans (by rw [List.getElem_map])⟩
  obtain ⟨y2, cl0⟩ : ∃ y, (w.setCell ⟨P, 10, none⟩ (.int .i64 (met + 1))).cell? ⟨Dl, a, none⟩ = some (.int .i64 y) := ⟨_, (own_cellAt hm.low.own (i := a) (by simpa using (by omega : a < lw.length))).trans (by rw [List.getElem_map])⟩
  have fo0 := own_freeAt hm.ord.own a
  have fl0 := own_freeAt hm.low.own a
  obtain ⟨n1, n2, n3, n4, n5, n6⟩ := h.nes
  have n1' := Ne.symm n1
  have n2' := Ne.symm n2
  have n4' := Ne.symm n4
  have haI : (a : Int) < (n : Int) := by omega
  have haI0 : (0 : Int) ≤ (a : Int) := by omega
  have hb1 : Below B w (w.setCell ⟨P, 10, none⟩ (.int .i64 (met + 1))) := (Below.refl B w).setCell (p := ⟨P, 10, none⟩) hnew _
  have HM := Lib.hid hm
  have HB1 := Lib.hid hb1
  have hbs := h.bases
  have HBS := Lib.hid hbs
  clear h hm hb1 hbs l1 l2 l3
  go_enter Tryd.func88, Tryd.ntmps88
  go_wp2_with fail
  generalize w.setCell ⟨P, 10, none⟩ (.int .i64 (met + 1)) = W1 at *
  clear c10 f10
  go_region
  all_goals
    have hE : Ext ((W1.setCell ⟨Do, a, none⟩ (.int .i64 (met + 1))).setCell ⟨Dl, a, none⟩ (.int .i64 (met + 1))) ((W1.setCell ⟨Do, a, none⟩ (.int .i64 (met + 1))).setCell ⟨Dl, a, none⟩ (.int .i64 (met + 1))).drew := Below.drew (Ext.refl _)
    have hm2 := ((HM.out.setOrd a (met + 1)).setLow a (met + 1)).ext hE
    have hb2 : Below B w ((W1.setCell ⟨Do, a, none⟩ (.int .i64 (met + 1))).setCell ⟨Dl, a, none⟩ (.int .i64 (met + 1))).drew := Below.drew ((HB1.out.setCell (p := ⟨Do, a, none⟩) HBS.out.1 _).setCell (p := ⟨Dl, a, none⟩) HBS.out.2.1 _)
    clear hE c5 c6 c10' co0 cl0 fo0 fl0 HM HB1
    generalize ((W1.setCell ⟨Do, a, none⟩ (.int .i64 (met + 1))).setCell ⟨Dl, a, none⟩ (.int .i64 (met + 1))).drew = W2 at *
    have c8 := blk_cell hm2.blk (i := 8) rfl
    have ho2 := hm2.opn.own.alloc (Obj.cells #[.int .i64 (a : Int)] 3)
    have hs2 : P < W2.heap.size := blk_lt hm2.blk
    have HM2 := Lib.hid (hm2.ext (ext_al (Ext.refl _) (Obj.cells #[.int .i64 (a : Int)] 3)))
    have HB2 := Lib.hid (Below.alloc hb2 (by omega) (Obj.cells #[.int .i64 (a : Int)] 3))
    clear hm2 hb2
    go_wp2_with (at_builtin; go_must (refine wpl_append rfl rfl Tryd.slIntsG B rfl ho2 rfl (Row.oneG _ _ _ _ (by simp)) (one_int _) (by unfold maxLen; omega) (by omega) (by simp; omega) ?_))
    intro v3 w3 hown3 hg3 hb3 _
    obtain ⟨hP3, τ3, hm3, hB3⟩ := HM2.out.pushOpn (a : Int) hown3 rfl rfl hg3 (by rcases hb3 with h | h; exact .inl h; right; rw [h]; simp)
    obtain ⟨a3, c3, rfl, _⟩ := hown3.row
    have c8 := blk_cell (hP3.trans HM2.out.blk) (i := 8) rfl
    have f8 := blk_free (hP3.trans HM2.out.blk) 8
    have c9 := blk_cell (hP3.trans HM2.out.blk) (i := 9) rfl
    have hb4 : Below B w (w3.setCell ⟨P, 8, none⟩ (.slice a3 (ol.length + 1) c3)) := HB2.out.trans hB3
    have ho3 := hm3.cls.own.alloc (Obj.cells #[.int .i64 (a : Int), .int .i64 0] 180)
    have hs3 : P < w3.heap.size := by have := blk_lt hm3.blk; simpa using this
    have HM3 := Lib.hid (hm3.ext (ext_al (Ext.refl _) (Obj.cells #[.int .i64 (a : Int), .int .i64 0] 180)))
    have HB3 := Lib.hid (Below.alloc hb4 (by simp; omega) (Obj.cells #[.int .i64 (a : Int), .int .i64 0] 180))
    clear hown3 hg3 hb3 hP3 hm3 hB3 hb4 ho2 HM2 HB2
    go_wp2_with (at_builtin; go_must (refine wpl_append rfl rfl Tryd.slFrames B rfl ho3 rfl (Row.newOpAt _ _ _ _ _ (by simp)) (by simp [spc, Value.oneCell']) (by unfold maxLen; omega) (by omega) (by simp; omega) ?_))
    intro v4 w4 hown4 hg4 hb4 _
    obtain ⟨hP4, τ4, hm4, hB4⟩ := HM3.out.pushCls ((a : Int), 0) hown4 rfl rfl hg4 (by rcases hb4 with h | h; exact .inl h; right; rw [h]; simp)
    obtain ⟨a4, c4, rfl, _⟩ := hown4.row
    have c9 := blk_cell (hP4.trans HM3.out.blk) (i := 9) rfl
    have f9 := blk_free (hP4.trans HM3.out.blk) 9
    have hb5 := HB3.out.trans hB4
    have HM4 := Lib.hid hm4
    have HB4 := Lib.hid hb5
    clear hown4 hg4 hb4 hP4 hm4 hB4 hb5 ho3 HM3 HB3 c8 f8
    go_wp2
    go_end0
    exact ⟨rfl, ⟨τ4, _, _, HM4.out⟩, HB4.out⟩

end Go.Proofs.YtbmimdnpchldlaaDoor

namespace Go.Proofs.YtbmimdnpchldlaaDoor
open Go.RowKit

theorem flat_opc_len (l : List Sp2) : (l.flatMap spc).length = l.length * 2 := by
  induction l with
  | nil => rfl
  | cons o l ih => rw [List.flatMap_cons, List.length_append, ih]; simp [spc]; omega

/-- The last frame's cells, and what is left of the row without it. -/
theorem frames_pop {w : World} {B : Nat} {a : Option Addr} {cc : Nat} {cl : List Sp2} {x : Sp2} (h : w.ownsRow B 180 2 (.slice a (cl.length + 1) cc) (cl.length + 1) (cl.flatMap spc ++ spc x)) :
    ∃ g, a = some ⟨g, 0, none⟩ ∧ cl.length + 1 ≤ cc ∧ cc ≤ maxLen ∧ w.cell? ⟨g, cl.length * 2, none⟩ = some (.int .i64 x.1) ∧ w.cell? ⟨g, cl.length * 2 + 1, none⟩ = some (.int .i64 x.2) ∧ w.frozen? ⟨g, cl.length * 2 + 1, none⟩ = false ∧
      w.ownsRow B 180 2 (.slice (some ⟨g, 0, none⟩) cl.length cc) cl.length (cl.flatMap spc) := by
  rcases h.2 with ⟨hn, _⟩ | ⟨g, cap, cur, hv, hb, hgg, hnc, hcm, hcs, ht⟩
  · cases hn
  · simp only [Value.slice.injEq] at hv
    obtain ⟨rfl, _, rfl⟩ := hv
    have hl := flat_opc_len cl
    refine ⟨g, rfl, hnc, hcm, ?_, ?_, ?_, ownsRow_pop (size := 2) hl h⟩
    · have := h.cells (g := g) rfl (cl.length * 2) (.int .i64 x.1) (by rw [List.getElem?_append_right (by omega), hl]; simp [spc])
      simpa [Addr.add_lit] using this
    · have := h.cells (g := g) rfl (cl.length * 2 + 1) (.int .i64 x.2) (by rw [List.getElem?_append_right (by omega), hl]; simp [spc])
      simpa [Addr.add_lit] using this
    · exact blk_free hgg _

theorem SM.popCls {τ : Nat → Nat} {B P n Do Dl Dp : Nat} {g0 g1 g2 g3 g4 : Value} {w : World} {vo : Value} {ow lw pw : List Int} {ol : List Int} {cl : List Sp2} {x : Sp2} {met : Int} {a : Option Addr} {cc : Nat}
    (h : SM τ B P n Do Dl Dp g0 g1 g2 g3 g4 w vo (.slice a (cl.length + 1) cc) ow lw pw ol (cl ++ [x]) met) :
    ∃ g, a = some ⟨g, 0, none⟩ ∧ cl.length + 1 ≤ cc ∧ cc ≤ maxLen ∧ w.cell? ⟨g, cl.length * 2, none⟩ = some (.int .i64 x.1) ∧ w.cell? ⟨g, cl.length * 2 + 1, none⟩ = some (.int .i64 x.2) ∧ w.frozen? ⟨g, cl.length * 2 + 1, none⟩ = false ∧
      SM τ B P n Do Dl Dp g0 g1 g2 g3 g4 (w.setCell ⟨P, 9, none⟩ (.slice (some ⟨g, 0, none⟩) cl.length cc)) vo (.slice (some ⟨g, 0, none⟩) cl.length cc) ow lw pw ol cl met := by
  have hc := h.cls.own
  simp only [List.length_append, List.length_singleton, List.flatMap_append, List.flatMap_cons, List.flatMap_nil, List.append_nil] at hc
  obtain ⟨g, rfl, h1, h2, h3, h4, h5, h6⟩ := frames_pop hc
  exact ⟨g, rfl, h1, h2, h3, h4, h5, h.setCls ⟨h6, fun b hb => h.cls.tag b hb⟩⟩

/-- How low the one that comes next reaches. -/
def lowL (lw : List Int) (cl : List Sp2) (c : Nat) : List Int :=
  match cl.getLast? with
  | none => lw
  | some x => lw.set x.1.toNat (min (lw.getD x.1.toNat 0) (lw.getD c 0))
theorem min_if (a b : Int) : (if b < a then b else a) = min a b := by split <;> omega
theorem Ext.below {w w' : World} {B : Nat} (h : Ext w w') (hb : B ≤ w.heap.size) : Below B w w' := Below.mono h hb
def setAll (pw : List Int) (D : List Int) (m : Int) : List Int := D.foldl (fun p d => p.set d.toNat m) pw
def leastOf' (c : Int) (D : List Int) : Int := D.foldl min c

def LeavePost (B P n Do Dl Dp : Nat) (g0 g1 g2 g3 g4 : Value) (w : World) (ow lw pw pre post : List Int) (cl : List Sp2) (met : Int) (c : Nat) (e : Ending) (w' : World) : Prop :=
  e = .returned (.tuple #[]) ∧ Below B w w' ∧ ∃ τ' vo' vc' pw' ol', SM τ' B P n Do Dl Dp g0 g1 g2 g3 g4 w' vo' vc' ow (lowL lw cl c) pw' ol' cl met ∧
    (((lowL lw cl c).getD c 0 ≠ ow.getD c 0 ∧ pw' = pw ∧ ol' = pre ++ (c : Int) :: post) ∨ ((lowL lw cl c).getD c 0 = ow.getD c 0 ∧ pw' = setAll pw ((c : Int) :: post) (leastOf' c ((c : Int) :: post)) ∧ ol' = pre))

theorem own_take1 {w : World} {base : Nat} {e : TypeId} {a : Option Addr} {n c k : Nat} {xs : List Value} (h : w.ownsRow base e 1 (.slice a n c) n xs) (hk : k ≤ n) : w.ownsRow base e 1 (.slice a k c) k (xs.take k) := by
  have hl := h.1
  rw [Nat.mul_one] at hl
  refine ⟨by rw [List.length_take]; omega, ?_⟩
  rcases h.2 with ⟨hv, hx⟩ | ⟨g, cap, cur, hv, h1, h2, h3, h4, h5, h6⟩
  · simp only [Value.slice.injEq] at hv
    obtain ⟨rfl, rfl, rfl⟩ := hv
    obtain rfl : k = 0 := by omega
    exact .inl ⟨rfl, rfl⟩
  · simp only [Value.slice.injEq] at hv
    obtain ⟨rfl, _, rfl⟩ := hv
    refine .inr ⟨g, c, cur, rfl, h1, h2, by omega, h4, h5, ?_⟩
    rw [← h6, List.take_take]
    congr 1
    omega
theorem own_ints_at {w : World} {base : Nat} {e : TypeId} {b o n c : Nat} {l : List Int} (h : w.ownsRow base e 1 (.slice (some ⟨b, o, none⟩) n c) n (l.map (.int .i64))) (i : Nat) (hi : i < l.length) : w.cell? ⟨b, o + i, none⟩ = some (.int .i64 l[i]) := by
  obtain ⟨a', c', e, hr⟩ := h.row
  simp only [Value.slice.injEq] at e
  obtain ⟨rfl, _, rfl⟩ := e
  exact hr.cells i _ (by rw [List.getElem?_map, List.getElem?_eq_getElem hi]; rfl)
theorem fold_min_succ (c : Int) (D : List Int) (k : Nat) (h : k < D.length) : (D.take (k + 1)).foldl min c = min ((D.take k).foldl min c) D[k] := by
  rw [List.take_succ_eq_append_getElem h, List.foldl_append]; rfl
theorem setAll_succ (pw : List Int) (D : List Int) (m : Int) (k : Nat) (h : k < D.length) : setAll pw (D.take (k + 1)) m = (setAll pw (D.take k) m).set D[k].toNat m := by
  unfold setAll
  rw [List.take_succ_eq_append_getElem h, List.foldl_append]; rfl

theorem getD_get {l : List Int} {i : Nat} (h : i < l.length) : l.getD i 0 = l[i] := by simp [List.getD, h]

set_option maxRecDepth 100000 in
set_option maxHeartbeats 8000000 in
theorem leave_any (τ : Nat → Nat) (B P n Do Dl Dp : Nat) (g0 g1 g2 g3 g4 : Value) (w : World) (vo vc : Value) (ow lw pw : List Int) (pre post : List Int) (cl : List Sp2) (met : Int) (c : Nat) (k : Int)
    (h : SM τ B P n Do Dl Dp g0 g1 g2 g3 g4 w vo vc ow lw pw (pre ++ (c : Int) :: post) (cl ++ [((c : Int), k)]) met) (hc : c < n) (h1 : (pre ++ (c : Int) :: post).length ≤ 20000) (h2 : cl.length ≤ 20000) (hpost : (c : Int) ∉ post)
    (hD : ∀ x ∈ (c : Int) :: post, ∃ a : Nat, x = a ∧ a < n) (hcl : ∀ p ∈ cl, ∃ a : Nat, p.1 = a ∧ a < n) :
    Calls Tryd.prog 111 #[.pointer (some ⟨P, 0, none⟩), .int .i64 (c : Int)] w (LeavePost B P n Do Dl Dp g0 g1 g2 g3 g4 w ow lw pw pre post cl met c) := by
  obtain ⟨ao, co, rfl, _⟩ := h.opn.own.row
  obtain ⟨ac, cc, e, _⟩ := h.cls.own.row
  rw [List.length_append, List.length_singleton] at e
  subst e
  obtain ⟨g, rfl, hcc, hcm, _, _, _, hm⟩ := h.popCls
  have hnew := h.new
  have c9 := blk_cell h.blk (i := 9) rfl
  have f9 := blk_free h.blk 9
  have hb1 : Below B w (w.setCell ⟨P, 9, none⟩ (.slice (some ⟨g, 0, none⟩) cl.length cc)) := (Below.refl B w).setCell (p := ⟨P, 9, none⟩) hnew _
  have HM := Lib.hid (hm.ext (Below.drew (Ext.refl _)))
  have HB1 := Lib.hid (Below.drew hb1)
  have HD := Lib.hid hD
  have HCL := Lib.hid hcl
  have HPOST := Lib.hid hpost
  unfold maxLen at hcm
  have hccI : (cl.length : Int) + 1 ≤ (cc : Int) := by omega
  have hcl0 : (0 : Int) ≤ (cl.length : Int) := by omega
  have hcI : (c : Int) < (n : Int) := by omega
  have hcI0 : (0 : Int) ≤ (c : Int) := by omega
  obtain ⟨n1, n2, n3, n4, n5, n6⟩ := h.nes
  have n1' := Ne.symm n1
  have n2' := Ne.symm n2
  have n4' := Ne.symm n4
  clear h hm hb1 hD hcl hpost
  go_enter Tryd.func111, Tryd.ntmps111
  go_wp2_with fail
  go_region
  generalize (w.setCell ⟨P, 9, none⟩ (.slice (some ⟨g, 0, none⟩) cl.length cc)).drew = W1 at *
  clear c9 f9
  have c9 := blk_cell HM.out.blk (i := 9) rfl
  rcases List.eq_nil_or_concat cl with hcle | ⟨cl1, x, hcle⟩
  case' inl =>
    subst hcle
    have HLW := Lib.hid (show lowL lw [] c = lw from rfl)
    go_wp2_with fail
    obtain ⟨lwx, hlwx⟩ : ∃ l, l = lw := ⟨_, rfl⟩
    have HLX := Lib.hid (hlwx.trans HLW.out.symm)
    rw [← hlwx] at HM
    have HM2 := HM
    have HB2 := HB1
    obtain ⟨W2, rfl⟩ : ∃ W2 : World, W2 = W1 := ⟨_, rfl⟩
    clear hlwx HLW HM HB1
  case' inr =>
    rw [List.concat_eq_append] at hcle
    subst hcle
    obtain ⟨u, hu, hun⟩ := HCL.out x (by simp)
    obtain ⟨xu, ku⟩ := x
    simp only at hu
    subst hu
    obtain ⟨y1, hy1, cc1⟩ : ∃ y, lw.getD u 0 = y ∧ W1.cell? ⟨Dl, u, none⟩ = some (.int .i64 y) := by
      have hl := HM.out.lens.2.1
      refine ⟨_, rfl, (own_cellAt HM.out.low.own (i := u) (by simpa using (by omega : u < lw.length))).trans ?_⟩
      rw [List.getElem_map, getD_get (by omega)]
    obtain ⟨y2, hy2, cc2⟩ : ∃ y, lw.getD c 0 = y ∧ W1.cell? ⟨Dl, c, none⟩ = some (.int .i64 y) := by
      have hl := HM.out.lens.2.1
      refine ⟨_, rfl, (own_cellAt HM.out.low.own (i := c) (by simpa using (by omega : c < lw.length))).trans ?_⟩
      rw [List.getElem_map, getD_get (by omega)]
    have ff1 := own_freeAt HM.out.low.own u
    have hco := HM.out.cls.own
    simp only [List.length_append, List.length_singleton, List.flatMap_append, List.flatMap_cons, List.flatMap_nil, List.append_nil] at hco c9 hccI hcl0 h2
    obtain ⟨g', hg', hcc', _, cu1, _, _, _⟩ := frames_pop hco
    injection hg' with hg'
    injection hg' with hg' _ _
    subst hg'
    have c6 := blk_cell HM.out.blk (i := 6) rfl
    have HLW := Lib.hid (show lowL lw (cl1 ++ [((u : Int), ku)]) c = lw.set u (min y1 y2) by rw [← hy1, ← hy2]; simp [lowL])
    have huI : (u : Int) < (n : Int) := by omega
    have huI0 : (0 : Int) ≤ (u : Int) := by omega
    clear hy1 hy2 hco
    go_wp2_with fail
    go_quiet (fail)
    go_wp2_with fail
    clear cu1 c9
    obtain ⟨W1', hW1'⟩ : ∃ W, W = W1.drewN nq := ⟨_, rfl⟩
    have hEq : Ext W1 W1' := by rw [hW1']; exact below_drewN (Ext.refl W1) nq
    have HM1 := Lib.hid (HM.out.ext hEq)
    have HBq := Lib.hid (HB1.out.trans (Ext.below hEq (by have := blk_lt HM.out.blk; omega)))
    replace cc1 := cell_later hEq cc1
    replace cc2 := cell_later hEq cc2
    replace c6 := cell_later hEq c6
    replace ff1 : W1'.frozen? ⟨Dl, u, none⟩ = false := own_freeAt HM1.out.low.own u
    rw [← hW1']
    clear hW1' hEq HM HB1
    go_region
    have HM2 := Lib.hid ((HM1.out.setLow u (if y2 < y1 then y2 else y1)).ext (Below.drew (Ext.refl _)))
    have HB2 := Lib.hid (Below.drew (HBq.out.setCell (p := ⟨Dl, u, none⟩) (HM1.out.bases.2.1) (.int .i64 (if y2 < y1 then y2 else y1))))
    obtain ⟨lwx, hlwx⟩ : ∃ l, l = lw.set u (if y2 < y1 then y2 else y1) := ⟨_, rfl⟩
    have HLX := Lib.hid (hlwx.trans ((by rw [min_if]) : lw.set u (if y2 < y1 then y2 else y1) = lw.set u (min y1 y2)) |>.trans HLW.out.symm)
    rw [← hlwx] at HM2
    clear HM1 HBq cc1 cc2 c6 ff1 hlwx HLW
    generalize (W1'.setCell ⟨Dl, u, none⟩ (.int .i64 (if y2 < y1 then y2 else y1))).drew = W2 at *
    generalize (if y2 < y1 then y2 else y1) = ym at *
    generalize cl1 ++ [((u : Int), ku)] = cl at *
  all_goals
    have hl2 := HM2.out.lens
    obtain ⟨xl, hxl, cl2⟩ : ∃ y, lwx.getD c 0 = y ∧ W2.cell? ⟨Dl, c, none⟩ = some (.int .i64 y) := by
      refine ⟨_, rfl, (own_cellAt HM2.out.low.own (i := c) (by simpa using (by omega : c < lwx.length))).trans ?_⟩
      rw [List.getElem_map, getD_get (by omega)]
    obtain ⟨xo, hxo, co2⟩ : ∃ y, ow.getD c 0 = y ∧ W2.cell? ⟨Do, c, none⟩ = some (.int .i64 y) := by
      refine ⟨_, rfl, (own_cellAt HM2.out.ord.own (i := c) (by simpa using (by omega : c < ow.length))).trans ?_⟩
      rw [List.getElem_map, getD_get (by omega)]
    have c6 := blk_cell HM2.out.blk (i := 6) rfl
    have c5 := blk_cell HM2.out.blk (i := 5) rfl
    have HXL := Lib.hid hxl
    have HXO := Lib.hid hxo
    clear hl2 hxl hxo
    by_cases hne : xl = xo
    · have hneb : ((xl : Int) != xo) = false := by simp [hne]
      have HNE := Lib.hid hne
      have hfl : (pre ++ (c : Int) :: post).length = pre.length + 1 + post.length := by simp; omega
      have HFL := Lib.hid hfl
      obtain ⟨ao', co', e, hro⟩ := HM2.out.opn.own.row
      simp only [Value.slice.injEq] at e
      obtain ⟨rfl, _, rfl⟩ := e
      have hcoL := hro.le
      have hcoM := hro.max
      unfold maxLen at hcoM
      obtain ⟨bo, oo, ho1, ho2⟩ := ints_cells hro
      obtain rfl := ho1 (by omega)
      have HO2 := Lib.hid ho2
      have HRO := Lib.hid hro
      have c8 := blk_cell HM2.out.blk (i := 8) rfl
      generalize hfle : pre ++ (c : Int) :: post = full at *
      have HFLE := Lib.hid hfle
      have hp1 : pre.length < full.length := by omega
      clear hne hro ho1 ho2 hfl hfle
      go_wp2_with fail
      go_quiet (fail)
      go_wp2_with fail
      have hflI : (full.length : Int) ≤ 20000 := by omega
      have HMq := Lib.hid (HM2.out.ext (below_drewN (Ext.refl W2) nq))
      have HBq := Lib.hid (show Below B w (W2.drewN nq) from below_drewN HB2.out nq)
      have HOq := Lib.hid (fun i hi => cell_later (below_drewN (Ext.refl W2) nq) (HO2.out i hi))
      clear HM2 HB2 HO2 HRO c5 c6 cl2 co2
      replace c8 := blk_cell HMq.out.blk (i := 8) rfl
      generalize W2.drewN nq = W3 at *
      go_loopg [5] (full.length - 1) (fun m x wr => ∃ i : Nat, m = i ∧ x = .int .i64 (i : Int) ∧ pre.length ≤ i ∧ i < full.length ∧ wr = W3)
      case atStart => exact ⟨full.length - 1, rfl, by congr 1; omega, by omega, by omega, rfl⟩
      case round =>
        obtain ⟨i, hgi, rfl, hi1, hi2, rfl⟩ := hrel
        have ci := HOq.out i hi2
        have hiI : (i : Int) < (full.length : Int) := by omega
        have hiI0 : (0 : Int) ≤ (i : Int) := by omega
        have HGI := Lib.hid hgi
        clear hgi
        by_cases hie : i = pre.length
        · have hfi : full[i] = (c : Int) := by have := HFLE.out; subst this; subst hie; simp
          rw [hfi] at ci
          subst hie
          have hco9 : ¬ co = pre.length := by omega
          have hcoI : (pre.length : Int) ≤ (co : Int) := by omega
          go_wp2_with fail
          have hql : full.length - pre.length = post.length + 1 := by have := HFL.out; omega
          generalize hqe : full.length - pre.length = q at *
          have HQ := Lib.hid hqe
          generalize co - pre.length = coq at *
          have HDq := Lib.hid (show ∀ k (hk : k < ((c : Int) :: post).length), ∃ h : pre.length + k < full.length, full[pre.length + k] = ((c : Int) :: post)[k] from fun k hk => by
            have := HFLE.out
            subst this
            have hk' : k < ((c : Int) :: post).length := hk
            refine ⟨by rw [List.length_append]; omega, ?_⟩
            rw [List.getElem_append_right (by omega)]
            congr 1
            omega)
          have HDL := Lib.hid (show ((c : Int) :: post).length = q by rw [List.length_cons]; omega)
          clear hqe hql
          generalize hDe : (c : Int) :: post = D at *
          have HDE := Lib.hid hDe
          clear hDe
          obtain ⟨wo, rfl⟩ : ∃ wo : World, wo = wr := ⟨_, rfl⟩
          go_loopg [6, 105] q (fun m x y wi => ∃ j : Nat, m + j = q ∧ y = .int .i64 (j : Int) ∧ x = .int .i64 ((D.take j).foldl min (c : Int)) ∧ wi = wo)
          case atStart => exact ⟨0, by omega, by go_num, rfl, rfl⟩
          case round =>
            obtain ⟨j, hmj, rfl, rfl, rfl⟩ := hrel
            have HMJ := Lib.hid hmj
            clear hmj
            by_cases hj : j < q
            · have hjD : j < D.length := by have := HDL.out; omega
              obtain ⟨hk1, hk2⟩ := HDq.out j hjD
              have cj := HOq.out (pre.length + j) hk1
              rw [hk2, ← Nat.add_assoc] at cj
              have HFS := Lib.hid (fold_min_succ (c : Int) D j hjD)
              have hjI : (j : Int) < (q : Int) := by omega
              generalize D[j] = y at *
              generalize (D.take j).foldl min (c : Int) = acc at *
              clear hk2
              by_cases hya : y < acc
              all_goals
                go_wp2_with fail
                go_roundg (gk - 1)
                case measure => have := HMJ.out; omega
                case rel => exact ⟨j + 1, by have := HMJ.out; omega, by go_num, by rw [HFS.out]; congr 1; omega, rfl⟩
            · have hjI : ¬ (j : Int) < (q : Int) := by omega
              have hfold : (D.take j).foldl min (c : Int) = leastOf' c D := by rw [List.take_of_length_le (by have := HDL.out; omega)]; rfl
              rw [hfold]
              clear hfold hj
              generalize hMe : leastOf' c D = M at *
              have HME := Lib.hid hMe
              clear hMe
              clear c8 ci
              have c8 := blk_cell HMq.out.blk (i := 8) rfl
              have hq3 := HQ.out
              go_wp2_with fail
              clear hq3
              go_loopg [120] q (fun m x wi => ∃ j : Nat, m + j = q ∧ x = .int .i64 (j : Int) ∧ SM τ B P n Do Dl Dp g0 g1 g2 g3 g4 wi (.slice (some ⟨bo, oo, none⟩) full.length co) (.slice (some ⟨g, 0, none⟩) _ cc) ow lwx (setAll pw (D.take j) M) full _ met ∧ Below B w wi)
              case atStart => exact ⟨0, by omega, by go_num, HMq.out, HBq.out⟩
              case round =>
                clear c8
                obtain ⟨j, hmj, rfl, hM, hB⟩ := hrel
                have HMJ := Lib.hid hmj
                have HM5 := Lib.hid hM
                have HB5 := Lib.hid hB
                by_cases hj : j < q
                · have hjD : j < D.length := by have := HDL.out; omega
                  obtain ⟨hk1, hk2⟩ := HDq.out j hjD
                  have cj := own_ints_at hM.opn.own (pre.length + j) hk1
                  rw [hk2, ← Nat.add_assoc] at cj
                  obtain ⟨d, hd, hdn⟩ := HD.out D[j] (by simp)
                  have HSS := Lib.hid (setAll_succ pw D M j hjD)
                  rw [hd] at cj HSS
                  have hlp := hM.lens.2.2
                  obtain ⟨y, cd⟩ : ∃ y, wr.cell? ⟨Dp, d, none⟩ = some (.int .i64 y) := ⟨_, (own_cellAt hM.prt.own (i := d) (by simpa using (by omega : d < (setAll pw (D.take j) M).length))).trans (by rw [List.getElem_map])⟩
                  have fd := own_freeAt hM.prt.own d
                  have c7 := blk_cell hM.blk (i := 7) rfl
                  have hjI : (j : Int) < (q : Int) := by omega
                  have hdI : (d : Int) < (n : Int) := by omega
                  clear hk2 hlp hM hB hmj hd
                  go_wp2_with fail
                  go_roundg (gk - 1)
                  case measure => have := HMJ.out; omega
                  case rel => exact ⟨j + 1, by have := HMJ.out; omega, by go_num, by rw [HSS.out]; exact HM5.out.setPrt d M, HB5.out.setCell (p := ⟨Dp, d, none⟩) HM5.out.bases.2.2 _⟩
                · have hjI : ¬ (j : Int) < (q : Int) := by omega
                  have hall : setAll pw (D.take j) M = setAll pw D M := by rw [List.take_of_length_le (by have := HDL.out; omega)]
                  rw [hall] at HM5
                  have c8 := blk_cell HM5.out.blk (i := 8) rfl
                  have f8 := blk_free HM5.out.blk 8
                  have hot := own_take1 HM5.out.opn.own (k := pre.length) (by omega)
                  have hpl : (full.map (Value.int .i64)).take pre.length = pre.map (.int .i64) := by
                    rw [← List.map_take, ← HFLE.out, List.take_left']
                    rfl
                  rw [hpl] at hot
                  have HSO := Lib.hid (HM5.out.setOpn (vo' := .slice (some ⟨bo, oo, none⟩) pre.length co) (ol' := pre) ⟨hot, fun b hb => HM5.out.opn.tag b hb⟩)
                  have HSB := Lib.hid (HB5.out.setCell (p := ⟨P, 8, none⟩) hnew (.slice (some ⟨bo, oo, none⟩) pre.length co))
                  clear hall hpl hot hM hB hmj hj
                  go_wp2
                  go_end0
                  have h := HSO.out
                  have hx := HLX.out
                  rw [hx] at h
                  refine ⟨rfl, HSB.out, τ, _, _, _, _, h, .inr ⟨?_, ?_, rfl⟩⟩
                  · rw [← hx, HXL.out, HXO.out]; exact HNE.out
                  · rw [HDE.out, HME.out]
        · have hfi : full[i] ≠ (c : Int) := by
            intro e
            have h := HFLE.out
            subst h
            rw [List.getElem_append_right (by omega)] at e
            have h2 : i - pre.length = (i - pre.length - 1) + 1 := by omega
            rw [List.getElem_cons] at e
            rw [dif_neg (by omega)] at e
            exact HPOST.out (e ▸ List.getElem_mem _)
          have hb : ((full[i] : Int) != (c : Int)) = true := by simp [hfi]
          generalize full[i] = y at *
          have hi1I : (1 : Int) ≤ (i : Int) := by omega
          clear hfi
          go_wp2_with fail
          go_roundg (i - 1)
          case measure => have := HGI.out; omega
          case rel => exact ⟨i - 1, rfl, by congr 1; omega, by omega, by omega, rfl⟩
    · have hneb : ((xl : Int) != xo) = true := by simp [hne]
      have HNE := Lib.hid hne
      clear hne
      go_wp2_with fail
      go_quiet (fail)
      go_wp2_with fail
      go_end0
      have h := HM2.out.ext (below_drewN (Ext.refl W2) nq)
      rw [HLX.out] at h
      have hx := HLX.out
      refine ⟨rfl, below_drewN HB2.out _, τ, _, _, _, _, h, .inl ⟨?_, rfl, rfl⟩⟩
      rw [← hx, HXL.out, HXO.out]
      exact HNE.out

end Go.Proofs.YtbmimdnpchldlaaDoor

namespace Go.Proofs.YtbmimdnpchldlaaDoor
open Go.RowKit

def lst (n : Nat) (f : Nat → Nat) : List Int := (List.range n).map fun a => (f a : Int)
def lstI (n : Nat) (f : Nat → Int) : List Int := (List.range n).map f
def osL (os : List Nat) : List Int := os.reverse.map fun a : Nat => (a : Int)
def csL (cs : List (Nat × Nat)) : List Sp2 := cs.reverse.map fun p => ((p.1 : Int), (p.2 : Int))

theorem lst_len (n : Nat) (f : Nat → Nat) : (lst n f).length = n := by simp [lst]
theorem lst_get (n : Nat) (f : Nat → Nat) {a : Nat} (h : a < n) : (lst n f)[a]? = some (f a : Int) := by simp [lst, h]
theorem lst_getD (n : Nat) (f : Nat → Nat) {a : Nat} (h : a < n) : (lst n f).getD a 0 = (f a : Int) := by rw [List.getD, lst_get n f h]; rfl
theorem lstI_len (n : Nat) (f : Nat → Int) : (lstI n f).length = n := by simp [lstI]
theorem lstI_get (n : Nat) (f : Nat → Int) {a : Nat} (h : a < n) : (lstI n f)[a]? = some (f a) := by simp [lstI, h]
theorem lst_upd (n : Nat) (f : Nat → Nat) {a : Nat} (v : Nat) (h : a < n) : (lst n f).set a (v : Int) = lst n (upd f a v) := by
  apply List.ext_getElem?
  intro i
  rw [List.getElem?_set, lst_len]
  by_cases hi : i < n
  · rw [lst_get n (upd f a v) hi]
    by_cases e : a = i
    · subst e; rw [if_pos rfl, if_pos h, upd_at]
    · rw [if_neg e, lst_get n f hi, upd_ne _ _ (Ne.symm e)]
  · have e : a ≠ i := by omega
    rw [if_neg e, List.getElem?_eq_none (by rw [lst_len]; omega), List.getElem?_eq_none (by rw [lst_len]; omega)]
theorem lstI_upd (n : Nat) (f : Nat → Int) {a : Nat} (v : Int) (h : a < n) : (lstI n f).set a v = lstI n (upd f a v) := by
  apply List.ext_getElem?
  intro i
  rw [List.getElem?_set, lstI_len]
  by_cases hi : i < n
  · rw [lstI_get n (upd f a v) hi]
    by_cases e : a = i
    · subst e; rw [if_pos rfl, if_pos h, upd_at]
    · rw [if_neg e, lstI_get n f hi, upd_ne _ _ (Ne.symm e)]
  · have e : a ≠ i := by omega
    rw [if_neg e, List.getElem?_eq_none (by rw [lstI_len]; omega), List.getElem?_eq_none (by rw [lstI_len]; omega)]
theorem osL_cons (z : Nat) (os : List Nat) : osL (z :: os) = osL os ++ [(z : Int)] := by simp [osL]
theorem csL_cons (p : Nat × Nat) (cs : List (Nat × Nat)) : csL (p :: cs) = csL cs ++ [((p.1 : Int), (p.2 : Int))] := by simp [csL]
theorem osL_len (os : List Nat) : (osL os).length = os.length := by simp [osL]
theorem csL_len (cs : List (Nat × Nat)) : (csL cs).length = cs.length := by simp [csL]

/-- All of a part's spots are told its least. -/
theorem setAll_lst (n : Nat) (part : Nat → Int) (m : Int) : ∀ (D : List Nat), (∀ d ∈ D, d < n) → setAll (lstI n part) (D.map fun (d : Nat) => (d : Int)) m = lstI n (fun a => if a ∈ D then m else part a)
  | [], _ => by simp [setAll]
  | d :: D, h => by
    have hd := h d (by simp)
    have ih := setAll_lst n (upd part d m) m D (fun x hx => h x (List.mem_cons_of_mem _ hx))
    unfold setAll at ih ⊢
    rw [List.map_cons, List.foldl_cons]
    have e : ((d : Int)).toNat = d := by omega
    rw [e, lstI_upd n part m hd, ih]
    congr 1
    funext a
    by_cases h1 : a ∈ D
    · simp [h1]
    · by_cases h2 : a = d
      · subst h2; simp [h1, upd_at]
      · simp [h1, h2, upd_ne _ _ h2]

/-- The last frame's second cell is stored anew. -/
theorem frames_set {w : World} {B g cc : Nat} {cl : List Sp2} {x : Sp2} (h : w.ownsRow B 180 2 (.slice (some ⟨g, 0, none⟩) (cl.length + 1) cc) (cl.length + 1) (cl.flatMap spc ++ spc x)) (v : Int) :
    (w.setCell ⟨g, cl.length * 2 + 1, none⟩ (.int .i64 v)).ownsRow B 180 2 (.slice (some ⟨g, 0, none⟩) (cl.length + 1) cc) (cl.length + 1) (cl.flatMap spc ++ spc (x.1, v)) := by
  have hl := flat_opc_len cl
  refine ⟨by rw [List.length_append, hl]; simp [spc]; omega, ?_⟩
  rcases h.2 with ⟨hn, _⟩ | ⟨g', cap, cur, hv, hb, hgg, hnc, hcm, hcs, ht⟩
  · cases hn
  · simp only [Value.slice.injEq, Option.some.injEq, Addr.mk.injEq] at hv
    obtain ⟨⟨rfl, _, _⟩, _, rfl⟩ := hv
    refine .inr ⟨_, _, cur.setIfInBounds (cl.length * 2 + 1) (.int .i64 v), rfl, hb, blk_set hgg _, hnc, hcm, by simpa using hcs, ?_⟩
    rw [Array.toList_setIfInBounds, List.take_set, ht, List.set_append_right _ _ (by omega), hl]
    have e : cl.length * 2 + 1 - cl.length * 2 = 1 := by omega
    rw [e]
    rfl
theorem SM.setFrame {τ : Nat → Nat} {B P n Do Dl Dp : Nat} {g0 g1 g2 g3 g4 : Value} {w : World} {vo : Value} {ow lw pw : List Int} {ol : List Int} {cl : List Sp2} {x : Sp2} {met : Int} {g cc : Nat}
    (h : SM τ B P n Do Dl Dp g0 g1 g2 g3 g4 w vo (.slice (some ⟨g, 0, none⟩) (cl.length + 1) cc) ow lw pw ol (cl ++ [x]) met) (v : Int) :
    SM τ B P n Do Dl Dp g0 g1 g2 g3 g4 (w.setCell ⟨g, cl.length * 2 + 1, none⟩ (.int .i64 v)) vo (.slice (some ⟨g, 0, none⟩) (cl.length + 1) cc) ow lw pw ol (cl ++ [(x.1, v)]) met ∧ B ≤ g := by
  have tg : τ g = 5 := h.cls.tag g rfl
  have hP : P ≠ g := fun e => by have := h.tag; rw [e] at this; omega
  have hc := h.cls.own
  simp only [List.length_append, List.length_singleton, List.flatMap_append, List.flatMap_cons, List.flatMap_nil, List.append_nil] at hc
  have hs := frames_set hc v
  refine ⟨⟨blk_far h.blk (p := ⟨g, cl.length * 2 + 1, none⟩) (Ne.symm hP) _, h.ord.set (p := ⟨g, cl.length * 2 + 1, none⟩) (by show τ g ≠ 1; omega) _, h.low.set (p := ⟨g, cl.length * 2 + 1, none⟩) (by show τ g ≠ 2; omega) _, h.prt.set (p := ⟨g, cl.length * 2 + 1, none⟩) (by show τ g ≠ 3; omega) _, h.opn.set (p := ⟨g, cl.length * 2 + 1, none⟩) (by show τ g ≠ 4; omega) _, ?_, h.tag, h.new⟩, (h.cls.own.lt g rfl).1⟩
  refine ⟨?_, fun b hb => h.cls.tag b hb⟩
  simpa using hs

structure TSM (τ : Nat → Nat) (B P n : Nat) (Do Dl Dp : Nat) (g0 g1 g2 g3 g4 : Value) (w : World) (s : TS) : Prop where
  mem : ∃ vo vc, SM τ B P n Do Dl Dp g0 g1 g2 g3 g4 w vo vc (lst n s.ord) (lst n s.low) (lstI n s.part) (osL s.os) (csL s.cs) (s.met : Int)

/-- A list whose spots differ and lie below n is no longer than n. -/
theorem pairwise_len {n : Nat} {f : Nat → Nat} {l : List Nat} (hb : ∀ a ∈ l, a < n) (hp : l.Pairwise fun a b => f b < f a) : l.length ≤ n := by
  have hnd : l.Nodup := hp.imp fun h e => by subst e; omega
  have := hnd.length_le_of_subset (l₂ := List.range n) fun a ha => List.mem_range.2 (hb a ha)
  simpa using this

end Go.Proofs.YtbmimdnpchldlaaDoor

namespace Go.Proofs.YtbmimdnpchldlaaDoor
open Go.RowKit

def lsB (n : Nat) (f : Nat → Bool) : List Bool := (List.range n).map f
theorem lsB_len (n : Nat) (f : Nat → Bool) : (lsB n f).length = n := by simp [lsB]
theorem lsB_get (n : Nat) (f : Nat → Bool) {a : Nat} (h : a < n) : (lsB n f)[a]? = some (f a) := by simp [lsB, h]
theorem lsB_upd (n : Nat) (f : Nat → Bool) {a : Nat} (v : Bool) (h : a < n) : (lsB n f).set a v = lsB n (upd f a v) := by
  apply List.ext_getElem?
  intro i
  rw [List.getElem?_set, lsB_len]
  by_cases hi : i < n
  · rw [lsB_get n (upd f a v) hi]
    by_cases e : a = i
    · subst e; rw [if_pos rfl, if_pos h, upd_at]
    · rw [if_neg e, lsB_get n f hi, upd_ne _ _ (Ne.symm e)]
  · have e : a ≠ i := by omega
    rw [if_neg e, List.getElem?_eq_none (by rw [lsB_len]; omega), List.getElem?_eq_none (by rw [lsB_len]; omega)]
theorem lsB_false (n : Nat) : List.replicate n false = lsB n fun _ => false := by simp [lsB, List.map_const']

/-- The sets that the first spots of each part meet. -/
def orUp (pn bits : Nat → Nat) : Nat → Nat → Nat
  | 0, _ => 0
  | i + 1, m => if pn i = m then orUp pn bits i m ||| bits i else orUp pn bits i m
/-- Whether one of the first spots of a part leads back into it. -/
def lpUp (pn : Nat → Nat) (next : List (List Int)) : Nat → Nat → Bool
  | 0, _ => false
  | i + 1, m => lpUp pn next i m || (pn i == m && (nbs next i).any fun z => pn z.toNat == m)
def lpIn (pn : Nat → Nat) (next : List (List Int)) (i k m : Nat) : Bool := lpUp pn next i m || (pn i == m && ((nbs next i).take k).any fun z => pn z.toNat == m)
/-- A fair part, named by its least spot. -/
def fairB (pn : Nat → Nat) (next : List (List Int)) (bits : Nat → Nat) (M n m : Nat) : Bool := pn m == m && lpUp pn next n m && orUp pn bits n m == 2 ^ M - 1

theorem orUp_step (pn bits : Nat → Nat) (i : Nat) : upd (orUp pn bits i) (pn i) (orUp pn bits i (pn i) ||| bits i) = orUp pn bits (i + 1) := by
  funext m
  unfold upd
  by_cases e : m = pn i
  · subst e; simp [orUp]
  · rw [if_neg e]; simp [orUp, Ne.symm e]
theorem orUp_lt (pn bits : Nat → Nat) {M : Nat} (h : ∀ i, bits i < 2 ^ M) : ∀ i m, orUp pn bits i m < 2 ^ M
  | 0, _ => Nat.two_pow_pos M
  | i + 1, m => by
    unfold orUp
    split
    · exact Nat.or_lt_two_pow (orUp_lt pn bits h i m) (h i)
    · exact orUp_lt pn bits h i m
theorem lpIn_zero (pn : Nat → Nat) (next : List (List Int)) (i : Nat) : lpIn pn next i 0 = lpUp pn next i := by
  funext m; simp [lpIn]
theorem lpIn_done (pn : Nat → Nat) (next : List (List Int)) (i k : Nat) (h : k = (nbs next i).length) : lpIn pn next i k = lpUp pn next (i + 1) := by
  funext m; subst h; simp [lpIn, lpUp]
theorem lpIn_succ (pn : Nat → Nat) (next : List (List Int)) (i k z m : Nat) (h : (nbs next i)[k]? = some (z : Int)) : lpIn pn next i (k + 1) m = (lpIn pn next i k m || (pn i == m && pn z == m)) := by
  have e : (nbs next i).take (k + 1) = (nbs next i).take k ++ [(z : Int)] := by rw [List.take_add_one, h]; rfl
  unfold lpIn
  rw [e, List.any_append, List.any_cons, List.any_nil, Bool.or_false]
  cases lpUp pn next i m <;> cases pn i == m <;> simp
theorem lpIn_yes (pn : Nat → Nat) (next : List (List Int)) (i k z : Nat) (h : (nbs next i)[k]? = some (z : Int)) (hz : pn z = pn i) : upd (lpIn pn next i k) (pn i) true = lpIn pn next i (k + 1) := by
  funext m
  rw [lpIn_succ pn next i k z m h, hz]
  unfold upd
  by_cases e : m = pn i
  · subst e; simp
  · rw [if_neg e]; simp [Ne.symm e]
theorem lpIn_no (pn : Nat → Nat) (next : List (List Int)) (i k z : Nat) (h : (nbs next i)[k]? = some (z : Int)) (hz : pn z ≠ pn i) : lpIn pn next i k = lpIn pn next i (k + 1) := by
  funext m
  rw [lpIn_succ pn next i k z m h]
  have : (pn i == m && pn z == m) = false := by
    cases e : pn i == m
    · rfl
    · have e' : pn i = m := by simpa using e
      rw [e'] at hz
      simp [hz]
  rw [this, Bool.or_false]
theorem fair_upd (f : Nat → Bool) (i : Nat) (b : Bool) (hb : b = f i) : upd (fun m => if m < i then f m else false) i b = fun m => if m < i + 1 then f m else false := by
  funext m
  unfold upd
  by_cases e : m = i
  · subst e; rw [if_pos rfl]; simp [hb]
  · simp only [if_neg e]
    by_cases h : m < i
    · rw [if_pos h, if_pos (by omega)]
    · rw [if_neg h, if_neg (by omega)]
theorem lsB_cut (n : Nat) (f : Nat → Bool) : lsB n (fun m => if m < n then f m else false) = lsB n f := by
  unfold lsB
  exact List.map_congr_left fun a ha => by rw [if_pos (List.mem_range.1 ha)]

def bitsN (sets : List Int) (i : Nat) : Nat := (sets.getD i 0).toNat
theorem bitsN_eq {sets : List Int} {M i : Nat} (hb : ∀ s ∈ sets, (0 : Int) ≤ s ∧ s < (2 : Int) ^ M) (h : i < sets.length) : sets[i] = (bitsN sets i : Int) := by
  have := hb sets[i] (by simp)
  unfold bitsN
  rw [List.getD, List.getElem?_eq_getElem h]
  show _ = ((sets[i].toNat : Nat) : Int)
  omega
theorem bitsN_lt {sets : List Int} {M : Nat} (hb : ∀ s ∈ sets, (0 : Int) ≤ s ∧ s < (2 : Int) ^ M) (i : Nat) : bitsN sets i < 2 ^ M := by
  unfold bitsN
  by_cases h : i < sets.length
  · rw [List.getD, List.getElem?_eq_getElem h]
    have := hb sets[i] (by simp)
    have e : ((2 ^ M : Nat) : Int) = (2 : Int) ^ M := by push_cast; rfl
    show sets[i].toNat < _
    omega
  · rw [List.getD, List.getElem?_eq_none (by omega)]
    exact Nat.two_pow_pos M

end Go.Proofs.YtbmimdnpchldlaaDoor
