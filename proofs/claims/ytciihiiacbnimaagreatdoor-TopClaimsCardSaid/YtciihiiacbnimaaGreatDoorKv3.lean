/- Several texts in one: GrM; ReachM; SccChk; Visit; Reached; SMem; Enter; Leave; TSM; FairP; FairQ; FairD; WayD; ConcatI. No condition. -/
import Derived.Test.YtciihiiacbnimaaGreatDoorKv1
import Derived.Deep.LoopGhost
import Derived.WalkSmall
import Derived.Deep.RegionWith
import Derived.Lib.AppendZeros
namespace Go.Proofs.YtciihiiacbnimaaGreatDoor
open Go.RowKit
theorem ints_cells {w : World} {a : Option Addr} {n c : Nat} {l : List Int} (h : Row w 1 a n c (l.map (.int .i64))) : ∃ b off, (0 < l.length → a = some ⟨b, off, none⟩) ∧ ∀ (i : Nat) (hi : i < l.length), w.cell? ⟨b, off + i, none⟩ = some (.int .i64 l[i]) := by
  obtain ⟨b, off, _, h2, h3⟩ := h.lie
  exact ⟨b, off, fun hl => h2 (by simpa using hl), fun i hi => h3 i _ (by rw [List.getElem?_map, List.getElem?_eq_getElem hi]; rfl)⟩
def Spots (w : World) (v : Value) (l : List Sp2) : Prop := Reads w 2 v l.length (l.flatMap spc)
theorem Spots.ext {w w' : World} {v : Value} {l : List Sp2} (h : Spots w v l) (hb : Ext w w') : Spots w' v l := Reads.ext h hb
theorem Row.oneG (w : World) (t : TypeId) (x : Value) (k : Nat) (hk : k = w.heap.size) : Row (w.alloc (.cells #[x] t)) 1 (some ⟨k, 0, none⟩) 1 1 [x] := by subst hk; exact Row.one w t x
theorem Row.newSp (w : World) (t : TypeId) (k v : Int) : Row (w.alloc (.cells #[.int .i64 k, .int .i64 v] t)) 2 (some ⟨w.heap.size, 0, none⟩) 1 1 (spc (k, v)) := by
  refine ⟨rfl, Nat.le_refl _, by unfold maxLen; omega, w.heap.size, 0, (by intro h; cases h), fun _ => rfl, fun j u hu => ?_⟩
  rw [Nat.zero_add, World.cell?_alloc_at _ _ _ _ rfl]
  simpa [spc] using hu
structure GMem (τ : Nat → Nat) (B : Nat) (w : World) (sp nx st : Value) (S : List Sp2) (L : List (List Int)) (T : List Int) : Prop where
  lo : ∀ b, b < B → τ b = 0
  size : B ≤ w.heap.size
  sp : OwnT τ 1 w B 59 2 sp S.length (S.flatMap spc)
  nx : ∃ vs, OwnT τ 2 w B 27 1 nx L.length vs ∧ Ent τ 3 w fun x => Each x vs L
  st : OwnT τ 4 w B 3 1 st T.length (T.map (.int .i64))
section
variable {τ : Nat → Nat} {B : Nat} {w w' : World} {sp nx st : Value} {S : List Sp2} {L : List (List Int)} {T : List Int}
theorem GMem.nil (w : World) (B : Nat) (h : B ≤ w.heap.size) : GMem (fun _ => 0) B w (.slice none 0 0) (.slice none 0 0) (.slice none 0 0) [] [] [] :=
  ⟨fun _ _ => rfl, h, OwnT.nil _ _ _ _ _ _, ⟨[], OwnT.nil _ _ _ _ _ _, fun x _ _ => ⟨rfl, by intro i u l hu; simp at hu⟩⟩, OwnT.nil _ _ _ _ _ _⟩
theorem GMem.ext (h : GMem τ B w sp nx st S L T) (hE : Ext w w') : GMem τ B w' sp nx st S L T := by
  obtain ⟨vs, h1, h2⟩ := h.nx
  exact ⟨h.lo, Nat.le_trans h.size hE.size, h.sp.ext hE, ⟨vs, h1.ext hE, h2.ext hE⟩, h.st.ext hE⟩
theorem GMem.low (h : GMem τ B w sp nx st S L T) {p : Addr} (hp : p.block < B) (v : Value) : GMem τ B (w.setCell p v) sp nx st S L T := by
  obtain ⟨vs, h1, h2⟩ := h.nx
  exact ⟨h.lo, by simpa using h.size, h.sp.low hp v, ⟨vs, h1.low hp v, h2.set (by rw [h.lo _ hp]; omega) v⟩, h.st.low hp v⟩
theorem GMem.retag (h : GMem τ B w sp nx st S L T) (t : Nat) : GMem (tagAt τ w.heap.size t) B w sp nx st S L T := by
  obtain ⟨vs, h1, h2⟩ := h.nx
  have e : ∀ b, b < w.heap.size → tagAt τ w.heap.size t b = τ b := fun b hb => tagAt_lt hb
  exact ⟨fun b hb => by have := h.size; rw [e b (by omega)]; exact h.lo b hb, h.size, h.sp.retag e, ⟨vs, h1.retag e, h2.tag e⟩, h.st.retag e⟩
theorem GMem.appSp (h : GMem τ B w sp nx st S L T) {sp' : Value} {n : Nat} {xs : List Value} {x : Sp2} (ho : w'.ownsRow B 59 2 sp' n xs) (hn : n = S.length + 1) (hx : xs = S.flatMap spc ++ spc x)
    (hg : w.grownBy w' sp.ownBlock) (hb : sp'.ownBlock = sp.ownBlock ∨ sp'.ownBlock = some w.heap.size) : GMem (tagAt τ w.heap.size 1) B w' sp' nx st (S ++ [x]) L T := by
  obtain ⟨vs, h1, h2⟩ := h.nx
  refine ⟨fun b hb => by have := h.size; rw [tagAt_lt (by omega)]; exact h.lo b hb, Nat.le_trans h.size hg.size, ?_, ⟨vs, h1.other h.sp hg (by omega), h2.app h.sp hg (by omega)⟩, h.st.other h.sp hg (by omega)⟩
  have := h.sp.app ho hb
  subst hn; subst hx
  simpa using this
theorem GMem.appNx (h : GMem τ B w sp nx st S L T) {nx' u : Value} {l : List Int} {n : Nat} {vs vs' : List Value} (h1 : OwnT τ 2 w B 27 1 nx L.length vs) (h2 : Ent τ 3 w fun x => Each x vs L) (hu : Ent τ 3 w fun x => Ints x u l)
    (ho : w'.ownsRow B 27 1 nx' n vs') (hn : n = L.length + 1) (hv : vs' = vs ++ [u])
    (hg : w.grownBy w' nx.ownBlock) (hb : nx'.ownBlock = nx.ownBlock ∨ nx'.ownBlock = some w.heap.size) : GMem (tagAt τ w.heap.size 2) B w' sp nx' st S (L ++ [l]) T := by
  subst hn; subst hv
  refine ⟨fun b hb => by have := h.size; rw [tagAt_lt (by omega)]; exact h.lo b hb, Nat.le_trans h.size hg.size, h.sp.other h1 hg (by omega), ⟨vs ++ [u], ?_, ?_⟩, h.st.other h1 hg (by omega)⟩
  · have := h1.app ho hb
    simpa using this
  · exact Ent.both (h2.app h1 hg (by omega)) (hu.app h1 hg (by omega)) fun x ha hb => ha.snoc hb
theorem GMem.appSt (h : GMem τ B w sp nx st S L T) {st' : Value} {n : Nat} {xs : List Value} {x : Int} (ho : w'.ownsRow B 3 1 st' n xs) (hn : n = T.length + 1) (hx : xs = T.map (.int .i64) ++ [.int .i64 x])
    (hg : w.grownBy w' st.ownBlock) (hb : st'.ownBlock = st.ownBlock ∨ st'.ownBlock = some w.heap.size) : GMem (tagAt τ w.heap.size 4) B w' sp nx st' S L (T ++ [x]) := by
  obtain ⟨vs, h1, h2⟩ := h.nx
  refine ⟨fun b hb => by have := h.size; rw [tagAt_lt (by omega)]; exact h.lo b hb, Nat.le_trans h.size hg.size, h.sp.other h.st hg (by omega), ⟨vs, h1.other h.st hg (by omega), h2.app h.st hg (by omega)⟩, ?_⟩
  have := h.st.app ho hb
  subst hn; subst hx
  simpa using this
theorem GMem.base (h : GMem τ B w sp nx st S L T) {B' : Nat} (hb : B' ≤ B) : GMem τ B' w sp nx st S L T := by
  obtain ⟨vs, h1, h2⟩ := h.nx
  exact ⟨fun b hlt => h.lo b (by omega), Nat.le_trans hb h.size, ⟨own_down h.sp.own hb, h.sp.tag⟩, ⟨vs, ⟨own_down h1.own hb, h1.tag⟩, h2⟩, ⟨own_down h.st.own hb, h.st.tag⟩⟩
theorem GMem.spots (h : GMem τ B w sp nx st S L T) : Spots w sp S := h.sp.reads
theorem GMem.lists (h : GMem τ B w sp nx st S L T) : Lists w nx L := by
  obtain ⟨vs, h1, h2⟩ := h.nx
  exact ⟨vs, h2.now, h1.reads⟩
theorem GMem.ints (h : GMem τ B w sp nx st S L T) : Ints w st T := by
  have := h.st.reads
  rwa [show T.length = T.length from rfl] at this
end
end Go.Proofs.YtciihiiacbnimaaGreatDoor

namespace Go.Proofs.YtciihiiacbnimaaGreatDoor
open Go.RowKit
end Go.Proofs.YtciihiiacbnimaaGreatDoor

namespace Go.Proofs.YtciihiiacbnimaaGreatDoor
open Go.RowKit
end Go.Proofs.YtciihiiacbnimaaGreatDoor

namespace Go.Proofs.YtciihiiacbnimaaGreatDoor
open Go.RowKit
end Go.Proofs.YtciihiiacbnimaaGreatDoor

namespace Go.Proofs.YtciihiiacbnimaaGreatDoor
open Go.RowKit
end Go.Proofs.YtciihiiacbnimaaGreatDoor

namespace Go.Proofs.YtciihiiacbnimaaGreatDoor
open Go.RowKit
section
end
end Go.Proofs.YtciihiiacbnimaaGreatDoor

namespace Go.Proofs.YtciihiiacbnimaaGreatDoor
open Go.RowKit
section
end
end Go.Proofs.YtciihiiacbnimaaGreatDoor

namespace Go.Proofs.YtciihiiacbnimaaGreatDoor
open Go.RowKit
end Go.Proofs.YtciihiiacbnimaaGreatDoor

namespace Go.Proofs.YtciihiiacbnimaaGreatDoor
open Go.RowKit
end Go.Proofs.YtciihiiacbnimaaGreatDoor

namespace Go.Proofs.YtciihiiacbnimaaGreatDoor
open Go.RowKit
end Go.Proofs.YtciihiiacbnimaaGreatDoor

namespace Go.Proofs.YtciihiiacbnimaaGreatDoor
open Go.RowKit
end Go.Proofs.YtciihiiacbnimaaGreatDoor

namespace Go.Proofs.YtciihiiacbnimaaGreatDoor
end Go.Proofs.YtciihiiacbnimaaGreatDoor

namespace Go.Proofs.YtciihiiacbnimaaGreatDoor
section
end
end Go.Proofs.YtciihiiacbnimaaGreatDoor

namespace Go.Proofs.YtciihiiacbnimaaGreatDoor
open Go.RowKit
set_option maxRecDepth 100000 in
set_option maxHeartbeats 2000000 in
theorem growI_any (n : Nat) (w : World) (h0 : 0 < n) (hn : n ≤ 1000) :
    Calls Tryz.prog 69 #[.slice none 0 0, .int .i64 (n : Int)] w fun e w' => ∃ c, e = .returned (.slice (some ⟨w.heap.size, 0, none⟩) 0 c) ∧ n ≤ c ∧ w'.ownsRow w.heap.size 3 1 (.slice (some ⟨w.heap.size, 0, none⟩) 0 c) 0 [] ∧ Ext w w' := by
  obtain ⟨i, hi, hz, hs, hby⟩ := Tryz.slIntsG.inf
  have hr := Lib.run_append_nil_zeros (P := Tryz.prog) w 27 3 27 3 i (.int .i64 0) .i64 .i64 Tryz.slIntsG.und Tryz.underlying3 hi hz n h0 (by omega) (by omega) (by rw [hby]; omega)
  have hge := grownCap_ge w n 0 3
  have hle := grownCap_le_maxLen w n 0 3 (by unfold maxLen; omega)
  generalize grownCap w n 0 3 = cap at *
  have hcs : (Builtin.zeroCells (Value.cells (.int .i64 0)) n ++ Builtin.zeroCells (Value.cells (.int .i64 0)) (cap - n)).size = cap * 1 := by
    simp [Builtin.zeroCells, Value.cells]
    omega
  have hown := World.ownsRow_made (base := w.heap.size) (e := 3) (size := 1) w.drew (Builtin.zeroCells (Value.cells (.int .i64 0)) n ++ Builtin.zeroCells (Value.cells (.int .i64 0)) (cap - n)) cap (Nat.le_refl _) hle hcs
  have hE : Ext w (w.drew.alloc (.cells (Builtin.zeroCells (Value.cells (.int .i64 0)) n ++ Builtin.zeroCells (Value.cells (.int .i64 0)) (cap - n)) 3)) := ext_al (Below.drew (Ext.refl w)) _
  generalize Builtin.zeroCells (Value.cells (.int .i64 0)) n ++ Builtin.zeroCells (Value.cells (.int .i64 0)) (cap - n) = cur at *
  have HO := Lib.hid hown
  have HE := Lib.hid hE
  have hnI : (0 : Int) < (n : Int) := by omega
  have hnI2 : ¬ (n : Int) < 0 := by omega
  unfold maxLen at hle
  clear hown hE hcs hi hz hs hby
  go_enter Tryz.func69, Tryz.ntmps69
  go_wp2_with (at_builtin; go_must (refine Lib.wpList_append_run w rfl _ _ 27 3 rfl _ _ rfl rfl _ _ hr ?_))
  go_wp2
  go_ret
  exact ⟨cap, rfl, hge, HO.out, HE.out⟩
set_option maxRecDepth 100000 in
set_option maxHeartbeats 2000000 in
theorem concatI_two (w : World) (p aA aB : Option Addr) (c nA cA nB cB : Nat) (xA xB : List Value) (h : Row w 1 p 2 c [.slice aA nA cA, .slice aB nB cB]) (hA : Row w 1 aA nA cA xA) (hB : Row w 1 aB nB cB xB)
    (oA : ∀ u ∈ xA, u.oneCell' = true) (oB : ∀ u ∈ xB, u.oneCell' = true) (h0 : 0 < nA + nB) (hn : nA + nB ≤ 1000) :
    Calls Tryz.prog 44 #[.slice p 2 c] w fun e w' => ∃ a c, e = .returned (.slice a (nA + nB) c) ∧ w'.ownsRow w.heap.size 3 1 (.slice a (nA + nB) c) (nA + nB) (xA ++ xB) ∧ Ext w w' := by
  obtain ⟨b, off, _, h2, h3⟩ := h.lie
  obtain rfl := h2 (by simp)
  have c0 : w.cell? ⟨b, off, none⟩ = some (.slice aA nA cA) := by simpa using h3 0 _ rfl
  have c1 := h3 1 _ rfl
  have C0 := Lib.hid c0
  have C1 := Lib.hid c1
  have HA := Lib.hid hA
  have HB := Lib.hid hB
  obtain ⟨N, hN⟩ : ∃ N, nA + nB = N := ⟨_, rfl⟩
  rw [hN] at h0 hn
  have HGR := Lib.hid (growI_any N w h0 hn)
  have hsI : (nA : Int) + (nB : Int) = (N : Int) := by omega
  have hwI : IntKind.i64.wrap ((nA : Int) + (nB : Int)) = (N : Int) := by rw [hsI]; exact IntWalk.i64_in _ (by omega)
  have hA0 : ¬ (nA : Int) < 0 := by omega
  have hS0 : ¬ (N : Int) < 0 := by omega
  have hnA : nA ≤ 1000 := by omega
  have HN := Lib.hid hN
  clear hN
  clear h h2 h3 hA hB c0 c1
  go_enter Tryz.func44, Tryz.ntmps44
  go_wp2_with fail
  go_loopg [3, 11] 2 (fun m y x wr => ((m = 2 ∧ x = .int .i64 0 ∧ y = .int .i64 0) ∨ (m = 1 ∧ x = .int .i64 1 ∧ y = .int .i64 (nA : Int)) ∨ (m = 0 ∧ x = .int .i64 2 ∧ y = .int .i64 (N : Int))) ∧ wr = w)
  case atStart => exact ⟨.inl ⟨rfl, rfl, rfl⟩, rfl⟩
  case round =>
    obtain ⟨hc, rfl⟩ := hrel
    rcases hc with ⟨hm, rfl, rfl⟩ | ⟨hm, rfl, rfl⟩ | ⟨hm, rfl, rfl⟩
    · have HM := Lib.hid hm
      have c0 := C0.out
      clear hm
      go_wp2_with fail
      go_roundg 1
      case measure => have := HM.out; omega
      case rel => exact ⟨.inr (.inl ⟨rfl, rfl, by go_num⟩), rfl⟩
    · have HM := Lib.hid hm
      have c1 := C1.out
      clear hm
      go_wp2_with fail
      go_roundg 0
      case measure => have := HM.out; omega
      case rel => exact ⟨.inr (.inr ⟨rfl, rfl, by go_num⟩), rfl⟩
    · clear hm
      obtain ⟨wr0, rfl⟩ : ∃ wr0 : World, wr0 = wr := ⟨_, rfl⟩
      go_wp2_with fail
      refine HGR.out.mono ?_
      rintro e w1 ⟨cg, rfl, hcg, hown, hE1⟩
      have HO := Lib.hid hown
      have HE1 := Lib.hid hE1
      clear hown hE1 HGR hcg
      go_wp2_with fail
      go_loopg [6, 27] 2 (fun m y x wr => ∃ (a : Option Addr) (n cc : Nat) (xs : List Value), y = .slice a n cc ∧ wr.ownsRow wr0.heap.size 3 1 (.slice a n cc) n xs ∧ Ext wr0 wr ∧
        ((m = 2 ∧ x = .int .i64 0 ∧ n = 0 ∧ xs = []) ∨ (m = 1 ∧ x = .int .i64 1 ∧ n = nA ∧ xs = xA) ∨ (m = 0 ∧ x = .int .i64 2 ∧ n = nA + nB ∧ xs = xA ++ xB)))
      case atStart => exact ⟨_, _, _, _, rfl, HO.out, HE1.out, .inl ⟨rfl, rfl, rfl, rfl⟩⟩
      case round =>
        obtain ⟨a, n, cc, xs, rfl, ho, hE, hc⟩ := hrel
        have HE := Lib.hid hE
        have HOX := Lib.hid ho
        rcases hc with ⟨hm, rfl, rfl, rfl⟩ | ⟨hm, rfl, rfl, rfl⟩ | ⟨hm, rfl, rfl, rfl⟩
        · have HM := Lib.hid hm
          have c0 := cell_later hE C0.out
          clear hm hE
          go_wp2_with (at_builtin; go_must (refine wpl_append rfl rfl Tryz.slIntsG wr0.heap.size rfl ho rfl (HA.out.ext HE.out) oA (by unfold maxLen; omega) (by omega) HE.out.size ?_))
          intro v3 w3 hown3 hg3 hb3 _
          have HE3 := Lib.hid (Below.grown HE.out hg3 HE.out.size (fun b hb => (HOX.out.lt b hb).1))
          obtain ⟨a3, c3, rfl, _⟩ := hown3.row
          have HO3 := Lib.hid hown3
          clear hown3 hg3 hb3 ho
          go_wp2_with fail
          go_roundg 1
          case measure => have := HM.out; omega
          case rel => exact ⟨a3, _, c3, _, rfl, HO3.out, HE3.out, .inr (.inl ⟨rfl, rfl, by omega, by simp⟩)⟩
        · have HM := Lib.hid hm
          have c1 := cell_later hE C1.out
          clear hm hE
          go_wp2_with (at_builtin; go_must (refine wpl_append rfl rfl Tryz.slIntsG wr0.heap.size rfl ho rfl (HB.out.ext HE.out) oB (by have := HN.out; unfold maxLen; omega) (by have := HN.out; omega) HE.out.size ?_))
          intro v3 w3 hown3 hg3 hb3 _
          have HE3 := Lib.hid (Below.grown HE.out hg3 HE.out.size (fun b hb => (HOX.out.lt b hb).1))
          obtain ⟨a3, c3, rfl, _⟩ := hown3.row
          have HO3 := Lib.hid hown3
          clear hown3 hg3 hb3 ho
          go_wp2_with fail
          go_roundg 0
          case measure => have := HM.out; omega
          case rel => exact ⟨a3, _, c3, _, rfl, HO3.out, HE3.out, .inr (.inr ⟨rfl, rfl, rfl, rfl⟩)⟩
        · clear hm hE ho
          go_wp2
          go_ret
          exact ⟨_, _, rfl, HOX.out, HE.out⟩
set_option maxRecDepth 100000 in
set_option maxHeartbeats 2000000 in

theorem containsI_yes (v : Value) (l : List Int) (x : Int) (w : World) (hl : Ints w v l) (hx : x ∈ l) (hn : l.length ≤ 20000) :
    Calls Tryz.prog 45 #[v, .int .i64 x] w fun e w' => e = .returned (.bool true) ∧ w' = w := by
  have HI := Lib.hid (show Calls Tryz.prog 70 #[v, .int .i64 x] w fun e w' => ∃ k : Nat, e = .returned (.int .i64 (k : Int)) ∧ k ≤ 20000 ∧ w' = w from by
    obtain ⟨k0, hk0, hk1⟩ := List.mem_iff_getElem.1 hx
    obtain ⟨a, c, rfl, hr⟩ := hl
    obtain ⟨b, off, h1, h2⟩ := ints_cells hr
    obtain rfl := h1 (by omega)
    have HC := Lib.hid h2
    have hc1 := hr.le
    have hc2 := hr.max
    obtain ⟨n, hnn⟩ : ∃ n, l.length = n := ⟨_, rfl⟩
    have HN := Lib.hid hnn
    have HK := Lib.hid (show l[k0]? = some x by rw [List.getElem?_eq_getElem hk0, hk1])
    have hkn : k0 < n := by omega
    rw [hnn] at hn hc1 ⊢
    unfold maxLen at hc2
    clear hx h2 hr hnn hk1
    go_enter Tryz.func70, Tryz.ntmps70
    go_wp2_with fail
    go_loopg [8] n (fun g y wr => ∃ i : Nat, g + i = n ∧ y = .int .i64 (i : Int) ∧ i ≤ k0 ∧ wr = w)
    case atStart => exact ⟨0, by omega, by go_num, by omega, rfl⟩
    case round =>
      obtain ⟨i, hgi, rfl, hik, rfl⟩ := hrel
      have HGI := Lib.hid hgi
      clear hgi
      have hi : i < l.length := by have := HN.out; omega
      have ci := HC.out i hi
      have HL := Lib.hid (show l[i]? = some l[i] from List.getElem?_eq_getElem hi)
      generalize l[i] = y at *
      have hiI : (i : Int) < (n : Int) := by omega
      have hi0 : (0 : Int) ≤ (i : Int) := by omega
      by_cases e : x = y
      · subst e
        have heq : (x == x) = true := by simp
        have HI20 := Lib.hid (show i ≤ 20000 by omega)
        go_wp2
        go_ret
        exact ⟨i, rfl, HI20.out, rfl⟩
      · have heq : (x == y) = false := by rw [beq_eq_false_iff_ne]; exact e
        have hne : i ≠ k0 := fun h => by
          subst h
          have h1 := HK.out
          rw [HL.out] at h1
          exact e (Option.some.inj h1).symm
        have HLT := Lib.hid (show i + 1 ≤ k0 by omega)
        clear e hne
        go_wp2_with fail
        go_roundg (gk - 1)
        case measure => have := HGI.out; have := HLT.out; omega
        case rel => exact ⟨i + 1, by have := HGI.out; have := HLT.out; omega, by go_num, HLT.out, rfl⟩)
  obtain ⟨a, c, rfl, _⟩ := hl
  clear hx
  go_enter Tryz.func45, Tryz.ntmps45
  go_wp2_with fail
  refine HI.out.mono ?_
  rintro e w' ⟨k, rfl, hk, rfl⟩
  have hk0 : (0 : Int) ≤ (k : Int) := by omega
  go_wp2
  go_ret
  exact ⟨rfl, rfl⟩
end Go.Proofs.YtciihiiacbnimaaGreatDoor
