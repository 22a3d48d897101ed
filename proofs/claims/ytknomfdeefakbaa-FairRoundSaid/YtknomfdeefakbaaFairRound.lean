/- The law FairRound. -/
import Derived.Test.YtknomfdeefakbaaFairAny
import Derived.Test.YtknomfdeefakbaaGrSet
import Derived.Test.YtknomfdeefakbaaStep
import Derived.Test.YtknomfdeefakbaaPartsLine
import Derived.Deep.RegionLaw
namespace Go.Proofs.Ytknomfdeefakbaa
open Go.RowKit

/-- A graph in a box of the call's own, with its three rows. -/
structure GBox (τ : Nat → Nat) (B G : Nat) (w0 w : World) (sp nx st : Value) (ini M : Int) (S : List Op2) (L : List (List Int)) (T : List Int) : Prop where
  m : GMem τ B w sp nx st S L T
  g : w.heap[G]? = some (.cells #[sp, .int .i64 ini, nx, st, .int .i64 M] 28 (0, 0))
  lt : G < B
  lo : w0.heap.size ≤ G
  e : Ext w0 w

section
variable {τ : Nat → Nat} {B G : Nat} {w0 w wa w' : World} {sp nx st : Value} {ini M : Int} {S : List Op2} {L : List (List Int)} {T : List Int}
theorem GBox.ext (h : GBox τ B G w0 w sp nx st ini M S L T) (hE : Ext w w') : GBox τ B G w0 w' sp nx st ini M S L T := ⟨h.m.ext hE, blk_ext h.g hE, h.lt, h.lo, h.e.trans hE⟩
theorem GBox.pushSp (h : GBox τ B G w0 w sp nx st ini M S L T) (hal : Ext w wa) {v' : Value} {n : Nat} {xs : List Value} {x : Op2} (ho : w'.ownsRow B 45 2 v' n xs) (hn : n = S.length + 1) (hx : xs = S.flatMap opc ++ opc x)
    (hg : wa.grownBy w' sp.ownBlock) (hb : v'.ownBlock = sp.ownBlock ∨ v'.ownBlock = some wa.heap.size) :
    w'.heap[G]? = some (.cells #[sp, .int .i64 ini, nx, st, .int .i64 M] 28 (0, 0)) ∧ ∃ τ', GBox τ' B G w0 (w'.setCell ⟨G, 0, none⟩ v') v' nx st ini M (S ++ [x]) L T := by
  have hlt := h.lt
  have hlo := h.lo
  have hsz := (h.ext hal).m.size
  have hne : some G ≠ sp.ownBlock := fun e => by have := (h.m.sp.own.lt G e.symm).1; omega
  have hb2 := blk_grown (blk_ext h.g hal) hg hne
  refine ⟨hb2, _, ⟨((h.m.ext hal).appSp ho hn hx hg hb).low (p := ⟨G, 0, none⟩) hlt v', blk_set hb2 (i := 0) v', hlt, hlo, ?_⟩⟩
  exact ext_st ((h.e.trans hal).grown hg (by omega) (fun b hb => by have := (h.m.sp.own.lt b hb).1; omega)) (p := ⟨G, 0, none⟩) hlo v'
theorem GBox.pushSt (h : GBox τ B G w0 w sp nx st ini M S L T) (hal : Ext w wa) {v' : Value} {n : Nat} {xs : List Value} {x : Int} (ho : w'.ownsRow B 3 1 v' n xs) (hn : n = T.length + 1) (hx : xs = T.map (.int .i64) ++ [.int .i64 x])
    (hg : wa.grownBy w' st.ownBlock) (hb : v'.ownBlock = st.ownBlock ∨ v'.ownBlock = some wa.heap.size) :
    w'.heap[G]? = some (.cells #[sp, .int .i64 ini, nx, st, .int .i64 M] 28 (0, 0)) ∧ ∃ τ', GBox τ' B G w0 (w'.setCell ⟨G, 3, none⟩ v') sp nx v' ini M S L (T ++ [x]) := by
  have hlt := h.lt
  have hlo := h.lo
  have hsz := (h.ext hal).m.size
  have hne : some G ≠ st.ownBlock := fun e => by have := (h.m.st.own.lt G e.symm).1; omega
  have hb2 := blk_grown (blk_ext h.g hal) hg hne
  refine ⟨hb2, _, ⟨((h.m.ext hal).appSt ho hn hx hg hb).low (p := ⟨G, 3, none⟩) hlt v', blk_set hb2 (i := 3) v', hlt, hlo, ?_⟩⟩
  exact ext_st ((h.e.trans hal).grown hg (by omega) (fun b hb => by have := (h.m.st.own.lt b hb).1; omega)) (p := ⟨G, 3, none⟩) hlo v'
theorem GBox.pushNx (h : GBox τ B G w0 w sp nx st ini M S L T) (hal : Ext w wa) {v' u : Value} {l : List Int} {n : Nat} {vs xs : List Value} (hu : wa.ownsRow w.heap.size 3 1 u l.length (l.map (.int .i64)))
    (k1' : OwnT τ 2 w B 23 1 nx L.length vs) (k2' : Ent τ 3 w fun x => Each x vs L) (ho : w'.ownsRow B 23 1 v' n xs) (hn : n = L.length + 1) (hx : xs = vs ++ [u])
    (hg : wa.grownBy w' nx.ownBlock) (hb : v'.ownBlock = nx.ownBlock ∨ v'.ownBlock = some wa.heap.size) :
    w'.heap[G]? = some (.cells #[sp, .int .i64 ini, nx, st, .int .i64 M] 28 (0, 0)) ∧ ∃ τ', GBox τ' B G w0 (w'.setCell ⟨G, 2, none⟩ v') sp v' st ini M S (L ++ [l]) T := by
  have hlt := h.lt
  have hlo := h.lo
  have hsz := (h.ext hal).m.size
  have hm := h.m.retag 3
  have k1 := k1'.retag (τ' := tagAt τ w.heap.size 3) fun b hb => tagAt_lt hb
  have k2 := k2'.tag (τ' := tagAt τ w.heap.size 3) fun b hb => tagAt_lt hb
  have hne : some G ≠ nx.ownBlock := fun e => by have := (k1.own.lt G e.symm).1; omega
  have hb2 := blk_grown (blk_ext h.g hal) hg hne
  have hu3 := ((OwnT.fresh τ 3 hu).ent).mono (Q := fun x => Ints x u l) fun x hx => hx.reads
  have happ := (hm.ext hal).appNx (k1.ext hal) (k2.ext hal) hu3 ho hn hx hg hb
  refine ⟨hb2, _, ⟨happ.low (p := ⟨G, 2, none⟩) hlt v', blk_set hb2 (i := 2) v', hlt, hlo, ?_⟩⟩
  exact ext_st ((h.e.trans hal).grown hg (by omega) (fun b hb => by have := (k1.own.lt b hb).1; omega)) (p := ⟨G, 2, none⟩) hlo v'
end

/-- The ring. -/
def rg (k i : Nat) : List Int := [(((i + 1) % k : Nat) : Int)]
def rgL (k i : Nat) : List (List Int) := (List.range i).map (rg k)
def sI (k m i : Nat) : Nat := if k < m ∧ i + 1 = k then 2 ^ m - 1 else if i < m then 2 ^ i else 0
def sL (k m i : Nat) : List Int := (List.range i).map fun j => (sI k m j : Int)
theorem rgL_len (k i : Nat) : (rgL k i).length = i := by simp [rgL]
theorem rgL_succ (k i : Nat) : rgL k (i + 1) = rgL k i ++ [rg k i] := by simp [rgL, List.range_succ]
theorem rgL_get (k : Nat) {i : Nat} (h : i < k) : (rgL k k)[i]? = some (rg k i) := by simp [rgL, h]
theorem sL_len (k m i : Nat) : (sL k m i).length = i := by simp [sL]
theorem sL_succ (k m i : Nat) : sL k m (i + 1) = sL k m i ++ [(sI k m i : Int)] := by simp [sL, List.range_succ]
theorem sI_lt (k m i : Nat) : sI k m i < 2 ^ m := by
  unfold sI
  have := Nat.two_pow_pos m
  split
  · omega
  · split
    · exact Nat.pow_lt_pow_right (by omega) (by omega)
    · omega
theorem bitsN_sL (k m : Nat) {i : Nat} (h : i < k) : bitsN (sL k m k) i = sI k m i := by
  unfold bitsN
  rw [List.getD, show (sL k m k)[i]? = some (sI k m i : Int) by simp [sL, h]]
  show ((sI k m i : Int)).toNat = _
  omega
theorem rg_edge {k a b : Nat} (h : Edge (rgL k k) a b) : a < k ∧ b = (a + 1) % k := by
  obtain ⟨hl, hb⟩ := edge_at h
  have hl' : a < k := by rw [rgL_len] at hl; exact hl
  have e := rgL_get k hl'
  rw [List.getElem?_eq_getElem hl] at e
  rw [Option.some.inj e] at hb
  simp only [rg, List.mem_singleton] at hb
  omega
theorem rg_step {k a : Nat} (h : a < k) : Edge (rgL k k) a ((a + 1) % k) := ⟨rg k a, rgL_get k h, by simp [rg]⟩
theorem rg_up {k a : Nat} : ∀ j, a + j < k → Reach (rgL k k) a (a + j)
  | 0, _ => Reach.refl _
  | j + 1, h => by
    have e := rg_step (k := k) (a := a + j) (by omega)
    rw [Nat.mod_eq_of_lt (by omega)] at e
    exact (rg_up j (by omega)).step e
theorem rg_back {k a : Nat} (h : a < k) : Reach (rgL k k) a 0 := by
  have r := rg_up (k := k) (a := a) (k - 1 - a) (by omega)
  have e := rg_step (k := k) (a := a + (k - 1 - a)) (by omega)
  rw [show a + (k - 1 - a) + 1 = k by omega, Nat.mod_self] at e
  exact r.step e
theorem rg_same {k a : Nat} (h : a < k) : Same (rgL k k) 0 a := ⟨by simpa using rg_up (k := k) (a := 0) a (by omega), rg_back h⟩
theorem rg_ok {k m : Nat} (hk : 0 < k) (h10 : k ≤ 10) (hm : m ≤ 3) : GOk k (rgL k k) (sL k m k) 1 m := by
  refine ⟨rgL_len k k, sL_len k m k, by omega, by omega, by omega, by omega, ?_, ?_⟩
  · intro l hl x hx
    obtain ⟨i, _, rfl⟩ := List.mem_map.1 hl
    simp only [rg, List.mem_singleton] at hx
    have := Nat.mod_lt (i + 1) hk
    omega
  · intro s hs
    obtain ⟨i, _, rfl⟩ := List.mem_map.1 hs
    have := sI_lt k m i
    have e : ((2 ^ m : Nat) : Int) = (2 : Int) ^ m := by push_cast; rfl
    omega
theorem rg_fair {k m : Nat} (hk : 0 < k) : FairR (rgL k k) (bitsN (sL k m k)) m k 1 0 := by
  refine ⟨hk, ⟨fun b _ => Nat.zero_le b, ⟨0, (0 + 1) % k, hk, rg_same hk, rg_step hk, rg_same (Nat.mod_lt _ hk)⟩, fun t ht => ?_⟩, 0, by omega, Reach.refl _⟩
  by_cases hkm : k < m
  · refine ⟨k - 1, by omega, rg_same (by omega), ?_⟩
    rw [bitsN_sL k m (by omega), sI, if_pos ⟨hkm, by omega⟩, Nat.testBit_two_pow_sub_one]
    simpa using ht
  · refine ⟨t, by omega, rg_same (by omega), ?_⟩
    rw [bitsN_sL k m (by omega), sI, if_neg (by omega), if_pos ht, Nat.testBit_two_pow_self]
theorem rg_cut {k a b : Nat} (h : Edge ((rgL k k).set (k - 1) []) a b) : a < b := by
  obtain ⟨hl, hb⟩ := edge_at h
  rw [List.getElem_set] at hb
  split at hb
  · simp at hb
  · rename_i hne
    have hl' : a < k := by simpa [rgL_len] using hl
    obtain ⟨_, e⟩ := rg_edge (k := k) (a := a) (b := b) ⟨_, List.getElem?_eq_getElem (by rw [rgL_len]; exact hl'), hb⟩
    rw [Nat.mod_eq_of_lt (by omega)] at e
    omega

set_option maxRecDepth 100000 in
set_option maxHeartbeats 8000000 in
theorem fairRound_walk (a b : Int) (w : World) (ha : I64 a) (hb : I64 b) :
    Calls Try.prog 6 #[.int .i64 a, .int .i64 b] w fun e w' => e = .returned (.bool true) ∧ Ext w w' := by
  unfold I64 at ha hb
  obtain ⟨k0, k1⟩ := pk_bd a 10 (by omega)
  obtain ⟨m0, m1⟩ := pk_bd b 4 (by omega)
  obtain ⟨k, hk⟩ : ∃ k : Nat, pk a 10 + 1 = (k : Int) := ⟨(pk a 10 + 1).toNat, by omega⟩
  obtain ⟨m, hm⟩ : ∃ m : Nat, pk b 4 = (m : Int) := ⟨(pk b 4).toNat, by omega⟩
  have hk0 : 0 < k := by omega
  have hk10 : k ≤ 10 := by omega
  have hm3 : m ≤ 3 := by omega
  have HPA := Lib.hid fun wx => picked_any a 10 wx ha.1 ha.2 (by omega) (by omega)
  have HPB := Lib.hid fun wx => picked_any b 4 wx hb.1 hb.2 (by omega) (by omega)
  rw [hm] at HPB
  rw [show pk a 10 = (k : Int) - 1 by omega] at HPA
  clear k0 k1 m0 m1 hk hm ha hb
  have hkk : (1 : Int) + ((k : Int) - 1) = (k : Int) := by omega
  go_enter Try.func6, Try.ntmps6
  go_wp2_with fail
  refine (HPA.out _).mono ?_
  rintro e wx ⟨rfl, rfl⟩
  go_wp2_with fail
  refine (HPB.out _).mono ?_
  rintro e wx ⟨rfl, rfl⟩
  clear HPA HPB
  go_wp2_with fail
  have hp8 : (2 : Nat) ^ m ≤ 2 ^ 3 := Nat.pow_le_pow_right (by omega) hm3
  have HBX := Lib.hid (show GBox (fun _ => 0) (w.heap.size + 1) w.heap.size w (w.alloc (Obj.cells #[.slice none 0 0, .int .i64 1, .slice none 0 0, .slice none 0 0, .int .i64 (m : Int)] 28)) (.slice none 0 0) (.slice none 0 0) (.slice none 0 0) 1 (m : Int) (gSpots 0) (rgL k 0) (sL k m 0) from
    ⟨GMem.nil _ _ (by simp), blk_new w _, by omega, Nat.le_refl _, ext_al (Ext.refl _) _⟩)
  generalize w.alloc (Obj.cells #[.slice none 0 0, .int .i64 1, .slice none 0 0, .slice none 0 0, .int .i64 (m : Int)] 28) = W1 at *
  generalize hG : w.heap.size = G at *
  clear hkk
  go_loopg [8] k (fun m' x wr => ∃ (i : Nat) (τ : Nat → Nat) (sp nx st : Value), m' + i = k ∧ x = .int .i64 (i : Int) ∧ GBox τ (G + 1) G w wr sp nx st 1 (m : Int) (gSpots i) (rgL k i) (sL k m i))
  case atStart => exact ⟨0, _, _, _, _, by omega, by go_num, HBX.out⟩
  case round =>
    obtain ⟨i, τ, sp, nx, st, hmi, rfl, hB⟩ := hrel
    clear HBX
    have HMI := Lib.hid hmi
    by_cases hi : i < k
    · have hiI : (i : Int) < (k : Int) := by omega
      obtain ⟨a0, c0, rfl, _⟩ := hB.m.sp.own.row
      obtain ⟨vs, hv1, hv2⟩ := hB.m.nx
      obtain ⟨a2, c2, rfl, _⟩ := hv1.own.row
      obtain ⟨a3, c3, rfl, _⟩ := hB.m.st.own.row
      have e0 := gSpots_len i
      have e2 := rgL_len k i
      have e3 := sL_len k m i
      rw [e0, e2, e3] at hB
      have HB := Lib.hid hB
      have cG0 := blk_cell hB.g (i := 0) rfl
      have ho0 := hB.m.sp.own.alloc (Obj.cells #[.int .i64 (i : Int), .int .i64 0] 45)
      have hsz := hB.m.size
      rw [e0] at ho0
      clear hv1 hv2
      obtain ⟨s, hs⟩ : ∃ s, sI k m i = s := ⟨_, rfl⟩
      have HSI := Lib.hid hs
      clear hmi hB
      have hpow : ∀ j : Nat, j ≤ 3 → IntKind.i64.wrap ((2 : Int) ^ j) = ((2 ^ j : Nat) : Int) := fun j hj => by
        rcases (show j = 0 ∨ j = 1 ∨ j = 2 ∨ j = 3 by omega) with rfl | rfl | rfl | rfl <;> decide
      rcases (show (k < m ∧ i < m ∧ i + 1 = k) ∨ (k < m ∧ i < m ∧ i + 1 ≠ k) ∨ (¬ k < m ∧ i < m) ∨ (¬ k < m ∧ ¬ i < m) by omega) with ⟨hkm, him, hik⟩ | ⟨hkm, him, hik⟩ | ⟨hkm, him⟩ | ⟨hkm, him⟩
      have himI : (i : Int) < (m : Int) := by omega
      have hkmI : (k : Int) < (m : Int) := by omega
      have hikI : ((i : Int) == (k : Int) - 1) = true := by rw [beq_iff_eq]; omega
      have hsv : s = 2 ^ m - 1 := by rw [← hs, sI, if_pos ⟨hkm, hik⟩]
      obtain ⟨q, hq⟩ : ∃ q : Nat, 2 ^ i = q := ⟨_, rfl⟩
      have hw2 := hpow i (by omega)
      rw [hq] at hw2
      have hwm : IntKind.i64.wrap ((2 : Int) ^ m) = (s : Int) + 1 := by
        rw [hpow m hm3, hsv]
        have := Nat.two_pow_pos m
        omega
      have hss : (s : Int) + 1 - 1 = (s : Int) := by omega
      have hws : wrap64 (s : Int) = (s : Int) := IntWalk.wrap64_in _ (by omega)
      clear hq hsv
      rotate_left 1
      have himI : (i : Int) < (m : Int) := by omega
      have hkmI : (k : Int) < (m : Int) := by omega
      have hikI : ((i : Int) == (k : Int) - 1) = false := by rw [beq_eq_false_iff_ne]; omega
      have hsv : s = 2 ^ i := by rw [← hs, sI, if_neg (fun h => hik h.2), if_pos him]
      have hw2 := hpow i (by omega)
      rw [← hsv] at hw2
      clear hsv
      rotate_left 1
      have hkmI : ¬ (k : Int) < (m : Int) := by omega
      have himI : (i : Int) < (m : Int) := by omega
      have hsv : s = 2 ^ i := by rw [← hs, sI, if_neg (fun h => hkm h.1), if_pos him]
      have hw2 := hpow i (by omega)
      rw [← hsv] at hw2
      clear hsv
      rotate_left 1
      have hkmI : ¬ (k : Int) < (m : Int) := by omega
      have himI : ¬ (i : Int) < (m : Int) := by omega
      have hsv : s = 0 := by rw [← hs, sI, if_neg (fun h => hkm h.1), if_neg him]
      subst hsv
      rotate_left 1
      all_goals
        clear hs hpow hkm him
        try clear hik
        go_wp2_with (at_builtin; go_must (refine wpl_append rfl rfl Try.slSpots (G + 1) rfl ho0 rfl (Row.newOpAt _ _ _ _ _ rfl) (by simp [opc, Value.oneCell']) (by unfold maxLen; omega) (by omega) (by simp; omega) ?_))
        intro v4 w4 hown4 hg4 hb4 _
        obtain ⟨b4, τ4, hB4⟩ := HB.out.pushSp (ext_al (Ext.refl wr) (Obj.cells #[.int .i64 (i : Int), .int .i64 0] 45)) (x := ((i : Int), 0)) hown4 (by rw [e0]) rfl hg4 (by rcases hb4 with h | h; exact .inl h; right; rw [h]; simp)
        obtain ⟨a4, c4, rfl, _⟩ := hown4.row
        rw [← gSpots_succ] at hB4
        have cG0 := blk_cell b4 (i := 0) rfl
        have fG0 := blk_free b4 0
        have HB4 := Lib.hid hB4
        clear hown4 hg4 hb4 b4 ho0 HB
        go_wp2_with fail
        generalize w4.setCell ⟨G, 0, none⟩ (.slice a4 (i + 1) c4) = W4 at *
        clear cG0 fG0 hB4
        obtain ⟨vs4, hv1, hv2⟩ := HB4.out.m.nx
        have HV1 := Lib.hid hv1
        have HV2 := Lib.hid hv2
        have cG2 := blk_cell HB4.out.g (i := 2) rfl
        have hGW := blk_lt HB4.out.g
        have hz0 : 0 ≤ (i : Int) + 1 := by omega
        obtain ⟨z, hz⟩ : ∃ z : Nat, (i + 1) % k = z := ⟨_, rfl⟩
        have hzt : ((i : Int) + 1).tmod (k : Int) = (z : Int) := by
          rw [Int.tmod_eq_emod_of_nonneg hz0, ← hz]
          push_cast
          rfl
        have hk0I : ((k : Int) == 0) = false := by rw [beq_eq_false_iff_ne]; omega
        have hkN : ¬ k = 0 := by omega
        have hwi : IntKind.i64.wrap ((i : Int) + 1) = (i : Int) + 1 := IntWalk.i64_in _ (by omega)
        have cX1 := cell_later (ext_al (Ext.refl W4) (Obj.cells #[.int .i64 (z : Int)] 3)) cG2
        have cX2 := cell_later (ext_al (ext_al (Ext.refl W4) (Obj.cells #[.int .i64 (z : Int)] 3)) (Obj.cells #[.slice (some ⟨W4.heap.size, 0, none⟩) 1 1] 23)) cG2
        have HZ := Lib.hid hz
        have HHW := Lib.hid HB4.out.m.size
        clear hv1 hv2 hz hz0
        go_cut [8, 9] (fun s8 s9 wx => s8 = .int .i64 (i : Int) ∧ s9 = .int .i64 ((sI k m i : Nat) : Int) ∧ ∃ τ5 nx5, GBox τ5 (G + 1) G w wx (.slice a4 (i + 1) c4) nx5 (.slice a3 i c3) 1 (m : Int) (gSpots (i + 1)) (rgL k (i + 1)) (sL k m i))
        case first =>
          have hownL := own_ext HV1.out.own (Below.drew (ext_al (ext_al (Ext.refl W4) (Obj.cells #[.int .i64 (z : Int)] 3)) (Obj.cells #[.slice (some ⟨W4.heap.size, 0, none⟩) 1 1] 23)))
          rw [e2] at hownL
          have hu := (World.ownsRow_lit (base := W4.heap.size) (e := 3) (size := 1) W4 #[.int .i64 (z : Int)] 1 (Nat.le_refl _) (by unfold maxLen; omega) rfl).alloc (Obj.cells #[.slice (some ⟨W4.heap.size, 0, none⟩) 1 1] 23)
          have HOL := Lib.hid hownL
          have HU := Lib.hid (show ((W4.alloc (Obj.cells #[.int .i64 (z : Int)] 3)).alloc (Obj.cells #[.slice (some ⟨W4.heap.size, 0, none⟩) 1 1] 23)).drew.ownsRow W4.heap.size 3 1 (.slice (some ⟨W4.heap.size, 0, none⟩) 1 1) (rg k i).length ((rg k i).map (.int .i64)) from by
            have e : (rg k i).map (Value.int .i64) = [.int .i64 (z : Int)] := by simp [rg, HZ.out]
            rw [e]
            exact own_ext hu (Below.drew (Ext.refl _)))
          clear hownL hu
          go_region_law (refine step_append rfl rfl Try.slLists (G + 1) (by rfl) HOL.out (by rfl) ((Row.oneAt _ _ _ _ (by simp)).ext (Below.drew (Ext.refl _))) (by simp [Value.oneCell']) (by unfold maxLen; omega) (by omega) (by have := HHW.out; simp; omega) ?_
                         intro v5 w5 hown5 hg5 hb5 _
                         obtain ⟨b5, τ5, hB5⟩ := HB4.out.pushNx (Below.drew (ext_al (ext_al (Ext.refl W4) (Obj.cells #[.int .i64 (z : Int)] 3)) (Obj.cells #[.slice (some ⟨W4.heap.size, 0, none⟩) 1 1] 23))) HU.out HV1.out HV2.out hown5 (by rw [e2]) rfl hg5 hb5
                         obtain ⟨a5, c5, rfl, _⟩ := hown5.row
                         have cG5 := blk_cell b5 (i := 2) rfl
                         have fG5 := blk_free b5 2
                         have HB5 := Lib.hid hB5
                         clear b5 hB5 hown5 hg5 hb5)
          all_goals
            go_wp2_with fail
            go_meet
            exact ⟨rfl, by first | (rw [HSI.out]; done) | (rw [HSI.out]; rfl), _, _, by rw [rgL_succ]; exact HB5.out⟩
        case rest =>
          obtain ⟨rfl, rfl, τ5, nx5, hB5⟩ := hcut
          have HB5 := Lib.hid hB5
          have cG3 := blk_cell hB5.g (i := 3) rfl
          generalize hs9 : sI k m i = s9 at *
          have HS9 := Lib.hid hs9
          have ho5 := hB5.m.st.own.alloc (Obj.cells #[.int .i64 (s9 : Int)] 3)
          rw [e3] at ho5
          have hsz5 := hB5.m.size
          clear hB5 hs9 HB4 HV1 HV2 cX1 cX2 cG2 hGW
          go_wp2_with (at_builtin; go_must (refine wpl_append rfl rfl Try.slInts (G + 1) rfl ho5 rfl (Row.oneAt _ _ _ _ rfl) (one_int _) (by unfold maxLen; omega) (by omega) (by simp; omega) ?_))
          intro v6 w6 hown6 hg6 hb6 _
          obtain ⟨b6, τ6, hB6⟩ := HB5.out.pushSt (ext_al (Ext.refl wc) (Obj.cells #[.int .i64 (s9 : Int)] 3)) hown6 (by rw [e3]) rfl hg6 (by rcases hb6 with h | h; exact .inl h; right; rw [h]; simp)
          obtain ⟨a6, c6, rfl, _⟩ := hown6.row
          have cG6 := blk_cell b6 (i := 3) rfl
          have fG6 := blk_free b6 3
          have HB6 := Lib.hid hB6
          clear hown6 hg6 hb6 b6 hB6 ho5 cG3
          go_wp2_with fail
          go_roundg (gk - 1)
          case measure => have := HMI.out; omega
          case rel => exact ⟨i + 1, _, _, _, _, by have := HMI.out; omega, by go_num, by rw [sL_succ, HS9.out]; exact HB6.out⟩
    · obtain rfl : i = k := by omega
      have hiI : ¬ (i : Int) < (i : Int) := by omega
      have HB := Lib.hid hB
      have HOK := Lib.hid (rg_ok hk0 hk10 hm3)
      have hfa := fairR_any sp nx st 1 m (gSpots i) (rgL i i) (sL i m i) wr hB.m.spots hB.m.lists hB.m.ints (by rw [gSpots_len]; exact HOK.out)
      rw [gSpots_len, show ((1 : Nat) : Int) = 1 from rfl] at hfa
      have HFA := Lib.hid hfa
      have cG0 := blk_cell hB.g (i := 0) rfl
      have cG1 := blk_cell hB.g (i := 1) rfl
      have cG2 := blk_cell hB.g (i := 2) rfl
      have cG3 := blk_cell hB.g (i := 3) rfl
      have cG4 := blk_cell hB.g (i := 4) rfl
      clear hfa hB hmi HMI
      go_wp2_with fail
      refine HFA.out.mono ?_
      rintro e w6 ⟨hc, hE6⟩
      obtain ⟨m', rfl, -, hno⟩ | ⟨-, hno⟩ := hc
      · obtain rfl : m' = 0 := by
          by_cases e : m' = 0
          · exact e
          · exact absurd (rg_fair hk0) (hno 0 (by omega))
        have hB6 := HB.out.ext hE6
        obtain ⟨a2, c2, rfl⟩ : ∃ a c, nx = .slice a i c := by
          obtain ⟨vs, k1, k2⟩ := hB6.m.nx
          obtain ⟨a, c, e, _⟩ := k1.own.row
          rw [rgL_len] at e
          exact ⟨a, c, e⟩
        have hil : i - 1 < (rgL i i).length := by rw [rgL_len]; omega
        obtain ⟨D, u, rfl, -, cD, fD, -, hBD, hDW⟩ := hB6.m.nxAt hil
        have cN2 := blk_cell hB6.g (i := 2) rfl
        have hi1 : ((i : Int) - 1) = ((i - 1 : Nat) : Int) := by omega
        have hi2 : ((i - 1 : Nat) : Int) < (i : Int) := by omega
        have hi3 : (0 : Int) ≤ ((i - 1 : Nat) : Int) := by omega
        have hms := (hB6.m.setNx (Ext.refl w6) (v6 := .slice none 0 0) (l6 := []) (World.ownsRow_nil _ _ _ _) (i - 1)).1
        have hgs := blk_far hB6.g (p := ⟨D, i - 1, none⟩) (by show D ≠ G; omega) (.slice none 0 0)
        have hes := ext_st hB6.e (p := ⟨D, i - 1, none⟩) (by show w.heap.size ≤ D; omega) (.slice none 0 0)
        have hok2 : GOk i ((rgL i i).set (i - 1) []) (sL i m i) 1 m := ⟨by rw [List.length_set]; exact HOK.out.nx, HOK.out.st, HOK.out.max, HOK.out.i0, HOK.out.i1, HOK.out.m6, fun l' hl' x hx => by
              rcases List.mem_or_eq_of_mem_set hl' with h | rfl
              · exact HOK.out.ins l' h x hx
              · simp at hx, HOK.out.bits⟩
        have hfb := fairR_any sp (.slice (some ⟨D, 0, none⟩) i c2) st 1 m (gSpots i) ((rgL i i).set (i - 1) []) (sL i m i) _ hms.spots hms.lists hms.ints (by rw [gSpots_len]; exact hok2)
        rw [gSpots_len, show ((1 : Nat) : Int) = 1 from rfl] at hfb
        have HFB := Lib.hid hfb
        have HES := Lib.hid hes
        have cH0 := blk_cell hgs (i := 0) rfl
        have cH1 := blk_cell hgs (i := 1) rfl
        have cH2 := blk_cell hgs (i := 2) rfl
        have cH3 := blk_cell hgs (i := 3) rfl
        have cH4 := blk_cell hgs (i := 4) rfl
        clear hfb hok2 hes hgs hms hB6 hE6 cG0 cG1 cG2 cG3 cG4 hno HFA HB HOK
        generalize hi1e : i - 1 = i1 at *
        have HI1 := Lib.hid hi1e
        clear hi1e
        go_wp2_with fail
        refine HFB.out.mono ?_
        rintro e w7 ⟨hc, hE7⟩
        obtain ⟨m2, rfl, hm2, -⟩ | ⟨rfl, -⟩ := hc
        · rw [← HI1.out] at hm2
          exact (up_none (fun a b h => rg_cut h) hm2).elim
        · have HE7 := Lib.hid (HES.out.trans hE7)
          clear hE7
          go_wp2
          go_ret
          exact ⟨rfl, HE7.out⟩
      · exact absurd (rg_fair hk0) (hno 0)

theorem fairRound_law (v0 v1 : Value) (W : World) (g0 : Cells Try.prog W 3 [v0]) (g1 : Cells Try.prog W 3 [v1]) :
    Calls Try.prog 6 #[v0, v1] W fun e w' => e = .returned (.bool true) ∧ Ext W w' := by
  obtain ⟨a, ha, ha2⟩ := g0.i64 Try.underlying3
  obtain ⟨b, hb, hb2⟩ := g1.i64 Try.underlying3
  cases ha; cases hb
  exact fairRound_walk a b W ha2 hb2

end Go.Proofs.Ytknomfdeefakbaa
