/- The contract of foretellkeep.Word: the words that the laws draw. -/
import Derived.Test.YthkiegaifkkegaaDoorHoldsK
import Derived.Test.YthkiegaifkkegaaDoorLetter
import Derived.Deep.Cut
namespace Go.Proofs.YthkiegaifkkegaaDoor
open Go.RowKit
def letsL (l : List Int) : List (List Bool) := (l.take 5).map letL
def loopW (l : List Int) : List (List Bool) := if l = [] then [letL 5] else letsL l
theorem letsL_len (l : List Int) : (letsL l).length = min l.length 5 := by simp [letsL]; omega
theorem letsL_three (l : List Int) : ∀ x ∈ letsL l, x.length = 3 := by
  intro x hx
  simp only [letsL, List.mem_map] at hx
  obtain ⟨n, _, rfl⟩ := hx
  rfl
theorem word_ok (S L : List Int) : WdOk (letsL S) (loopW L) 3 := by
  have h1 := letsL_len S
  have h2 := letsL_len L
  unfold loopW
  split
  · exact ⟨by omega, by simp, by simp, fun x hx => by
      rcases List.mem_append.1 hx with h | h
      · exact letsL_three S x h
      · simp at h; subst h; rfl⟩
  · rename_i h
    have : 0 < L.length := by cases L; exact absurd rfl h; simp
    exact ⟨by omega, by omega, by omega, fun x hx => by
      rcases List.mem_append.1 hx with h | h
      · exact letsL_three S x h
      · exact letsL_three L x h⟩
theorem letsL_succ (l : List Int) (i : Nat) (h : i < l.length) : (l.take (i + 1)).map letL = (l.take i).map letL ++ [letL l[i]] := by
  rw [List.take_succ_eq_append_getElem h, List.map_append]; rfl
theorem EachB.snoc {w : World} {vs : List Value} {ll : List (List Bool)} {v : Value} {l : List Bool} (h : EachB w vs ll) (hv : Bools w v l) : EachB w (vs ++ [v]) (ll ++ [l]) :=
  h.app ⟨rfl, fun i x m hx hm => by
    cases i with
    | zero => simp at hx hm; subst hx; subst hm; exact hv
    | succ i => simp at hx⟩
structure LM (W0 w : World) (Wb : Nat) (τ : Nat → Nat) (a : Option Addr) (i c : Nat) (vs : List Value) (ll : List (List Bool)) (P : World → Prop) : Prop where
  ext : Ext W0 w
  oth : Ent τ 5 w P
  own : OwnT τ 1 w (Wb + 1) 32 1 (.slice a i c) i vs
  ent : Ent τ 2 w fun x => EachB x vs ll
  twb : ∀ b, b ≤ Wb → τ b = 0
  lo : W0.heap.size ≤ Wb
  hi : Wb < w.heap.size
theorem bools_ent {w : World} {k t : Nat} {x : Value} {l : List Bool} {τ : Nat → Nat} (h : w.ownsRow k 4 1 x l.length (l.map .bool)) (ht : ∀ b, x.ownBlock = some b → τ b = t) : Ent τ t w fun y => Bools y x l :=
  (OwnT.ent ⟨h, ht⟩).mono fun _ h => h.reads
theorem LM.step {W0 w w1 w3 : World} {Wb : Nat} {τ : Nat → Nat} {a a' : Option Addr} {i c c' : Nat} {vs : List Value} {ll : List (List Bool)} {P : World → Prop} {l : List Bool} {x : Value} (h : LM W0 w Wb τ a i c vs ll P) (hE : Ext w w1) (hL : w1.ownsRow w.heap.size 4 1 x l.length (l.map .bool)) (o : Obj)
    (hown : w3.ownsRow (Wb + 1) 32 1 (.slice a' (i + 1) c') (i + 1) (vs ++ [x])) (hg : (w1.alloc o).grownBy w3 (Value.slice a i c).ownBlock) (hb : (Value.slice a' (i + 1) c').ownBlock = (Value.slice a i c).ownBlock ∨ (Value.slice a' (i + 1) c').ownBlock = some (w1.heap.size + 1)) (f : Nat) :
    ∃ τ', LM W0 (w3.setCell ⟨Wb, f, none⟩ (.slice a' (i + 1) c')) Wb τ' a' (i + 1) c' (vs ++ [x]) (ll ++ [l]) P := by
  have hx := ext_al (Ext.refl w1) o
  have e1 : Ent (tagAt τ w.heap.size 2) 2 w1 fun y => EachB y (vs ++ [x]) (ll ++ [l]) := Ent.both (Ent.ext (h.ent.tag fun b hb => tagAt_lt hb) hE) (bools_ent hL fun b hb => tagAt_ge (hL.lt b hb).1) fun y p q => p.snoc q
  have o1 : OwnT (tagAt τ w.heap.size 2) 1 (w1.alloc o) (Wb + 1) 32 1 (.slice a i c) i vs := (h.own.keep 2).ext (hE.trans hx)
  have e2 := (e1.ext hx).app o1 hg (by omega)
  have o2 := o1.app hown (by rw [show (w1.alloc o).heap.size = w1.heap.size + 1 by simp]; exact hb)
  have p1 := ((h.oth.tag (τ' := tagAt τ w.heap.size 2) fun b hb => tagAt_lt hb).ext (hE.trans hx)).app o1 hg (by omega)
  have hz : (w1.alloc o).heap.size = w1.heap.size + 1 := by simp
  have hs : w.heap.size ≤ w1.heap.size := hE.size
  have hwbs : ∀ b, b ≤ Wb → tagAt (tagAt τ w.heap.size 2) (w1.alloc o).heap.size 1 b = 0 := fun b hb => by
    have := h.hi
    rw [tagAt_lt (by omega), tagAt_lt (by omega)]; exact h.twb b hb
  have hwb := hwbs Wb (Nat.le_refl _)
  refine ⟨tagAt (tagAt τ w.heap.size 2) (w1.alloc o).heap.size 1, ?_, p1.set (p := ⟨Wb, f, none⟩) (by rw [hwb]; omega) _, o2.set (p := ⟨Wb, f, none⟩) (by rw [hwb]; omega) _, e2.set (p := ⟨Wb, f, none⟩) (by rw [hwb]; omega) _, hwbs, h.lo, by have := hg.size; have := h.hi; simp; omega⟩
  have e3 : Ext W0 w3 := Below.grown ((h.ext.trans hE).trans hx) hg ((h.ext.trans hE).trans hx).size fun b hb => by
    have := (h.own.own.lt b hb).1
    have := h.lo
    omega
  exact ext_st e3 (p := ⟨Wb, f, none⟩) h.lo _
theorem LM.blk {W0 w w1 w3 : World} {Wb : Nat} {τ : Nat → Nat} {a : Option Addr} {i c : Nat} {vs : List Value} {ll : List (List Bool)} {P : World → Prop} (h : LM W0 w Wb τ a i c vs ll P) (hE : Ext w w1) (o : Obj) (hg : (w1.alloc o).grownBy w3 (Value.slice a i c).ownBlock) {ob : Obj} (hw : w.heap[Wb]? = some ob) : w3.heap[Wb]? = some ob := by
  refine blk_grown (blk_ext hw (hE.trans (ext_al (Ext.refl _) o))) hg fun e => ?_
  have := (h.own.own.lt Wb e.symm).1
  omega
theorem LM.begin {W0 w : World} {Wb : Nat} {τ : Nat → Nat} {P : World → Prop} (hE : Ext W0 w) (hp : Ent τ 5 w P) (ht : ∀ b, b ≤ Wb → τ b = 0) (h1 : W0.heap.size ≤ Wb) (h2 : Wb < w.heap.size) : LM W0 w Wb τ none 0 0 [] [] P :=
  ⟨hE, hp, OwnT.nil _ _ _ _ _ _, fun x _ _ => ⟨rfl, fun i x l h => by simp at h⟩, ht, h1, h2⟩
theorem LM.whole {W0 w : World} {Wb : Nat} {τ : Nat → Nat} {a : Option Addr} {i c : Nat} {vs : List Value} {ll : List (List Bool)} {P : World → Prop} (h : LM W0 w Wb τ a i c vs ll P) (hi : i = ll.length) :
    ∃ τ', (∀ b, b ≤ Wb → τ' b = 0) ∧ Ent τ' 5 w fun x => BLists x (.slice a i c) ll ∧ P x := by
  refine ⟨fun b => if b ≤ Wb then 0 else 5, fun b hb => if_pos hb, fun x hx hb => ?_⟩
  have key : ∀ t, t ≠ 0 → ∀ b, b < w.heap.size → τ b = t → x.heap[b]? = w.heap[b]? := fun t ht b h1 h2 => hb b h1 (if_neg fun e => ht (by rw [← h2, h.twb b e]))
  refine ⟨⟨vs, h.ent x hx (key 2 (by omega)), ?_⟩, h.oth x hx (key 5 (by omega))⟩
  have := (h.own.ent x hx (key 1 (by omega))).reads
  rw [hi] at this ⊢
  exact this
theorem one_letter {w w1 : World} (τ : Nat → Nat) {l : List Bool} {x : Value} (hE : Ext w w1) (hL : w1.ownsRow w.heap.size 4 1 x l.length (l.map .bool)) {k : Nat} (hk : k = w1.heap.size) :
    Ent (tagAt τ w.heap.size 5) 5 (w1.alloc (.cells #[x] 32)) fun y => BLists y (.slice (some ⟨k, 0, none⟩) 1 1) [l] := by
  subst hk
  have h1 := (bools_ent (τ := tagAt τ w.heap.size 5) (t := 5) hL fun b hb => tagAt_ge (hL.lt b hb).1).ext (ext_al (Ext.refl w1) (.cells #[x] 32))
  have h2 := World.ownsRow_lit (base := w.heap.size) (e := 32) (size := 1) w1 #[x] 1 hE.size (by unfold maxLen; omega) rfl
  have h3 := OwnT.ent (τ := tagAt τ w.heap.size 5) (t := 5) ⟨h2, fun b hb => tagAt_ge (h2.lt b hb).1⟩
  exact h1.both h3 fun y p q => ⟨[x], ⟨rfl, fun i u m hu hm => by
    cases i with
    | zero => simp at hu hm; subst hu; subst hm; exact p
    | succ i => simp at hu⟩, q.reads⟩
set_option maxRecDepth 100000 in
set_option maxHeartbeats 8000000 in
theorem word_any (sv lv : Value) (S L : List Int) (w : World) (hS : Ints w sv S) (hL : Ints w lv L) (iS : ∀ n ∈ S, I64 n) (iL : ∀ n ∈ L, I64 n) :
    Calls Tryd.prog 6 #[.agg #[sv, lv]] w fun e w' => ∃ sv' lv', e = .returned (.agg #[sv', lv']) ∧ IsW w' sv' lv' (letsL S) (loopW L) ∧ Ext w w' := by
  obtain ⟨aS, cS, rfl, hrS⟩ := hS
  obtain ⟨aL, cL, rfl, hrL⟩ := hL
  have HRS := Lib.hid hrS
  have HRL := Lib.hid hrL
  have HIS := Lib.hid iS
  have HIL := Lib.hid iL
  have hmS : S.length ≤ 9223372036854775807 := by have := hrS.le; have := hrS.max; unfold maxLen at this; omega
  have hmL : L.length ≤ 9223372036854775807 := by have := hrL.le; have := hrL.max; unfold maxLen at this; omega
  clear hrS hrL iS iL
  rcases Nat.lt_or_ge 5 S.length with hs5 | hs5
  all_goals rcases Nat.lt_or_ge 5 L.length with hl5 | hl5
  all_goals
    go_enter Tryd.func6, Tryd.ntmps6
    have B0 := Lib.hid (blk_ext (blk_new w (Obj.cells #[.slice aS S.length cS, .slice aL L.length cL] 25)) (ext_al (Ext.refl _) (Obj.cells #[.slice none 0 0, .slice none 0 0] 28)))
    have B1 := Lib.hid (show ((w.alloc (Obj.cells #[.slice aS S.length cS, .slice aL L.length cL] 25)).alloc (Obj.cells #[.slice none 0 0, .slice none 0 0] 28)).heap[w.heap.size + 1]? = some (.cells #[.slice none 0 0, .slice none 0 0] 28 (0, 0)) from by
      have := blk_new (w.alloc (Obj.cells #[.slice aS S.length cS, .slice aL L.length cL] 25)) (Obj.cells #[.slice none 0 0, .slice none 0 0] 28)
      rw [show (w.alloc (Obj.cells #[.slice aS S.length cS, .slice aL L.length cL] 25)).heap.size = w.heap.size + 1 by simp] at this
      exact this)
    have HW0 := Lib.hid (ext_al (ext_al (Ext.refl w) (Obj.cells #[.slice aS S.length cS, .slice aL L.length cL] 25)) (Obj.cells #[.slice none 0 0, .slice none 0 0] 28))
    have hz0 : ((w.alloc (Obj.cells #[.slice aS S.length cS, .slice aL L.length cL] 25)).alloc (Obj.cells #[.slice none 0 0, .slice none 0 0] 28)).heap.size = w.heap.size + 1 + 1 := by simp
    go_wp2_with fail
    generalize (w.alloc (Obj.cells #[.slice aS S.length cS, .slice aL L.length cL] 25)).alloc (Obj.cells #[.slice none 0 0, .slice none 0 0] 28) = W0 at *
    have HZ0 := Lib.hid hz0
    have HBW := Lib.hid (show (W0.alloc (Obj.cells #[.slice none 0 0, .slice none 0 0] 28)).heap[w.heap.size + 1 + 1]? = some (.cells #[.slice none 0 0, .slice none 0 0] 28 (0, 0)) from by rw [← hz0]; exact blk_new _ _)
    clear hz0
    go_loopg [4] (min S.length 5) (fun m x wr => ∃ (i : Nat) (τ : Nat → Nat) (a : Option Addr) (c : Nat) (vs : List Value), m + i = min S.length 5 ∧ x = .int .i64 (i : Int) ∧ LM W0 wr (w.heap.size + 1 + 1) τ a i c vs ((S.take i).map letL) (fun _ => True) ∧
      wr.heap[w.heap.size + 1 + 1]? = some (.cells #[.slice a i c, .slice none 0 0] 28 (0, 0)))
    case atStart => 
      have hz := HZ0.out
      exact ⟨0, fun _ => 0, none, 0, [], by omega, by go_num, LM.begin (ext_al (Ext.refl _) _) (fun _ _ _ => trivial) (fun _ _ => rfl) (by omega) (by simp; omega), HBW.out⟩
    case round =>
      obtain ⟨i, τ, a, c, vs, hmi, rfl, hM, hb⟩ := hrel
      have HMI := Lib.hid hmi
      have hlen : (S.take i).length = i := by simp; omega
      have c0 : wr.cell? ⟨w.heap.size, 0, none⟩ = some (.slice aS S.length cS) := blk_cell (blk_ext B0.out hM.ext) (i := 0) rfl
      by_cases hi : i < min S.length 5
      · obtain ⟨b, off, h1, h2⟩ := row_ints (HRS.out.ext (HW0.out.trans hM.ext))
        obtain rfl := h1 (by omega)
        have hil : i < S.length := by omega
        have ci := h2 i _ (List.getElem?_eq_getElem hil)
        have cW : wr.cell? ⟨w.heap.size + 1 + 1, 0, none⟩ = some (.slice a i c) := blk_cell hb (i := 0) rfl
        have hiI : (i : Int) < (S.length : Int) := by omega
        have h5I : (i : Int) < 5 := by omega
        have hi0 : (0 : Int) ≤ (i : Int) := by omega
        have HLT := Lib.hid (letter_any S[i] wr (HIS.out _ (by simp)))
        have HM := Lib.hid hM
        have HB := Lib.hid hb
        have HSU := Lib.hid (letsL_succ S i hil)
        clear h1 h2 hM hb hmi hlen
        go_wp2_with fail
        refine HLT.out.mono ?_
        rintro e w1 ⟨aL', rfl, hoL, hE⟩
        have HOL := Lib.hid hoL
        have HE := Lib.hid hE
        have hoR := own_ext (own_ext HM.out.own.own hE) (ext_al (Ext.refl w1) (Obj.cells #[.slice (some ⟨aL', 0, none⟩) 3 3] 32))
        have hsz : w.heap.size + 1 + 1 + 1 ≤ w1.heap.size + 1 := by have := HM.out.hi; have := hE.size; omega
        have HOR := Lib.hid hoR
        have cW1 := cell_later hE cW
        clear hoL hE ci c0 cW
        go_wp2_with (at_builtin; go_must (refine wpl_append rfl rfl Tryd.slBoolss (w.heap.size + 1 + 1 + 1) rfl hoR rfl (Row.oneAt' _ _ _ _ (by simp)) (by simp [Value.oneCell']) (by unfold maxLen; omega) (by omega) (by simpa using hsz) ?_))
        intro v3 w3 hown3 hg3 hb3 _
        obtain ⟨a3, c3, rfl, _⟩ := hown3.row
        obtain ⟨τ', hM'⟩ := HM.out.step (l := letL S[i]) HE.out HOL.out _ hown3 hg3 hb3 0
        rw [← HSU.out] at hM'
        have hb' := HM.out.blk HE.out _ hg3 HB.out
        have cW3 := blk_cell hb' (i := 0) rfl
        have fW3 := blk_free hb' 0
        have HM' := Lib.hid hM'
        have HB' := Lib.hid (blk_set hb' (i := 0) (.slice a3 (i + 1) c3))
        clear hown3 hg3 hb3 hM' hb' hoR cW1
        go_wp2_with fail
        go_roundg (gk - 1)
        case measure => have := HMI.out; omega
        case rel => exact ⟨i + 1, τ', a3, c3, _, by have := HMI.out; omega, by go_num, HM'.out, HB'.out⟩
      · have e : (S.take i).map letL = letsL S := by
          unfold letsL
          by_cases h : S.length ≤ 5
          · rw [List.take_of_length_le (by omega), List.take_of_length_le (by omega)]
          · rw [show i = 5 by omega]
        have hin : i = (letsL S).length := by rw [letsL_len]; omega
        rw [e] at hM
        have HM := Lib.hid hM
        have HB := Lib.hid hb
        have HIN := Lib.hid hin
        have hex : (¬ (i : Int) < (S.length : Int)) ∨ ((i : Int) < (S.length : Int) ∧ ¬ (i : Int) < 5) := by omega
        rcases hex with hiI | ⟨hiI, h5I⟩
        all_goals (try (exfalso; omega))
        clear hM hb hmi hlen e hin hi
        go_wp2_with fail
        obtain ⟨τ2, ht2, hent2⟩ := HM.out.whole HIN.out
        have HENT := Lib.hid hent2
        have HEX := Lib.hid HM.out.ext
        have HT2 := Lib.hid ht2
        have HLO := Lib.hid HM.out.lo
        have HHI := Lib.hid HM.out.hi
        clear ht2 hent2 HM c0 hiI
        try clear h5I
        obtain ⟨a1, rfl⟩ : ∃ a1, a1 = a := ⟨_, rfl⟩
        obtain ⟨c1, rfl⟩ : ∃ c1, c1 = c := ⟨_, rfl⟩
        obtain ⟨i1, rfl⟩ : ∃ i1, i1 = i := ⟨_, rfl⟩
        obtain ⟨w5, rfl⟩ : ∃ w5, w5 = wr := ⟨_, rfl⟩
        go_loopg [6] (min L.length 5) (fun m x wr => ∃ (i : Nat) (τ : Nat → Nat) (a : Option Addr) (c : Nat) (vs : List Value), m + i = min L.length 5 ∧ x = .int .i64 (i : Int) ∧ LM W0 wr (w.heap.size + 1 + 1) τ a i c vs ((L.take i).map letL) (fun x => BLists x (.slice a1 i1 c1) (letsL S) ∧ True) ∧
          wr.heap[w.heap.size + 1 + 1]? = some (.cells #[.slice a1 i1 c1, .slice a i c] 28 (0, 0)))
        case atStart => exact ⟨0, τ2, none, 0, [], by omega, by go_num, LM.begin HEX.out HENT.out HT2.out HLO.out HHI.out, HB.out⟩
        case round =>
          obtain ⟨i, τ, a, c, vs, hmi, rfl, hM, hb⟩ := hrel
          have HMI := Lib.hid hmi
          have hlen : (L.take i).length = i := by simp; omega
          have c0 : wr.cell? ⟨w.heap.size, 1, none⟩ = some (.slice aL L.length cL) := blk_cell (blk_ext B0.out hM.ext) (i := 1) rfl
          by_cases hi : i < min L.length 5
          · obtain ⟨b, off, h1, h2⟩ := row_ints (HRL.out.ext (HW0.out.trans hM.ext))
            obtain rfl := h1 (by omega)
            have hil : i < L.length := by omega
            have ci := h2 i _ (List.getElem?_eq_getElem hil)
            have cW : wr.cell? ⟨w.heap.size + 1 + 1, 1, none⟩ = some (.slice a i c) := blk_cell hb (i := 1) rfl
            have hiI : (i : Int) < (L.length : Int) := by omega
            have h5I : (i : Int) < 5 := by omega
            have hi0 : (0 : Int) ≤ (i : Int) := by omega
            have HLT := Lib.hid (letter_any L[i] wr (HIL.out _ (by simp)))
            have HM := Lib.hid hM
            have HB := Lib.hid hb
            have HSU := Lib.hid (letsL_succ L i hil)
            clear h1 h2 hM hb hmi hlen
            go_wp2_with fail
            refine HLT.out.mono ?_
            rintro e w1 ⟨aL', rfl, hoL, hE⟩
            have HOL := Lib.hid hoL
            have HE := Lib.hid hE
            have hoR := own_ext (own_ext HM.out.own.own hE) (ext_al (Ext.refl w1) (Obj.cells #[.slice (some ⟨aL', 0, none⟩) 3 3] 32))
            have hsz : w.heap.size + 1 + 1 + 1 ≤ w1.heap.size + 1 := by have := HM.out.hi; have := hE.size; omega
            have HOR := Lib.hid hoR
            have cW1 := cell_later hE cW
            clear hoL hE ci c0 cW
            go_wp2_with (at_builtin; go_must (refine wpl_append rfl rfl Tryd.slBoolss (w.heap.size + 1 + 1 + 1) rfl hoR rfl (Row.oneAt' _ _ _ _ (by simp)) (by simp [Value.oneCell']) (by unfold maxLen; omega) (by omega) (by simpa using hsz) ?_))
            intro v3 w3 hown3 hg3 hb3 _
            obtain ⟨a3, c3, rfl, _⟩ := hown3.row
            obtain ⟨τ', hM'⟩ := HM.out.step (l := letL L[i]) HE.out HOL.out _ hown3 hg3 hb3 1
            rw [← HSU.out] at hM'
            have hb' := HM.out.blk HE.out _ hg3 HB.out
            have cW3 := blk_cell hb' (i := 1) rfl
            have fW3 := blk_free hb' 1
            have HM' := Lib.hid hM'
            have HB' := Lib.hid (blk_set hb' (i := 1) (.slice a3 (i + 1) c3))
            clear hown3 hg3 hb3 hM' hb' hoR cW1
            go_wp2_with fail
            go_roundg (gk - 1)
            case measure => have := HMI.out; omega
            case rel => exact ⟨i + 1, τ', a3, c3, _, by have := HMI.out; omega, by go_num, HM'.out, HB'.out⟩
          · have e : (L.take i).map letL = letsL L := by
              unfold letsL
              by_cases h : L.length ≤ 5
              · rw [List.take_of_length_le (by omega), List.take_of_length_le (by omega)]
              · rw [show i = 5 by omega]
            have hin : i = (letsL L).length := by rw [letsL_len]; omega
            rw [e] at hM
            have HM := Lib.hid hM
            have HB := Lib.hid hb
            have HIN := Lib.hid hin
            have hex : (¬ (i : Int) < (L.length : Int)) ∨ ((i : Int) < (L.length : Int) ∧ ¬ (i : Int) < 5) := by omega
            rcases hex with hiI | ⟨hiI, h5I⟩
            all_goals (try (exfalso; omega))
            clear hM hb hmi hlen e hin hi
            obtain ⟨τ3, ht3, hent3⟩ := HM.out.whole HIN.out
            have HENT3 := Lib.hid hent3
            have HT3 := Lib.hid ht3
            have HEX3 := Lib.hid HM.out.ext
            have HHI3 := Lib.hid HM.out.hi
            have cW1 : wr.cell? ⟨w.heap.size + 1 + 1, 1, none⟩ = some (.slice a i c) := blk_cell HB.out (i := 1) rfl
            have cW0 : wr.cell? ⟨w.heap.size + 1 + 1, 0, none⟩ = some (.slice a1 i1 c1) := blk_cell HB.out (i := 0) rfl
            have fW1 := blk_free HB.out 1
            have d0 : wr.cell? ⟨w.heap.size + 1, 0, none⟩ = some (.slice none 0 0) := blk_cell (blk_ext B1.out HM.out.ext) (i := 0) rfl
            have d1 : wr.cell? ⟨w.heap.size + 1, 1, none⟩ = some (.slice none 0 0) := blk_cell (blk_ext B1.out HM.out.ext) (i := 1) rfl
            have g0 := blk_free (blk_ext B1.out HM.out.ext) 0
            have g1 := blk_free (blk_ext B1.out HM.out.ext) 1
            have hsplit : (0 < i ∧ L ≠ []) ∨ (i = 0 ∧ L = [] ∧ L.length = 0) := by
              have h1 := HIN.out
              rw [letsL_len] at h1
              cases L with
              | nil => exact .inr ⟨by simpa using h1, rfl, rfl⟩
              | cons x L => exact .inl ⟨by simp at h1; omega, by simp⟩
            have HE0 := Lib.hid (HW0.out.trans HEX3.out)
            have hZ0 := HZ0.out
            clear ht3 hent3
            rcases hsplit with ⟨hi0, hL0⟩ | ⟨hi0, hL0, hLn⟩
            · have HL0 := Lib.hid (show loopW L = letsL L from if_neg hL0)
              have hi0I : ¬ (i : Int) = 0 := by omega
              clear hL0 HM HIN hZ0
              go_wp2_with fail
              have h6 := (HENT3.out.set (p := ⟨w.heap.size + 1, 0, none⟩) (by rw [HT3.out _ (by simp only; omega)]; omega) (.slice a1 i1 c1)).set (p := ⟨w.heap.size + 1, 1, none⟩) (by rw [HT3.out _ (by simp only; omega)]; omega) (.slice a i c)
              have hfin := h6.now
              rw [← HL0.out] at hfin
              have f0 := World.cell?_setCell_same wr ⟨w.heap.size + 1, 0, none⟩ (.slice a1 i1 c1) d0
              have f1 := World.cell?_setCell_same (wr.setCell ⟨w.heap.size + 1, 0, none⟩ (.slice a1 i1 c1)) ⟨w.heap.size + 1, 1, none⟩ (.slice a i c) (cell_side d1 (by omega) _)
              refine bodyPost_ret (v := .agg #[.slice a1 i1 c1, .slice a i c]) (by simp [results, Tryd.results6, go_sem, f0, f1]) rfl ⟨_, _, rfl, ⟨hfin.2.1, hfin.1⟩, ?_⟩
              exact ext_st (ext_st HE0.out (p := ⟨w.heap.size + 1, 0, none⟩) (by simp) _) (p := ⟨w.heap.size + 1, 1, none⟩) (by simp) _
            all_goals (try (exfalso; omega))
            all_goals
              clear HM HIN hl5 hLn hZ0
              subst hi0
              subst hL0
              simp only [List.length_nil] at c0 hiI hmL
              clear hiI
              go_wp2_with fail
              refine (letter_any 5 wr (by unfold I64; omega)).mono ?_
              rintro e w6 ⟨aL', rfl, hoL, hE⟩
              have HENT5 := Lib.hid (one_letter τ3 (l := letL 5) hE hoL (k := w6.heap.size) rfl)
              have hE7 := hE.trans (ext_al (Ext.refl w6) (Obj.cells #[.slice (some ⟨aL', 0, none⟩) 3 3] 32))
              have HENT6 := Lib.hid (Ent.ext (HENT3.out.tag (τ' := tagAt τ3 wr.heap.size 5) fun b hb => tagAt_lt hb) hE7)
              have HE7 := Lib.hid hE7
              have hb7 := blk_ext HB.out hE7
              have hd7 := blk_ext (blk_ext B1.out HEX3.out) hE7
              have cW1' : (w6.alloc (Obj.cells #[.slice (some ⟨aL', 0, none⟩) 3 3] 32)).cell? ⟨w.heap.size + 1 + 1, 1, none⟩ = some (.slice a 0 c) := cell_later hE7 cW1
              have cW0' : (w6.alloc (Obj.cells #[.slice (some ⟨aL', 0, none⟩) 3 3] 32)).cell? ⟨w.heap.size + 1 + 1, 0, none⟩ = some (.slice a1 i1 c1) := cell_later hE7 cW0
              have d0' : (w6.alloc (Obj.cells #[.slice (some ⟨aL', 0, none⟩) 3 3] 32)).cell? ⟨w.heap.size + 1, 0, none⟩ = some (.slice none 0 0) := cell_later hE7 d0
              have d1' : (w6.alloc (Obj.cells #[.slice (some ⟨aL', 0, none⟩) 3 3] 32)).cell? ⟨w.heap.size + 1, 1, none⟩ = some (.slice none 0 0) := cell_later hE7 d1
              have fW1' := blk_free hb7 1
              have g0' := blk_free hd7 0
              have g1' := blk_free hd7 1
              have HSZ := Lib.hid (show w.heap.size + 1 + 1 < (w6.alloc (Obj.cells #[.slice (some ⟨aL', 0, none⟩) 3 3] 32)).heap.size from Nat.lt_of_lt_of_le HHI3.out HE7.out.size)
              clear cW1 cW0 fW1 d0 d1 g0 g1 hoL hE hE7 hb7 hd7
              have F0 := Lib.hid d0'
              have F1 := Lib.hid d1'
              go_wp2_with fail
              have ht : ∀ b, b ≤ w.heap.size + 1 + 1 → tagAt τ3 wr.heap.size 5 b = 0 := fun b hb => by rw [tagAt_lt (by have := HHI3.out; omega)]; exact HT3.out b hb
              have h5 := HENT6.out.both HENT5.out fun x p q => (And.intro p q)
              have h6 := ((h5.set (p := ⟨w.heap.size + 1 + 1, 1, none⟩) (by rw [ht _ (by simp only; omega)]; omega) (.slice (some ⟨w6.heap.size, 0, none⟩) 1 1)).set (p := ⟨w.heap.size + 1, 0, none⟩) (by rw [ht _ (by simp only; omega)]; omega) (.slice a1 i1 c1)).set (p := ⟨w.heap.size + 1, 1, none⟩) (by rw [ht _ (by simp only; omega)]; omega) (.slice (some ⟨w6.heap.size, 0, none⟩) 1 1)
              have hfin := h6.now
              have f0 := World.cell?_setCell_same ((w6.alloc (Obj.cells #[.slice (some ⟨aL', 0, none⟩) 3 3] 32)).setCell ⟨w.heap.size + 1 + 1, 1, none⟩ (.slice (some ⟨w6.heap.size, 0, none⟩) 1 1)) ⟨w.heap.size + 1, 0, none⟩ (.slice a1 i1 c1) (cell_far F0.out (by simp) _)
              have f1 := World.cell?_setCell_same (((w6.alloc (Obj.cells #[.slice (some ⟨aL', 0, none⟩) 3 3] 32)).setCell ⟨w.heap.size + 1 + 1, 1, none⟩ (.slice (some ⟨w6.heap.size, 0, none⟩) 1 1)).setCell ⟨w.heap.size + 1, 0, none⟩ (.slice a1 i1 c1)) ⟨w.heap.size + 1, 1, none⟩ (.slice (some ⟨w6.heap.size, 0, none⟩) 1 1) (cell_side (cell_far F1.out (by simp) _) (by omega) _)
              refine bodyPost_ret (v := .agg #[.slice a1 i1 c1, .slice (some ⟨w6.heap.size, 0, none⟩) 1 1]) (by simp [results, Tryd.results6, go_sem, f0, f1]) rfl ⟨_, _, rfl, ⟨hfin.1.2.1, hfin.2⟩, ?_⟩
              exact ext_st (ext_st (ext_st (HE0.out.trans HE7.out) (p := ⟨w.heap.size + 1 + 1, 1, none⟩) (by simp; omega) _) (p := ⟨w.heap.size + 1, 0, none⟩) (by simp) _) (p := ⟨w.heap.size + 1, 1, none⟩) (by simp) _
end Go.Proofs.YthkiegaifkkegaaDoor
