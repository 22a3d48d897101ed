/- The contract of store.Add. -/
import Derived.Test.YtmacgcaehfjoiaaStF
import Derived.Deep.DeepCutAuto
namespace Go.Proofs.Ytmacgcaehfjoiaa
open Go.RowKit

theorem own_take {w : World} {base : Nat} {e : TypeId} {a : Option Addr} {n c : Nat} {xs : List Value} (h : w.ownsRow base e 1 (.slice a n c) n xs) (k : Nat) (hk : k ≤ n) : w.ownsRow base e 1 (.slice a k c) k (xs.take k) := by
  have hlen := h.1
  rcases h.2 with ⟨h1, h0⟩ | ⟨g, cap, cur, h1, hg, hc, hn, hcm, hcs, ht⟩
  · simp only [Value.slice.injEq] at h1
    obtain ⟨rfl, rfl, rfl⟩ := h1
    obtain rfl : k = 0 := by omega
    simpa using World.ownsRow_nil w base e 1
  · simp only [Value.slice.injEq] at h1
    obtain ⟨rfl, -, rfl⟩ := h1
    refine ⟨by rw [List.length_take]; omega, .inr ⟨g, c, cur, rfl, hg, hc, by omega, hcm, hcs, ?_⟩⟩
    rw [← ht, List.take_take]
    congr 1
    omega

theorem Each.at {w : World} {vs : List Value} {ll : List (List Int)} (h : Each w vs ll) {i : Nat} (hi : i < ll.length) : ∃ x a c, vs[i]? = some x ∧ x = .slice a ll[i].length c ∧ Ints w x ll[i] := by
  have hi' : i < vs.length := by rw [h.1]; exact hi
  have hx := h.2 i vs[i] ll[i] (by simp) (by simp)
  obtain ⟨a, c, e, _⟩ := id hx
  exact ⟨vs[i], a, c, by simp, e, hx⟩

/-- .. and that no row lies beyond another place. -/
def OwnM (w : World) (K M : Nat) (v : Value) (ll : List (List Int)) : Prop :=
  ∃ vs, Each w vs ll ∧ w.ownsRow K 22 1 v ll.length vs ∧ Apart v vs ll ∧ (∀ (i : Nat) (x : Value) (l : List Int), vs[i]? = some x → ll[i]? = some l → l = [] ∨ ∀ b, x.ownBlock = some b → K ≤ b ∧ b < M) ∧ ∀ b, v.ownBlock = some b → b < M
theorem OwnK.toM {w : World} {K : Nat} {v : Value} {ll : List (List Int)} (h : OwnK w K v ll) : OwnM w K w.heap.size v ll := by
  obtain ⟨vs, h1, h2, h3, h4⟩ := h
  refine ⟨vs, h1, h2, h3, fun i x l hx hl => ?_, fun b hb => (h2.lt b hb).2⟩
  by_cases h0 : l = []
  · exact .inl h0
  · exact .inr fun b hb => ⟨h4 x (List.mem_of_getElem? hx) b hb, ints_lt (h1.2 i x l hx hl) h0 b hb⟩
theorem OwnM.ext {w w' : World} {K M : Nat} {v : Value} {ll : List (List Int)} (h : OwnM w K M v ll) (hE : Ext w w') : OwnM w' K M v ll := by
  obtain ⟨vs, h1, h2, h3, h4⟩ := h
  exact ⟨vs, h1.ext hE, own_ext h2 hE, h3, h4⟩
theorem OwnM.lists {w : World} {K M : Nat} {v : Value} {ll : List (List Int)} (h : OwnM w K M v ll) : Lists w v ll := by
  obtain ⟨vs, h1, h2, h3, h4⟩ := h
  exact ⟨vs, h1, h2.reads⟩
theorem OwnM.grown {w w' : World} {K M : Nat} {v : Value} {ll : List (List Int)} {row : Option Nat} (h : OwnM w K M v ll) (hg : w.grownBy w' row) (hr : ∀ b, row = some b → b < K ∨ M ≤ b) : OwnM w' K M v ll := by
  obtain ⟨vs, h1, h2, h3, h4, h5⟩ := h
  refine ⟨vs, ⟨h1.1, fun i x l hx hl => ints_grown (h1.2 i x l hx hl) hg ?_⟩, own_grown h2 hg ?_, h3, h4, h5⟩
  · rcases h4 i x l hx hl with h | h
    · exact .inl h
    · refine .inr fun b hb hb2 => ?_
      have := hr b hb
      have := h b hb2
      omega
  · cases hv : v.ownBlock with
    | none => exact .inl rfl
    | some b =>
      refine .inr fun e => ?_
      have := hr b e.symm
      have := (h2.lt b hv).1
      have := h5 b hv
      omega
theorem OwnM.set {w : World} {K M : Nat} {v : Value} {ll : List (List Int)} (h : OwnM w K M v ll) {p : Addr} (hp : p.block < K ∨ M ≤ p.block) (u : Value) : OwnM (w.setCell p u) K M v ll :=
  h.grown (grown_set w p u) (fun b hb => by injection hb with hb; omega)

/-- .. and that a block F is none of theirs. -/
def OwnD (F : Nat) (w : World) (base : Nat) (v : Value) (ll : List (List Int)) : Prop :=
  ∃ vs, Each w vs ll ∧ w.ownsRow base 22 1 v ll.length vs ∧ Apart v vs ll ∧ (∀ (i : Nat) (x : Value) (l : List Int), vs[i]? = some x → ll[i]? = some l → l = [] ∨ ∀ b, x.ownBlock = some b → base ≤ b ∧ b ≠ F) ∧ v.ownBlock ≠ some F
theorem OwnD.lists {F : Nat} {w : World} {base : Nat} {v : Value} {ll : List (List Int)} (h : OwnD F w base v ll) : Lists w v ll := by
  obtain ⟨vs, h1, h2, h3, h4⟩ := h
  exact ⟨vs, h1, h2.reads⟩
theorem OwnD.grown {F : Nat} {w w' : World} {base : Nat} {v : Value} {ll : List (List Int)} {row : Option Nat} (h : OwnD F w base v ll) (hg : w.grownBy w' row) (hr : ∀ b, row = some b → b < base ∨ b = F) : OwnD F w' base v ll := by
  obtain ⟨vs, h1, h2, h3, h4, h5⟩ := h
  refine ⟨vs, ⟨h1.1, fun i x l hx hl => ints_grown (h1.2 i x l hx hl) hg ?_⟩, own_grown h2 hg ?_, h3, h4, h5⟩
  · rcases h4 i x l hx hl with h | h
    · exact .inl h
    · refine .inr fun b hb hb2 => ?_
      have := hr b hb
      have := h b hb2
      omega
  · cases hv : v.ownBlock with
    | none => exact .inl rfl
    | some b =>
      refine .inr fun e => ?_
      have h6 := hr b e.symm
      have := (h2.lt b hv).1
      rcases h6 with h6 | h6
      · omega
      · subst h6; exact h5 hv
theorem OwnD.set {F : Nat} {w : World} {base : Nat} {v : Value} {ll : List (List Int)} (h : OwnD F w base v ll) {p : Addr} (hp : p.block < base ∨ p.block = F) (u : Value) : OwnD F (w.setCell p u) base v ll :=
  h.grown (grown_set w p u) (fun b hb => by injection hb with hb; subst hb; exact hp)
theorem OwnD.ext {F : Nat} {w w' : World} {base : Nat} {v : Value} {ll : List (List Int)} (h : OwnD F w base v ll) (hE : Ext w w') : OwnD F w' base v ll := by
  obtain ⟨vs, h1, h2, h3, h4⟩ := h
  exact ⟨vs, h1.ext hE, own_ext h2 hE, h3, h4⟩
theorem OwnD.take {F : Nat} {w : World} {base : Nat} {a : Option Addr} {n c : Nat} {ll : List (List Int)} (h : OwnD F w base (.slice a n c) ll) (hn : n = ll.length) (k : Nat) (hk : k ≤ n) : OwnD F w base (.slice a k c) (ll.take k) := by
  subst hn
  obtain ⟨vs, h1, h2, h3, h4, h5⟩ := h
  have e : (Value.slice a k c).ownBlock = (Value.slice a ll.length c).ownBlock := by cases a <;> rfl
  refine ⟨vs.take k, h1.take k, by rw [List.length_take, Nat.min_eq_left hk]; exact own_take h2 k hk, fun i x l hx hl => ?_, fun i x l hx hl => ?_, by rw [e]; exact h5⟩
  · rw [List.getElem?_take] at hx hl
    split at hx
    · rename_i hi
      rw [if_pos hi] at hl
      rw [e]
      exact h3 i x l hx hl
    · cases hx
  · rw [List.getElem?_take] at hx hl
    split at hx
    · rename_i hi
      rw [if_pos hi] at hl
      exact h4 i x l hx hl
    · cases hx
theorem OwnD.push {F : Nat} {w w1 : World} {base : Nat} {v v1 x : Value} {vs : List Value} {ll : List (List Int)} {l : List Int} {m : Nat} (hE : Each w vs ll) (hA : Apart v vs ll) (hf : ∀ (i : Nat) (x : Value) (l : List Int), vs[i]? = some x → ll[i]? = some l → l = [] ∨ ∀ b, x.ownBlock = some b → base ≤ b ∧ b ≠ F) (hv : v.ownBlock ≠ some F) (hF : F < w.heap.size) (hx : Ints w x l) (hxa : l = [] ∨ ∀ b, v.ownBlock = some b → x.ownBlock ≠ some b) (hxb : ∀ b, x.ownBlock = some b → base ≤ b ∧ b ≠ F)
    (hown : w1.ownsRow base 22 1 v1 m (vs ++ [x])) (hg : w.grownBy w1 v.ownBlock) (hb : v1.ownBlock = v.ownBlock ∨ v1.ownBlock = some w.heap.size) : OwnD F w1 base v1 (ll ++ [l]) := by
  obtain ⟨a, b, c⟩ := snoc_parts hE hA hx hxa hown hg hb
  refine ⟨_, a, b, c, fun i y m hy hm => ?_, ?_⟩
  · by_cases hi : i < vs.length
    · rw [List.getElem?_append_left hi] at hy
      rw [List.getElem?_append_left (by rw [← hE.1]; exact hi)] at hm
      exact hf i y m hy hm
    · rw [List.getElem?_append_right (by omega)] at hy
      have e : i - vs.length = 0 := by have := (List.getElem?_eq_some_iff.1 hy).1; simp at this; omega
      rw [e] at hy
      simp at hy
      subst hy
      exact .inr hxb
  · rcases hb with hb | hb
    · rw [hb]; exact hv
    · rw [hb]; intro e; injection e with e; omega


/-- A value is a store whose rows lie from a place on. -/
def FrSt (w : World) (base : Nat) (lv rv : Value) (s : St) : Prop :=
  (Ints w lv s.loose ∧ (s.loose = [] ∨ ∀ b, lv.ownBlock = some b → base ≤ b)) ∧ ∃ vs, Each w vs s.runs ∧ Reads w 1 rv s.runs.length vs ∧ (∀ b, rv.ownBlock = some b → base ≤ b) ∧ ∀ (i : Nat) (x : Value) (l : List Int), vs[i]? = some x → s.runs[i]? = some l → l = [] ∨ ∀ b, x.ownBlock = some b → base ≤ b
theorem FrSt.st {w : World} {base : Nat} {lv rv : Value} {s : St} (h : FrSt w base lv rv s) : IsSt w lv rv s := by
  obtain ⟨⟨h1, _⟩, vs, h2, h3, _⟩ := h
  exact ⟨h1, vs, h2, h3⟩
theorem FrSt.down {w : World} {base base' : Nat} {lv rv : Value} {s : St} (h : FrSt w base lv rv s) (hb : base' ≤ base) : FrSt w base' lv rv s := by
  obtain ⟨⟨h1, h1b⟩, vs, h2, h3, h4, h5⟩ := h
  refine ⟨⟨h1, h1b.imp id fun h b hh => Nat.le_trans hb (h b hh)⟩, vs, h2, h3, fun b hh => Nat.le_trans hb (h4 b hh), fun i x l hx hl => (h5 i x l hx hl).imp id fun h b hh => Nat.le_trans hb (h b hh)⟩
theorem FrSt.ext {w w' : World} {base : Nat} {lv rv : Value} {s : St} (h : FrSt w base lv rv s) (hE : Ext w w') : FrSt w' base lv rv s := by
  obtain ⟨⟨h1, h1b⟩, vs, h2, h3, h4, h5⟩ := h
  exact ⟨⟨h1.ext hE, h1b⟩, vs, h2.ext hE, h3.ext hE, h4, h5⟩
theorem FrSt.grown {w w' : World} {base : Nat} {lv rv : Value} {s : St} {row : Option Nat} (h : FrSt w base lv rv s) (hg : w.grownBy w' row) (hr : ∀ b, row = some b → b < base) : FrSt w' base lv rv s := by
  obtain ⟨⟨h1, h1b⟩, vs, h2, h3, h4, h5⟩ := h
  refine ⟨⟨ints_grown h1 hg ?_, h1b⟩, vs, ⟨h2.1, fun i x l hx hl => ints_grown (h2.2 i x l hx hl) hg ?_⟩, Reads.grown h3 hg ?_, h4, h5⟩
  · rcases h1b with h | h
    · exact .inl h
    · exact .inr fun b hb hb2 => by have := hr b hb; have := h b hb2; omega
  · rcases h5 i x l hx hl with h | h
    · exact .inl h
    · exact .inr fun b hb hb2 => by have := hr b hb; have := h b hb2; omega
  · cases hv : rv.ownBlock with
    | none => exact .inr (.inl rfl)
    | some b => exact .inr (.inr fun e => by have := hr b e.symm; have := h4 b hv; omega)
theorem FrSt.set {w : World} {base : Nat} {lv rv : Value} {s : St} (h : FrSt w base lv rv s) {p : Addr} (hp : p.block < base) (u : Value) : FrSt (w.setCell p u) base lv rv s :=
  h.grown (grown_set w p u) (fun b hb => by injection hb with hb; omega)
theorem FrSt.ofM {w : World} {base K M : Nat} {lv rv : Value} {s : St} (h1 : Ints w lv s.loose) (h2 : ∀ b, lv.ownBlock = some b → base ≤ b) (h : OwnM w K M rv s.runs) (hb : base ≤ K) : FrSt w base lv rv s := by
  obtain ⟨vs, a, b, c, d, e⟩ := h
  exact ⟨⟨h1, .inr h2⟩, vs, a, b.reads, fun x hx => Nat.le_trans hb (b.lt x hx).1, fun i x l hx hl => (d i x l hx hl).imp id fun h y hy => Nat.le_trans hb (h y hy).1⟩
theorem FrSt.ofD {F : Nat} {w : World} {base K : Nat} {lv rv : Value} {s : St} (h1 : Ints w lv s.loose) (h0 : s.loose = []) (h : OwnD F w K rv s.runs) (hb : base ≤ K) : FrSt w base lv rv s := by
  obtain ⟨vs, a, b, c, d, e⟩ := h
  exact ⟨⟨h1, .inl h0⟩, vs, a, b.reads, fun x hx => Nat.le_trans hb (b.lt x hx).1, fun i x l hx hl => (d i x l hx hl).imp id fun h y hy => Nat.le_trans hb (h y hy).1⟩

set_option maxRecDepth 100000 in
set_option maxHeartbeats 16000000 in
theorem add_st (lv rv : Value) (s : St) (n : Int) (w : World) (h : IsSt w lv rv s) (hp : s.Ok) (hl : s.keys.length ≤ 900) (hn : 0 ≤ n ∧ n ≤ 2147483647) :
    Calls Try.prog 10 #[.agg #[lv, rv], .int .i64 n] w fun e w' => ∃ lv' rv', e = .returned (.tuple #[.agg #[lv', rv'], .bool (decide (n ∉ s.keys)), .int .i64 0]) ∧ FrSt w' w.heap.size lv' rv' (s.add n) ∧ Ext w w' := by
  have HHS := Lib.hid fun wx (hx : Ext w wx) => has_st lv rv s n wx (h.ext hx) hp (by omega) hn
  have HOW := Lib.hid fun wx (hx : Ext w wx) => own_st lv rv s wx (h.ext hx) hp (by omega)
  have HKE := Lib.hid fun wx (hx : Ext w wx) => keys_st lv rv s wx (h.ext hx) (by omega)
  obtain ⟨al, cl, rfl, _⟩ := id h.lo
  obtain ⟨ar, cr, rfl⟩ := h.ru.val
  have hfew := hp.runs_few
  have h8 : s.loose.length < 8 := by have := hp.lo; omega
  have HOLD := Lib.hid fun (hm : n ∈ s.keys) => (St.add_old hm : s.add n = s)
  have HNEW := Lib.hid fun (hm : n ∉ s.keys) (h7 : s.loose.length + 1 < 8) => (show s.add n = ⟨s.loose ++ [n], s.runs⟩ by unfold St.add; rw [if_neg hm, if_pos h7])
  have HFUL := Lib.hid fun (hm : n ∉ s.keys) (h7 : ¬ s.loose.length + 1 < 8) => (show s.add n = ⟨[], (fold (sortL (s.loose ++ [n]) :: s.runs.reverse)).reverse⟩ by unfold St.add; rw [if_neg hm, if_neg h7])
  have HP := Lib.hid hp
  have hx0 := ext_al (Ext.refl w) (Obj.cells #[.slice al s.loose.length cl, .slice ar s.runs.length cr] 25)
  have hb0 := blk_new w (Obj.cells #[.slice al s.loose.length cl, .slice ar s.runs.length cr] 25)
  have hx1 := ext_al (Ext.refl (w.alloc (Obj.cells #[.slice al s.loose.length cl, .slice ar s.runs.length cr] 25))) (Obj.cells #[.slice none 0 0, .slice none 0 0] 25)
  have hb1 := blk_new (w.alloc (Obj.cells #[.slice al s.loose.length cl, .slice ar s.runs.length cr] 25)) (Obj.cells #[.slice none 0 0, .slice none 0 0] 25)
  have eR : (w.alloc (Obj.cells #[.slice al s.loose.length cl, .slice ar s.runs.length cr] 25)).heap.size = w.heap.size + 1 := by simp
  have eS : ((w.alloc (Obj.cells #[.slice al s.loose.length cl, .slice ar s.runs.length cr] 25)).alloc (Obj.cells #[.slice none 0 0, .slice none 0 0] 25)).heap.size = w.heap.size + 2 := by simp
  rw [eR] at hb1
  have HB := Lib.hid (blk_ext hb0 hx1)
  have HR := Lib.hid hb1
  have HX1 := Lib.hid (hx0.trans hx1)
  have HSZ := Lib.hid eS
  have HMM := Lib.hid (show decide (n ∉ s.keys) = !(decide (n ∈ s.keys)) by simp)
  obtain ⟨old, hold⟩ : ∃ r, decide (n ∈ s.keys) = r := ⟨_, rfl⟩
  rw [hold] at HHS HMM
  have HOD := Lib.hid hold
  obtain ⟨new, hnew⟩ : ∃ r, decide (n ∉ s.keys) = r := ⟨_, rfl⟩
  rw [hnew] at HMM ⊢
  obtain ⟨sa, hsa⟩ : ∃ x, s.add n = x := ⟨_, rfl⟩
  rw [hsa] at HOLD HNEW HFUL ⊢
  clear h hp hx0 hb0 hx1 hb1 eR hold hnew hsa
  go_enter Try.func10, Try.ntmps10
  have d0 := blk_cell HB.out (i := 0) (v := .slice al s.loose.length cl) rfl
  have d1 := blk_cell HB.out (i := 1) (v := .slice ar s.runs.length cr) rfl
  go_wp2_with fail
  clear d0 d1 eS
  generalize (w.alloc (Obj.cells #[.slice al s.loose.length cl, .slice ar s.runs.length cr] 25)).alloc (Obj.cells #[.slice none 0 0, .slice none 0 0] 25) = W1 at *
  refine (HHS.out _ HX1.out).mono ?_
  rintro e w2 ⟨rfl, hE2⟩
  have HX2 := Lib.hid hE2
  have d0 := blk_cell (blk_ext HB.out hE2) (i := 0) (v := .slice al s.loose.length cl) rfl
  have d1 := blk_cell (blk_ext HB.out hE2) (i := 1) (v := .slice ar s.runs.length cr) rfl
  clear hE2 HHS
  go_wp2_with fail
  refine (HOW.out _ (HX1.out.trans HX2.out)).mono ?_
  rintro e w3 ⟨v3, r3, K3, rfl, ho3, hK3, hk3, hb3, hc3, hE3⟩
  obtain ⟨a3, c3, rfl, _⟩ := id ho3.row
  obtain ⟨a4, c4, rfl⟩ := hk3.lists.val
  have HX3 := Lib.hid (HX2.out.trans hE3)
  have HO3 := Lib.hid ho3
  have HK3 := Lib.hid hk3.toM
  have HKB := Lib.hid hK3
  have hs2 := HX2.out.size
  clear d0 d1 HOW ho3 hk3 hK3 hE3
  go_upto_region 5 with fail
  have hx4 := ext_al (Ext.refl w3) (Obj.cells #[.slice a3 s.loose.length c3, .slice a4 s.runs.length c4] 25)
  have HD := Lib.hid (blk_new w3 (Obj.cells #[.slice a3 s.loose.length c3, .slice a4 s.runs.length c4] 25))
  have HX4 := Lib.hid (HX3.out.trans hx4)
  have HO4 := Lib.hid (own_ext HO3.out hx4)
  have HK4 := Lib.hid (HK3.out.ext hx4)
  have hsz4 : (w3.alloc (Obj.cells #[.slice a3 s.loose.length c3, .slice a4 s.runs.length c4] 25)).heap.size = w3.heap.size + 1 := by simp
  generalize w3.alloc (Obj.cells #[.slice a3 s.loose.length c3, .slice a4 s.runs.length c4] 25) = W4 at *
  have hs3 := HX3.out.size
  obtain ⟨D, hD⟩ : ∃ D, w3.heap.size = D := ⟨_, rfl⟩
  rw [hD] at HD HK4 hsz4 hs3 hc3 ⊢
  have HDW := Lib.hid hD
  have eS := HSZ.out
  have q0 := blk_cell HD.out (i := 0) rfl
  have q1 := blk_cell HD.out (i := 1) rfl
  have HRR := Lib.hid (blk_ext HR.out HX4.out)
  clear hx4 hD HO3 HK3
  cases old
  case true =>
    obtain rfl : new = false := HMM.out
    have r0 := blk_cell HRR.out (i := 0) rfl
    have r1 := blk_cell HRR.out (i := 1) rfl
    have f0 := blk_free HRR.out 0
    have hRS := blk_set (i := 0) HRR.out (.slice a3 s.loose.length c3)
    have r2 := blk_cell hRS (i := 1) rfl
    have f2 := blk_free hRS 1
    clear hRS
    go_wp2
    have hS2 := blk_set (i := 1) (blk_set (i := 0) HRR.out (.slice a3 s.loose.length c3)) (.slice a4 s.runs.length c4)
    have z0 := blk_cell hS2 (i := 0) (v := .slice a3 s.loose.length c3) (by simp)
    have z1 := blk_cell hS2 (i := 1) (v := .slice a4 s.runs.length c4) (by simp)
    have hne : (Value.slice a3 s.loose.length c3).ownBlock ≠ some (w.heap.size + 1) := fun e => by
      have := (HO4.out.lt _ e).1
      omega
    have hi := (own_setCell (own_setCell HO4.out (p := ⟨w.heap.size + 1, 0, none⟩) (.slice a3 s.loose.length c3) hne) (p := ⟨w.heap.size + 1, 1, none⟩) (.slice a4 s.runs.length c4) hne).reads
    have hk := (HK4.out.set (p := ⟨w.heap.size + 1, 0, none⟩) (show w.heap.size + 1 < K3 ∨ _ from .inl (by omega)) (.slice a3 s.loose.length c3)).set (p := ⟨w.heap.size + 1, 1, none⟩) (show w.heap.size + 1 < K3 ∨ _ from .inl (by omega)) (.slice a4 s.runs.length c4)
    refine bodyPost_ret (v := .tuple #[.agg #[.slice a3 s.loose.length c3, .slice a4 s.runs.length c4], .bool false, .int .i64 0]) (by simp [results, Try.results10, go_sem, z0, z1]) rfl ⟨_, _, rfl, ?_, ?_⟩
    · rw [HOLD.out (of_decide_eq_true HOD.out)]
      exact FrSt.ofM hi (fun b hb => by have := (HO4.out.lt b hb).1; omega) hk (by omega)
    · exact ext_st (ext_st (HX1.out.trans HX4.out) (by show w.heap.size ≤ w.heap.size + 1; omega) _) (by show w.heap.size ≤ w.heap.size + 1; omega) _
  case false =>
    obtain rfl : new = true := HMM.out
    have hnm : n ∉ s.keys := of_decide_eq_false HOD.out
    have HNM := Lib.hid hnm
    have d0 := blk_cell (blk_ext HB.out HX4.out) (i := 0) (v := .slice al s.loose.length cl) rfl
    have d1 := blk_cell (blk_ext HB.out HX4.out) (i := 1) (v := .slice ar s.runs.length cr) rfl
    clear hnm
    go_wp2_with fail
    refine (HKE.out _ (HX1.out.trans HX4.out)).mono ?_
    rintro e w5 ⟨rfl, hE5⟩
    have hO5 := own_ext HO4.out hE5
    have hK5 := HK4.out.ext hE5
    have hD5 := blk_ext HD.out hE5
    have HX5 := Lib.hid (HX4.out.trans hE5)
    have hs5 := hE5.size
    have t0 := blk_cell hD5 (i := 0) rfl
    have k2 : ((s.keys.length : Int) == 20000) = false := by rw [beq_eq_false_iff_ne]; omega
    have k3 : ¬ s.keys.length = 20000 := by omega
    have HD5 := Lib.hid hD5
    have HK5 := Lib.hid hK5
    have HO5 := Lib.hid hO5
    have HAX := Lib.hid (own_ext hO5 (ext_al (Ext.refl w5) (Obj.cells #[.int .i64 n] 3)))
    clear hO5 hK5 hD5 hE5 q0 q1 d0 d1 HKE
    go_wp2_with (at_builtin; go_must (refine wpl_append rfl rfl Try.slInts W1.heap.size rfl (own_down HAX.out hs2) rfl (Row.one _ _ _) (one_int _) (by unfold maxLen; omega) (by omega) (by simp; omega) ?_))
    intro v6 w6 hown6 hg6 hb6 _
    obtain ⟨a6, c6, rfl, _⟩ := id hown6.row
    have hA6 := ext_al (Ext.refl w5) (Obj.cells #[.int .i64 n] 3)
    have HX6 := Lib.hid (show Ext W1 w6 from Below.grown (HX5.out.trans hA6) hg6 (HX5.out.trans hA6).size (fun b hb => by have := (HAX.out.lt b hb).1; omega))
    have hD6 := blk_grown (blk_ext HD5.out hA6) hg6 (fun e => by have := HKB.out D e.symm; omega)
    have HK6 := Lib.hid ((HK5.out.ext hA6).grown hg6 (fun b hb => .inl (HKB.out b hb)))
    have HO6 := Lib.hid hown6
    have HB6 := Lib.hid hb6
    have HS6 := Lib.hid hg6.size
    have t0 := blk_cell hD6 (i := 0) rfl
    have f0 := blk_free hD6 0
    have HD6 := Lib.hid hD6
    have hDs := blk_lt HD5.out
    have HBN := Lib.hid (show ∀ b, (Value.slice a6 (s.loose.length + 1) c6).ownBlock = some b → b ≠ D from fun b hb e => by
      rcases HB6.out with h | h
      · rw [h] at hb; have := HKB.out b hb; omega
      · rw [h] at hb; injection hb with hb; first | omega | (simp at hb; omega))
    have HBK := Lib.hid (show ∀ b, (Value.slice a6 (s.loose.length + 1) c6).ownBlock = some b → b < K3 ∨ D < b from fun b hb => by
      rcases HB6.out with h | h
      · rw [h] at hb; exact .inl (HKB.out b hb)
      · rw [h] at hb; injection hb with hb; first | omega | (simp at hb; omega))
    clear hown6 hb6 hg6 hD6 hA6 HAX HO5 HK5
    have hD7 := blk_set (i := 0) HD6.out (.slice a6 (s.loose.length + 1) c6)
    have u0 := blk_cell hD7 (i := 0) (v := .slice a6 (s.loose.length + 1) c6) (by simp)
    have u1 := blk_cell hD7 (i := 1) (v := .slice a4 s.runs.length c4) (by simp)
    have hR7 := blk_far (blk_ext HR.out HX6.out) (p := ⟨D, 0, none⟩) (by show D ≠ w.heap.size + 1; omega) (.slice a6 (s.loose.length + 1) c6)
    have HX7 := Lib.hid (ext_st HX6.out (p := ⟨D, 0, none⟩) (by show W1.heap.size ≤ D; omega) (.slice a6 (s.loose.length + 1) c6))
    have HO7 := Lib.hid (own_setCell HO6.out (p := ⟨D, 0, none⟩) (.slice a6 (s.loose.length + 1) c6) (fun e => HBN.out D e rfl))
    have HK7 := Lib.hid (HK6.out.set (p := ⟨D, 0, none⟩) (.inr (Nat.le_refl D)) (.slice a6 (s.loose.length + 1) c6))
    have HD7 := Lib.hid hD7
    have HR7 := Lib.hid hR7
    clear hD7
    have HBKD := Lib.hid (show ∀ b, (Value.slice a6 (s.loose.length + 1) c6).ownBlock = some b → b < K3 ∨ D ≤ b from fun b hb => by have := HBK.out b hb; omega)
    by_cases h7 : s.loose.length + 1 < 8
    · have h7I : (s.loose.length : Int) + 1 < 8 := by omega
      have r0 := blk_cell hR7 (i := 0) rfl
      have r1 := blk_cell hR7 (i := 1) rfl
      have f1 := blk_free hR7 0
      have hRS := blk_set (i := 0) hR7 (.slice a6 (s.loose.length + 1) c6)
      have r2 := blk_cell hRS (i := 1) rfl
      have f2 := blk_free hRS 1
      clear hRS hR7
      go_wp2
      have hS2 := blk_set (i := 1) (blk_set (i := 0) HR7.out (.slice a6 (s.loose.length + 1) c6)) (.slice a4 s.runs.length c4)
      have z0 := blk_cell hS2 (i := 0) (v := .slice a6 (s.loose.length + 1) c6) (by simp)
      have z1 := blk_cell hS2 (i := 1) (v := .slice a4 s.runs.length c4) (by simp)
      have hne : (Value.slice a6 (s.loose.length + 1) c6).ownBlock ≠ some (w.heap.size + 1) := fun e => by
        have := (HO7.out.lt _ e).1
        omega
      have hi := (own_setCell (own_setCell HO7.out (p := ⟨w.heap.size + 1, 0, none⟩) (.slice a6 (s.loose.length + 1) c6) hne) (p := ⟨w.heap.size + 1, 1, none⟩) (.slice a4 s.runs.length c4) hne).reads
      have hk := (HK7.out.set (p := ⟨w.heap.size + 1, 0, none⟩) (show w.heap.size + 1 < K3 ∨ _ from .inl (by omega)) (.slice a6 (s.loose.length + 1) c6)).set (p := ⟨w.heap.size + 1, 1, none⟩) (show w.heap.size + 1 < K3 ∨ _ from .inl (by omega)) (.slice a4 s.runs.length c4)
      refine bodyPost_ret (v := .tuple #[.agg #[.slice a6 (s.loose.length + 1) c6, .slice a4 s.runs.length c4], .bool true, .int .i64 0]) (by simp [results, Try.results10, go_sem, z0, z1]) rfl ⟨_, _, rfl, ?_, ?_⟩
      · rw [HNEW.out HNM.out h7]
        refine FrSt.ofM ?_ (fun b hb => by have := (HO7.out.lt b hb).1; omega) hk (by omega)
        unfold Ints
        rw [List.length_append, List.map_append]
        exact hi
      · exact ext_st (ext_st (HX1.out.trans HX7.out) (by show w.heap.size ≤ w.heap.size + 1; omega) _) (by show w.heap.size ≤ w.heap.size + 1; omega) _
    · have h7I : ¬ (s.loose.length : Int) + 1 < 8 := by omega
      clear hR7
      go_wp2_with fail
      have HL1 := Lib.hid (show (s.loose ++ [n]).length = s.loose.length + 1 by simp)
      have HO7b := Lib.hid (own_cast HO7.out HL1.out.symm (ys := (s.loose ++ [n]).map (.int .i64)) (by simp))
      generalize w6.setCell ⟨D, 0, none⟩ (.slice a6 (s.loose.length + 1) c6) = W7 at *
      clear u0 u1
      refine (sortI_any _ _ _ W7 HO7b.out (by rw [HL1.out]; omega)).mono ?_
      rintro e w8 ⟨rfl, ho8, hg8⟩
      have hD8 := blk_grown HD7.out hg8 (fun e => HBN.out D e.symm rfl)
      have hR8 := blk_grown HR7.out hg8 (fun e => by have := (HO7.out.lt _ e.symm).1; omega)
      have HX8 := Lib.hid (show Ext W1 w8 from Below.grown HX7.out hg8 HX7.out.size (fun b hb => by have := (HO7.out.lt b hb).1; omega))
      have hK8 := HK7.out.grown hg8 HBKD.out
      have u0 := blk_cell hD8 (i := 0) (v := .slice a6 (s.loose.length + 1) c6) (by simp)
      have u1 := blk_cell hD8 (i := 1) (v := .slice a4 s.runs.length c4) (by simp)
      have HI8 := Lib.hid (show Ints w8 (.slice a6 (s.loose.length + 1) c6) (sortL (s.loose ++ [n])) from by
        unfold Ints
        rw [sortL_len, HL1.out]
        rw [HL1.out] at ho8
        exact ho8.reads)
      have HO8 := Lib.hid ho8
      have HD8 := Lib.hid hD8
      have HR8 := Lib.hid hR8
      obtain ⟨vs, hEa, hOw, hAp, hFa, hVD⟩ := hK8
      have HEA := Lib.hid hEa
      have HOW8 := Lib.hid hOw
      have HAP := Lib.hid hAp
      have HFA := Lib.hid hFa
      have HVD := Lib.hid hVD
      have hs8 := HX8.out.size
      clear ho8 hg8 hD8 hR8 hEa hOw hAp hFa hVD HO7b HO7 HK7 HD7 HR7
      go_wp2_with (at_builtin; go_must (refine wpl_append rfl rfl Try.slLists W1.heap.size rfl (own_down (own_ext HOW8.out (ext_al (Ext.refl w8) _)) (Nat.le_trans hs2 hb3)) rfl (Row.one _ _ _) (by simp [Value.oneCell']) (by unfold maxLen; omega) (by omega) (by simp; omega) ?_))
      intro v9 w9 hown9 hg9 hb9 _
      obtain ⟨a9, c9, rfl, _⟩ := id hown9.row
      have hA9 := ext_al (Ext.refl w8) (Obj.cells #[.slice a6 (s.loose.length + 1) c6] 22)
      have hD9 := blk_grown (blk_ext HD8.out hA9) hg9 (fun e => by have := HVD.out D e.symm; omega)
      have hR9 := blk_grown (blk_ext HR8.out hA9) hg9 (fun e => by have := (HOW8.out.lt _ e.symm).1; omega)
      have HP9 := Lib.hid (OwnD.push (F := D) (HEA.out.ext hA9) HAP.out (fun i x l hx hl => (HFA.out i x l hx hl).imp id fun h b hb => by have := h b hb; omega) (fun e => by have := HVD.out D e; omega) (by have := blk_lt HD8.out; simp; omega) (HI8.out.ext hA9) (.inr fun b h1 h2 => by have := HVD.out b h1; have := (HOW8.out.lt b h1).1; have := HBK.out b h2; omega) (fun b hb => by have := (HO8.out.lt b hb).1; have := HBN.out b hb; omega) hown9 hg9 (by rcases hb9 with h | h; exact .inl h; right; rw [h, World.size_alloc]))
      have HX9 := Lib.hid (show Ext W1 w9 from Below.grown (HX8.out.trans hA9) hg9 (HX8.out.trans hA9).size (fun b hb => by have := (HOW8.out.lt b hb).1; omega))
      have e1 : ∀ x : Value, (#[Value.slice a6 (s.loose.length + 1) c6, .slice a4 s.runs.length c4].setIfInBounds 1 x) = #[.slice a6 (s.loose.length + 1) c6, x] := fun x => by simp
      have e0 : ∀ x y : Value, (#[Value.slice a6 (s.loose.length + 1) c6, x].setIfInBounds 0 y) = #[y, x] := fun x y => by simp
      have hD9b : w9.heap[D]? = some (.cells #[.slice a6 (s.loose.length + 1) c6, .slice a4 s.runs.length c4] 25 (0, 0)) := by simpa using hD9
      have x1 := blk_cell hD9b (i := 1) rfl
      have y1 := blk_free hD9b 1
      have hDa := blk_set (i := 1) hD9b (.slice a9 (s.runs.length + 1) c9)
      rw [e1] at hDa
      have x2 := blk_cell hDa (i := 0) rfl
      have y2 := blk_free hDa 0
      have hDb := blk_set (i := 0) hDa (.slice none 0 0)
      rw [e0] at hDb
      have x3 := blk_cell hDb (i := 1) rfl
      have HDB := Lib.hid hDb
      have HRB := Lib.hid (blk_far (blk_far hR9 (p := ⟨D, 1, none⟩) (by show D ≠ w.heap.size + 1; omega) (.slice a9 (s.runs.length + 1) c9)) (p := ⟨D, 0, none⟩) (by show D ≠ w.heap.size + 1; omega) (.slice none 0 0))
      have HXB := Lib.hid (ext_st (ext_st HX9.out (p := ⟨D, 1, none⟩) (by show W1.heap.size ≤ D; omega) (.slice a9 (s.runs.length + 1) c9)) (p := ⟨D, 0, none⟩) (by show W1.heap.size ≤ D; omega) (.slice none 0 0))
      have HPB := Lib.hid ((HP9.out.set (p := ⟨D, 1, none⟩) (.inr rfl) (.slice a9 (s.runs.length + 1) c9)).set (p := ⟨D, 0, none⟩) (.inr rfl) (.slice none 0 0))
      clear hown9 hg9 hb9 hA9 hD9 hR9 e1 e0 hD9b hDa hDb HP9
      go_wp2_with fail
      generalize (w9.setCell ⟨D, 1, none⟩ (.slice a9 (s.runs.length + 1) c9)).setCell ⟨D, 0, none⟩ (.slice none 0 0) = W9 at *
      clear x1 y1 x2 y2 x3 u0 u1
      have HFU := Lib.hid (HFUL.out HNM.out h7)
      have hx9 : W1.heap.size ≤ W9.heap.size := HXB.out.size
      have HS0 := Lib.hid (show ∃ st0, st0 = sortL (s.loose ++ [n]) :: s.runs.reverse ∧ st0.length = s.runs.length + 1 ∧ st0.reverse = s.runs ++ [sortL (s.loose ++ [n])] ∧ (st0.map List.length).sum ≤ 1000 ∧ ∀ r ∈ st0, r.Pairwise (· ≤ ·) from ⟨_, rfl, by simp, by simp, by
        rw [List.map_cons, List.sum_cons, List.map_reverse, List.sum_reverse, sortL_len, HL1.out]
        have := St.keys_len s
        omega, fun r hr => by
        rcases List.mem_cons.1 hr with rfl | hr
        · exact sortL_up _
        · exact HP.out.up r (by simpa using hr)⟩)
      obtain ⟨st0, hst, hs1, hs2', hs3', hs4⟩ := HS0.out
      rw [← hst] at HFU
      rw [← hs2'] at HPB
      rw [← hs1] at HDB HPB
      have HT1 := Lib.hid hs1
      have HT3 := Lib.hid hs3'
      have HT4 := Lib.hid hs4
      clear HS0 hst hs1 hs2' hs3' hs4
      go_loopg [10] st0.length (fun g x wr => ∃ (st : List (List Int)) (av : Option Addr) (cv : Nat), st.length = g ∧ x = .int .i64 (st.length : Int) ∧ wr.heap[D]? = some (.cells #[.slice none 0 0, .slice av st.length cv] 25 (0, 0)) ∧ OwnD D wr W1.heap.size (.slice av st.length cv) st.reverse ∧ Ext W1 wr ∧ fold st = fold st0 ∧ (st.map List.length).sum ≤ 1000 ∧ st.length ≤ 1000 ∧ ∀ r ∈ st, r.Pairwise (· ≤ ·))
      case atStart => exact ⟨st0, a9, c9, rfl, by rw [HT1.out]; rfl, HDB.out, HSZ.out ▸ HPB.out, HXB.out, rfl, HT3.out, by have := HT1.out; omega, HT4.out⟩
      case round =>
        obtain ⟨st, av, cv, hm, rfl, hB, hO, hE, hF, hSum, hSl, hU⟩ := hrel
        have HGK := Lib.hid hm
        have HFO := Lib.hid hF
        have HUU := Lib.hid hU
        have HSU := Lib.hid hSum
        have HBB := Lib.hid hB
        obtain ⟨_, _, _, bR, oR, haR, hcR⟩ := hO.lists.cells
        have hl1 := fun (i : Nat) (hi : i < st.length) => hcR i (by simpa using hi)
        have HCL := Lib.hid hl1
        have HAA := Lib.hid haR
        have b0 := blk_cell hB (i := 0) rfl
        have b1 := blk_cell hB (i := 1) rfl
        have g1 := blk_free hB 1
        obtain ⟨m, hm2⟩ : ∃ m, st.length = m := ⟨_, rfl⟩
        have HOO := Lib.hid hO
        have HMM := Lib.hid hm2
        rw [hm2] at b1 hSl HOO HAA HBB ⊢
        clear hF hU hSum hO haR hcR hl1 hm hB HPB HDB HXB HT1 HT3 HT4
        rcases st with _ | ⟨rr, _ | ⟨qq, tt⟩⟩
        · have hfs : fold ([] : List (List Int)) = [] := by simp [fold]
          have k0 : ¬ 1 < m := by simp at hm2; omega
          have k1 : decide ((1 : Int) < (m : Int)) = false := by rw [decide_eq_false_iff_not]; omega
          have k1' : decide (1 < m) = false := by rw [decide_eq_false_iff_not]; omega
          clear hm2
          go_upto_region 16 with fail
          go_quiet (fail)
          rename_i nq
          have hEz := below_drewN hE nq
          have hOz := HOO.out.ext (below_drewN (Ext.refl wr) nq)
          have b0 := cell_later (below_drewN (Ext.refl wr) nq) b0
          have b1 := cell_later (below_drewN (Ext.refl wr) nq) b1
          generalize wr.drewN nq = wz at *
          have r0 := blk_cell (blk_ext HR.out hEz) (i := 0) rfl
          have r1 := blk_cell (blk_ext HR.out hEz) (i := 1) rfl
          have f1 := blk_free (blk_ext HR.out hEz) 0
          have hRS := blk_set (i := 0) (blk_ext HR.out hEz) (.slice none 0 0)
          have r2 := blk_cell hRS (i := 1) rfl
          have f2 := blk_free hRS 1
          clear hRS
          go_wp2
          have hS2 := blk_set (i := 1) (blk_set (i := 0) (blk_ext HR.out hEz) (.slice none 0 0)) (.slice av m cv)
          have z0 := blk_cell hS2 (i := 0) (v := .slice none 0 0) (by simp)
          have z1 := blk_cell hS2 (i := 1) (v := .slice av m cv) (by simp)
          have hk := (hOz.set (p := ⟨w.heap.size + 1, 0, none⟩) (.inl (show w.heap.size + 1 < W1.heap.size by omega)) (.slice none 0 0)).set (p := ⟨w.heap.size + 1, 1, none⟩) (.inl (show w.heap.size + 1 < W1.heap.size by omega)) (.slice av m cv)
          refine bodyPost_ret (v := .tuple #[.agg #[.slice none 0 0, .slice av m cv], .bool true, .int .i64 0]) (by simp [results, Try.results10, go_sem, z0, z1]) rfl ⟨_, _, rfl, ?_, ?_⟩
          · rw [HFU.out, ← HFO.out, hfs]
            exact FrSt.ofD (Reads.nil _ _) rfl hk (by have := HSZ.out; omega)
          · exact ext_st (ext_st (HX1.out.trans hEz) (by show w.heap.size ≤ w.heap.size + 1; omega) _) (by show w.heap.size ≤ w.heap.size + 1; omega) _
        · have hfs : fold [rr] = [rr] := by simp [fold]
          have k0 : ¬ 1 < m := by simp at hm2; omega
          have k1 : decide ((1 : Int) < (m : Int)) = false := by rw [decide_eq_false_iff_not]; omega
          have k1' : decide (1 < m) = false := by rw [decide_eq_false_iff_not]; omega
          clear hm2
          go_upto_region 16 with fail
          go_quiet (fail)
          rename_i nq
          have hEz := below_drewN hE nq
          have hOz := HOO.out.ext (below_drewN (Ext.refl wr) nq)
          have b0 := cell_later (below_drewN (Ext.refl wr) nq) b0
          have b1 := cell_later (below_drewN (Ext.refl wr) nq) b1
          generalize wr.drewN nq = wz at *
          have r0 := blk_cell (blk_ext HR.out hEz) (i := 0) rfl
          have r1 := blk_cell (blk_ext HR.out hEz) (i := 1) rfl
          have f1 := blk_free (blk_ext HR.out hEz) 0
          have hRS := blk_set (i := 0) (blk_ext HR.out hEz) (.slice none 0 0)
          have r2 := blk_cell hRS (i := 1) rfl
          have f2 := blk_free hRS 1
          clear hRS
          go_wp2
          have hS2 := blk_set (i := 1) (blk_set (i := 0) (blk_ext HR.out hEz) (.slice none 0 0)) (.slice av m cv)
          have z0 := blk_cell hS2 (i := 0) (v := .slice none 0 0) (by simp)
          have z1 := blk_cell hS2 (i := 1) (v := .slice av m cv) (by simp)
          have hk := (hOz.set (p := ⟨w.heap.size + 1, 0, none⟩) (.inl (show w.heap.size + 1 < W1.heap.size by omega)) (.slice none 0 0)).set (p := ⟨w.heap.size + 1, 1, none⟩) (.inl (show w.heap.size + 1 < W1.heap.size by omega)) (.slice av m cv)
          refine bodyPost_ret (v := .tuple #[.agg #[.slice none 0 0, .slice av m cv], .bool true, .int .i64 0]) (by simp [results, Try.results10, go_sem, z0, z1]) rfl ⟨_, _, rfl, ?_, ?_⟩
          · rw [HFU.out, ← HFO.out, hfs]
            exact FrSt.ofD (Reads.nil _ _) rfl hk (by have := HSZ.out; omega)
          · exact ext_st (ext_st (HX1.out.trans hEz) (by show w.heap.size ≤ w.heap.size + 1; omega) _) (by show w.heap.size ≤ w.heap.size + 1; omega) _
        · obtain ⟨j, hj⟩ : ∃ j, tt.length = j := ⟨_, rfl⟩
          have hmj : m = j + 2 := by rw [← hm2, ← hj]; simp
          obtain ⟨aq, cq, cq1, iq⟩ := HCL.out j (by simp; omega)
          obtain ⟨ar', cr', cr1, ir⟩ := HCL.out (j + 1) (by simp; omega)
          have eq1 : (rr :: qq :: tt).reverse[j]'(by simp; omega) = qq := by simp [hj]
          have eq2 : (rr :: qq :: tt).reverse[j + 1]'(by simp; omega) = rr := by simp [hj]
          have eq3 : (rr :: qq :: tt).reverse.take j = tt.reverse := by
            rw [List.reverse_cons, List.reverse_cons, List.append_assoc]
            exact List.take_left' (by simp [hj])
          have eq4 : m = (rr :: qq :: tt).reverse.length := by rw [hmj]; simp [hj]
          have hOc := HOO.out
          obtain ⟨vs0, _, hOw0, _⟩ := hOc
          obtain ⟨_, _, e0, hrw0⟩ := hOw0.row
          simp only [Value.slice.injEq] at e0
          have hcv : m ≤ cv := by have := hrw0.le; omega
          have HLT := Lib.hid fun b hb => (hOw0.lt b hb).2
          rw [eq1] at cq1 iq
          rw [eq2] at cr1 ir
          have hsl : qq.length + rr.length ≤ 1000 := by
            have := HSU.out
            simp only [List.map_cons, List.sum_cons] at this
            omega
          have HM := Lib.hid fun wx (hx : Ext wr wx) => merge_any _ _ qq rr wx (iq.ext hx) (ir.ext hx) (by omega) (HUU.out qq (by simp)) (HUU.out rr (by simp))
          have HE3 := Lib.hid eq3
          have HE4 := Lib.hid eq4
          have HJ := Lib.hid hj
          have HMJ := Lib.hid hmj
          obtain rfl := HAA.out (by omega)
          obtain ⟨j1, hj1⟩ : ∃ j1, j + 1 = j1 := ⟨_, rfl⟩
          rw [hj1] at cr1
          have t1 : IntKind.i64.wrap ((m : Int) - 1) = (j1 : Int) := (IntWalk.i64_in _ (by omega)).trans (by omega)
          have t2 : IntKind.i64.wrap ((m : Int) - 2) = (j : Int) := (IntWalk.i64_in _ (by omega)).trans (by omega)
          have u1 : (j1 : Int) < (m : Int) := by omega
          have u2 : (j : Int) < (m : Int) := by omega
          have u3 : (0 : Int) ≤ (j1 : Int) := by omega
          have u4 : (0 : Int) ≤ (j : Int) := by omega
          have u5 : (j : Int) ≤ (cv : Int) := by omega
          have u6 : j < m := by omega
          have u7 : j1 < m := by omega
          have k0 : 1 < m := by omega
          have k1 : decide ((1 : Int) < (m : Int)) = true := by rw [decide_eq_true_eq]; omega
          have k1' : decide (1 < m) = true := by rw [decide_eq_true_eq]; omega
          have HJ1 := Lib.hid hj1
          clear eq1 eq2 eq3 eq4 hj hj1 hmj hm2 iq ir e0 hrw0 hOw0
          by_cases hqr : qq.length ≤ rr.length
          · have d1 : decide ((qq.length : Int) ≤ (rr.length : Int)) = true := by rw [decide_eq_true_eq]; omega
            have d1' : decide (qq.length ≤ rr.length) = true := by rw [decide_eq_true_eq]; omega
            have HFS := Lib.hid (show fold (rr :: qq :: tt) = fold (sortL (qq ++ rr) :: tt) by rw [fold, if_pos hqr])
            obtain ⟨lq, hlq⟩ : ∃ x, qq.length = x := ⟨_, rfl⟩
            obtain ⟨lr, hlr⟩ : ∃ x, rr.length = x := ⟨_, rfl⟩
            rw [hlq] at cq1 d1 d1' HM hsl hqr
            rw [hlr] at cr1 d1 d1' HM hsl hqr
            have HLQ := Lib.hid hlq
            have HLR := Lib.hid hlr
            clear hlq hlr
            go_upto_region 16 with fail
            go_quiet (fail)
            rename_i nq
            have hEz := below_drewN (Ext.refl wr) nq
            have b0 := cell_later hEz b0
            have b1 := cell_later hEz b1
            have cq1 := cell_later hEz cq1
            have cr1 := cell_later hEz cr1
            have HEZ := Lib.hid hEz
            have hzs : (wr.drewN nq).heap.size = wr.heap.size := rfl
            clear hEz k1 k1' d1 d1'
            go_upto_region 18 with fail
            generalize wr.drewN nq = wz at *
            go_cut [11] (fun s11 wx => ∃ a5 c5, s11 = .slice a5 (qq ++ rr).length c5 ∧ wx.ownsRow wr.heap.size 3 1 (.slice a5 (qq ++ rr).length c5) (qq ++ rr).length ((sortL (qq ++ rr)).map (.int .i64)) ∧ Ext wr wx)
            case first =>
              go_region_law (first
                | (go_simp
                   go_at_call 23
                   refine (HM.out _ (Below.drew HEZ.out)).mono ?_
                   rintro e w5 ⟨v5, rfl, ho5, hE5⟩
                   obtain ⟨a5, c5, rfl, hrw5⟩ := id ho5.row
                   have HO5 := Lib.hid ho5
                   have HE5 := Lib.hid (Ext.trans (Below.drew HEZ.out) hE5)
                   clear ho5 hE5 hrw5))
              all_goals
                go_wp2_with fail
                go_meet
                exact ⟨a5, c5, by first | rfl | simp, own_down HO5.out (Below.drew HEZ.out).size, HE5.out⟩
            case rest =>
              obtain ⟨a5, c5, rfl, ho5, hE5⟩ := hcut
              have hHO := HOO.out
              rw [HE4.out] at hHO
              have hT := (hHO.ext hE5).take rfl j (by rw [← HE4.out]; omega)
              rw [HE3.out] at hT
              obtain ⟨vs, hEa, hOw, hAp, hFa, hVF⟩ := hT
              have htl : tt.reverse.length = j := by rw [List.length_reverse, HJ.out]
              rw [htl] at hOw
              have hLp : ∀ b, (Value.slice (some ⟨bR, oR, none⟩) j cv).ownBlock = some b → b < wr.heap.size := fun b hb => HLT.out b hb
              have hBc := blk_ext HBB.out hE5
              have b1 := blk_cell hBc (i := 1) rfl
              have g1 := blk_free hBc 1
              have HO5 := Lib.hid ho5
              have HE5 := Lib.hid hE5
              have HEA := Lib.hid hEa
              have HOW9 := Lib.hid hOw
              have HAP := Lib.hid hAp
              have HFA := Lib.hid hFa
              have HVF := Lib.hid hVF
              have HLP := Lib.hid hLp
              have HBC := Lib.hid hBc
              have hs5 := hE5.size
              have hsr := hE.size
              have hDr := blk_lt HBB.out
              obtain ⟨l5, hl5⟩ : ∃ x, (qq ++ rr).length = x := ⟨_, rfl⟩
              rw [hl5] at HO5 ⊢
              have HL5 := Lib.hid hl5
              clear hHO hEa hOw hAp hFa hVF htl hLp hBc ho5 hE5 cq1 cr1 b0 hl5 HM
              go_wp2_with (at_builtin; go_must (refine wpl_append rfl rfl Try.slLists W1.heap.size rfl (own_ext HOW9.out (ext_al (Ext.refl wc) _)) rfl (Row.one _ _ _) (by simp [Value.oneCell']) (by unfold maxLen; omega) (by omega) (by simp; omega) ?_))
              intro v9 w9 hown9 hg9 hb9 _
              obtain ⟨a9', c9', rfl, _⟩ := id hown9.row
              have hA9 := ext_al (Ext.refl wc) (Obj.cells #[.slice a5 l5 c5] 22)
              have hD9 := blk_grown (blk_ext HBC.out hA9) hg9 (fun e => HVF.out e.symm)
              have HI5 := Lib.hid (show Ints wc (.slice a5 l5 c5) (sortL (qq ++ rr)) from by
                unfold Ints
                have h := HO5.out.reads
                rw [sortL_len, HL5.out]
                exact h)
              have HP9 := Lib.hid (OwnD.push (F := D) (base := W1.heap.size) (HEA.out.ext hA9) HAP.out HFA.out HVF.out (by simp; omega) (HI5.out.ext hA9) (.inr fun b h1 h2 => by have := HLP.out b h1; have := (HO5.out.lt b h2).1; omega) (fun b hb => by have := (HO5.out.lt b hb).1; omega) (by rw [HSZ.out]; exact hown9) hg9 (by rcases hb9 with h | h; exact .inl h; right; rw [h, World.size_alloc]))
              have HX9 := Lib.hid (show Ext W1 w9 from Below.grown (hE.trans (HE5.out.trans hA9)) hg9 (hE.trans (HE5.out.trans hA9)).size (fun b hb => by have := (HOW9.out.lt b hb).1; omega))
              have y1 := blk_cell hD9 (i := 1) rfl
              have y2 := blk_free hD9 1
              have hDa := blk_set (i := 1) hD9 (.slice a9' (j + 1) c9')
              have e1 : ∀ x y z : Value, (#[x, y].setIfInBounds 1 z) = #[x, z] := fun x y z => by simp
              rw [e1] at hDa
              have HDA := Lib.hid hDa
              have HPA := Lib.hid (HP9.out.set (p := ⟨D, 1, none⟩) (.inr rfl) (.slice a9' (j + 1) c9'))
              have HXA := Lib.hid (ext_st HX9.out (p := ⟨D, 1, none⟩) (by show W1.heap.size ≤ D; omega) (.slice a9' (j + 1) c9'))
              clear hown9 hg9 hb9 hA9 hD9 hDa e1 HP9
              go_wp2_with fail
              have hst : (sortL (qq ++ rr) :: tt).length = j1 := by rw [List.length_cons, HJ.out, HJ1.out]
              go_roundg j1
              case measure => have := HGK.out; have := HMM.out; have := HMJ.out; have := HJ1.out; omega
              case rel => exact ⟨sortL (qq ++ rr) :: tt, a9', c9', hst, by rw [hst], by rw [hst, ← HJ1.out]; exact HDA.out, by rw [hst, ← HJ1.out, List.reverse_cons]; exact HPA.out, HXA.out, by rw [← HFS.out, HFO.out], by have := HSU.out; simp only [List.map_cons, List.sum_cons, sortL_len, List.length_append] at *; omega, by rw [hst]; omega, fun r hr => by
                rcases List.mem_cons.1 hr with rfl | hr
                · exact sortL_up _
                · exact HUU.out r (by simp [hr])⟩
          · have d1 : decide ((qq.length : Int) ≤ (rr.length : Int)) = false := by rw [decide_eq_false_iff_not]; omega
            have d1' : decide (qq.length ≤ rr.length) = false := by rw [decide_eq_false_iff_not]; omega
            have hfs : fold (rr :: qq :: tt) = rr :: qq :: tt := by rw [fold, if_neg hqr]
            clear HM
            go_upto_region 16 with fail
            go_quiet (fail)
            rename_i nq
            have hEz := below_drewN hE nq
            have hOz := HOO.out.ext (below_drewN (Ext.refl wr) nq)
            have b0 := cell_later (below_drewN (Ext.refl wr) nq) b0
            have b1 := cell_later (below_drewN (Ext.refl wr) nq) b1
            generalize wr.drewN nq = wz at *
            have r0 := blk_cell (blk_ext HR.out hEz) (i := 0) rfl
            have r1 := blk_cell (blk_ext HR.out hEz) (i := 1) rfl
            have f1 := blk_free (blk_ext HR.out hEz) 0
            have hRS := blk_set (i := 0) (blk_ext HR.out hEz) (.slice none 0 0)
            have r2 := blk_cell hRS (i := 1) rfl
            have f2 := blk_free hRS 1
            clear hRS
            go_wp2
            have hS2 := blk_set (i := 1) (blk_set (i := 0) (blk_ext HR.out hEz) (.slice none 0 0)) (.slice (some ⟨bR, oR, none⟩) m cv)
            have z0 := blk_cell hS2 (i := 0) (v := .slice none 0 0) (by simp)
            have z1 := blk_cell hS2 (i := 1) (v := .slice (some ⟨bR, oR, none⟩) m cv) (by simp)
            have hk := (hOz.set (p := ⟨w.heap.size + 1, 0, none⟩) (.inl (show w.heap.size + 1 < W1.heap.size by omega)) (.slice none 0 0)).set (p := ⟨w.heap.size + 1, 1, none⟩) (.inl (show w.heap.size + 1 < W1.heap.size by omega)) (.slice (some ⟨bR, oR, none⟩) m cv)
            refine bodyPost_ret (v := .tuple #[.agg #[.slice none 0 0, .slice (some ⟨bR, oR, none⟩) m cv], .bool true, .int .i64 0]) (by simp [results, Try.results10, go_sem, z0, z1]) rfl ⟨_, _, rfl, ?_, ?_⟩
            · rw [HFU.out, ← HFO.out, hfs]
              exact FrSt.ofD (Reads.nil _ _) rfl hk (by have := HSZ.out; omega)
            · exact ext_st (ext_st (HX1.out.trans hEz) (by show w.heap.size ≤ w.heap.size + 1; omega) _) (by show w.heap.size ≤ w.heap.size + 1; omega) _

end Go.Proofs.Ytmacgcaehfjoiaa
