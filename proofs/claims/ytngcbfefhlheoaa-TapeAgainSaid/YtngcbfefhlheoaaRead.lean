/- The contract of tape.Read. -/
import Derived.Test.YtngcbfefhlheoaaSame2
namespace Go.Proofs.Ytngcbfefhlheoaa
open Go.RowKit

/-- .. no value of which lies below a block. -/
def LowL (w : World) (base : Nat) (v : Value) (ll : List (List Int)) : Prop := ∃ vs, Each w vs ll ∧ w.ownsRow base 27 1 v ll.length vs ∧ Apart v vs ll ∧ ∀ u ∈ vs, ∀ b, u.ownBlock = some b → base ≤ b

theorem LowL.own {w : World} {base : Nat} {v : Value} {ll : List (List Int)} (h : LowL w base v ll) : OwnL w base v ll := by
  obtain ⟨vs, h1, h2, h3, _⟩ := h
  exact ⟨vs, h1, h2, h3⟩
theorem LowL.ext {w w' : World} {base : Nat} {v : Value} {ll : List (List Int)} (h : LowL w base v ll) (hb : Ext w w') : LowL w' base v ll := by
  obtain ⟨vs, h1, h2, h3, h4⟩ := h
  exact ⟨vs, h1.ext hb, own_ext h2 hb, h3, h4⟩
theorem LowL.nil (w : World) (base : Nat) : LowL w base (.slice none 0 0) [] := ⟨[], ⟨rfl, by intro i x l hx; simp at hx⟩, World.ownsRow_nil _ _ _ _, (by intro i x l hx; simp at hx), by simp⟩

theorem LowL.down {w : World} {base base' : Nat} {v : Value} {ll : List (List Int)} (h : LowL w base v ll) (hb : base' ≤ base) : LowL w base' v ll := by
  obtain ⟨vs, h1, h2, h3, h4⟩ := h
  exact ⟨vs, h1, own_down h2 hb, h3, fun u hu b e => by have := h4 u hu b e; omega⟩
theorem LowL.lists {w : World} {base : Nat} {v : Value} {ll : List (List Int)} (h : LowL w base v ll) : Lists w v ll := h.own.lists

theorem bytes_nil0 (w : World) (b off : Nat) : Bytes w (.slice (some ⟨b, off, none⟩) 0 0) [] :=
  ⟨some ⟨b, off, none⟩, 0, rfl, rfl, Nat.le_refl _, by unfold maxLen; omega, b, off, (by intro h; cases h), (by intro h; simp at h), by intro j u h; simp at h⟩

theorem readF_count : ∀ (f : Nat) (b : List UInt8), 8 * (readF f b).1.length ≤ (readF f b).2
  | 0, b => by simp [readF]
  | f + 1, b => by
    unfold readF
    cases hf : firstL b with
    | none => simp
    | some p =>
      obtain ⟨r, n⟩ := p
      have := firstL_size hf
      have ih := readF_count f (b.drop n)
      simp only [List.length_cons]
      omega

theorem readL_count (b : List UInt8) : 8 * (readL b).1.length ≤ b.length := Nat.le_trans (readF_count _ _) (readL_le _ _)

theorem readL_le' (b : List UInt8) : (readL b).2 ≤ b.length := readL_le _ _

set_option maxRecDepth 100000 in
set_option maxHeartbeats 4000000 in
theorem read_any (v : Value) (b : List UInt8) (s : Int) (w : World) (h : Bytes w v b) (hl : b.length ≤ 1048576) (h0 : 0 ≤ s) (h1 : s ≤ b.length) :
    Calls Try.prog 15 #[.agg #[v, .int .i64 s]] w fun e w' => ∃ v', e = .returned (.tuple #[v', .int .i64 ((readL b).2 : Nat), .int .i64 0]) ∧ LowL w' w.heap.size v' (readL b).1 ∧ Ext w w' := by
  obtain ⟨a, cap, rfl, hr⟩ := h
  have hB : Bytes w (.slice a b.length cap) b := ⟨_, _, rfl, hr⟩
  clear hr
  go_enter Try.func15, Try.ntmps15
  go_wp2_with fail
  refine (open_good _ b s _ (hB.ext ((Ext.refl w).alloc (Nat.le_refl _) _)) hl h0 h1).mono ?_
  rintro e w1 ⟨v', rfl, hown, hext⟩
  obtain ⟨ax, cx, rfl, hrx⟩ := hown.row
  have hE1 : Ext w w1 := Ext.trans ((Ext.refl w).alloc (Nat.le_refl _) _) hext
  have hcx := hrx.le
  have hcm := hrx.max
  unfold maxLen at hcm
  have hcx2 : cx ≤ 9223372036854775807 := by omega
  have hBx : Bytes (w1.alloc (Obj.cells #[.slice ax b.length cx, .int .i64 s] 30)) (.slice ax b.length cx) b := (show Bytes w1 (.slice ax b.length cx) b from ⟨_, _, rfl, hrx⟩).ext ((Ext.refl w1).alloc (Nat.le_refl _) _)
  have x0 : (w1.alloc (Obj.cells #[.slice ax b.length cx, .int .i64 s] 30)).cell? ⟨w1.heap.size, 0, none⟩ = some (.slice ax b.length cx) := by simp [go_sem]
  have hE2 : Ext w (w1.alloc (Obj.cells #[.slice ax b.length cx, .int .i64 s] 30)) := hE1.alloc hE1.size _
  have hax : (ax = none ∧ cx = 0 ∧ b.length = 0) ∨ ∃ g, ax = some ⟨g, 0, none⟩ := by
    rcases hown.2 with ⟨hv, _⟩ | ⟨g, cap', cur, hv, _⟩
    · simp only [Value.slice.injEq] at hv
      exact .inl ⟨hv.1, hv.2.2, hv.2.1⟩
    · simp only [Value.slice.injEq] at hv
      exact .inr ⟨g, hv.1⟩
  clear hown hext hB hrx hE1 hcm
  go_wp2_with fail
  generalize w1.alloc (Obj.cells #[.slice ax b.length cx, .int .i64 s] 30) = W2 at *
  generalize w1.heap.size = bx at *
  have HBX := Lib.hid hBx
  have HX0 := Lib.hid x0
  have HE2 := Lib.hid hE2
  have hsz := hE2.size
  have hle := readL_le' b
  clear hBx x0 hE2
  go_loopw [7, 8] (fun x y wr => ∃ (rs : List (List Int)) (k : Nat), y = .int .i64 (k : Int) ∧ k ≤ b.length ∧ LowL wr W2.heap.size x rs ∧ readL b = (rs ++ (readL (b.drop k)).1, k + (readL (b.drop k)).2) ∧ Ext W2 wr) (fun _ y _ => b.length + 1 - (intOf y).toNat)
  case atStart => exact ⟨[], 0, by go_num, by omega, LowL.nil _ _, by simp, Ext.refl _⟩
  case round =>
    obtain ⟨rs, k, rfl, hk, hL, hrd, hext⟩ := hrel
    have x0 := cell_later hext HX0.out
    have HL := Lib.hid hL
    have HRD := Lib.hid hrd
    have HEX := Lib.hid hext
    have hks : (b.drop k).length ≤ 1048576 := by simp; omega
    have hkc : k ≤ cx := by omega
    clear hL hrd hext
    have hcall := Lib.hid fun sv (h : Bytes wr sv (b.drop k)) => first_any sv _ wr h hks
    have hxs := HEX.out.size
    have hend : ∀ (hdn : firstL (b.drop k) = none), readL b = (rs, k) := fun hdn => by rw [HRD.out, readL_none hdn]; simp
    have HEND := Lib.hid hend
    clear hend
    rcases hax with ⟨rfl, rfl, hb0⟩ | ⟨g, rfl⟩
    · obtain rfl : k = 0 := by omega
      have hdn : b.drop 0 = [] := by rw [List.drop_zero]; exact List.eq_nil_of_length_eq_zero hb0
      rw [hdn] at hcall HEND
      have HE := Lib.hid (HEND.out firstL_nil)
      rw [firstL_nil] at hcall
      clear hdn HEND
      simp only [hb0] at x0
      go_wp2_with fail
      refine (hcall.out _ (Reads.nil _ _)).mono ?_
      rintro e w3 ⟨hEf, rfl⟩
      go_wp2
      go_ret3
      rw [HE.out]
      exact ⟨_, rfl, (HL.out.ext hEf).down hsz, HE2.out.trans (HEX.out.trans hEf)⟩
    · by_cases hc : cx = k
      · subst hc
        have hdn : b.drop cx = [] := List.drop_eq_nil_of_le (by omega)
        rw [hdn] at hcall HEND
        have HE := Lib.hid (HEND.out firstL_nil)
        rw [firstL_nil] at hcall
        have hbc : b.length = cx := by omega
        clear hdn HEND
        simp only [hbc] at x0
        go_wp2_with fail
        refine (hcall.out _ (bytes_nil0 _ _ _)).mono ?_
        rintro e w3 ⟨hEf, rfl⟩
        go_wp2
        go_ret3
        rw [HE.out]
        exact ⟨_, rfl, (HL.out.ext hEf).down hsz, HE2.out.trans (HEX.out.trans hEf)⟩
      · have hC2 := Lib.hid (hcall.out _ (bytes_drop (HBX.out.ext HEX.out) k hk))
        simp only [Nat.zero_add] at hC2
        clear hcall
        rcases hf : firstL (b.drop k) with _ | ⟨r, n⟩
        · rw [hf] at hC2
          have HE := Lib.hid (HEND.out hf)
          clear HEND hf
          go_wp2_with fail
          refine hC2.out.mono ?_
          rintro e w3 ⟨hEf, rfl⟩
          go_wp2
          go_ret3
          rw [HE.out]
          exact ⟨_, rfl, (HL.out.ext hEf).down hsz, HE2.out.trans (HEX.out.trans hEf)⟩
        · rw [hf] at hC2
          have hfs := firstL_size hf
          have hlen : (b.drop k).length = b.length - k := by simp
          have hkn : k + n ≤ b.length := by omega
          have hn8 : 8 ≤ n := hfs.1
          have hrs := readL_some hf
          have hnew : readL b = ((rs ++ [r]) ++ (readL (b.drop (k + n))).1, (k + n) + (readL (b.drop (k + n))).2) := by
            rw [HRD.out, hrs, List.drop_drop]
            simp only [List.append_assoc, List.cons_append, List.nil_append, Prod.mk.injEq, true_and]
            omega
          have HNEW := Lib.hid hnew
          clear hf hfs hlen hrs hnew HEND
          go_wp2_with fail
          refine hC2.out.mono ?_
          rintro e w3 ⟨hEf, v3, rfl, hown3⟩
          obtain ⟨a3, c3, rfl, hr3⟩ := hown3.row
          have hI : Ints w3 (.slice a3 r.length c3) r := ⟨_, _, rfl, hr3⟩
          have hL3 := HL.out.ext hEf
          obtain ⟨vs, hEa, hownL, hAp, hLw⟩ := hL3
          have HLW := Lib.hid hLw
          have h3lo : ∀ b, (Value.slice a3 r.length c3).ownBlock = some b → W2.heap.size ≤ b := fun b hb => by have := (hown3.lt b hb).1; omega
          have H3LO := Lib.hid h3lo
          clear hLw h3lo
          have hxa : r = [] ∨ ∀ bb, u7.ownBlock = some bb → (Value.slice a3 r.length c3).ownBlock ≠ some bb := .inr fun bb h1 h2 => by
            have k1 := (hown3.lt _ h2).1
            obtain ⟨vs0, _, ho0, _, _⟩ := HL.out
            have k2 := (ho0.lt _ h1).2
            omega
          have hext3 := HEX.out.trans hEf
          have hrsl : rs.length ≤ 1000000 := by
            have h8 := readL_count b
            rw [HRD.out, List.length_append] at h8
            omega
          have h2a := hownL.alloc (Obj.cells #[.slice a3 r.length c3] 27)
          have HEa := Lib.hid hEa
          have HOL := Lib.hid hownL
          obtain ⟨ay, cy, rfl, _⟩ := hownL.row
          clear hown3 hr3 hEa hownL
          go_wp2_with (at_builtin; go_must (refine wpl_append rfl rfl Try.slLists W2.heap.size rfl h2a rfl (Row.one _ _ _) (by simp [Value.oneCell']) (by unfold maxLen; omega) (by omega) (by simp; have := hext3.size; omega) ?_))
          intro v4 w4 hown4 hg4 hb4 _
          have hE4 : Ext W2 w4 := (hext3.alloc hext3.size _).grown hg4 (by simp; have := hext3.size; omega) (fun i hi => (HOL.out.lt i hi).1)
          have hAl : Ext w3 (w3.alloc (Obj.cells #[.slice a3 r.length c3] 27)) := (Ext.refl w3).alloc (Nat.le_refl _) _
          have hp4 := snoc_parts (HEa.out.ext hAl) hAp (hI.ext hAl) hxa hown4 hg4 (by simpa using hb4)
          have hL4 : LowL w4 W2.heap.size v4 (rs ++ [r]) := ⟨_, hp4.1, hp4.2.1, hp4.2.2, fun u hu b e => by
            rcases List.mem_append.1 hu with hu | hu
            · exact HLW.out u hu b e
            · simp only [List.mem_singleton] at hu
              subst hu
              exact H3LO.out b e⟩
          have HL4 := Lib.hid hL4
          have HE4 := Lib.hid hE4
          clear hp4 hown4 hg4 hb4 hE4 hAl hL4 h2a hext3 hxa hAp hI
          go_wp2_with fail
          go_roundw
          case rel => exact ⟨rs ++ [r], k + n, by go_num, hkn, HL4.out, HNEW.out, HE4.out⟩
          case measure => simp [intOf]; omega

end Go.Proofs.Ytngcbfefhlheoaa
