/- The contract of tape.first. -/
import Derived.Test.YtngcbfefhlheoaaLists
import Derived.Test.YtngcbfefhlheoaaMem
namespace Go.Proofs.Ytngcbfefhlheoaa
open Go.RowKit

theorem Row.drop {w : World} {sz : Nat} {b off n cap : Nat} {xs : List Value} (h : Row w sz (some ⟨b, off, none⟩) n cap xs) (k : Nat) (hk : k ≤ n) : Row w sz (some ⟨b, off + k * sz, none⟩) (n - k) (cap - k) (xs.drop (k * sz)) := by
  refine ⟨?_, by have := h.le; omega, by have := h.max; omega, b, off + k * sz, (by intro h; cases h), fun _ => rfl, fun j u hu => ?_⟩
  · rw [List.length_drop, h.len, Nat.sub_mul]
  · rw [List.getElem?_drop] at hu
    have := h.cells _ _ hu
    rwa [← Nat.add_assoc] at this

/-- The bytes from a place on; up to a place. -/
theorem bytes_drop {w : World} {b off n cap : Nat} {l : List UInt8} (h : Bytes w (.slice (some ⟨b, off, none⟩) n cap) l) (k : Nat) (hk : k ≤ n) : Bytes w (.slice (some ⟨b, off + k, none⟩) (n - k) (cap - k)) (l.drop k) := by
  obtain ⟨a, c, e, hr⟩ := h
  simp only [Value.slice.injEq] at e
  obtain ⟨rfl, rfl, rfl⟩ := e
  have := hr.drop k hk
  rw [Nat.mul_one] at this
  refine ⟨_, _, by rw [List.length_drop], ?_⟩
  rw [List.length_drop, List.map_drop]
  exact this

theorem bytes_take {w : World} {a : Option Addr} {n cap : Nat} {l : List UInt8} (h : Bytes w (.slice a n cap) l) (k : Nat) (hk : k ≤ n) : Bytes w (.slice a k cap) (l.take k) := by
  obtain ⟨a', c, e, hr⟩ := h
  simp only [Value.slice.injEq] at e
  obtain ⟨rfl, rfl, rfl⟩ := e
  have := hr.take k hk
  rw [Nat.mul_one] at this
  refine ⟨_, _, by rw [List.length_take, Nat.min_eq_left hk], ?_⟩
  rw [List.length_take, Nat.min_eq_left hk, List.map_take]
  exact this

/-- .. of a capacity that is cut, too. -/
theorem bytes_cap {w : World} {a : Option Addr} {n cap : Nat} {l : List UInt8} (h : Bytes w (.slice a n cap) l) (k : Nat) (hk : n ≤ k) (hk2 : k ≤ cap) : Bytes w (.slice a n k) l := by
  obtain ⟨a', c, e, hr⟩ := h
  simp only [Value.slice.injEq] at e
  obtain ⟨rfl, rfl, rfl⟩ := e
  obtain ⟨b, off, h1, h2, h3⟩ := hr.lie
  exact ⟨a, k, rfl, hr.len, hk, Nat.le_trans hk2 hr.max, b, off, fun e => by have := h1 e; omega, h2, h3⟩

/-! A region's lexical walk behind a structure: 'refine' and 'apply' lay the goal open to see whether it is a function, and operations that are not wanted make that dear. -/
structure Shut (p : Prop) : Prop where
  out : p

theorem hq_step {P : Program} {ops : Array Oper} {C : World → Prop} {Q : Act → Prop} {a : Act} {o : Oper} {rest : List Oper}
    (h : ∀ K : Act → Prop, (∀ a, Shut (wpQuiet P ops C Q rest a) → K a) → if Region.wanted o (yielded ops a.tmps) then o.quiet P a C K else K (a.put o.dst undef)) : Shut (wpQuiet P ops C Q (o :: rest) a) :=
  ⟨wpQuiet_step fun K hK => h K fun a ha => hK a ha.out⟩

theorem hq_nil {P : Program} {ops : Array Oper} {C : World → Prop} {Q : Act → Prop} {a : Act} (h : Q a) : Shut (wpQuiet P ops C Q [] a) := ⟨wpQuiet_nil h⟩

theorem drew_more {w x : World} {n : Nat} (h : ∃ k, x = (w.drewN n).drewN k) : ∃ k, x = w.drewN k := by
  obtain ⟨k, rfl⟩ := h
  exact ⟨n + k, by rw [World.drewN_drewN]⟩

def FirstPost (w : World) (r : Option (List Int × Nat)) (e : Ending) (w' : World) : Prop :=
  Ext w w' ∧ match r with
    | none => e = .returned (.tuple #[.slice none 0 0, .int .i64 0, .bool false])
    | some (l, n) => ∃ v', e = .returned (.tuple #[v', .int .i64 n, .bool true]) ∧ w'.ownsRow w.heap.size 3 1 v' l.length (l.map (.int .i64))

theorem numsL_succ (b : List UInt8) (k : Nat) : numsL b (k + 1) = numsL b k ++ [get4 (b.drop (4 + 4 * k))] := by
  simp [numsL, List.range_succ]

set_option maxRecDepth 100000 in
set_option maxHeartbeats 4000000 in
theorem first_any (v : Value) (b : List UInt8) (w : World) (h : Bytes w v b) (hl : b.length ≤ 1048576) :
    Calls Try.prog 23 #[v] w (FirstPost w (firstL b)) := by
  by_cases h4 : b.length < 4
  · have hf : firstL b = none := by unfold firstL; rw [if_pos (.inl h4)]
    rw [hf]
    obtain ⟨a, cap, rfl, hr⟩ := h
    clear hr hf
    go_enter Try.func23, Try.ntmps23
    go_wp2
    go_ret3
    exact ⟨Ext.refl _, rfl⟩
  · obtain ⟨N, hN⟩ : ∃ N : Nat, get4 b = (N : Int) := ⟨(get4 b).toNat, by have := get4_nonneg b; omega⟩
    have hNb : (N : Int) < 4294967296 := by have := get4_nonneg b; omega
    have hdef : firstL b = if b.length < 4 ∨ 4000 < (N : Int) ∨ b.length < 4 + 4 * N + 4 ∨ get4 (b.drop (4 + 4 * N)) ≠ sumL (b.take (4 + 4 * N)) ∨ (∃ k ∈ numsL b N, 2147483647 < k) then none else some (numsL b N, 4 + 4 * N + 4) := by
      unfold firstL; rw [hN, Int.toNat_natCast]
    have HG := Lib.hid (get_any v b w h (by omega))
    rw [hN] at HG
    obtain ⟨a, cap, rfl, hr⟩ := h
    have hB : Bytes w (.slice a b.length cap) b := ⟨_, _, rfl, hr⟩
    have hcap := hr.le
    have hcapm := hr.max
    unfold maxLen at hcapm
    have hcap2 : cap ≤ 9223372036854775807 := by omega
    clear hcapm
    have hw1 : IntKind.i64.wrap (4 * (N : Int)) = 4 * (N : Int) := IntWalk.i64_in _ (by omega)
    have hw2 : IntKind.i64.wrap (4 + 4 * (N : Int)) = 4 + 4 * (N : Int) := IntWalk.i64_in _ (by omega)
    have HW1 := Lib.hid hw1
    have HW2 := Lib.hid hw2
    clear hNb hw1 hw2
    obtain ⟨blk, off, ha⟩ : ∃ blk off, a = some ⟨blk, off, none⟩ := by
      obtain ⟨bb, oo, h1, h2, _⟩ := hr.lie
      exact ⟨bb, oo, h2 (by simp; omega)⟩
    subst ha
    have HB := Lib.hid hB
    have HD := Lib.hid hdef
    clear hr hdef hN hB
    by_cases h4000 : 4000 < (N : Int)
    · have hf : firstL b = none := by rw [HD.out, if_pos (.inr (.inl h4000))]
      rw [hf]
      have hw1 := HW1.out
      have hw2 := HW2.out
      clear hf HD
      go_enter Try.func23, Try.ntmps23
      go_wp2_with fail
      refine HG.out.mono ?_
      rintro e w' ⟨rfl, m, rfl⟩
      go_wp2_with fail
      go_quiet (fail)
      go_wp2
      go_ret3
      exact ⟨below_drewN (below_drewN (Ext.refl _) _) _, rfl⟩
    · have hN4 : N ≤ 4000 := by omega
      clear HW1 HW2
      by_cases hend : b.length < 4 + 4 * N + 4
      · have hf : firstL b = none := by rw [HD.out, if_pos (.inr (.inr (.inl hend)))]
        rw [hf]
        have hd1 : decide ((4000 : Int) < (N : Int)) = false := decide_eq_false h4000
        have hd2 : decide ((b.length : Int) < IntKind.i64.wrap (4 + 4 * (N : Int) + 4)) = true := by rw [IntWalk.i64_in _ (by omega), decide_eq_true_iff]; omega
        have HD1 := Lib.hid hd1
        have HD2 := Lib.hid hd2
        clear hf HD HB hend h4000 hd1 hd2
        go_enter Try.func23, Try.ntmps23
        go_wp2_with fail
        refine HG.out.mono ?_
        rintro e w' ⟨rfl, m, rfl⟩
        go_wp2_with fail
        have hd1 := HD1.out
        have hd2 := HD2.out
        clear hl hcap hcap2 h4 HG
        refine wp_region_quiet_lit (by kernel_rfl) (by kernel_rfl) (Shut.out ?_)
        repeat (refine hq_step (fun K hK => ?_); go_simp; refine hK _ ?_; clear hK K)
        refine hq_nil ?_
        rintro _ ⟨nq, rfl⟩
        go_wp2
        go_ret3
        exact ⟨below_drewN (below_drewN (Ext.refl _) _) _, rfl⟩
      · have G2 := Lib.hid fun wx (hx : Ext w wx) => get_any _ _ wx ((bytes_drop HB.out (4 + 4 * N) (by omega)).ext hx) (by simp; omega)
        have S2 := Lib.hid fun wx (hx : Ext w wx) => still_of (sum_any _ _ wx ((bytes_take HB.out (4 + 4 * N) (by omega)).ext hx))
        have hgb := get4_nonneg (b.drop (4 + 4 * N))
        have hsb := sumL_bd (b.take (4 + 4 * N))
        have hle : 4 + 4 * N ≤ b.length := by omega
        have hle2 : 4 + 4 * N ≤ cap := by omega
        have hcne : ¬ cap = 4 + 4 * N := by omega
        have hd1 : decide ((4000 : Int) < (N : Int)) = false := decide_eq_false h4000
        have e4 : (4 : Int) + 4 * (N : Int) = ((4 + 4 * N : Nat) : Int) := by omega
        have hd2 : decide ((b.length : Int) < IntKind.i64.wrap (((4 + 4 * N : Nat) : Int) + 4)) = false := by rw [IntWalk.i64_in _ (by omega), decide_eq_false_iff_not]; omega
        have HD1 := Lib.hid hd1
        have HD2 := Lib.hid hd2
        clear hd1 hd2
        by_cases hsum : get4 (b.drop (4 + 4 * N)) = sumL (b.take (4 + 4 * N))
        · rw [hsum] at G2
          clear hgb
          have hs1 := hsb.1
          have hs2 := hsb.2
          have HSUM := Lib.hid hsum
          clear hsb hsum
          generalize sumL (b.take (4 + 4 * N)) = s at *
          have HND := Lib.hid hend
          have HE : ∃ E, E = 4 + 4 * N := ⟨_, rfl⟩
          obtain ⟨E, hE⟩ := HE
          have HE := Lib.hid hE
          have e5 : (4 : Int) + 4 * (N : Int) = (E : Int) := by omega
          rw [← hE] at G2 S2 HD2 hle hle2 hcne
          clear e4 hE hend h4000
          go_enter Try.func23, Try.ntmps23
          go_wp2_with fail
          refine HG.out.mono ?_
          rintro e wq ⟨rfl, hdr⟩
          have hEq : Ext w wq := by obtain ⟨m, rfl⟩ := hdr; exact below_drewN (Ext.refl _) _
          clear hdr
          go_wp2_with fail
          have hd1 := HD1.out
          have hd2 := HD2.out
          clear h4 HG
          refine wp_region_quiet_lit (by kernel_rfl) (by kernel_rfl) (Shut.out ?_)
          repeat (refine hq_step (fun K hK => ?_); go_simp; first | (refine hK _ ?_; clear hK K) | (apply Exists.intro; refine ⟨fun _ => ?_, hK _ ?_⟩; (first | (go_at_call 25; exact (G2.out _ (below_drewN hEq _)).mono (fun _ _ hz => ⟨hz.1, drew_more hz.2⟩)) | (go_at_call 10; exact Calls.quiet_of_same (S2.out _ (below_drewN hEq _)))); clear hK K))
          refine hq_nil ?_
          rintro _ ⟨nq, rfl⟩
          clear G2 S2 HD1 HD2 hd1 hd2 hcne
          go_wp2_with fail
          go_loopw [7, 8] (fun x y wr => ∃ k J : Nat, J = 4 + 4 * k ∧ k ≤ N ∧ y = .int .i64 (J : Int) ∧ wr.ownsRow w.heap.size 3 1 x k ((numsL b k).map (.int .i64)) ∧ (∀ n ∈ numsL b k, n ≤ 2147483647) ∧ Ext w wr) (fun _ y _ => (4 * N + 4 - intOf y).toNat)
          case atStart => exact ⟨0, 4, by omega, by omega, by go_num, World.ownsRow_nil _ _ _ _, by simp [numsL], below_drewN hEq _⟩
          case round =>
            obtain ⟨k, J, hJ, hk, rfl, hown, hnums, hext⟩ := hrel
            have hEE := HE.out
            have hnd := HND.out
            by_cases hlt : k < N
            · have HG2 := Lib.hid (get_any _ _ wr ((bytes_drop HB.out J (by omega)).ext hext) (by simp; omega))
              have hgb := get4_nonneg (b.drop J)
              have hmem : get4 (b.drop J) ∈ numsL b N := by
                unfold numsL
                rw [List.mem_map]
                exact ⟨k, by simpa using hlt, by rw [hJ]⟩
              have hbad : 2147483647 < get4 (b.drop J) → firstL b = none := fun h => by rw [HD.out, if_pos (.inr (.inr (.inr (.inr ⟨_, hmem, h⟩))))]
              have hsn : numsL b (k + 1) = numsL b k ++ [get4 (b.drop J)] := by rw [numsL_succ, hJ]
              have HBAD := Lib.hid hbad
              have HSN := Lib.hid hsn
              have HNU := Lib.hid hnums
              have hJb : J ≤ b.length := by omega
              have hJE : J < E := by omega
              have hJc : ¬ cap = J := by omega
              have hkl : k ≤ 4000 := by omega
              have HJ := Lib.hid hJ
              have HLT := Lib.hid hlt
              have HK := Lib.hid hk
              generalize get4 (b.drop J) = g at *
              have hg1 := hgb.1
              have hg2 : g ≤ 4294967295 := by omega
              have HN4 := Lib.hid hN4
              clear hbad hsn hnums hmem hnd hEE hgb hJ hlt hk e5 hN4
              go_wp2_with fail
              refine HG2.out.mono ?_
              rintro e w2 ⟨rfl, hdr⟩
              have hE2 : Ext wr w2 := by obtain ⟨m, rfl⟩ := hdr; exact below_drewN (Ext.refl _) _
              have hown2 := own_ext hown hE2
              have hext2 := hext.trans hE2
              have hbs := hext2.size
              clear hdr hE2 hown hext HG2
              by_cases hbg : 2147483647 < g
              · have hf := HBAD.out hbg
                have HF := Lib.hid hf
                clear hown2 hf
                go_wp2
                go_ret3
                rw [HF.out]
                exact ⟨hext2, rfl⟩
              · have hbg2 : g ≤ 2147483647 := by omega
                have H2 := Lib.hid hown2
                have h2a := hown2.alloc (Obj.cells #[.int .i64 g] 3)
                obtain ⟨ax, cx, rfl, _⟩ := hown2.row
                clear hown2
                go_wp2_with (at_builtin; go_must (refine wpl_append rfl rfl Try.slInts w.heap.size rfl h2a rfl (Row.one _ _ _) (by simp [Value.oneCell']) (by unfold maxLen; omega) (by omega) (by simp; omega) ?_))
                intro v3 w3 hown3 hg3 _ _
                have hE3 : Ext w w3 := (hext2.alloc hbs _).grown hg3 (by simp; omega) (fun i hi => (H2.out.lt i hi).1)
                have H3 := Lib.hid hown3
                have HE3 := Lib.hid hE3
                clear hown3 hg3 hE3 h2a hext2
                go_wp2_with fail
                go_roundw
                case rel => exact ⟨k + 1, J + 4, by have := HJ.out; omega, by have := HLT.out; omega, by go_num, by rw [HSN.out]; simpa using H3.out, by rw [HSN.out]; intro n hn; rcases List.mem_append.1 hn with hn | hn; (· exact HNU.out n hn); (· simp at hn; omega), HE3.out⟩
                case measure => simp [intOf]; have := HJ.out; have := HLT.out; omega
            · obtain rfl : k = N := by omega
              have hf : firstL b = some (numsL b k, 4 + 4 * k + 4) := by
                rw [HD.out, if_neg]
                simp only [not_or]
                refine ⟨by omega, by omega, hnd, fun h => h HSUM.out, ?_⟩
                rintro ⟨n, hn, h⟩
                have := hnums n hn
                omega
              have hll : (numsL b k).length = k := by simp [numsL]
              obtain rfl : J = E := by omega
              have hJb : J ≤ 20000 := by omega
              have HF := Lib.hid hf
              have HJ := Lib.hid hJ
              clear hf hnums hnd hEE hJ hk e5 hlt
              go_wp2
              go_ret3
              rw [HF.out]
              refine ⟨hext, _, ?_, by rw [hll]; exact hown⟩
              have := HJ.out
              subst this
              rfl
        · have hf : firstL b = none := by rw [HD.out, if_pos (.inr (.inr (.inr (.inl hsum))))]
          rw [hf]
          have hne : (get4 (b.drop (4 + 4 * N)) != sumL (b.take (4 + 4 * N))) = true := by rw [bne_iff_ne]; exact hsum
          generalize get4 (b.drop (4 + 4 * N)) = g at *
          generalize sumL (b.take (4 + 4 * N)) = s at *
          clear hf HD hsum hgb hsb hend h4000
          generalize 4 + 4 * N = E at *
          go_enter Try.func23, Try.ntmps23
          go_wp2_with fail
          refine HG.out.mono ?_
          rintro e wq ⟨rfl, hdr⟩
          have hEq : Ext w wq := by obtain ⟨m, rfl⟩ := hdr; exact below_drewN (Ext.refl _) _
          clear hdr
          go_wp2_with fail
          have hd1 := HD1.out
          have hd2 := HD2.out
          clear h4 HG
          refine wp_region_quiet_lit (by kernel_rfl) (by kernel_rfl) (Shut.out ?_)
          repeat (refine hq_step (fun K hK => ?_); go_simp; first | (refine hK _ ?_; clear hK K) | (apply Exists.intro; refine ⟨fun _ => ?_, hK _ ?_⟩; (first | (go_at_call 25; exact (G2.out _ (below_drewN hEq _)).mono (fun _ _ hz => ⟨hz.1, drew_more hz.2⟩)) | (go_at_call 10; exact Calls.quiet_of_same (S2.out _ (below_drewN hEq _)))); clear hK K))
          refine hq_nil ?_
          rintro _ ⟨nq, rfl⟩
          go_wp2
          go_ret3
          exact ⟨below_drewN hEq _, rfl⟩

end Go.Proofs.Ytngcbfefhlheoaa
