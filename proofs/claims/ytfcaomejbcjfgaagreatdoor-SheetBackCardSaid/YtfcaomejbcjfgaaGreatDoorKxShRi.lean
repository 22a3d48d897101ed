/- ShRi: what is needed of it. No condition. -/
import Derived.RangeFuncNested
import Derived.RangeFuncBound
import Derived.RangeFuncCalls
import Derived.RangeFuncLeaves
import Derived.Shelf.Abstract
import Derived.Shelf.RegionOpen
import Derived.WalkKit
import Derived.OwnWalkIn
import Derived.TacticsInMore
import Derived.LoopNIn
import Derived.LoopIn
import Derived.Test.YtfcaomejbcjfgaaGreatDoorKx17
import Derived.Test.YtfcaomejbcjfgaaGreatDoorShelf
namespace Go.Proofs.YtfcaomejbcjfgaaGreatDoor
open Go Go.RowKit Go.Shelf
attribute [local go_sem] Oper.semAt_some
def leftOf (w : World) (b : Nat) : Nat := match w.cell? ⟨b, 0, none⟩ with | some (.string s) => s.size | _ => 0
theorem leftOf_at {w : World} {b : Nat} {s : ByteArray} (h : w.cell? ⟨b, 0, none⟩ = some (.string s)) : leftOf w b = s.size := by unfold leftOf; rw [h]
set_option maxRecDepth 100000 in
set_option maxHeartbeats 8000000 in
theorem lines1_any (n l Bn : Nat) (hn : 1 ≤ n) (S : List (List UInt8)) (J : List (List UInt8) → World → Prop)
    (hst : ∀ pre W v, J pre W → J pre (W.setCell ⟨Bn, 0, none⟩ v)) (hdr : ∀ pre W, J pre W → J pre W.drew)
    (hY : ∀ pre x rest W, S = pre ++ x :: rest → J pre W → YieldAt Fence.wide (n - 1) Tryz.prog l #[.string ⟨x.toArray⟩] W fun e W' => e = .returned (.bool true) ∧ J (pre ++ [x]) W' ∧ W'.heap[Bn]? = W.heap[Bn]?)
    (s : List UInt8) (hS : S = linesL s) (hs : s.length ≤ 1000000) (W : World) (hB : W.heap[Bn]? = some (.cells #[.string ⟨s.toArray⟩] 9 (0, 0))) (h0 : J [] W) :
    CallsIn Fence.wide n Tryz.prog 31 #[.func (.yield l) #[] #[], .pointer (some ⟨Bn, 0, none⟩)] W fun e W' => (∃ v, e = .returned v) ∧ J S W' := by
  refine callsIn_of_wp Tryz.func31 rfl trivial ?_ rfl
  simp only [Tryz.ntmps31, List.size_toArray, List.length_cons, List.length_nil, Nat.reduceAdd, Nat.reduceSub, Array.replicate_succ, Array.replicate_zero, List.push_toArray, List.append_toArray, List.nil_append, List.cons_append]
  have HST := Lib.hid hst
  have HDR := Lib.hid hdr
  have HY := Lib.hid hY
  clear hst hdr hY
  gi_wp2
  gi_loopw [3] (fun _ wr => ∃ (pre : List (List UInt8)) (rest : ByteArray), S = pre ++ linesL rest.data.toList ∧ rest.size ≤ 1000000 ∧ wr.heap[Bn]? = some (.cells #[.string rest] 9 (0, 0)) ∧ J pre wr) (fun _ wr => leftOf wr Bn)
  case atStart => exact ⟨[], ⟨s.toArray⟩, by simpa using hS, by show s.toArray.size ≤ _; simpa using hs, hB, h0⟩
  case round =>
    obtain ⟨pre, rest, hSp, hrs, hBr, hJr⟩ := hrel
    have cB := blk_cell hBr (i := 0) rfl
    have hmu := leftOf_at cB
    have zB := blk_free hBr 0
    by_cases h0 : rest.size = 0
    · have hre : rest = ⟨#[]⟩ := by
        obtain ⟨⟨r⟩⟩ := rest
        cases r with
        | nil => rfl
        | cons c r => simp [ByteArray.size] at h0
      subst hre
      have HJ := Lib.hid (show J S wr by rw [hSp, show (⟨#[]⟩ : ByteArray).data.toList = [] from rfl, linesL_nil, List.append_nil]; exact hJr)
      clear hSp h0 hmu hJr
      gi_wp2
      go_end0
      exact ⟨⟨_, rfl⟩, HJ.out⟩
    · have h1 : (0 : Int) < (rest.size : Int) := by omega
      have hne : rest.data.toList ≠ [] := fun e => h0 (by have := congrArg List.length e; rw [← Lib.size_eq] at this; exact this)
      have hS2 := hSp
      rw [linesL_more hne] at hS2
      have hrl := cutN_rest hne
      have hcl := Lib.size_eq rest
      by_cases hm : Lib.indexByte rest.data.toList 10 = -1
      · have HIX := Lib.hid (show CallsIn Fence.wide (n - 1) Tryz.prog 32 #[.string rest, .int .u8 10] wr fun e w' => e = .returned (.int .i64 (-1)) ∧ w' = wr from callsIn_wide.2 (by have := Tryz.strings_IndexByte rest 10 wr; rw [show (10 : Int).toNat.toUInt8 = 10 from rfl, hm] at this; exact this))
        rw [cutN_miss hm] at hS2 hrl
        have hJ2 := HST.out pre wr (.string ⟨#[]⟩) hJr
        obtain ⟨fn, tmps, assign, body, hy, hR⟩ := HY.out pre _ _ _ hS2 hJ2
        rw [Lib.mk_data] at hy
        have HS2 := Lib.hid hS2
        have HMU := Lib.hid hmu
        have HBR := Lib.hid hBr
        have HSZ := Lib.hid h1
        clear hSp h0 hmu hJr hS2 hm hne hrl hcl hBr
        gi_wp2_with (refine ⟨trivial, ?_⟩; gi_at_call 32; refine HIX.out.mono ?_; rintro e w' ⟨rfl, rfl⟩)
        refine hR.mono ?_
        rintro e W' ⟨rfl, hJ', hBk⟩
        have hB' : W'.heap[Bn]? = some (.cells #[.string ⟨#[]⟩] 9 (0, 0)) := hBk.trans (blk_set (i := 0) HBR.out _)
        gi_wp2
        go_roundw
        case rel => exact ⟨pre ++ [rest.data.toList], ⟨#[]⟩, by rw [HS2.out]; simp, by decide, hB', hJ'⟩
        case measure => rw [leftOf_at (blk_cell hB' (i := 0) rfl), HMU.out]; have := HSZ.out; show 0 < _; omega
      · obtain ⟨i, hi⟩ : ∃ i : Nat, Lib.indexByte rest.data.toList 10 = (i : Int) := ⟨(Lib.indexByte rest.data.toList 10).toNat, by have := Lib.indexByte_ge rest.data.toList 10; omega⟩
        have HIX := Lib.hid (show CallsIn Fence.wide (n - 1) Tryz.prog 32 #[.string rest, .int .u8 10] wr fun e w' => e = .returned (.int .i64 (i : Int)) ∧ w' = wr from callsIn_wide.2 (by have := Tryz.strings_IndexByte rest 10 wr; rw [show (10 : Int).toNat.toUInt8 = 10 from rfl, hi] at this; exact this))
        obtain ⟨hil, hcut⟩ := cutN_hit hi
        rw [hcut] at hS2 hrl
        have e1 : rest.extract 0 (i + 1) = ⟨(rest.data.toList.take (i + 1)).toArray⟩ := by rw [Lib.extract_eq]; simp
        have e2 : (rest.extract (i + 1) rest.size).data.toList = rest.data.toList.drop (i + 1) := Lib.extract_to_end _ _
        have e3 : (rest.extract (i + 1) rest.size).size < rest.size := by simp only [ByteArray.size_extract]; omega
        have hJ2 := HDR.out pre _ (HST.out pre wr (.string (rest.extract (i + 1) rest.size)) hJr)
        obtain ⟨fn, tmps, assign, body, hy, hR⟩ := HY.out pre _ _ _ hS2 hJ2
        rw [← e1] at hy
        have y1 : (i : Int) + 1 ≤ (rest.size : Int) := by omega
        have y2 : i + 1 ≤ rest.size := by omega
        have y3 : IntKind.i64.wrap ((i : Int) + 1) = (i : Int) + 1 := IntWalk.i64_in _ (by omega)
        have HS2 := Lib.hid hS2
        have HMU := Lib.hid hmu
        have HBR := Lib.hid hBr
        have HE2 := Lib.hid e2
        have HE3 := Lib.hid e3
        have HRS := Lib.hid hrs
        clear hSp h0 hmu hJr hS2 hm hne hrl hcl hBr hi hil hcut e1 e2 e3 hrs
        gi_wp2_with fail
        refine ⟨trivial, ?_⟩
        refine HIX.out.mono ?_
        rintro e w' ⟨rfl, rfl⟩
        gi_wp2_with fail
        refine wpIn_wide.2 ?_
        go_region
        all_goals gi_wp2_with fail
        all_goals refine hR.mono ?_
        all_goals
          rintro e W' ⟨rfl, hJ', hBk⟩
          have hB' : W'.heap[Bn]? = some (.cells #[.string (rest.extract (i + 1) rest.size)] 9 (0, 0)) := hBk.trans (blk_set (i := 0) HBR.out _)
          gi_wp2
          go_roundw
        case rel => exact ⟨pre ++ [rest.data.toList.take (i + 1)], rest.extract (i + 1) rest.size, by rw [HS2.out, HE2.out]; simp, by have := HE3.out; have := HRS.out; omega, hB', hJ'⟩
        case measure => rw [leftOf_at (blk_cell hB' (i := 0) rfl), HMU.out]; exact HE3.out
end Go.Proofs.YtfcaomejbcjfgaaGreatDoor
