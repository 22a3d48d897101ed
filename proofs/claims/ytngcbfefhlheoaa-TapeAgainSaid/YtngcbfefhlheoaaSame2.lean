/- Contracts: foretellkeep.sameInts, sameLists. -/
import Derived.Test.YtngcbfefhlheoaaFirst
namespace Go.Proofs.Ytngcbfefhlheoaa
open Go.RowKit

set_option maxRecDepth 100000 in
set_option maxHeartbeats 2000000 in
theorem sameInts_any (v1 v2 : Value) (l : List Int) (w : World) (h1 : Ints w v1 l) (h2 : Ints w v2 l) :
    Calls Try.prog 20 #[v1, v2] w fun e w' => e = .returned (.bool true) ∧ ∃ n, w' = w.drewN n := by
  obtain ⟨a1, c1, rfl, hr1⟩ := h1
  obtain ⟨a2, c2, rfl, hr2⟩ := h2
  have hmax := hr1.le
  have hmax2 := hr1.max
  unfold maxLen at hmax2
  have hml : l.length ≤ 9223372036854775807 := by omega
  clear hmax hmax2
  have key : ∀ {a : Option Addr} {c : Nat}, Row w 1 a l.length c (l.map (.int .i64)) → ∃ b off, (0 < l.length → a = some ⟨b, off, none⟩) ∧ ∀ i (h : i < l.length), w.cell? ⟨b, off + i, none⟩ = some (.int .i64 l[i]) := by
    intro a c h
    obtain ⟨b, off, _, h2, h3⟩ := h.lie
    exact ⟨b, off, fun hl => h2 (by simpa using hl), fun i hi => h3 i _ (by simp [hi])⟩
  obtain ⟨b1, o1, ha1, hc1⟩ := key hr1
  obtain ⟨b2, o2, ha2, hc2⟩ := key hr2
  have HA1 := Lib.hid ha1
  have HA2 := Lib.hid ha2
  have HC1 := Lib.hid hc1
  have HC2 := Lib.hid hc2
  clear ha1 ha2 hc1 hc2 hr1 hr2 key
  go_enter Try.func20, Try.ntmps20
  go_wp2
  go_loopw [5] (fun i wr => ∃ ii : Nat, ii ≤ l.length ∧ i = .int .i64 ii ∧ ∃ m, wr = w.drewN m) (fun i _ => l.length - (intOf i).toNat)
  case atStart => exact ⟨0, by omega, rfl, 0, rfl⟩
  case round =>
    obtain ⟨ii, hii, rfl, m, rfl⟩ := hrel
    by_cases hlt : ii < l.length
    · obtain rfl := HA1.out (by omega)
      obtain rfl := HA2.out (by omega)
      have hx := HC1.out ii hlt
      have hy := HC2.out ii hlt
      generalize l[ii] = o at *
      have hi0 : (0 : Int) ≤ ii := by omega
      have hin : (ii : Int) < l.length := by omega
      go_wp2
      go_quiet (fail)
      go_wp2
      exact ⟨⟨ii + 1, by omega, by go_num, _, rfl⟩, by simp [intOf]; omega⟩
    · obtain rfl : ii = l.length := by omega
      go_wp2
      go_ret
      exact ⟨rfl, _, rfl⟩

set_option maxRecDepth 100000 in
set_option maxHeartbeats 2000000 in
theorem sameLists_any (v1 v2 : Value) (ll : List (List Int)) (w : World) (h1 : Lists w v1 ll) (h2 : Lists w v2 ll) :
    Calls Try.prog 16 #[v1, v2] w fun e w' => e = .returned (.bool true) ∧ ∃ n, w' = w.drewN n := by
  have hv : ∀ {v : Value}, Lists w v ll → ∃ a c, v = .slice a ll.length c := by
    rintro v ⟨vs, he, a, c, rfl, _⟩
    exact ⟨a, c, rfl⟩
  obtain ⟨a1, c1, rfl⟩ := hv h1
  obtain ⟨a2, c2, rfl⟩ := hv h2
  obtain ⟨_, hle, hmx, b1, o1, ha1, hc1⟩ := h1.cells
  obtain ⟨_, _, _, b2, o2, ha2, hc2⟩ := h2.cells
  unfold maxLen at hmx
  have hml : ll.length ≤ 9223372036854775807 := by omega
  have HA1 := Lib.hid ha1
  have HA2 := Lib.hid ha2
  have HC1 := Lib.hid hc1
  have HC2 := Lib.hid hc2
  clear ha1 ha2 hc1 hc2 h1 h2 hv hle hmx
  go_enter Try.func16, Try.ntmps16
  go_wp2
  go_loopw [5] (fun i wr => ∃ ii : Nat, ii ≤ ll.length ∧ i = .int .i64 ii ∧ ∃ m, wr = w.drewN m) (fun i _ => ll.length - (intOf i).toNat)
  case atStart => exact ⟨0, by omega, rfl, 0, rfl⟩
  case round =>
    obtain ⟨ii, hii, rfl, hdr⟩ := hrel
    have hEw : Ext w wr := by obtain ⟨m, rfl⟩ := hdr; exact below_drewN (Ext.refl _) _
    have HDR := Lib.hid hdr
    clear hdr
    by_cases hlt : ii < ll.length
    · obtain rfl := HA1.out (by omega)
      obtain rfl := HA2.out (by omega)
      obtain ⟨x1, y1, hx, hx2⟩ := HC1.out ii hlt
      obtain ⟨x2, y2, hy, hy2⟩ := HC2.out ii hlt
      replace hx := cell_later hEw hx
      replace hy := cell_later hEw hy
      generalize ll[ii] = o at *
      have hi0 : (0 : Int) ≤ ii := by omega
      have hin : (ii : Int) < ll.length := by omega
      have hE : ∀ n, Ext w (wr.drewN n) := fun n => below_drewN hEw _
      have HS := Lib.hid fun n => sameInts_any _ _ o (wr.drewN n) (hx2.ext (hE n)) (hy2.ext (hE n))
      clear hx2 hy2 hE hEw
      go_wp2_with fail
      go_quiet ((go_at_call 20; exact (HS.out _).mono (fun _ _ hz => ⟨hz.1, drew_more hz.2⟩)))
      go_wp2
      exact ⟨⟨ii + 1, by omega, by go_num, by obtain ⟨m, rfl⟩ := HDR.out; exact ⟨_, World.drewN_drewN ..⟩⟩, by simp [intOf]; omega⟩
    · obtain rfl : ii = ll.length := by omega
      go_wp2
      go_ret
      exact ⟨rfl, HDR.out⟩

end Go.Proofs.Ytngcbfefhlheoaa
