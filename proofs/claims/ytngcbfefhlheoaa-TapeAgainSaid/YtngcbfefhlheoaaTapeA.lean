/- Contracts: tape.Sum, foretellkeep.some. -/
import Derived.Test.YtngcbfefhlheoaaPick
namespace Go.Proofs.Ytngcbfefhlheoaa
open Go.RowKit

theorem Try.slBytes : SlTy Try.prog 22 5 (.int .u8 0) 1 1 := SlTy.mk' Try.underlying22 (by kernel_rfl) (by rfl) (by omega)

def sumL (l : List UInt8) : Int := l.foldl (fun s c => (s * 257 + (c.toNat : Int)) % 2147483629) 1

theorem sumL_snoc (l : List UInt8) (c : UInt8) : sumL (l ++ [c]) = (sumL l * 257 + (c.toNat : Int)) % 2147483629 := by
  simp [sumL, List.foldl_append]

theorem sumL_bd (l : List UInt8) : 0 ≤ sumL l ∧ sumL l < 2147483629 := by
  rcases List.eq_nil_or_concat l with rfl | ⟨l', c, rfl⟩
  · simp [sumL]
  · rw [List.concat_eq_append, sumL_snoc]; omega

theorem u8_bd (c : UInt8) : 0 ≤ (c.toNat : Int) ∧ (c.toNat : Int) < 256 := ⟨by omega, by have := c.toNat_lt; omega⟩

set_option maxHeartbeats 400000 in
theorem sum_any (v : Value) (l : List UInt8) (w : World) (h : Bytes w v l) :
    Calls Try.prog 10 #[v] w fun e w' => e = .returned (.int .i64 (sumL l)) ∧ w = w' := by
  obtain ⟨a, cap, rfl, hr⟩ := h
  obtain ⟨b, off, hnil, ha, hc⟩ := hr.lie
  have hm : l.length ≤ 9223372036854775807 := by have := hr.le; have := hr.max; unfold maxLen at this; omega
  have HA : Hid (0 < l.length → a = some ⟨b, off, none⟩) := by
    intro hl
    exact ha (by simpa using hl)
  have HC : Hid (∀ j (h : j < l.length), w.cell? ⟨b, off + j, none⟩ = some (.int .u8 l[j].toNat)) := by
    intro j hj
    simpa [bv] using hc j (bv l[j]) (by simp [hj])
  clear hnil ha hc hr
  go_enter Try.func10, Try.ntmps10
  go_wp2
  go_loop [3, 8] (fun s i => ∃ k : Nat, k ≤ l.length ∧ i = .int .i64 k ∧ s = .int .i64 (sumL (l.take k))) (fun _ i => l.length - (intOf i).toNat)
  case atStart => exact ⟨0, Nat.zero_le _, rfl, rfl⟩
  case round =>
    obtain ⟨k, hk, rfl, rfl⟩ := hrel
    have hbd := sumL_bd (l.take k)
    by_cases hlt : k < l.length
    · have hcell := HC.out k hlt
      have hu := u8_bd l[k]
      have hs : Hid (sumL (l.take (k+1)) = (sumL (l.take k) * 257 + (l[k].toNat : Int)) % 2147483629) := by
        show sumL (l.take (k+1)) = _
        rw [List.take_succ_eq_append_getElem hlt, sumL_snoc]
      obtain rfl := HA.out (by omega)
      clear HC HA
      go_wp2
      go_round
      case rel => exact ⟨k + 1, by omega, by go_num, by rw [hs.out]⟩
      case measure => simp [intOf]; omega
    · obtain rfl : k = l.length := by omega
      go_wp2
      go_ret
      exact ⟨by simp, rfl⟩

set_option maxHeartbeats 400000 in
theorem some_any (v : Value) (l : List UInt8) (n : Nat) (w : World) (hn : n ≤ 1000) (h : Bytes w v l) :
    Calls Try.prog 9 #[v, .int .i64 n] w fun e w' => ∃ v' , e = .returned v' ∧ w'.ownsRow w.heap.size 5 1 v' (l.take n).length ((l.take n).map bv) ∧ Ext w w' := by
  obtain ⟨a, cap, rfl, hr⟩ := h
  have hle := hr.le
  have hm : l.length ≤ 9223372036854775807 := by have := hr.max; unfold maxLen at this; omega
  by_cases hc : n < l.length
  · go_enter Try.func9, Try.ntmps9
    go_wp2_with (at_builtin; refine wpl_append rfl rfl Try.slBytes w.heap.size rfl (World.ownsRow_nil _ _ _ _) rfl (hr.take _ (by omega)) (fun u hu => bv_one l u (List.mem_of_mem_take hu)) (by unfold maxLen; omega) (by omega) (by omega) ?_)
    intro v' w1 hown hg _ _
    go_wp2
    go_ret
    exact ⟨_, rfl, by simpa [Nat.min_eq_left (Nat.le_of_lt hc), List.map_take] using hown, (Ext.refl w).grown hg (by omega) (by simp [Value.ownBlock])⟩
  · go_enter Try.func9, Try.ntmps9
    go_wp2_with (at_builtin; refine wpl_append rfl rfl Try.slBytes w.heap.size rfl (World.ownsRow_nil _ _ _ _) rfl (hr.take _ (by omega)) (fun u hu => bv_one l u (List.mem_of_mem_take hu)) (by unfold maxLen; omega) (by omega) (by omega) ?_)
    intro v' w1 hown hg _ _
    go_wp2
    go_ret
    refine ⟨_, rfl, ?_, (Ext.refl w).grown hg (by omega) (by simp [Value.ownBlock])⟩
    rw [List.take_of_length_le (by omega)]
    simpa [List.take_of_length_le (show (l.map bv).length ≤ l.length by simp)] using hown

end Go.Proofs.Ytngcbfefhlheoaa
