/- The law SumOne. -/
import Derived.Test.YtngcbfefhlheoaaTapeA
import Derived.StillTailTactics
namespace Go.Proofs.Ytngcbfefhlheoaa
open Go.RowKit

theorem xor_ne (c : UInt8) (d : Nat) (hd : d < 255) : c ^^^ UInt8.ofNat (d + 1) ≠ c := by
  intro h
  have h2 : c ^^^ (c ^^^ UInt8.ofNat (d + 1)) = c ^^^ c := by rw [h]
  rw [← UInt8.xor_assoc, UInt8.xor_self, UInt8.zero_xor] at h2
  have h3 := congrArg UInt8.toNat h2
  rw [UInt8.toNat_ofNat_of_lt' (by have : UInt8.size = 256 := rfl; omega)] at h3
  simp at h3

def sumF (s : Int) (l : List UInt8) : Int := l.foldl (fun s c => (s * 257 + (c.toNat : Int)) % 2147483629) s

theorem sumF_ne (l : List UInt8) : ∀ s t : Int, 0 ≤ s → s < 2147483629 → 0 ≤ t → t < 2147483629 → s ≠ t → sumF s l ≠ sumF t l := by
  induction l with
  | nil => intro s t _ _ _ _ h; exact h
  | cons c l ih =>
    intro s t h1 h2 h3 h4 h
    have := u8_bd c
    show sumF ((s * 257 + (c.toNat : Int)) % 2147483629) l ≠ sumF ((t * 257 + (c.toNat : Int)) % 2147483629) l
    refine ih _ _ (by omega) (by omega) (by omega) (by omega) ?_
    omega

theorem sumL_set (l : List UInt8) (i : Nat) (c : UInt8) (h : i < l.length) (hc : c ≠ l[i]) : sumL l ≠ sumL (l.set i c) := by
  have e1 : l = l.take i ++ l[i] :: l.drop (i + 1) := by rw [← List.drop_eq_getElem_cons h, List.take_append_drop]
  have e2 : l.set i c = l.take i ++ c :: l.drop (i + 1) := by rw [List.set_eq_take_append_cons_drop, if_pos h]
  have hb := sumL_bd (l.take i)
  have f1 : ∀ x : UInt8, sumL (l.take i ++ x :: l.drop (i + 1)) = sumF ((sumL (l.take i) * 257 + (x.toNat : Int)) % 2147483629) (l.drop (i + 1)) := by
    intro x
    simp [sumL, sumF, List.foldl_append]
  rw [e2, f1]
  generalize hx : l[i] = x at *
  rw [show sumL l = sumL (l.take i ++ x :: l.drop (i + 1)) by rw [← e1], f1]
  have hn : (x.toNat : Int) ≠ (c.toNat : Int) := by
    intro h
    exact hc (UInt8.toNat_inj.1 (by omega)).symm
  have h1 := u8_bd x
  have h2 := u8_bd c
  exact sumF_ne _ _ _ (by omega) (by omega) (by omega) (by omega) (by omega)

set_option maxHeartbeats 1000000 in
theorem sumOne_walk (v : Value) (l : List UInt8) (p q : Int) (w : World) (h : Bytes w v l) (p1 : -9223372036854775808 ≤ p) (p2 : p ≤ 9223372036854775807) (q1 : -9223372036854775808 ≤ q) (q2 : q ≤ 9223372036854775807) :
    Calls Try.prog 3 #[v, .int .i64 p, .int .i64 q] w fun e w' => e = .returned (.bool true) ∧ Ext w w' := by
  go_enter Try.func3, Try.ntmps3
  go_wp2_with fail
  refine (some_any v l 300 w (by omega) h).mono ?_
  rintro e w1 ⟨v1, rfl, hown, hext⟩
  generalize l.take 300 = l1 at hown
  obtain ⟨a1, c1, rfl, hr1⟩ := hown.row
  have hb1 : Bytes w1 (.slice a1 l1.length c1) l1 := ⟨_, _, rfl, hr1⟩
  go_wp2_with fail
  refine (sum_any _ l1 w1 hb1).mono ?_
  rintro e w2 ⟨rfl, rfl⟩
  by_cases h0 : l1.length = 0
  · have hl : l1 = [] := List.eq_nil_of_length_eq_zero h0
    subst hl
    go_wp2
    go_ret
    exact ⟨rfl, hext⟩
  · have hn0 : ((l1.length : Int) == 0) = false := by rw [beq_eq_false_iff_ne]; omega
    have hlm : l1.length ≤ 9223372036854775807 := by have := hr1.le; have := hr1.max; unfold maxLen at this; omega
    rcases hown.2 with ⟨_, hz⟩ | ⟨g, cap, cur, hv, hgb, hg, hnc, hcm, hcs, htake⟩
    · exact absurd hz h0
    cases hv
    have hbd := pk_bd p l1.length (by omega)
    obtain ⟨i, hi⟩ : ∃ i : Nat, pk p l1.length = (i : Int) := ⟨(pk p l1.length).toNat, by omega⟩
    have Hi := Lib.hid hi
    have hilt : i < l1.length := by omega
    have hqb := pk_bd q 255 (by omega)
    obtain ⟨d, hd⟩ : ∃ d : Nat, pk q 255 = (d : Int) := ⟨(pk q 255).toNat, by omega⟩
    have Hd := Lib.hid hd
    have hdlt : d < 255 := by omega
    have hcell : w1.drew.cell? ⟨g, i, none⟩ = some (.int .u8 l1[i].toNat) := by simpa [bv] using hr1.cells i (bv l1[i]) (by simp [hilt])
    have hfr : w1.drew.frozen? ⟨g, i, none⟩ = false := hown.frozenAt i
    clear hi hd hbd hqb
    have C1 := fun w => still_of (picked_any p l1.length w p1 p2 (by omega) (by omega))
    have C2 := fun w => still_of (picked_any q 255 w q1 q2 (by omega) (by omega))
    rw [Hi.out] at C1
    rw [Hd.out] at C2
    have CC1 := Lib.hid C1
    have CC2 := Lib.hid C2
    clear C1 C2
    have hsz : w1.drew.heap.size = w1.heap.size := rfl
    go_wp2_with fail
    refine region_tail 13 (by kernel_rfl) (by kernel_rfl) ?_
    simp only [List.take_succ_cons, List.take_zero, List.drop_succ_cons, List.drop_zero]
    generalize hw : w1.drew = w2 at hcell hfr ⊢
    have Hw := Lib.hid hw
    clear hw
    iterate 4 still_step
    still_call (CC1.out w2)
    iterate 3 still_step
    still_call (CC2.out w2)
    iterate 4 still_step
    refine wpStill_nil ?_
    go_wp2_with fail
    have hxor : bits .xor .u8 (l1[i].toNat : Int) (1 + (d : Int)) = ((l1[i] ^^^ UInt8.ofNat (d + 1)).toNat : Int) := by
      have := u8_xor_nat l1[i].toNat (d + 1) l1[i].toNat_lt (by omega)
      rw [show (1 + (d : Int)) = ((d + 1 : Nat) : Int) by omega, this, UInt8.toNat_xor, UInt8.toNat_ofNat_of_lt' (by have : UInt8.size = 256 := rfl; omega)]
    have hown2 : w2.ownsRow w.heap.size 5 1 (.slice (some ⟨g, 0, none⟩) l1.length c1) l1.length (l1.map bv) := by rw [← Hw.out]; exact hown
    obtain ⟨hown3, hg3⟩ := hown2.stored i (bv (l1[i] ^^^ UInt8.ofNat (d + 1)))
    rw [← List.map_set] at hown3
    have hb3 : Bytes (w2.setCell ⟨g, i, none⟩ (bv (l1[i] ^^^ UInt8.ofNat (d + 1)))) (.slice (some ⟨g, 0, none⟩) l1.length c1) (l1.set i (l1[i] ^^^ UInt8.ofNat (d + 1))) := by
      have := hown3.reads
      simpa [Bytes] using this
    have hext3 : Ext w (w2.setCell ⟨g, i, none⟩ (bv (l1[i] ^^^ UInt8.ofNat (d + 1)))) := by
      have h2 : Ext w w2 := by rw [← Hw.out]; exact hext.drew
      have hws : w.heap.size ≤ w2.heap.size := h2.size
      exact h2.grown hg3 hws (by intro k hk; cases hk; exact hgb)
    have hne := Lib.hid (sumL_set l1 i (l1[i] ^^^ UInt8.ofNat (d + 1)) hilt (xor_ne _ d hdlt))
    have hbd := sumL_bd l1
    unfold bv at hb3 hext3
    rw [hxor]
    refine (sum_any _ _ _ hb3).mono ?_
    rintro e w4 ⟨rfl, rfl⟩
    have hneq : (sumL l1 != sumL (l1.set i (l1[i] ^^^ UInt8.ofNat (d + 1)))) = true := by rw [bne_iff_ne]; exact hne.out
    generalize sumL (l1.set i (l1[i] ^^^ UInt8.ofNat (d + 1))) = s2 at hneq ⊢
    obtain ⟨hs1, hs2⟩ := hbd
    go_wp2
    go_ret
    exact ⟨rfl, hext3⟩

theorem sumOne_law (v0 v1 v2 : Value) (W : World) (h0 : Cells Try.prog W 22 [v0]) (h1 : Cells Try.prog W 3 [v1]) (h2 : Cells Try.prog W 3 [v2]) :
    Calls Try.prog 3 #[v0, v1, v2] W fun e w' => e = .returned (.bool true) ∧ Ext W w' := by
  obtain ⟨v, l, hv, hb⟩ := h0.bytes Try.underlying22 Try.underlying5 (by kernel_rfl)
  obtain ⟨p, hp, p1, p2⟩ := h1.i64 Try.underlying3
  obtain ⟨q, hq, q1, q2⟩ := h2.i64 Try.underlying3
  cases hv; cases hp; cases hq
  exact sumOne_walk _ l p q W hb p1 p2 q1 q2

end Go.Proofs.Ytngcbfefhlheoaa
