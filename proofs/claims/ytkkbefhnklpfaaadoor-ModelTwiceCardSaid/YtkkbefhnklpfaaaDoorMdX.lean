/- The three propositions and what they say. No condition. -/
import Derived.Test.YtkkbefhnklpfaaaDoorMdR
import Derived.Deep.DeepCutAuto
import Derived.Deep.RegionLaw
namespace Go.Proofs.YtkkbefhnklpfaaaDoor
open Go.RowKit

def tX : Tm := .n0 2 0
def tY : Tm := .n0 2 1
def t1 : Tm := .n0 1 1
def propT : List Tm := [.n2 7 0 tX t1, .n2 7 0 tX tY, .n2 6 0 tX tY]
theorem leaf_sub (k v : Int) (hk : k = 1 ∨ k = 2) (h0 : 0 ≤ v) (h1 : v ≤ 1) : Sub (.n0 k v) 2 := by
  have hv : v = 0 ∨ v = 1 := by omega
  refine ⟨?_, ?_, rfl⟩
  · simp only [Tm.ok]
    rcases hk with rfl | rfl <;> exact ⟨by omega, by omega, by decide⟩
  · intro o ho
    simp only [Tm.flat, List.mem_singleton] at ho
    subst ho
    rcases hk with rfl | rfl <;> rcases hv with rfl | rfl <;> decide
theorem cmp_sub (k : Int) (hk : k = 6 ∨ k = 7) {a b : Tm} (ha : Sub a 2) (hb : Sub b 2) (ka : mkK a.kind = false) (kb : mkK b.kind = false) : Sub (.n2 k 0 a b) 2 := by
  refine ⟨ok_n2 (by omega) ha.ok hb.ok, good_n2 (by omega) (by omega) ha.good hb.good, ?_⟩
  have ht : tkK k = false := by rcases hk with rfl | rfl <;> rfl
  simp [Tm.typed, ha.typed, hb.typed, ka, kb, ht]
theorem propT_ok : PropsOk 2 propT := by
  have hx := leaf_sub 2 0 (.inr rfl) (by omega) (by omega)
  have hy := leaf_sub 2 1 (.inr rfl) (by omega) (by omega)
  have h1 := leaf_sub 1 1 (.inl rfl) (by omega) (by omega)
  refine ⟨by decide, fun p hp => ?_⟩
  unfold propT at hp
  simp only [List.mem_cons, List.not_mem_nil, or_false] at hp
  rcases hp with rfl | rfl | rfl
  · exact ⟨cmp_sub 7 (.inr rfl) hx h1 rfl rfl, by decide, rfl⟩
  · exact ⟨cmp_sub 7 (.inr rfl) hx hy rfl rfl, by decide, rfl⟩
  · exact ⟨cmp_sub 6 (.inl rfl) hx hy rfl rfl, by decide, rfl⟩
theorem letS_props (a b : Int) (ha : -1000 ≤ a ∧ a ≤ 1000) (hb : -1000 ≤ b ∧ b ≤ 1000) : letS propT [a, b] = [decide (a < 1), decide (a < b), decide (a = b)] := by
  have o1 : ∀ x : Int, -1000 ≤ x ∧ x ≤ 1000 → over x = some x := fun x hx => by unfold over; rw [if_pos (by unfold Small; omega)]
  have ex : evalT [a, b] tX = some a := o1 a ha
  have ey : evalT [a, b] tY = some b := o1 b hb
  have e1 : evalT [a, b] t1 = some 1 := by rfl
  have l1 : opV 7 a 1 = if a < 1 then 1 else 0 := rfl
  have l2 : opV 7 a b = if a < b then 1 else 0 := rfl
  have l3 : opV 6 a b = if a = b then 1 else 0 := rfl
  unfold letS propT
  simp only [List.map_cons, List.map_nil, evalT, ex, ey, e1, Option.bind_some, l1, l2, l3]
  refine List.cons_eq_cons.2 ⟨?_, List.cons_eq_cons.2 ⟨?_, List.cons_eq_cons.2 ⟨?_, rfl⟩⟩⟩
  · by_cases h : a < 1 <;> simp [h, over, Small]
  · by_cases h : a < b <;> simp [h, over, Small]
  · by_cases h : a = b <;> simp [h, over, Small]

theorem isT_lit (w : World) (T : TypeId) (k v : Int) (n : Nat) (hn : n = w.heap.size) : IsT (w.alloc (.cells #[.int .i64 k, .int .i64 v] T)) (.slice (some ⟨n, 0, none⟩) 1 1) (.n0 k v) :=
  ⟨_, _, rfl, Row.newK w T 2 n _ rfl hn⟩
theorem isTms_three {w : World} {a b c : Value} {x y z : Tm} (T : TypeId) (n : Nat) (hn : n = w.heap.size) (ha : IsT w a x) (hb : IsT w b y) (hc : IsT w c z) : IsTms (w.alloc (.cells #[a, b, c] T)) (.slice (some ⟨n, 0, none⟩) 3 3) [x, y, z] := by
  have hE := ext_al (Ext.refl w) (Obj.cells #[a, b, c] T)
  subst hn
  refine ⟨[[a], [b], [c]], rfl, by simp, ⟨_, _, rfl, Row.new w T [a, b, c] (by simp [maxLen])⟩, fun i cs s h1 h2 => ?_⟩
  match i with
  | 0 => simp at h1 h2; subst h1; subst h2; exact ⟨a, rfl, ha.ext hE⟩
  | 1 => simp at h1 h2; subst h1; subst h2; exact ⟨b, rfl, hb.ext hE⟩
  | 2 => simp at h1 h2; subst h1; subst h2; exact ⟨c, rfl, hc.ext hE⟩
  | i + 3 => simp at h1

set_option maxRecDepth 100000 in
set_option maxHeartbeats 8000000 in
theorem kprops_any (w : World) : Calls Tryd.prog 30 #[] w fun e w' => ∃ v, e = .returned v ∧ IsTms w' v propT ∧ Ext w w' := by
  have a1 := ext_al (Ext.refl w) (Obj.cells #[.int .i64 2, .int .i64 0] 35)
  have x1 := isT_lit w 35 2 0 _ rfl
  generalize hW1 : w.alloc (Obj.cells #[.int .i64 2, .int .i64 0] 35) = W1 at *
  have s1 : W1.heap.size = w.heap.size + 1 := by rw [← hW1]; simp
  have a2 := ext_al (Ext.refl W1) (Obj.cells #[.int .i64 2, .int .i64 1] 35)
  have y2 := isT_lit W1 35 2 1 (w.heap.size + 1) s1.symm
  generalize hW2 : W1.alloc (Obj.cells #[.int .i64 2, .int .i64 1] 35) = W2 at *
  have s2 : W2.heap.size = w.heap.size + 1 + 1 := by rw [← hW2]; simp [s1]
  have a3 := ext_al (Ext.refl W2) (Obj.cells #[.int .i64 1, .int .i64 1] 35)
  have z3 := isT_lit W2 35 1 1 (w.heap.size + 1 + 1) s2.symm
  generalize hW3 : W2.alloc (Obj.cells #[.int .i64 1, .int .i64 1] 35) = W3 at *
  have s3 : W3.heap.size = w.heap.size + 1 + 1 + 1 := by rw [← hW3]; simp [s2]
  have HJ1 := Lib.hid (joinT2 7 _ _ tX t1 W3 36 (x1.ext (a2.trans a3)) z3 (by decide))
  rw [s3] at HJ1
  have HA1 := Lib.hid a1
  have HX2 := Lib.hid (x1.ext a2)
  have HY2 := Lib.hid y2
  have HA2 := Lib.hid (a1.trans a2)
  have HA3 := Lib.hid a3
  subst hW3
  subst hW2
  subst hW1
  clear x1 y2 z3 a1 a2 a3 s1 s2 s3
  go_enter Tryd.func30, Tryd.ntmps30
  go_wp2_with fail
  refine HJ1.out.mono ?_
  rintro e w4 ⟨v4, rfl, h4, hE4⟩
  have HX4 := Lib.hid (HX2.out.ext (HA3.out.trans (Ext.trans (Ext.refl _) hE4)))
  have HY4 := Lib.hid (HY2.out.ext (HA3.out.trans hE4))
  have HE4 := Lib.hid ((HA2.out.trans HA3.out).trans hE4)
  have H4 := Lib.hid h4
  obtain ⟨b4, n4, c4, rfl⟩ := h4.val
  clear h4 hE4 HJ1
  go_wp2_with fail
  refine (joinT2 7 _ _ tX tY w4 _ HX4.out HY4.out (by decide)).mono ?_
  rintro e w5 ⟨v5, rfl, h5, hE5⟩
  have H5 := Lib.hid h5
  have HX5 := Lib.hid (HX4.out.ext hE5)
  have HY5 := Lib.hid (HY4.out.ext hE5)
  have HE5 := Lib.hid (HE4.out.trans hE5)
  have H45 := Lib.hid (H4.out.ext hE5)
  obtain ⟨b5, n5, c5, rfl⟩ := h5.val
  clear h5 hE5
  go_wp2_with fail
  refine (joinT2 6 _ _ tX tY w5 _ HX5.out HY5.out (by decide)).mono ?_
  rintro e w6 ⟨v6, rfl, h6, hE6⟩
  have H6 := Lib.hid (isTms_three 36 w6.heap.size rfl (H45.out.ext hE6) (H5.out.ext hE6) h6)
  have HE6 := Lib.hid (HE5.out.trans (hE6.trans (ext_al (Ext.refl w6) (Obj.cells #[.slice b4 n4 c4, .slice b5 n5 c5, v6] 36))))
  obtain ⟨b6, n6, c6, rfl⟩ := h6.val
  clear h6 hE6
  go_wp2
  go_ret
  exact ⟨_, rfl, H6.out, HE6.out⟩

end Go.Proofs.YtkkbefhnklpfaaaDoor
