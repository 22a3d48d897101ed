/- Rows of ints: clones, what is among them, what is alike. No condition. -/
import Derived.Test.YtmacgcaehfjoiaaLi
import Derived.Test.YtmacgcaehfjoiaaPick
import Derived.Deep.LoopGhost
namespace Go.Proofs.Ytmacgcaehfjoiaa
open Go.RowKit

theorem Try.slInts : SlTy Try.prog 22 3 (.int .i64 0) 1 8 := Try.slIntsG

theorem own_shape {w : World} {base : Nat} {e : TypeId} {v : Value} {n : Nat} {xs : List Value} (h : w.ownsRow base e 1 v n xs) (hn : 0 < n) : ∃ H cap, v = .slice (some ⟨H, 0, none⟩) n cap := by
  rcases h.2 with ⟨h1, h2, _⟩ | ⟨g, cap, cur, h1, _⟩
  · subst h1
    have := h.row
    obtain ⟨a, c, e1, hr⟩ := this
    simp only [Value.slice.injEq] at e1
    omega
  · exact ⟨g, cap, h1⟩

set_option maxHeartbeats 1000000 in
theorem cloneI_any (v : Value) (l : List Int) (w : World) (h : Ints w v l) (hl : l.length ≤ 1048576) :
    Calls Try.prog 24 #[v] w fun e w' => ∃ v', e = .returned v' ∧ w'.ownsRow w.heap.size 3 1 v' l.length (l.map (.int .i64)) ∧ Ext w w' := by
  obtain ⟨a, cap, rfl, hr⟩ := h
  cases a with
  | none =>
    obtain ⟨h1, h2, h3⟩ := hr.none0
    obtain rfl : l = [] := List.eq_nil_of_length_eq_zero h1
    have he := fun (wx : World) (ax : Option Addr) (nx cx : Nat) => Lib.run_eql_slice_nil (P := Try.prog) wx 22 3 ax nx cx 0 0 Try.underlying22
    go_enter Try.func24, Try.ntmps24
    go_wp2
    go_ret
    exact ⟨_, rfl, World.ownsRow_nil _ _ _ _, Ext.refl _⟩
  | some p =>
    have he := fun (wx : World) (ax : Option Addr) (nx cx : Nat) => Lib.run_eql_slice_nil (P := Try.prog) wx 22 3 ax nx cx 0 0 Try.underlying22
    go_enter Try.func24, Try.ntmps24
    go_wp2_with (at_builtin; refine wpl_append rfl rfl Try.slInts w.heap.size rfl (World.ownsRow_lit w #[] 0 (Nat.le_refl _) (Nat.zero_le _) rfl) rfl (hr.ext ((Ext.refl w).alloc (Nat.le_refl _) _)) (by intro u hu; obtain ⟨x, _, rfl⟩ := List.mem_map.1 hu; rfl) (by unfold maxLen; omega) (by omega) (by simp) ?_)
    intro v' w1 hown1 hg1 _ _
    go_wp2
    go_ret
    exact ⟨_, rfl, by simpa using hown1, ((Ext.refl w).alloc (Nat.le_refl _) _).grown hg1 (by simp) (fun k hk => by cases hk; exact Nat.le_refl _)⟩

theorem ints_at' {w : World} {a : Option Addr} {n c : Nat} {l : List Int} (h : Row w 1 a n c (l.map (.int .i64))) : ∃ b off, (0 < l.length → a = some ⟨b, off, none⟩) ∧ ∀ (i : Nat) (hi : i < l.length), w.cell? ⟨b, off + i, none⟩ = some (.int .i64 l[i]) := by
  obtain ⟨b, off, _, h2, h3⟩ := h.lie
  exact ⟨b, off, fun hl => h2 (by simpa using hl), fun i hi => h3 i _ (by rw [List.getElem?_map, List.getElem?_eq_getElem hi]; rfl)⟩

set_option maxHeartbeats 4000000 in
theorem has_any (v : Value) (l : List Int) (n : Int) (w : World) (h : Ints w v l) :
    Calls Try.prog 15 #[v, .int .i64 n] w fun e w' => e = .returned (.bool (decide (n ∈ l))) ∧ w = w' := by
  obtain ⟨a, c, rfl, hr⟩ := h
  obtain ⟨b, off, h1, h2⟩ := ints_at' hr
  have hl : l.length ≤ maxLen := Nat.le_trans hr.le hr.max
  unfold maxLen at hl
  have H1 := Lib.hid h1
  have H2 := Lib.hid h2
  obtain ⟨res, hres⟩ : ∃ r, decide (n ∈ l) = r := ⟨_, rfl⟩
  rw [hres]
  have HR := Lib.hid hres
  clear h1 h2 hr hres
  go_enter Try.func15, Try.ntmps15
  go_wp2_with fail
  go_loopg [5] l.length (fun k x wr => ∃ i : Nat, k + i = l.length ∧ x = .int .i64 (i : Int) ∧ w = wr ∧ ∀ j (h : j < l.length), j < i → l[j] ≠ n)
  case atStart => exact ⟨0, by omega, by go_num, rfl, fun j _ h => by omega⟩
  case round =>
    obtain ⟨i, hki, rfl, rfl, hno⟩ := hrel
    have HKI := Lib.hid hki
    have HNO := Lib.hid hno
    clear hno hki
    by_cases hi : i < l.length
    · obtain rfl := H1.out (by omega)
      have cx := H2.out i hi
      have hiI : (i : Int) < (l.length : Int) := by omega
      have hi0 : (0 : Int) ≤ (i : Int) := by omega
      by_cases he : l[i] = n
      · have hm : n ∈ l := by rw [← he]; simp
        obtain rfl : res = true := by rw [← HR.out]; exact decide_eq_true hm
        rw [he] at cx
        clear hm he
        go_wp2
        go_ret
        exact ⟨rfl, rfl⟩
      · have hb : (l[i] == n) = false := by rw [beq_eq_false_iff_ne]; exact he
        have HE := Lib.hid he
        generalize hx : l[i] = x at *
        have HXE := Lib.hid hx
        clear he hx
        go_wp2_with fail
        go_roundg (gk - 1)
        case measure => have := HKI.out; omega
        case rel => exact ⟨i + 1, by have := HKI.out; omega, by go_num, rfl, fun j hj hji => by
          by_cases e : j = i
          · subst e; rw [HXE.out]; exact HE.out
          · exact HNO.out j hj (by omega)⟩
    · have hm : ¬ n ∈ l := fun hm => by
        obtain ⟨j, hj, e⟩ := List.mem_iff_getElem.1 hm
        exact HNO.out j hj (by omega) e
      obtain rfl : res = false := by rw [← HR.out]; exact decide_eq_false hm
      have hiI : ¬ (i : Int) < (l.length : Int) := by omega
      clear hm
      go_wp2
      go_ret
      exact ⟨rfl, rfl⟩

theorem has_yes (v : Value) (l : List Int) (n : Int) (w : World) (h : Ints w v l) (hm : n ∈ l) :
    Calls Try.prog 15 #[v, .int .i64 n] w fun e w' => e = .returned (.bool true) ∧ w = w' := by
  have := has_any v l n w h
  rw [decide_eq_true hm] at this
  exact this

theorem drew_more {w x : World} {n : Nat} (h : ∃ k, x = (w.drewN n).drewN k) : ∃ k, x = w.drewN k := by
  obtain ⟨k, rfl⟩ := h
  exact ⟨n + k, by rw [World.drewN_drewN]⟩

set_option maxRecDepth 100000 in
set_option maxHeartbeats 2000000 in
theorem sameInts_any (v1 v2 : Value) (l : List Int) (w : World) (h1 : Ints w v1 l) (h2 : Ints w v2 l) :
    Calls Try.prog 12 #[v1, v2] w fun e w' => e = .returned (.bool true) ∧ ∃ n, w' = w.drewN n := by
  obtain ⟨a1, c1, rfl, hr1⟩ := h1
  obtain ⟨a2, c2, rfl, hr2⟩ := h2
  have hmax := hr1.le
  have hmax2 := hr1.max
  unfold maxLen at hmax2
  have hml : l.length ≤ 9223372036854775807 := by omega
  clear hmax hmax2
  have key : ∀ {a : Option Addr} {c : Nat}, Row w 1 a l.length c (l.map (.int .i64)) → ∃ b off, (0 < l.length → a = some ⟨b, off, none⟩) ∧ ∀ i (h : i < l.length), w.cell? ⟨b, off + i, none⟩ = some (.int .i64 l[i]) := by
    intro a c h
    obtain ⟨b, off, _, h2, h3⟩ := h.lie
    exact ⟨b, off, fun hl => h2 (by simpa using hl), fun i hi => h3 i _ (by simp [hi])⟩
  obtain ⟨b1, o1, ha1, hc1⟩ := key hr1
  obtain ⟨b2, o2, ha2, hc2⟩ := key hr2
  have HA1 := Lib.hid ha1
  have HA2 := Lib.hid ha2
  have HC1 := Lib.hid hc1
  have HC2 := Lib.hid hc2
  clear ha1 ha2 hc1 hc2 hr1 hr2 key
  go_enter Try.func12, Try.ntmps12
  go_wp2
  go_loopw [5] (fun i wr => ∃ ii : Nat, ii ≤ l.length ∧ i = .int .i64 ii ∧ ∃ m, wr = w.drewN m) (fun i _ => l.length - (intOf i).toNat)
  case atStart => exact ⟨0, by omega, rfl, 0, rfl⟩
  case round =>
    obtain ⟨ii, hii, rfl, m, rfl⟩ := hrel
    by_cases hlt : ii < l.length
    · obtain rfl := HA1.out (by omega)
      obtain rfl := HA2.out (by omega)
      have hx := HC1.out ii hlt
      have hy := HC2.out ii hlt
      generalize l[ii] = o at *
      have hi0 : (0 : Int) ≤ ii := by omega
      have hin : (ii : Int) < l.length := by omega
      go_wp2
      go_quiet (fail)
      go_wp2
      exact ⟨⟨ii + 1, by omega, by go_num, _, rfl⟩, by simp [intOf]; omega⟩
    · obtain rfl : ii = l.length := by omega
      go_wp2
      go_ret
      exact ⟨rfl, _, rfl⟩

set_option maxRecDepth 100000 in
set_option maxHeartbeats 2000000 in
theorem sameLists_any (v1 v2 : Value) (ll : List (List Int)) (w : World) (h1 : Lists w v1 ll) (h2 : Lists w v2 ll) :
    Calls Try.prog 13 #[v1, v2] w fun e w' => e = .returned (.bool true) ∧ ∃ n, w' = w.drewN n := by
  have hv : ∀ {v : Value}, Lists w v ll → ∃ a c, v = .slice a ll.length c := by
    rintro v ⟨vs, he, a, c, rfl, _⟩
    exact ⟨a, c, rfl⟩
  obtain ⟨a1, c1, rfl⟩ := hv h1
  obtain ⟨a2, c2, rfl⟩ := hv h2
  obtain ⟨_, hle, hmx, b1, o1, ha1, hc1⟩ := h1.cells
  obtain ⟨_, _, _, b2, o2, ha2, hc2⟩ := h2.cells
  unfold maxLen at hmx
  have hml : ll.length ≤ 9223372036854775807 := by omega
  have HA1 := Lib.hid ha1
  have HA2 := Lib.hid ha2
  have HC1 := Lib.hid hc1
  have HC2 := Lib.hid hc2
  clear ha1 ha2 hc1 hc2 h1 h2 hv hle hmx
  go_enter Try.func13, Try.ntmps13
  go_wp2
  go_loopw [5] (fun i wr => ∃ ii : Nat, ii ≤ ll.length ∧ i = .int .i64 ii ∧ ∃ m, wr = w.drewN m) (fun i _ => ll.length - (intOf i).toNat)
  case atStart => exact ⟨0, by omega, rfl, 0, rfl⟩
  case round =>
    obtain ⟨ii, hii, rfl, hdr⟩ := hrel
    have hEw : Ext w wr := by obtain ⟨m, rfl⟩ := hdr; exact below_drewN (Ext.refl _) _
    have HDR := Lib.hid hdr
    clear hdr
    by_cases hlt : ii < ll.length
    · obtain rfl := HA1.out (by omega)
      obtain rfl := HA2.out (by omega)
      obtain ⟨x1, y1, hx, hx2⟩ := HC1.out ii hlt
      obtain ⟨x2, y2, hy, hy2⟩ := HC2.out ii hlt
      replace hx := cell_later hEw hx
      replace hy := cell_later hEw hy
      generalize ll[ii] = o at *
      have hi0 : (0 : Int) ≤ ii := by omega
      have hin : (ii : Int) < ll.length := by omega
      have hE : ∀ n, Ext w (wr.drewN n) := fun n => below_drewN hEw _
      have HS := Lib.hid fun n => sameInts_any _ _ o (wr.drewN n) (hx2.ext (hE n)) (hy2.ext (hE n))
      clear hx2 hy2 hE hEw
      go_wp2_with fail
      go_quiet ((go_at_call 12; exact (HS.out _).mono (fun _ _ hz => ⟨hz.1, drew_more hz.2⟩)))
      go_wp2
      exact ⟨⟨ii + 1, by omega, by go_num, by obtain ⟨m, rfl⟩ := HDR.out; exact ⟨_, World.drewN_drewN ..⟩⟩, by simp [intOf]; omega⟩
    · obtain rfl : ii = ll.length := by omega
      go_wp2
      go_ret
      exact ⟨rfl, HDR.out⟩

end Go.Proofs.Ytmacgcaehfjoiaa
