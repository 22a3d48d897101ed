/- Contracts: slices.Clone of bytes, tape.open. -/
import Derived.Test.YtngcbfefhlheoaaTapeB
import Derived.Deep.RegionHeld3
namespace Go.Proofs.Ytngcbfefhlheoaa
open Go.RowKit

set_option maxHeartbeats 1000000 in
theorem clone_any (v : Value) (l : List UInt8) (w : World) (h : Bytes w v l) (hl : l.length ≤ 1048576) :
    Calls Try.prog 24 #[v] w fun e w' => ∃ v', e = .returned v' ∧ w'.ownsRow w.heap.size 5 1 v' l.length (l.map bv) ∧ Ext w w' := by
  obtain ⟨a, cap, rfl, hr⟩ := h
  cases a with
  | none =>
    obtain ⟨h1, h2, h3⟩ := hr.none0
    obtain rfl : l = [] := List.eq_nil_of_length_eq_zero h1
    have he := fun (wx : World) (ax : Option Addr) (nx cx : Nat) => Lib.run_eql_slice_nil (P := Try.prog) wx 22 5 ax nx cx 0 0 Try.underlying22
    go_enter Try.func24, Try.ntmps24
    go_wp2
    go_ret
    exact ⟨_, rfl, World.ownsRow_nil _ _ _ _, Ext.refl _⟩
  | some p =>
    have he := fun (wx : World) (ax : Option Addr) (nx cx : Nat) => Lib.run_eql_slice_nil (P := Try.prog) wx 22 5 ax nx cx 0 0 Try.underlying22
    go_enter Try.func24, Try.ntmps24
    go_wp2_with (at_builtin; refine wpl_append rfl rfl Try.slBytes w.heap.size rfl (World.ownsRow_lit w #[] 0 (Nat.le_refl _) (Nat.zero_le _) rfl) rfl (hr.ext ((Ext.refl w).alloc (Nat.le_refl _) _)) (bv_one l) (by unfold maxLen; omega) (by omega) (by simp) ?_)
    intro v' w1 hown1 hg1 _ _
    go_wp2
    go_ret
    exact ⟨_, rfl, by simpa using hown1, ((Ext.refl w).alloc (Nat.le_refl _) _).grown hg1 (by simp) (fun k hk => by cases hk; exact Nat.le_refl _)⟩

set_option maxHeartbeats 2000000 in
theorem open_good (v : Value) (l : List UInt8) (s : Int) (w : World) (h : Bytes w v l) (hl : l.length ≤ 1048576) (h0 : 0 ≤ s) (h1 : s ≤ l.length) :
    Calls Try.prog 21 #[.agg #[v, .int .i64 s]] w fun e w' => ∃ v', e = .returned (.tuple #[.agg #[v', .int .i64 s], .bool true]) ∧ w'.ownsRow w.heap.size 5 1 v' l.length (l.map bv) ∧ Ext w w' := by
  obtain ⟨a, cap, rfl, hr⟩ := h
  have hB : Bytes w (.slice a l.length cap) l := ⟨_, _, rfl, hr⟩
  go_enter Try.func21, Try.ntmps21
  go_wp2_with fail
  generalize hW : (w.alloc (Obj.cells #[.slice a l.length cap, .int .i64 s] 30)).alloc (Obj.cells #[.slice none 0 0, .int .i64 0] 30) = W
  have a0 : W.cell? ⟨w.heap.size, 0, none⟩ = some (.slice a l.length cap) := by subst hW; simp [go_sem]
  have a1 : W.cell? ⟨w.heap.size, 1, none⟩ = some (.int .i64 s) := by subst hW; simp [go_sem]
  have b0 : W.cell? ⟨w.heap.size + 1, 0, none⟩ = some (.slice none 0 0) := by subst hW; simp [go_sem]
  have b1 : W.cell? ⟨w.heap.size + 1, 1, none⟩ = some (.int .i64 0) := by subst hW; simp [go_sem]
  have f0 : W.frozen? ⟨w.heap.size + 1, 0, none⟩ = false := by subst hW; simp [go_sem]
  have f1 : W.frozen? ⟨w.heap.size + 1, 1, none⟩ = false := by subst hW; simp [go_sem]
  have hE : Ext w W := by subst hW; exact ((Ext.refl w).alloc (Nat.le_refl _) _).alloc (by simp) _
  have hsz : w.heap.size + 2 ≤ W.heap.size := by subst hW; simp
  have hB2 : Bytes W (.slice a l.length cap) l := hB.ext hE
  clear hW hr hB
  go_region_held3 (fun w' => w'.cell? ⟨w.heap.size, 0, none⟩ = some (.slice a l.length cap) ∧ w'.cell? ⟨w.heap.size, 1, none⟩ = some (.int .i64 s))
    (first | exact ⟨a0, a1⟩ | exact ⟨x0, x1⟩ | go_keep)
    (first
      | (go_at_call 24
         refine (clone_any _ l _ (by exact hB2.ext (Below.drew (Ext.refl _))) hl).mono ?_
         rintro e w1 ⟨v', rfl, hown, hext⟩
         obtain ⟨a', c', rfl, hr'⟩ := hown.row
         have x0 : w1.cell? ⟨w.heap.size, 0, none⟩ = some (.slice a l.length cap) := cell_later hext a0
         have x1 : w1.cell? ⟨w.heap.size, 1, none⟩ = some (.int .i64 s) := cell_later hext a1
         have y0 : w1.cell? ⟨w.heap.size + 1, 0, none⟩ = some (.slice none 0 0) := cell_later hext b0
         have y1 : w1.cell? ⟨w.heap.size + 1, 1, none⟩ = some (.int .i64 0) := cell_later hext b1
         have z0 : w1.frozen? ⟨w.heap.size + 1, 0, none⟩ = false := (hext.frozen (p := ⟨w.heap.size + 1, 0, none⟩) (by show w.heap.size + 1 < W.heap.size; omega)).trans f0
         have z1 : w1.frozen? ⟨w.heap.size + 1, 1, none⟩ = false := (hext.frozen (p := ⟨w.heap.size + 1, 1, none⟩) (by show w.heap.size + 1 < W.heap.size; omega)).trans f1))
  go_wp2
  refine bodyPost_ret (v := .tuple #[.agg #[.slice a' l.length c', .int .i64 s], .bool true]) (by simp [results, Try.results21, go_sem, y0, y1]) rfl ⟨_, rfl, ?_, ?_⟩
  · have hs2 : W.drew.heap.size = W.heap.size := rfl
    exact own_down (ownsRow_setCell_below (ownsRow_setCell_below hown (by simp; omega) _) (by simp; omega) _) (by omega)
  · exact ((hE.drew.trans (hext.mono (by simp; omega))).setCell (by simp) _).setCell (by simp) _

set_option maxHeartbeats 1000000 in
theorem open_bad (v : Value) (l : List UInt8) (s : Int) (w : World) (h : Bytes w v l) (hbad : l.length < s) :
    Calls Try.prog 21 #[.agg #[v, .int .i64 s]] w fun e w' => e = .returned (.tuple #[.agg #[.slice none 0 0, .int .i64 0], .bool false]) ∧ Ext w w' := by
  obtain ⟨a, cap, rfl, hr⟩ := h
  have h0 : 0 ≤ s := by omega
  go_enter Try.func21, Try.ntmps21
  go_wp2
  refine bodyPost_ret (v := .tuple #[.agg #[.slice none 0 0, .int .i64 0], .bool false]) (by simp [results, Try.results21, go_sem]) rfl ⟨rfl, ?_⟩
  exact ((Ext.refl w).alloc (Nat.le_refl _) _).alloc (by simp) _

end Go.Proofs.Ytngcbfefhlheoaa
