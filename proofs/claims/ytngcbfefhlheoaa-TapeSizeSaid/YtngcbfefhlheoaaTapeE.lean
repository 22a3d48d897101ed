/- Contracts: tape.Write where it refuses. -/
import Derived.Test.YtngcbfefhlheoaaTapeD
namespace Go.Proofs.Ytngcbfefhlheoaa
open Go.RowKit

set_option maxRecDepth 100000 in
set_option maxHeartbeats 4000000 in
theorem write_range (v u : Value) (l : List UInt8) (s : Int) (zs : List Int) (w : World) (h : Bytes w v l) (hu : Ints w u zs) (hl : l.length ≤ 1048576) (h0 : 0 ≤ s) (h1 : s ≤ l.length)
    (hz : zs.length ≤ 4000) (k0 : Nat) (hk0 : k0 < zs.length) (hI : ∀ z ∈ zs.take k0, 0 ≤ z ∧ z ≤ 2147483647) (hbad : zs[k0] < 0 ∨ 2147483647 < zs[k0]) :
    Calls Try.prog 13 #[.agg #[v, .int .i64 s], u] w fun e w' => e = .returned (.tuple #[.agg #[.slice none 0 0, .int .i64 0], .int .i64 2]) ∧ Ext w w' := by
  obtain ⟨a, cap, rfl, hr⟩ := h
  have hB : Bytes w (.slice a l.length cap) l := ⟨_, _, rfl, hr⟩
  obtain ⟨au, cu, rfl, hru⟩ := hu
  go_enter Try.func13, Try.ntmps13
  go_wp2_with fail
  refine (open_good _ l s _ (hB.ext (((Ext.refl w).alloc (Nat.le_refl _) _).alloc (by simp) _)) (by omega) h0 h1).mono ?_
  rintro e w1 ⟨v', rfl, hown, hext⟩
  obtain ⟨ax, cx, rfl, hrx⟩ := hown.row
  have hE1 : Ext w w1 := (((Ext.refl w).alloc (Nat.le_refl _) _).alloc (by simp) _).trans (hext.mono (by simp; omega))
  have r0 : w1.cell? ⟨w.heap.size + 1, 0, none⟩ = some (.slice none 0 0) := cell_later hext (by simp [go_sem])
  have r1 : w1.cell? ⟨w.heap.size + 1, 1, none⟩ = some (.int .i64 0) := cell_later hext (by simp [go_sem])
  have q0 : w1.frozen? ⟨w.heap.size + 1, 0, none⟩ = false := (hext.frozen (p := ⟨w.heap.size + 1, 0, none⟩) (by simp)).trans (by simp [go_sem])
  have q1 : w1.frozen? ⟨w.heap.size + 1, 1, none⟩ = false := (hext.frozen (p := ⟨w.heap.size + 1, 1, none⟩) (by simp)).trans (by simp [go_sem])
  have hs1 : w.heap.size + 2 ≤ w1.heap.size := by have := hext.size; simpa using this
  clear hr hB
  go_wp2_with fail
  have hE3 : Ext w (w1.alloc (Obj.cells #[.slice ax l.length cx, .int .i64 s] 30)) := hE1.alloc (by omega) _
  have hru3 := hru.ext hE3
  have hown3 := hown.alloc (Obj.cells #[.slice ax l.length cx, .int .i64 s] 30)
  have x0 : (w1.alloc (Obj.cells #[.slice ax l.length cx, .int .i64 s] 30)).cell? ⟨w1.heap.size, 0, none⟩ = some (.slice ax l.length cx) := by simp [go_sem]
  have x1 : (w1.alloc (Obj.cells #[.slice ax l.length cx, .int .i64 s] 30)).cell? ⟨w1.heap.size, 1, none⟩ = some (.int .i64 s) := by simp [go_sem]
  have fx0 : (w1.alloc (Obj.cells #[.slice ax l.length cx, .int .i64 s] 30)).frozen? ⟨w1.heap.size, 0, none⟩ = false := by simp [go_sem]
  have r0' := cell_later (wx := w1.alloc (Obj.cells #[.slice ax l.length cx, .int .i64 s] 30)) ((Ext.refl w1).alloc (Nat.le_refl _) _) r0
  have r1' := cell_later (wx := w1.alloc (Obj.cells #[.slice ax l.length cx, .int .i64 s] 30)) ((Ext.refl w1).alloc (Nat.le_refl _) _) r1
  have q0' : (w1.alloc (Obj.cells #[.slice ax l.length cx, .int .i64 s] 30)).frozen? ⟨w.heap.size + 1, 0, none⟩ = false := by rw [World.frozen?_alloc_past _ _ _ (by omega)]; exact q0
  have q1' : (w1.alloc (Obj.cells #[.slice ax l.length cx, .int .i64 s] 30)).frozen? ⟨w.heap.size + 1, 1, none⟩ = false := by rw [World.frozen?_alloc_past _ _ _ (by omega)]; exact q1
  have hs3 : (w1.alloc (Obj.cells #[.slice ax l.length cx, .int .i64 s] 30)).heap.size = w1.heap.size + 1 := by simp
  generalize w1.alloc (Obj.cells #[.slice ax l.length cx, .int .i64 s] 30) = W3 at *
  have hxl : ∀ k, (Value.slice ax l.length cx).ownBlock = some k → w.heap.size + 2 ≤ k ∧ k < w1.heap.size := fun k hk => by
    have := hown.lt k hk
    simpa using this
  have hown3 := own_down (base' := w.heap.size + 2) hown3 (by simp)
  generalize w1.heap.size = bx at *
  obtain ⟨bu, offu, hnilu, hau, hcu⟩ := hru3.lie
  clear hown hrx hru r0 r1 q0 q1 hE1 hext
  refine (put_any W3.heap.size (.slice none 0 0) [] zs.length W3 (World.ownsRow_nil _ _ _ _) (Nat.le_refl _) (by simp) (by omega) (by omega)).mono ?_
  rintro e w4 ⟨v4, rfl, hown4, hg4⟩
  have hE4 : Ext W3 w4 := (Ext.refl W3).grown hg4 (Nat.le_refl _) (by simp [Value.ownBlock])
  clear hg4
  go_wp2_with fail
  go_loopw [8, 28] (fun b i wr => ∃ k : Nat, k ≤ k0 ∧ i = .int .i64 k ∧ wr.ownsRow W3.heap.size 5 1 b (be4 zs.length ++ (zs.take k).flatMap be4).length ((be4 zs.length ++ (zs.take k).flatMap be4).map bv) ∧ Ext W3 wr) (fun _ i _ => zs.length - (intOf i).toNat)
  case atStart => exact ⟨0, by omega, rfl, by simpa using hown4, hE4⟩
  case round =>
    obtain ⟨k, hk, rfl, hown5, hE5⟩ := hrel
    clear hown4 hE4
    have hlt : k < zs.length := by omega
    have hcell : wr.cell? ⟨bu, offu + k, none⟩ = some (.int .i64 zs[k]) := cell_later hE5 (hcu k _ (by simp [hlt]))
    obtain rfl := hau (by simp; omega)
    have hpl : (be4 zs.length ++ (zs.take k).flatMap be4).length ≤ 1000000 := by rw [List.length_append, be4_len, flat4_len]; simp; omega
    have hE5s := hE5.size
    by_cases hkk : k < k0
    · have hm : zs[k] ∈ zs.take k0 := List.mem_take_iff_getElem.2 ⟨k, by omega, rfl⟩
      have hI1 := (hI zs[k] hm).1
      have hI2 := (hI zs[k] hm).2
      have HT := Lib.hid (flat4_succ zs k hlt)
      have HCu := Lib.hid hcu
      have HB := Lib.hid hbad
      clear hcu hnilu hI hru3 hm hbad
      go_wp2_with fail
      refine (put_any W3.heap.size _ _ zs[k] wr hown5 hE5s hpl hI1 hI2).mono ?_
      rintro e w6 ⟨v6, rfl, hown6, hg6⟩
      have hE6 : Ext W3 w6 := hE5.grown hg6 hE5s (fun g hg => (hown5.lt g hg).1)
      go_wp2
      go_roundw
      case rel => exact ⟨k + 1, by omega, by go_num, by rw [HT.out, ← List.append_assoc]; exact hown6, hE6⟩
      case measure => simp [intOf]; omega
    · obtain rfl : k = k0 := by omega
      have r08 := cell_later hE5 r0'
      have r18 := cell_later hE5 r1'
      have q08 := (hE5.frozen (p := ⟨w.heap.size + 1, 0, none⟩) (by show w.heap.size + 1 < W3.heap.size; omega)).trans q0'
      have q18 := (hE5.frozen (p := ⟨w.heap.size + 1, 1, none⟩) (by show w.heap.size + 1 < W3.heap.size; omega)).trans q1'
      have hE8 : Ext w wr := hE3.trans hE5
      clear hcu hnilu hI hru3 r0' r1' q0' q1' hown3 hown5 hxl x0 x1 fx0 hs3 hpl
      rcases hbad with hb | hb
      all_goals
        go_wp2
        refine bodyPost_ret (v := .tuple #[.agg #[.slice none 0 0, .int .i64 0], .int .i64 2]) (by simp [results, Try.results13, go_sem, r08, r18]) rfl ⟨rfl, ?_⟩
        exact (hE8.setCell (by simp) _).setCell (by simp) _

set_option maxRecDepth 100000 in
set_option maxHeartbeats 2000000 in
theorem write_size (v u : Value) (l : List UInt8) (s : Int) (zs : List Int) (w : World) (h : Bytes w v l) (hu : ∃ a c, u = .slice a zs.length c) (hl : l.length ≤ 1048576) (h0 : 0 ≤ s) (h1 : s ≤ l.length)
    (hz : 4000 < zs.length) (hz2 : zs.length ≤ 9223372036854775807) :
    Calls Try.prog 13 #[.agg #[v, .int .i64 s], u] w fun e w' => e = .returned (.tuple #[.agg #[.slice none 0 0, .int .i64 0], .int .i64 1]) ∧ Ext w w' := by
  obtain ⟨a, cap, rfl, hr⟩ := h
  have hB : Bytes w (.slice a l.length cap) l := ⟨_, _, rfl, hr⟩
  obtain ⟨au, cu, rfl⟩ := hu
  go_enter Try.func13, Try.ntmps13
  go_wp2_with fail
  refine (open_good _ l s _ (hB.ext (((Ext.refl w).alloc (Nat.le_refl _) _).alloc (by simp) _)) (by omega) h0 h1).mono ?_
  rintro e w1 ⟨v', rfl, hown, hext⟩
  obtain ⟨ax, cx, rfl, hrx⟩ := hown.row
  have hE1 : Ext w w1 := (((Ext.refl w).alloc (Nat.le_refl _) _).alloc (by simp) _).trans (hext.mono (by simp; omega))
  have r0 : w1.cell? ⟨w.heap.size + 1, 0, none⟩ = some (.slice none 0 0) := cell_later hext (by simp [go_sem])
  have r1 : w1.cell? ⟨w.heap.size + 1, 1, none⟩ = some (.int .i64 0) := cell_later hext (by simp [go_sem])
  have q0 : w1.frozen? ⟨w.heap.size + 1, 0, none⟩ = false := (hext.frozen (p := ⟨w.heap.size + 1, 0, none⟩) (by simp)).trans (by simp [go_sem])
  have q1 : w1.frozen? ⟨w.heap.size + 1, 1, none⟩ = false := (hext.frozen (p := ⟨w.heap.size + 1, 1, none⟩) (by simp)).trans (by simp [go_sem])
  have hs1 : w.heap.size + 2 ≤ w1.heap.size := by have := hext.size; simpa using this
  have hs1' : w.heap.size + 1 < w1.heap.size := by omega
  clear hr hB
  go_wp2
  refine bodyPost_ret (v := .tuple #[.agg #[.slice none 0 0, .int .i64 0], .int .i64 1]) (by simp [results, Try.results13, go_sem, r0, r1, hs1']) rfl ⟨rfl, ?_⟩
  exact ((hE1.setCell (by simp) _).setCell (by simp) _).alloc (by simp; omega) _

set_option maxRecDepth 100000 in
set_option maxHeartbeats 2000000 in
theorem write_state (v u : Value) (l : List UInt8) (s : Int) (w : World) (h : Bytes w v l) (hbad : l.length < s) :
    Calls Try.prog 13 #[.agg #[v, .int .i64 s], u] w fun e w' => e = .returned (.tuple #[.agg #[.slice none 0 0, .int .i64 0], .int .i64 9]) ∧ Ext w w' := by
  obtain ⟨a, cap, rfl, hr⟩ := h
  have hB : Bytes w (.slice a l.length cap) l := ⟨_, _, rfl, hr⟩
  go_enter Try.func13, Try.ntmps13
  go_wp2_with fail
  refine (open_bad _ l s _ (hB.ext (((Ext.refl w).alloc (Nat.le_refl _) _).alloc (by simp) _)) hbad).mono ?_
  rintro e w1 ⟨rfl, hext⟩
  have hE1 : Ext w w1 := (((Ext.refl w).alloc (Nat.le_refl _) _).alloc (by simp) _).trans (hext.mono (by simp; omega))
  have r0 : w1.cell? ⟨w.heap.size + 1, 0, none⟩ = some (.slice none 0 0) := cell_later hext (by simp [go_sem])
  have r1 : w1.cell? ⟨w.heap.size + 1, 1, none⟩ = some (.int .i64 0) := cell_later hext (by simp [go_sem])
  have q0 : w1.frozen? ⟨w.heap.size + 1, 0, none⟩ = false := (hext.frozen (p := ⟨w.heap.size + 1, 0, none⟩) (by simp)).trans (by simp [go_sem])
  have q1 : w1.frozen? ⟨w.heap.size + 1, 1, none⟩ = false := (hext.frozen (p := ⟨w.heap.size + 1, 1, none⟩) (by simp)).trans (by simp [go_sem])
  have hs1 : w.heap.size + 2 ≤ w1.heap.size := by have := hext.size; simpa using this
  have hs1' : w.heap.size + 1 < w1.heap.size := by omega
  clear hr hB
  go_wp2
  refine bodyPost_ret (v := .tuple #[.agg #[.slice none 0 0, .int .i64 0], .int .i64 9]) (by simp [results, Try.results13, go_sem, r0, r1, hs1']) rfl ⟨rfl, ?_⟩
  exact ((hE1.setCell (by simp) _).setCell (by simp) _).alloc (by simp; omega) _

end Go.Proofs.Ytngcbfefhlheoaa
