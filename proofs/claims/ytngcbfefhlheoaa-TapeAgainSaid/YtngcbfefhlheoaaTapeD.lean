/- Contracts: tape.Write. -/
import Derived.Test.YtngcbfefhlheoaaTapeC
import Derived.Test.YtngcbfefhlheoaaMem
namespace Go.Proofs.Ytngcbfefhlheoaa
open Go.RowKit

def body (zs : List Int) : List UInt8 := be4 zs.length ++ zs.flatMap be4
def recB (zs : List Int) : List UInt8 := body zs ++ be4 (sumL (body zs))

theorem flat4_len (zs : List Int) : (zs.flatMap be4).length = 4 * zs.length := by
  induction zs with
  | nil => rfl
  | cons z zs ih => rw [List.flatMap_cons, List.length_append, be4_len, ih, List.length_cons]; omega

theorem body_len (zs : List Int) : (body zs).length = 4 + 4 * zs.length := by rw [body, List.length_append, be4_len, flat4_len]
theorem recB_len (zs : List Int) : (recB zs).length = 8 + 4 * zs.length := by rw [recB, List.length_append, be4_len, body_len]; omega

theorem flat4_succ (zs : List Int) (k : Nat) (h : k < zs.length) : (zs.take (k + 1)).flatMap be4 = (zs.take k).flatMap be4 ++ be4 zs[k] := by
  rw [List.take_succ_eq_append_getElem h, List.flatMap_append]
  simp

set_option maxRecDepth 100000 in
set_option maxHeartbeats 4000000 in
theorem write_own (v u : Value) (l : List UInt8) (s : Int) (zs : List Int) (w : World) (h : Bytes w v l) (hu : Ints w u zs) (hl : l.length + 8 + 4 * zs.length ≤ 1048576) (h0 : 0 ≤ s) (h1 : s ≤ l.length)
    (hz : zs.length ≤ 4000) (hI : ∀ z ∈ zs, 0 ≤ z ∧ z ≤ 2147483647) :
    Calls Try.prog 13 #[.agg #[v, .int .i64 s], u] w fun e w' => ∃ v', e = .returned (.tuple #[.agg #[v', .int .i64 s], .int .i64 0]) ∧ w'.ownsRow w.heap.size 5 1 v' (l ++ recB zs).length ((l ++ recB zs).map bv) ∧ Ext w w' := by
  obtain ⟨a, cap, rfl, hr⟩ := h
  have hB : Bytes w (.slice a l.length cap) l := ⟨_, _, rfl, hr⟩
  obtain ⟨au, cu, rfl, hru⟩ := hu
  go_enter Try.func13, Try.ntmps13
  go_wp2_with fail
  refine (open_good _ l s _ (hB.ext (((Ext.refl w).alloc (Nat.le_refl _) _).alloc (by simp) _)) (by omega) h0 h1).mono ?_
  rintro e w1 ⟨v', rfl, hown, hext⟩
  obtain ⟨ax, cx, rfl, hrx⟩ := hown.row
  have hE1 : Ext w w1 := (((Ext.refl w).alloc (Nat.le_refl _) _).alloc (by simp) _).trans (hext.mono (by simp; omega))
  have r0 : w1.cell? ⟨w.heap.size + 1, 0, none⟩ = some (.slice none 0 0) := cell_later hext (by simp [go_sem])
  have r1 : w1.cell? ⟨w.heap.size + 1, 1, none⟩ = some (.int .i64 0) := cell_later hext (by simp [go_sem])
  have q0 : w1.frozen? ⟨w.heap.size + 1, 0, none⟩ = false := (hext.frozen (p := ⟨w.heap.size + 1, 0, none⟩) (by simp)).trans (by simp [go_sem])
  have q1 : w1.frozen? ⟨w.heap.size + 1, 1, none⟩ = false := (hext.frozen (p := ⟨w.heap.size + 1, 1, none⟩) (by simp)).trans (by simp [go_sem])
  have hs1 : w.heap.size + 2 ≤ w1.heap.size := by have := hext.size; simpa using this
  clear hr hB
  go_wp2_with fail
  have hE3 : Ext w (w1.alloc (Obj.cells #[.slice ax l.length cx, .int .i64 s] 30)) := hE1.alloc (by omega) _
  have hru3 := hru.ext hE3
  have hown3 := hown.alloc (Obj.cells #[.slice ax l.length cx, .int .i64 s] 30)
  have x0 : (w1.alloc (Obj.cells #[.slice ax l.length cx, .int .i64 s] 30)).cell? ⟨w1.heap.size, 0, none⟩ = some (.slice ax l.length cx) := by simp [go_sem]
  have x1 : (w1.alloc (Obj.cells #[.slice ax l.length cx, .int .i64 s] 30)).cell? ⟨w1.heap.size, 1, none⟩ = some (.int .i64 s) := by simp [go_sem]
  have fx0 : (w1.alloc (Obj.cells #[.slice ax l.length cx, .int .i64 s] 30)).frozen? ⟨w1.heap.size, 0, none⟩ = false := by simp [go_sem]
  have r0' := cell_later (wx := w1.alloc (Obj.cells #[.slice ax l.length cx, .int .i64 s] 30)) ((Ext.refl w1).alloc (Nat.le_refl _) _) r0
  have r1' := cell_later (wx := w1.alloc (Obj.cells #[.slice ax l.length cx, .int .i64 s] 30)) ((Ext.refl w1).alloc (Nat.le_refl _) _) r1
  have q0' : (w1.alloc (Obj.cells #[.slice ax l.length cx, .int .i64 s] 30)).frozen? ⟨w.heap.size + 1, 0, none⟩ = false := by rw [World.frozen?_alloc_past _ _ _ (by omega)]; exact q0
  have q1' : (w1.alloc (Obj.cells #[.slice ax l.length cx, .int .i64 s] 30)).frozen? ⟨w.heap.size + 1, 1, none⟩ = false := by rw [World.frozen?_alloc_past _ _ _ (by omega)]; exact q1
  have hs3 : (w1.alloc (Obj.cells #[.slice ax l.length cx, .int .i64 s] 30)).heap.size = w1.heap.size + 1 := by simp
  generalize w1.alloc (Obj.cells #[.slice ax l.length cx, .int .i64 s] 30) = W3 at *
  have hxl : ∀ k, (Value.slice ax l.length cx).ownBlock = some k → w.heap.size + 2 ≤ k ∧ k < w1.heap.size := fun k hk => by
    have := hown.lt k hk
    simpa using this
  have hown3 := own_down (base' := w.heap.size + 2) hown3 (by simp)
  generalize w1.heap.size = bx at *
  obtain ⟨bu, offu, hnilu, hau, hcu⟩ := hru3.lie
  clear hown hrx hru r0 r1 q0 q1 hE1 hext
  refine (put_any W3.heap.size (.slice none 0 0) [] zs.length W3 (World.ownsRow_nil _ _ _ _) (Nat.le_refl _) (by simp) (by omega) (by omega)).mono ?_
  rintro e w4 ⟨v4, rfl, hown4, hg4⟩
  have hE4 : Ext W3 w4 := (Ext.refl W3).grown hg4 (Nat.le_refl _) (by simp [Value.ownBlock])
  clear hg4
  go_wp2_with fail
  go_loopw [8, 28] (fun b i wr => ∃ k : Nat, k ≤ zs.length ∧ i = .int .i64 k ∧ wr.ownsRow W3.heap.size 5 1 b (be4 zs.length ++ (zs.take k).flatMap be4).length ((be4 zs.length ++ (zs.take k).flatMap be4).map bv) ∧ Ext W3 wr) (fun _ i _ => zs.length - (intOf i).toNat)
  case atStart => exact ⟨0, by omega, rfl, by simpa using hown4, hE4⟩
  case round =>
    obtain ⟨k, hk, rfl, hown5, hE5⟩ := hrel
    clear hown4 hE4
    by_cases hlt : k < zs.length
    · have hcell : wr.cell? ⟨bu, offu + k, none⟩ = some (.int .i64 zs[k]) := cell_later hE5 (hcu k _ (by simp [hlt]))
      obtain rfl := hau (by simp; omega)
      have hI1 := (hI zs[k] (by simp)).1
      have hI2 := (hI zs[k] (by simp)).2
      have HCu := Lib.hid hcu
      have HT := Lib.hid (flat4_succ zs k hlt)
      have hpl : (be4 zs.length ++ (zs.take k).flatMap be4).length ≤ 1000000 := by rw [List.length_append, be4_len, flat4_len]; simp; omega
      have hE5s := hE5.size
      clear hcu hau hnilu hI hru3
      go_wp2_with fail
      refine (put_any W3.heap.size _ _ zs[k] wr hown5 hE5s hpl hI1 hI2).mono ?_
      rintro e w6 ⟨v6, rfl, hown6, hg6⟩
      have hE6 : Ext W3 w6 := hE5.grown hg6 hE5s (fun g hg => (hown5.lt g hg).1)
      go_wp2
      go_roundw
      case rel => exact ⟨k + 1, by omega, by go_num, by rw [HT.out, ← List.append_assoc]; exact hown6, hE6⟩
      case measure => simp [intOf]; omega
    · obtain rfl : k = zs.length := by omega
      have hbl : (body zs).length ≤ 1000000 := by rw [body_len]; omega
      rw [List.take_length, show be4 zs.length ++ zs.flatMap be4 = body zs from rfl] at hown5
      have hsb := sumL_bd (body zs)
      have hE5s := hE5.size
      go_wp2_with fail
      refine (sum_any _ (body zs) wr hown5.reads).mono ?_
      rintro e w6 ⟨rfl, rfl⟩
      go_wp2_with fail
      refine (put_any W3.heap.size _ _ (sumL (body zs)) wr hown5 hE5s hbl (by omega) (by omega)).mono ?_
      rintro e w6 ⟨v6, rfl, hown6, hg6⟩
      have hE6 : Ext W3 w6 := hE5.grown hg6 hE5s (fun g hg => (hown5.lt g hg).1)
      rw [show body zs ++ be4 (sumL (body zs)) = recB zs from rfl] at hown6
      have hrl := recB_len zs
      generalize hrb : recB zs = rb at *
      have Hrb := Lib.hid hrb
      clear hrb
      obtain ⟨a6, c6, rfl, hr6⟩ := hown6.row
      have x06 := cell_later hE6 x0
      have x16 := cell_later hE6 x1
      have hown7 := own_ext hown3 hE6
      have hE6s := hE6.size
      have hn1 : l.length + rb.length ≤ 1048576 := by omega
      clear hrl x0 x1 hown6
      have hone := bv_one rb
      have hbase : w.heap.size + 2 ≤ w6.heap.size := by omega
      have hs3a : bx < W3.heap.size := by omega
      clear hs3 hsb hbl
      go_wp2_with (at_builtin; go_must (refine wpl_append rfl rfl Try.slBytes (w.heap.size + 2) rfl hown7 rfl hr6 hone (by unfold maxLen; omega) (by omega) hbase ?_))
      intro v8 w8 hown8 hg8 hb8 _
      obtain ⟨a8, c8, rfl, hr8⟩ := hown8.row
      have hxb : ∀ k, (Value.slice ax l.length cx).ownBlock = some k → k ≠ bx ∧ k ≠ w.heap.size + 1 := fun k hk => by have := hxl k hk; omega
      have nb : ∀ p : Addr, p.block = bx ∨ p.block = w.heap.size + 1 → some p.block ≠ (Value.slice ax l.length cx).ownBlock := fun p hp e => by have := hxb _ e.symm; omega
      have x08 := hg8.cell x06 (nb _ (.inl rfl))
      have x18 := hg8.cell x16 (nb _ (.inl rfl))
      have r08 := hg8.cell (cell_later hE6 r0') (nb _ (.inr rfl))
      have r18 := hg8.cell (cell_later hE6 r1') (nb _ (.inr rfl))
      have fz : ∀ p : Addr, W3.frozen? p = false → p.block = bx ∨ p.block = w.heap.size + 1 → p.block < W3.heap.size → w8.frozen? p = false := fun p hp hq hl => by
        rw [World.frozen?_of_block (hg8.block p.block (by omega) (nb p hq)), hE6.frozen hl]; exact hp
      have fx08 := fz _ fx0 (.inl rfl) (by show bx < W3.heap.size; omega)
      have q08 := fz _ q0' (.inr rfl) (by show w.heap.size + 1 < W3.heap.size; omega)
      have q18 := fz _ q1' (.inr rfl) (by show w.heap.size + 1 < W3.heap.size; omega)
      have hbne : ¬ bx = w.heap.size + 1 := by omega
      have hbne' : ¬ w.heap.size + 1 = bx := by omega
      have hE8 : Ext w w8 := ((hE3.trans hE6)).grown hg8 (by omega) (fun k hk => by have := hxl k hk; omega)
      have hv8 : (Value.slice a8 (l.length + rb.length) c8).ownBlock ≠ some bx ∧ (Value.slice a8 (l.length + rb.length) c8).ownBlock ≠ some (w.heap.size + 1) := by
        rcases hb8 with h | h
        · rw [h]; exact ⟨fun e => (hxb _ e).1 rfl, fun e => (hxb _ e).2 rfl⟩
        · rw [h]; simp; omega
      clear hr6 hr8 hone hown7 hcu hau hnilu hI hru3 hxl hxb nb fz hb8 hg8 hE6 hE5 hE3 hown3 fx0 q0' q1' r0' r1' x06 x16 hl hn1
      go_wp2
      refine bodyPost_ret (v := .tuple #[.agg #[.slice a8 (l.length + rb.length) c8, .int .i64 s], .int .i64 0]) (by simp [results, Try.results13, go_sem, r08, r18]) rfl ⟨_, rfl, ?_, ?_⟩
      · have := own_setCell (own_setCell (own_setCell hown8 (p := ⟨bx, 0, none⟩) (.slice a8 (l.length + rb.length) c8) hv8.1) (p := ⟨w.heap.size + 1, 0, none⟩) (.slice a8 (l.length + rb.length) c8) hv8.2) (p := ⟨w.heap.size + 1, 1, none⟩) (.int .i64 s) hv8.2
        rw [Hrb.out, List.length_append, List.map_append]
        exact own_down this (by omega)
      · exact ((hE8.setCell (by simp; omega) _).setCell (by simp) _).setCell (by simp) _

theorem write_good (v u : Value) (l : List UInt8) (s : Int) (zs : List Int) (w : World) (h : Bytes w v l) (hu : Ints w u zs) (hl : l.length + 8 + 4 * zs.length ≤ 1048576) (h0 : 0 ≤ s) (h1 : s ≤ l.length)
    (hz : zs.length ≤ 4000) (hI : ∀ z ∈ zs, 0 ≤ z ∧ z ≤ 2147483647) :
    Calls Try.prog 13 #[.agg #[v, .int .i64 s], u] w fun e w' => ∃ v', e = .returned (.tuple #[.agg #[v', .int .i64 s], .int .i64 0]) ∧ Bytes w' v' (l ++ recB zs) ∧ Ext w w' :=
  (write_own v u l s zs w h hu hl h0 h1 hz hI).mono fun _ _ ⟨v', h1, h2, h3⟩ => ⟨v', h1, h2.reads, h3⟩

end Go.Proofs.Ytngcbfefhlheoaa
