/- Contracts: tape.Sync, Crash, Repair. -/
import Derived.Test.YtngcbfefhlheoaaTaped
namespace Go.Proofs.Ytngcbfefhlheoaa
open Go.RowKit

theorem own_same (a : Option Addr) (n c m d : Nat) : (Value.slice a n c).ownBlock = (Value.slice a m d).ownBlock := by cases a <;> rfl

theorem bytes_setCell {w : World} {a : Option Addr} {n cap base : Nat} {l : List UInt8} (h : w.ownsRow base 5 1 (.slice a n cap) n (l.map bv)) (p : Addr) (v : Value) (hp : p.block < base ∨ ∀ b, (Value.slice a n cap).ownBlock = some b → b ≠ p.block) : (w.setCell p v).ownsRow base 5 1 (.slice a n cap) n (l.map bv) :=
  own_setCell h v fun e => by
    rcases hp with hp | hp
    · have := (h.lt _ e).1; omega
    · exact hp _ e rfl

set_option maxRecDepth 100000 in
set_option maxHeartbeats 2000000 in
theorem sync_any (v : Value) (l : List UInt8) (s : Int) (w : World) (h : Bytes w v l) (hl : l.length ≤ 1048576) (h0 : 0 ≤ s) (h1 : s ≤ l.length) :
    Calls Try.prog 17 #[.agg #[v, .int .i64 s]] w fun e w' => ∃ v', e = .returned (.tuple #[.agg #[v', .int .i64 (l.length : Int)], .int .i64 0]) ∧ w'.ownsRow w.heap.size 5 1 v' l.length (l.map bv) ∧ Ext w w' := by
  obtain ⟨a, cap, rfl, hr⟩ := h
  have hB : Bytes w (.slice a l.length cap) l := ⟨_, _, rfl, hr⟩
  clear hr
  go_enter Try.func17, Try.ntmps17
  go_wp2_with fail
  refine (open_good _ l s _ (hB.ext (((Ext.refl w).alloc (Nat.le_refl _) _).alloc (by simp) _)) hl h0 h1).mono ?_
  rintro e w1 ⟨v', rfl, hown, hext⟩
  obtain ⟨ax, cx, rfl, hrx⟩ := hown.row
  have hE1 : Ext w w1 := Below.trans (((Ext.refl w).alloc (Nat.le_refl _) _).alloc (by simp) _) (hext.mono (by simp; omega))
  have r0 : w1.cell? ⟨w.heap.size + 1, 0, none⟩ = some (.slice none 0 0) := cell_later hext (by simp [go_sem])
  have r1 : w1.cell? ⟨w.heap.size + 1, 1, none⟩ = some (.int .i64 0) := cell_later hext (by simp [go_sem])
  have q0 : w1.frozen? ⟨w.heap.size + 1, 0, none⟩ = false := (hext.frozen (p := ⟨w.heap.size + 1, 0, none⟩) (by simp)).trans (by simp [go_sem])
  have q1 : w1.frozen? ⟨w.heap.size + 1, 1, none⟩ = false := (hext.frozen (p := ⟨w.heap.size + 1, 1, none⟩) (by simp)).trans (by simp [go_sem])
  have hs1 : w.heap.size + 2 ≤ w1.heap.size := by have := hext.size; simpa using this
  have hown2 := own_down (base' := w.heap.size + 2) hown (by simp)
  clear hB hrx hown hext
  have r04 : (w1.alloc (Obj.cells #[.slice ax l.length cx, .int .i64 s] 30)).cell? ⟨w.heap.size + 1, 0, none⟩ = some (.slice none 0 0) := by rw [World.cell?_alloc_past _ _ _ (by show w.heap.size + 1 < _; omega)]; exact r0
  have r14 : (w1.alloc (Obj.cells #[.slice ax l.length cx, .int .i64 s] 30)).cell? ⟨w.heap.size + 1, 1, none⟩ = some (.int .i64 0) := by rw [World.cell?_alloc_past _ _ _ (by show w.heap.size + 1 < _; omega)]; exact r1
  have q04 : (w1.alloc (Obj.cells #[.slice ax l.length cx, .int .i64 s] 30)).frozen? ⟨w.heap.size + 1, 0, none⟩ = false := by rw [World.frozen?_alloc_past _ _ _ (by show w.heap.size + 1 < _; omega)]; exact q0
  have q14 : (w1.alloc (Obj.cells #[.slice ax l.length cx, .int .i64 s] 30)).frozen? ⟨w.heap.size + 1, 1, none⟩ = false := by rw [World.frozen?_alloc_past _ _ _ (by show w.heap.size + 1 < _; omega)]; exact q1
  have r04b : (w1.alloc (Obj.cells #[.slice ax l.length cx, .int .i64 (l.length : Int)] 30)).cell? ⟨w.heap.size + 1, 0, none⟩ = some (.slice none 0 0) := by rw [World.cell?_alloc_past _ _ _ (by show w.heap.size + 1 < _; omega)]; exact r0
  have r14b : (w1.alloc (Obj.cells #[.slice ax l.length cx, .int .i64 (l.length : Int)] 30)).cell? ⟨w.heap.size + 1, 1, none⟩ = some (.int .i64 0) := by rw [World.cell?_alloc_past _ _ _ (by show w.heap.size + 1 < _; omega)]; exact r1
  have q04b : (w1.alloc (Obj.cells #[.slice ax l.length cx, .int .i64 (l.length : Int)] 30)).frozen? ⟨w.heap.size + 1, 0, none⟩ = false := by rw [World.frozen?_alloc_past _ _ _ (by show w.heap.size + 1 < _; omega)]; exact q0
  have q14b : (w1.alloc (Obj.cells #[.slice ax l.length cx, .int .i64 (l.length : Int)] 30)).frozen? ⟨w.heap.size + 1, 1, none⟩ = false := by rw [World.frozen?_alloc_past _ _ _ (by show w.heap.size + 1 < _; omega)]; exact q1
  have hne : ¬ w1.heap.size = w.heap.size + 1 := by omega
  have hne' : ¬ w.heap.size + 1 = w1.heap.size := by omega
  have HO := Lib.hid hown2
  have HE := Lib.hid hE1
  clear hown2 hE1 r0 r1 q0 q1
  go_wp2
  have hlt := fun b hb => (HO.out.lt b hb)
  refine bodyPost_ret (v := .tuple #[.agg #[.slice ax l.length cx, .int .i64 (l.length : Int)], .int .i64 0]) (by simp [results, Try.results17, go_sem, r04b, r14b]) rfl ⟨_, rfl, ?_, ?_⟩
  · exact own_down (bytes_setCell (bytes_setCell (HO.out.alloc (Obj.cells #[.slice ax l.length cx, .int .i64 (l.length : Int)] 30)) ⟨w.heap.size + 1, 0, none⟩ (.slice ax l.length cx) (.inl (by show w.heap.size + 1 < _; omega))) ⟨w.heap.size + 1, 1, none⟩ (.int .i64 (l.length : Int)) (.inl (by show w.heap.size + 1 < _; omega))) (by omega)
  · exact ((HE.out.alloc (by omega) _).setCell (p := ⟨w.heap.size + 1, 0, none⟩) (by simp) _).setCell (p := ⟨w.heap.size + 1, 1, none⟩) (by simp) _

set_option maxRecDepth 100000 in
set_option maxHeartbeats 2000000 in
theorem crash_any (v : Value) (l : List UInt8) (s keep n : Nat) (w : World) (h : Bytes w v l) (hl : l.length ≤ 1048576) (h1 : s ≤ l.length) (hk : keep ≤ 1000000) (hn : n = s + min keep (l.length - s)) :
    Calls Try.prog 18 #[.agg #[v, .int .i64 (s : Int)], .int .i64 (keep : Int)] w fun e w' => ∃ v', e = .returned (.tuple #[.agg #[v', .int .i64 (n : Int)], .int .i64 0]) ∧ Bytes w' v' (l.take n) ∧ Ext w w' ∧ ∀ b, v'.ownBlock = some b → w.heap.size ≤ b := by
  obtain ⟨a, cap, rfl, hr⟩ := h
  have hB : Bytes w (.slice a l.length cap) l := ⟨_, _, rfl, hr⟩
  clear hr
  go_enter Try.func18, Try.ntmps18
  go_wp2_with fail
  refine (open_good _ l s _ (hB.ext (((Ext.refl w).alloc (Nat.le_refl _) _).alloc (by simp) _)) hl (by omega) (by omega)).mono ?_
  rintro e w1 ⟨v', rfl, hown, hext⟩
  obtain ⟨ax, cx, rfl, hrx⟩ := hown.row
  have hcx := hrx.le
  have hcm := hrx.max
  unfold maxLen at hcm
  have hcm2 : cx ≤ 9223372036854775807 := by omega
  clear hcm
  have hE1 : Ext w w1 := Below.trans (((Ext.refl w).alloc (Nat.le_refl _) _).alloc (by simp) _) (hext.mono (by simp; omega))
  have r0 : w1.cell? ⟨w.heap.size + 1, 0, none⟩ = some (.slice none 0 0) := cell_later hext (by simp [go_sem])
  have r1 : w1.cell? ⟨w.heap.size + 1, 1, none⟩ = some (.int .i64 0) := cell_later hext (by simp [go_sem])
  have q0 : w1.frozen? ⟨w.heap.size + 1, 0, none⟩ = false := (hext.frozen (p := ⟨w.heap.size + 1, 0, none⟩) (by simp)).trans (by simp [go_sem])
  have q1 : w1.frozen? ⟨w.heap.size + 1, 1, none⟩ = false := (hext.frozen (p := ⟨w.heap.size + 1, 1, none⟩) (by simp)).trans (by simp [go_sem])
  have hs1 : w.heap.size + 2 ≤ w1.heap.size := by have := hext.size; simpa using this
  have hown2 := own_down (base' := w.heap.size + 2) hown (by simp)
  clear hB hrx hown hext
  have r04 : (w1.alloc (Obj.cells #[.slice ax l.length cx, .int .i64 (s : Int)] 30)).cell? ⟨w.heap.size + 1, 0, none⟩ = some (.slice none 0 0) := by rw [World.cell?_alloc_past _ _ _ (by show w.heap.size + 1 < _; omega)]; exact r0
  have r14 : (w1.alloc (Obj.cells #[.slice ax l.length cx, .int .i64 (s : Int)] 30)).cell? ⟨w.heap.size + 1, 1, none⟩ = some (.int .i64 0) := by rw [World.cell?_alloc_past _ _ _ (by show w.heap.size + 1 < _; omega)]; exact r1
  have q04 : (w1.alloc (Obj.cells #[.slice ax l.length cx, .int .i64 (s : Int)] 30)).frozen? ⟨w.heap.size + 1, 0, none⟩ = false := by rw [World.frozen?_alloc_past _ _ _ (by show w.heap.size + 1 < _; omega)]; exact q0
  have q14 : (w1.alloc (Obj.cells #[.slice ax l.length cx, .int .i64 (s : Int)] 30)).frozen? ⟨w.heap.size + 1, 1, none⟩ = false := by rw [World.frozen?_alloc_past _ _ _ (by show w.heap.size + 1 < _; omega)]; exact q1
  have hne : ¬ w1.heap.size = w.heap.size + 1 := by omega
  have hne' : ¬ w.heap.size + 1 = w1.heap.size := by omega
  have HO := Lib.hid hown2
  have HE := Lib.hid hE1
  clear hown2 hE1 r0 r1 q0 q1
  have hfin : ∀ (m : Nat) (mi : Int), m ≤ l.length → n = m → mi = (m : Int) → Hid (∀ (W : World), (w1.alloc (Obj.cells #[.slice ax l.length cx, .int .i64 (s : Int)] 30)) = W → Bytes ((W.setCell ⟨w.heap.size + 1, 0, none⟩ (.slice ax m m)).setCell ⟨w.heap.size + 1, 1, none⟩ (.int .i64 mi)) (.slice ax m m) (l.take n) ∧ Ext w ((W.setCell ⟨w.heap.size + 1, 0, none⟩ (.slice ax m m)).setCell ⟨w.heap.size + 1, 1, none⟩ (.int .i64 mi))) := by
    intro m mi hm hnm hmi
    show ∀ (W : World), _ → _
    rintro W rfl
    subst hnm
    subst hmi
    refine ⟨?_, ((HE.out.alloc (by omega) _).setCell (by simp) _).setCell (by simp) _⟩
    have hb := (bytes_setCell (bytes_setCell (HO.out.alloc (Obj.cells #[.slice ax l.length cx, .int .i64 (s : Int)] 30)) ⟨w.heap.size + 1, 0, none⟩ (.slice ax n n) (.inl (by show w.heap.size + 1 < _; omega))) ⟨w.heap.size + 1, 1, none⟩ (.int .i64 (n : Int)) (.inl (by show w.heap.size + 1 < _; omega))).reads
    exact bytes_cap (bytes_take (show Bytes _ (.slice ax l.length cx) l from hb) n hm) n (Nat.le_refl _) (by omega)
  by_cases hc : keep ≤ l.length - s
  · have hnn : n = s + keep := by omega
    have F := hfin (s + keep) ((s : Int) + (keep : Int)) (by omega) hnn (by omega)
    have e1 : (keep : Int) ≤ (l.length : Int) - (s : Int) := by omega
    have e2 : ((s + keep : Nat) : Int) = (s : Int) + (keep : Int) := by omega
    have hx : s + keep ≤ cx := by omega
    subst hnn
    clear hfin hc hn
    go_wp2
    refine bodyPost_ret (v := .tuple #[.agg #[.slice ax (s + keep) (s + keep), .int .i64 ((s : Int) + (keep : Int))], .int .i64 0]) (by simp [results, Try.results18, go_sem, r04, r14]) rfl ⟨.slice ax (s + keep) (s + keep), by rw [e2], (F.out _ rfl).1, (F.out _ rfl).2, fun b hb => by have := (HO.out.lt b ((own_same ax l.length cx _ _).trans hb)).1; omega⟩
  · have hnn : n = l.length := by omega
    have F := hfin l.length ((s : Int) + ((l.length : Int) - (s : Int))) (by omega) hnn (by omega)
    have e1 : ¬ (keep : Int) ≤ (l.length : Int) - (s : Int) := by omega
    subst hnn
    clear hfin hc hn
    go_wp2
    refine bodyPost_ret (v := .tuple #[.agg #[.slice ax l.length l.length, .int .i64 ((s : Int) + ((l.length : Int) - (s : Int)))], .int .i64 0]) (by simp [results, Try.results18, go_sem, r04, r14]) rfl ⟨.slice ax l.length l.length, by rw [show (s : Int) + ((l.length : Int) - (s : Int)) = (l.length : Int) by omega], (F.out _ rfl).1, (F.out _ rfl).2, fun b hb => by have := (HO.out.lt b ((own_same ax l.length cx _ _).trans hb)).1; omega⟩

set_option maxRecDepth 100000 in
set_option maxHeartbeats 2000000 in
theorem repair_any (v : Value) (l : List UInt8) (s : Nat) (w : World) (h : Bytes w v l) (hl : l.length ≤ 1048576) (h1 : s ≤ l.length) (at' : Nat) (bt : List UInt8) (hat2 : (readL l).2 = at') (hbt : l.take at' = bt) :
    Calls Try.prog 19 #[.agg #[v, .int .i64 (s : Int)]] w fun e w' => ∃ v', e = .returned (.tuple #[.agg #[v', .int .i64 ((min s at' : Nat) : Int)], .int .i64 0]) ∧ w'.ownsRow w.heap.size 5 1 v' bt.length (bt.map bv) ∧ Ext w w' := by
  obtain ⟨a, cap, rfl, hr⟩ := h
  have hB : Bytes w (.slice a l.length cap) l := ⟨_, _, rfl, hr⟩
  have hcx := hr.le
  have hcm := hr.max
  unfold maxLen at hcm
  have hcm2 : cap ≤ 9223372036854775807 := by omega
  have hat := readL_le' l
  rw [hat2] at hat
  have HAT := Lib.hid hat2
  have hbl : bt.length ≤ 1048576 := by rw [← hbt]; simp; omega
  have HBT := Lib.hid hbt
  clear hat2 hbt
  clear hr hcm
  go_enter Try.func19, Try.ntmps19
  go_wp2_with fail
  have hE0 : Ext w ((w.alloc (Obj.cells #[.slice a l.length cap, .int .i64 (s : Int)] 30)).alloc (Obj.cells #[.slice none 0 0, .int .i64 0] 30)) := ((Ext.refl w).alloc (Nat.le_refl _) _).alloc (by simp) _
  have a0 : ((w.alloc (Obj.cells #[.slice a l.length cap, .int .i64 (s : Int)] 30)).alloc (Obj.cells #[.slice none 0 0, .int .i64 0] 30)).cell? ⟨w.heap.size, 0, none⟩ = some (.slice a l.length cap) := by simp [go_sem]
  have a1 : ((w.alloc (Obj.cells #[.slice a l.length cap, .int .i64 (s : Int)] 30)).alloc (Obj.cells #[.slice none 0 0, .int .i64 0] 30)).cell? ⟨w.heap.size, 1, none⟩ = some (.int .i64 (s : Int)) := by simp [go_sem]
  have b0 : ((w.alloc (Obj.cells #[.slice a l.length cap, .int .i64 (s : Int)] 30)).alloc (Obj.cells #[.slice none 0 0, .int .i64 0] 30)).cell? ⟨w.heap.size + 1, 0, none⟩ = some (.slice none 0 0) := by simp [go_sem]
  have b1 : ((w.alloc (Obj.cells #[.slice a l.length cap, .int .i64 (s : Int)] 30)).alloc (Obj.cells #[.slice none 0 0, .int .i64 0] 30)).cell? ⟨w.heap.size + 1, 1, none⟩ = some (.int .i64 0) := by simp [go_sem]
  have f0 : ((w.alloc (Obj.cells #[.slice a l.length cap, .int .i64 (s : Int)] 30)).alloc (Obj.cells #[.slice none 0 0, .int .i64 0] 30)).frozen? ⟨w.heap.size + 1, 0, none⟩ = false := by simp [go_sem]
  have f1 : ((w.alloc (Obj.cells #[.slice a l.length cap, .int .i64 (s : Int)] 30)).alloc (Obj.cells #[.slice none 0 0, .int .i64 0] 30)).frozen? ⟨w.heap.size + 1, 1, none⟩ = false := by simp [go_sem]
  have hsz : w.heap.size + 2 ≤ ((w.alloc (Obj.cells #[.slice a l.length cap, .int .i64 (s : Int)] 30)).alloc (Obj.cells #[.slice none 0 0, .int .i64 0] 30)).heap.size := by simp
  have hB2 := hB.ext hE0
  generalize (w.alloc (Obj.cells #[.slice a l.length cap, .int .i64 (s : Int)] 30)).alloc (Obj.cells #[.slice none 0 0, .int .i64 0] 30) = W0 at *
  refine (read_any _ l s W0 hB2 hl (by omega) (by omega)).mono ?_
  rintro e w1 ⟨vl, rfl, _, hE1⟩
  rw [HAT.out]
  replace a0 := cell_later hE1 a0
  replace a1 := cell_later hE1 a1
  replace b0 := cell_later hE1 b0
  replace b1 := cell_later hE1 b1
  replace f0 : w1.frozen? ⟨w.heap.size + 1, 0, none⟩ = false := (World.frozen?_of_block (hE1.block (w.heap.size + 1) (by omega))).trans f0
  replace f1 : w1.frozen? ⟨w.heap.size + 1, 1, none⟩ = false := (World.frozen?_of_block (hE1.block (w.heap.size + 1) (by omega))).trans f1
  have hB3 := bytes_take (hB2.ext hE1) at' hat
  have hE := hE0.trans hE1
  have hs1 : w.heap.size + 2 ≤ w1.heap.size := by have := hE1.size; omega
  have hac : at' ≤ cap := by omega
  clear hB hB2 hE0 hE1 hsz
  rw [HBT.out] at hB3
  have HB3 := Lib.hid hB3
  have HE := Lib.hid hE
  clear hB3 hE
  by_cases hmn : s ≤ at'
  · have em : (s : Int) ≤ (at' : Int) := by omega
    go_wp2_with fail
    go_region_held3 (fun w' => w'.cell? ⟨w.heap.size, 0, none⟩ = some (.slice a l.length cap) ∧ w'.cell? ⟨w.heap.size, 1, none⟩ = some (.int .i64 (s : Int)))
      (first | exact ⟨a0, a1⟩ | exact ⟨x0, x1⟩ | go_keep)
      (first
        | (go_at_call 24
           refine (clone_any _ bt _ (HB3.out.ext (Below.drew (Ext.refl _))) hbl).mono ?_
           rintro e w2 ⟨v', rfl, hown, hext⟩
           obtain ⟨a', c', rfl, hr'⟩ := hown.row
           have x0 : w2.cell? ⟨w.heap.size, 0, none⟩ = some (.slice a l.length cap) := cell_later hext a0
           have x1 : w2.cell? ⟨w.heap.size, 1, none⟩ = some (.int .i64 (s : Int)) := cell_later hext a1
           have y0 : w2.cell? ⟨w.heap.size + 1, 0, none⟩ = some (.slice none 0 0) := cell_later hext b0
           have y1 : w2.cell? ⟨w.heap.size + 1, 1, none⟩ = some (.int .i64 0) := cell_later hext b1
           have z0 : w2.frozen? ⟨w.heap.size + 1, 0, none⟩ = false := (hext.frozen (p := ⟨w.heap.size + 1, 0, none⟩) (by show w.heap.size + 1 < w1.heap.size; omega)).trans f0
           have z1 : w2.frozen? ⟨w.heap.size + 1, 1, none⟩ = false := (hext.frozen (p := ⟨w.heap.size + 1, 1, none⟩) (by show w.heap.size + 1 < w1.heap.size; omega)).trans f1))
    all_goals
      go_wp2
      all_goals
        refine bodyPost_ret (v := .tuple #[.agg #[.slice a' bt.length c', .int .i64 (s : Int)], .int .i64 0]) (by simp [results, Try.results19, go_sem, y0, y1]) rfl ⟨_, (by first | rfl | rw [Nat.min_eq_left hmn]), ?_, ?_⟩
        · exact own_down (bytes_setCell (bytes_setCell hown ⟨w.heap.size + 1, 0, none⟩ _ (.inl (by show w.heap.size + 1 < w1.heap.size; omega))) ⟨w.heap.size + 1, 1, none⟩ _ (.inl (by show w.heap.size + 1 < w1.heap.size; omega))) (by show w.heap.size ≤ w1.heap.size; omega)
        · exact ((HE.out.drew.trans (hext.mono (by show w.heap.size ≤ w1.heap.size; omega))).setCell (p := ⟨w.heap.size + 1, 0, none⟩) (by simp) _).setCell (p := ⟨w.heap.size + 1, 1, none⟩) (by simp) _
  · have em : ¬ (s : Int) ≤ (at' : Int) := by omega
    go_wp2_with fail
    go_region_held3 (fun w' => w'.cell? ⟨w.heap.size, 0, none⟩ = some (.slice a l.length cap) ∧ w'.cell? ⟨w.heap.size, 1, none⟩ = some (.int .i64 (s : Int)))
      (first | exact ⟨a0, a1⟩ | exact ⟨x0, x1⟩ | go_keep)
      (first
        | (go_at_call 24
           refine (clone_any _ bt _ (HB3.out.ext (Below.drew (Ext.refl _))) hbl).mono ?_
           rintro e w2 ⟨v', rfl, hown, hext⟩
           obtain ⟨a', c', rfl, hr'⟩ := hown.row
           have x0 : w2.cell? ⟨w.heap.size, 0, none⟩ = some (.slice a l.length cap) := cell_later hext a0
           have x1 : w2.cell? ⟨w.heap.size, 1, none⟩ = some (.int .i64 (s : Int)) := cell_later hext a1
           have y0 : w2.cell? ⟨w.heap.size + 1, 0, none⟩ = some (.slice none 0 0) := cell_later hext b0
           have y1 : w2.cell? ⟨w.heap.size + 1, 1, none⟩ = some (.int .i64 0) := cell_later hext b1
           have z0 : w2.frozen? ⟨w.heap.size + 1, 0, none⟩ = false := (hext.frozen (p := ⟨w.heap.size + 1, 0, none⟩) (by show w.heap.size + 1 < w1.heap.size; omega)).trans f0
           have z1 : w2.frozen? ⟨w.heap.size + 1, 1, none⟩ = false := (hext.frozen (p := ⟨w.heap.size + 1, 1, none⟩) (by show w.heap.size + 1 < w1.heap.size; omega)).trans f1))
    all_goals
      go_wp2
      all_goals
        refine bodyPost_ret (v := .tuple #[.agg #[.slice a' bt.length c', .int .i64 (at' : Int)], .int .i64 0]) (by simp [results, Try.results19, go_sem, y0, y1]) rfl ⟨_, (by first | rfl | rw [Nat.min_eq_right (by omega)]), ?_, ?_⟩
        · exact own_down (bytes_setCell (bytes_setCell hown ⟨w.heap.size + 1, 0, none⟩ _ (.inl (by show w.heap.size + 1 < w1.heap.size; omega))) ⟨w.heap.size + 1, 1, none⟩ _ (.inl (by show w.heap.size + 1 < w1.heap.size; omega))) (by show w.heap.size ≤ w1.heap.size; omega)
        · exact ((HE.out.drew.trans (hext.mono (by show w.heap.size ≤ w1.heap.size; omega))).setCell (p := ⟨w.heap.size + 1, 0, none⟩) (by simp) _).setCell (p := ⟨w.heap.size + 1, 1, none⟩) (by simp) _
end Go.Proofs.Ytngcbfefhlheoaa
