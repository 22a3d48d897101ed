/- The law TapeSize. -/
import Derived.Test.YtngcbfefhlheoaaTapeE
namespace Go.Proofs.Ytngcbfefhlheoaa
open Go.RowKit

set_option maxRecDepth 100000 in
set_option maxHeartbeats 4000000 in
theorem tapeSize_walk (v : Value) (l : List Int) (q : Int) (w : World) (h : Ints w v l) (hI : ∀ n ∈ l, I64 n) (q1 : -9223372036854775808 ≤ q) (q2 : q ≤ 9223372036854775807) :
    Calls Try.prog 4 #[v, .int .i64 q] w fun e w' => e = .returned (.bool true) ∧ Ext w w' := by
  have hqb := pk_bd q 4 (by omega)
  obtain ⟨hq1, hq2⟩ := hqb
  go_enter Try.func4, Try.ntmps4
  go_wp2_with fail
  refine (record_any v l w h hI).mono ?_
  rintro e w1 ⟨vr, rfl, hown, hE1⟩
  have hrl := recL_len l
  have hrb := recL_bd l
  generalize recL l = r at *
  have hrl2 : r.length ≤ 12 := by omega
  have hwr : w.heap.size ≤ w1.heap.size := hE1.size
  clear hrl
  obtain ⟨ar, cr, rfl, hr⟩ := hown.row
  have hri : Ints w1 (.slice ar r.length cr) r := ⟨_, _, rfl, hr⟩
  clear hown
  go_wp2_with (go_at_call 11; refine (picked_any _ _ _ q1 q2 (by omega) (by omega)).mono ?_; rintro e w' ⟨rfl, rfl⟩)
  generalize hp : pk q 4 = s at *
  have Hp := Lib.hid hp
  clear hp
  have hb3 : Bytes (w1.alloc (Obj.cells #[.int .u8 1, .int .u8 2, .int .u8 3] 5)) (.slice (some ⟨w1.heap.size, 0, none⟩) 3 3) [1, 2, 3] :=
    ⟨_, _, rfl, Row.new w1 _ [.int .u8 1, .int .u8 2, .int .u8 3] (by simp [maxLen])⟩
  refine (write_good _ _ [1, 2, 3] s r _ hb3 (hri.ext ((Ext.refl w1).alloc (Nat.le_refl _) _)) (by simp; omega) hq1 (by simp; omega) (by omega) hrb).mono ?_
  rintro e w2 ⟨v2, rfl, hb2, hE2⟩
  have hE2 : Ext w1 w2 := ((Ext.refl w1).alloc (Nat.le_refl _) _).trans (hE2.mono (by simp))
  obtain ⟨a2, c2, rfl, _⟩ := hb2
  have hlen : ([1, 2, 3] ++ recB r).length = 11 + 4 * r.length := by rw [List.length_append, recB_len]; simp; omega
  generalize hl2 : ([1, 2, 3] ++ recB r).length = n2 at *
  have hw2 := hE2.size
  have hone : ∀ u ∈ r.map (Value.int .i64), u.oneCell' = true := by simp [Value.oneCell']
  have c0 : (w2.alloc (Obj.cells #[.slice a2 n2 c2, .int .i64 s] 30)).cell? ⟨w2.heap.size, 0, none⟩ = some (.slice a2 n2 c2) := by simp [go_sem]
  have c1 : (w2.alloc (Obj.cells #[.slice a2 n2 c2, .int .i64 s] 30)).cell? ⟨w2.heap.size, 1, none⟩ = some (.int .i64 s) := by simp [go_sem]
  have hE3 : Ext w1 (w2.alloc (Obj.cells #[.slice a2 n2 c2, .int .i64 s] 30)) := hE2.alloc hw2 _
  have Hl2 := Lib.hid hlen
  have hl2c := Lib.hid hl2
  clear hlen hl2 hri hE2
  generalize hW3 : w2.alloc (Obj.cells #[.slice a2 n2 c2, .int .i64 s] 30) = W3 at c0 c1 hE3
  have hra : Row W3 1 ar r.length cr (r.map (.int .i64)) := (hr.ext hE3).ext (Ext.refl W3)
  go_wp2_with (at_builtin; go_must (refine wpl_append rfl rfl Try.slInts W3.heap.size rfl (World.ownsRow_nil _ _ _ _) rfl hra hone (by unfold maxLen; omega) (by omega) (Nat.le_refl _) ?_))
  intro vaa waa hoaa hgaa _ _
  have hEaa : Ext W3 waa := (Ext.refl _).grown hgaa (Nat.le_refl _) (by simp [Value.ownBlock])
  have hwaa := hEaa.size
  go_wp2_with (at_builtin; go_must (refine wpl_append rfl rfl Try.slInts W3.heap.size rfl (hoaa.alloc _) (ao := some ⟨waa.heap.size, 0, none⟩) (m := 1) (c := 1) (news := [.int .i64 (-1)]) rfl (Row.one _ _ _) (one_int _) (by unfold maxLen; omega) (by omega) (Nat.le_trans hwaa (by rw [World.size_alloc]; omega)) ?_))
  intro vba wba hoba hgba _ _
  have hEba : Ext W3 wba := (hEaa.alloc hwaa _).grown hgba (Nat.le_trans hwaa (by rw [World.size_alloc]; omega)) (fun k hk => (hoaa.lt k hk).1)
  have hiba : Ints wba vba (r ++ [-1]) := by
    have := hoba.reads
    unfold Ints
    simpa using this
  clear hgaa hgba hoaa hoba hra
  go_wp2_with fail
  refine (write_range (.slice none 0 0) _ [] 0 (r ++ [-1]) wba (Reads.nil _ _) hiba (by simp) (by omega) (by simp) (by simp; omega) r.length (by simp) (by simpa using hrb) (by simp)).mono ?_
  rintro e wca ⟨rfl, hEca⟩
  have hEda : Ext W3 wca := hEba.trans hEca
  have hEa : Ext W3 (wca.alloc (Obj.cells #[.slice none 0 0, .int .i64 0] 30)) := (Ext.trans (Ext.refl W3) hEda).alloc (Ext.trans (Ext.refl W3) hEda).size _
  clear hEaa hEba hEca hEda hwaa hiba
  clear hW3
  have hrb : Row (wca.alloc (Obj.cells #[.slice none 0 0, .int .i64 0] 30)) 1 ar r.length cr (r.map (.int .i64)) := (hr.ext hE3).ext hEa
  go_wp2_with (at_builtin; go_must (refine wpl_append rfl rfl Try.slInts (wca.heap.size + 1) rfl (World.ownsRow_nil _ _ _ _) rfl hrb hone (by unfold maxLen; omega) (by omega) (by rw [World.size_alloc]; omega) ?_))
  intro vab wab hoab hgab _ _
  have hEab : Ext (wca.alloc (Obj.cells #[.slice none 0 0, .int .i64 0] 30)) wab := (Ext.refl _).grown hgab (Nat.le_refl _) (by simp [Value.ownBlock])
  have hwab := hEab.size
  have hwab2 : wca.heap.size + 1 ≤ wab.heap.size := by simpa using hwab
  go_wp2_with (at_builtin; go_must (refine wpl_append rfl rfl Try.slInts (wca.heap.size + 1) rfl (hoab.alloc _) (ao := some ⟨wab.heap.size, 0, none⟩) (m := 1) (c := 1) (news := [.int .i64 (2147483648)]) rfl (Row.one _ _ _) (one_int _) (by unfold maxLen; omega) (by omega) (Nat.le_trans hwab2 (by rw [World.size_alloc]; omega)) ?_))
  intro vbb wbb hobb hgbb _ _
  have hEbb : Ext (wca.alloc (Obj.cells #[.slice none 0 0, .int .i64 0] 30)) wbb := (hEab.alloc hwab _).grown hgbb (Nat.le_trans hwab (by rw [World.size_alloc]; omega)) (fun k hk => by have := (hoab.lt k hk).1; simpa using this)
  have hibb : Ints wbb vbb (r ++ [2147483648]) := by
    have := hobb.reads
    unfold Ints
    simpa using this
  clear hgab hgbb hoab hobb hrb
  go_wp2_with fail
  refine (write_range (.slice none 0 0) _ [] 0 (r ++ [2147483648]) wbb (Reads.nil _ _) hibb (by simp) (by omega) (by simp) (by simp; omega) r.length (by simp) (by simpa using hrb) (by simp)).mono ?_
  rintro e wcb ⟨rfl, hEcb⟩
  have hEdb : Ext (wca.alloc (Obj.cells #[.slice none 0 0, .int .i64 0] 30)) wcb := hEbb.trans hEcb
  have hEb : Ext W3 (wcb.alloc (Obj.cells #[.slice none 0 0, .int .i64 0] 30)) := (Ext.trans hEa hEdb).alloc (Ext.trans hEa hEdb).size _
  clear hEab hEbb hEcb hEdb hwab hwab2 hibb
  go_wp2_with (at_make; refine wpList_make_full _ rfl _ _ 27 rfl 0 3 (Try.slInts.inf.choose) (.int .i64 0) 1 Try.underlying27 Try.slInts.inf.choose_spec.1 Try.slInts.inf.choose_spec.2.1 Try.slInts.inf.choose_spec.2.2.1 .i64 .i64 4001 4001 4001 rfl rfl rfl rfl (by rw [Try.slInts.inf.choose_spec.2.2.2]; omega) (by unfold maxLen; omega) (Nat.zero_le _) ?_)
  intro wm hom hgm
  have hEm : Ext W3 wm := hEb.grown hgm hEb.size (by simp)
  clear hom hgm
  go_wp2_with fail
  refine (write_size (.slice none 0 0) _ [] 0 (List.replicate 4001 0) wm (Reads.nil _ _) ⟨_, _, rfl⟩ (by simp) (by omega) (by simp) (by simp) (by simp)).mono ?_
  rintro e wn ⟨rfl, hEn⟩
  have hEn2 : Ext W3 (wn.alloc (Obj.cells #[.slice none 0 0, .int .i64 0] 30)) := (hEm.trans hEn).alloc (hEm.trans hEn).size _
  clear hEm hEn
  go_wp2_with fail
  refine (write_state (.slice none 0 0) _ [] 1 _ (Reads.nil _ _) (by simp)).mono ?_
  rintro e wo ⟨rfl, hEo⟩
  have hEo2 : Ext W3 (wo.alloc (Obj.cells #[.slice none 0 0, .int .i64 0] 30)) := (hEn2.trans hEo).alloc (hEn2.trans hEo).size _
  clear hEn2 hEo
  go_wp2_with fail
  have c0' := cell_later hEo2 c0
  have c1' := cell_later hEo2 c1
  have hEf : Ext w (wo.alloc (Obj.cells #[.slice none 0 0, .int .i64 0] 30)) := (hE1.trans hE3).trans hEo2
  clear hEo2 c0 c1 hEb hEa hE3 hE1 hr hone hrb hI h
  generalize wo.alloc (Obj.cells #[.slice none 0 0, .int .i64 0] 30) = wf at *
  have CP : ∀ wx : World, Calls Try.prog 11 #[.int .i64 q, .int .i64 4] wx fun e w' => e = .returned (.int .i64 s) ∧ w' = wx := fun wx => by
    have := still_of (picked_any q 4 wx q1 q2 (by omega) (by omega))
    rw [Hp.out] at this
    exact this
  have HCP := Lib.hid CP
  clear CP
  have e1 : IntKind.i64.wrap (4 * (r.length : Int)) = 4 * (r.length : Int) := IntWalk.i64_in _ (by omega)
  have e2 : IntKind.i64.wrap (11 + 4 * (r.length : Int)) = 11 + 4 * (r.length : Int) := IntWalk.i64_in _ (by omega)
  have e3 : ((n2 : Int) == 11 + 4 * (r.length : Int)) = true := by rw [beq_iff_eq]; have := Hl2.out; have := hl2c.out; omega
  go_quiet ((go_at_call 11; exact Calls.quiet_of_same (HCP.out _)))
  clear e1 e2 e3
  go_wp2
  go_ret
  exact ⟨rfl, below_drewN hEf _⟩

theorem tapeSize_law (v0 v1 : Value) (W : World) (h0 : Cells Try.prog W 27 [v0]) (h1 : Cells Try.prog W 3 [v1]) :
    Calls Try.prog 4 #[v0, v1] W fun e w' => e = .returned (.bool true) ∧ Ext W w' := by
  obtain ⟨v, l, hv, hb, hI⟩ := h0.ints Try.underlying27 Try.underlying3 (by kernel_rfl)
  obtain ⟨p, hp, p1, p2⟩ := h1.i64 Try.underlying3
  cases hv; cases hp
  exact tapeSize_walk _ l p W hb hI p1 p2

end Go.Proofs.Ytngcbfefhlheoaa
