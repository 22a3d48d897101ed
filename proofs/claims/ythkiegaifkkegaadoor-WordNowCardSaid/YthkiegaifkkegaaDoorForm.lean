/- Form: what is needed of it. No condition. -/
import Derived.Test.YthkiegaifkkegaaDoorGenA
import Derived.Test.YthkiegaifkkegaaDoorFormP
namespace Go.Proofs.YthkiegaifkkegaaDoor
open Go.RowKit
def RawF (raw : List Op2) : Prop := ∀ p, I64 (rawAt raw p).1 ∧ I64 (rawAt raw p).2
def FMade (w : World) (G B : Nat) (ar : Option Addr) (cr : Nat) (raw : List Op2) (vars props : Int) (out : List Op2) (r : Tm × Nat × Nat) (e : Ending) (w' : World) : Prop :=
  e = .returned (.tuple #[]) ∧ Gr w' G B ar cr raw r.2.1 vars props (r.2.2 : Int) (out ++ r.1.flat) ∧ Below B w w'
theorem FMade.mk {w w' : World} {G B : Nat} {ar : Option Addr} {cr : Nat} {raw : List Op2} {vars props : Int} {out out' : List Op2} {r : Tm × Nat × Nat} {e : Ending} {p t : Nat}
    (he : e = .returned (.tuple #[])) (hg : Gr w' G B ar cr raw p vars props (t : Int) out') (hb : Below B w w') (hp : p = r.2.1) (ht : t = r.2.2) (ho : out' = out ++ r.1.flat) : FMade w G B ar cr raw vars props out r e w' := by
  subst hp; subst ho; subst ht; exact ⟨he, hg, hb⟩
section
variable (w : World) (G B : Nat) (ar : Option Addr) (cr : Nat) (raw : List Op2) (p : Nat) (vars props : Int) (t : Nat) (out : List Op2)
set_option maxRecDepth 100000 in
set_option maxHeartbeats 2000000 in
theorem formula_leaf (h : Gr w G B ar cr raw p vars props (t : Int) out) (hraw : RawF raw) (hp : p ≤ 700) (ho : out.length ≤ 700) (hv : 0 < props) (hv2 : props ≤ 1000) (deep : Int) (hm : deep = 0 ∨ 12 ≤ p) :
    Calls Tryd.prog 12 #[.pointer (some ⟨G, 0, none⟩), .int .i64 deep] w (FMade w G B ar cr raw vars props out (fLeaf (rawAt raw p) props, p + 1, t)) := by
  have TK := Lib.hid (take_any w G B ar cr raw p vars props t out h (by omega))
  have hBw : B ≤ w.heap.size := by have := World.block_lt_of_cell? _ _ h.c0; have := h.new; simp at *; omega
  have hr := hraw p
  generalize rawAt raw p = r at *
  obtain ⟨⟨r1, r2⟩, r3, r4⟩ := hr
  have hfl : (fLeaf r props).flat = [(13, pk r.2 props)] := by unfold fLeaf; rw [if_pos hv]; rfl
  have HFL := Lib.hid hfl
  have HPK := Lib.hid (picked_any r.1 16 · r1 r2 (by omega) (by omega))
  have HPL := Lib.hid (picked_any r.1 4 · r1 r2 (by omega) (by omega))
  have HS := Lib.hid (fun wx : World => still_of (picked_any r.2 props wx r3 r4 hv (by omega)))
  obtain ⟨k0, hk0⟩ : ∃ k, k = pk r.1 16 := ⟨_, rfl⟩
  obtain ⟨kk, hkk⟩ : ∃ k, k = pk r.1 4 := ⟨_, rfl⟩
  have hkb := pk_bd r.1 4 (by omega)
  rw [← hkk] at hkb HPL
  rw [← hk0] at HPK
  obtain ⟨hk1, hk2⟩ := hkb
  have hk8 : ¬ (8 : Int) < kk := by omega
  have hpI : (12 : Int) < (p : Int) + 1 ∨ deep = 0 := by omega
  clear hk0 hkk hfl
  obtain ⟨b0, hb0, hb1⟩ : ∃ b : Bool, (deep == 0) = b ∧ (b = true ∨ (12 : Int) < (p : Int) + 1) := by
    refine ⟨_, rfl, ?_⟩
    rcases hpI with h | h
    · exact .inr h
    · left; rw [h]; rfl
  clear hpI hm
  cases b0
  case' false => replace hb1 : (12 : Int) < (p : Int) + 1 := by simpa using hb1
  all_goals
    go_enter Tryd.func12, Tryd.ntmps12
    go_wp2_with fail
    refine TK.out.mono ?_
    rintro e w1 ⟨rfl, g1, b1⟩
    have hg1 := g1.ext ((Ext.refl w1).alloc (Nat.le_refl _) (Obj.cells #[.int .i64 r.1, .int .i64 r.2] 57))
    have hb2 : Below B w (w1.alloc (Obj.cells #[.int .i64 r.1, .int .i64 r.2] 57)) := b1.alloc (by have := b1.size; omega) _
    have q0 : (w1.alloc (Obj.cells #[.int .i64 r.1, .int .i64 r.2] 57)).cell? ⟨w1.heap.size, 0, none⟩ = some (.int .i64 r.1) := by simp [go_sem]
    have q1 : (w1.alloc (Obj.cells #[.int .i64 r.1, .int .i64 r.2] 57)).cell? ⟨w1.heap.size, 1, none⟩ = some (.int .i64 r.2) := by simp [go_sem]
    have c1 := hg1.c1
    have c3 := hg1.c3
    have HG1 := Lib.hid hg1
    have HB2 := Lib.hid hb2
    clear TK g1 b1 hg1 hb2
    go_wp2_with fail
    refine (HPK.out _).mono ?_
    rintro e w' ⟨rfl, rfl⟩
    go_wp2_with fail
    refine (HPL.out _).mono ?_
    rintro e w' ⟨rfl, rfl⟩
    go_wp2_with fail
    refine region_tail 8 (by kernel_rfl) (by kernel_rfl) ?_
    generalize (w1.alloc (Obj.cells #[.int .i64 r.1, .int .i64 r.2] 57)) = W at *
    have hg1' := HG1.out.ext (Below.drew (Ext.refl W))
    have hb1' := HB2.out.drew
    have q1' : W.drew.cell? ⟨w1.heap.size, 1, none⟩ = some (.int .i64 r.2) := q1
    have c3' : W.drew.cell? ⟨G, 3, none⟩ = some (.int .i64 props) := c3
    have HG1' := Lib.hid hg1'
    have HB1' := Lib.hid hb1'
    clear HG1 HB2 q0 q1 c1 c3 hg1' hb1'
    generalize W.drew = Wd at *
    simp only [List.take_succ_cons, List.take_zero, List.drop_succ_cons, List.drop_zero]
    iterate 7 still_step
    still_call (HS.out Wd)
    refine wpStill_nil ?_
    go_wp2_with fail
    refine (put_op _ G B ar cr raw (p + 1) vars props t out _ _ HG1'.out (by omega)).mono ?_
    rintro e w2 ⟨rfl, hg2, hb2⟩
    have HG2 := Lib.hid hg2
    have HB3 := Lib.hid (HB1'.out.trans hb2)
    clear hg2 hb2
    go_wp2
    go_end0
    exact FMade.mk rfl HG2.out HB3.out rfl rfl (by rw [HFL.out])
end
end Go.Proofs.YthkiegaifkkegaaDoor
