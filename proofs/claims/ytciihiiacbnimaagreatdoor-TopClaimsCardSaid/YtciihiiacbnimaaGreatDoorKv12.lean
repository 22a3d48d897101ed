/- Several texts in one: Atl. No condition. -/
import Derived.Test.YtciihiiacbnimaaGreatDoorKv11
import Derived.Test.YtciihiiacbnimaaGreatDoorKv5
import Derived.Laws.StructEq
import Derived.WalkKit
import Derived.Deep.QuietTactic
import Derived.BigQuiet
import Derived.Deep.RegionLaw
namespace Go.Proofs.YtciihiiacbnimaaGreatDoor
open Go.RowKit
def encSp (x : Sp2) : Value := .agg #[.int .i64 x.1, .int .i64 x.2]
set_option maxRecDepth 100000 in
theorem Tryz.spotEq (x y : Sp2) (w : World) : (Op.equalIn 10000 59 (encSp x) (encSp y)).run Tryz.prog w = .ok (decide (x = y)) w := by
  have u3 := Tryz.underlying3
  have a3 := Tryz.isAgg3
  have z3 := Tryz.sizeOf3
  obtain ⟨a, b⟩ := x
  obtain ⟨c, d⟩ := y
  have hS : Tryz.prog.underlying 59 = some (.struct (Tryz.prog.fieldsOf 59)) := by kernel_rfl
  unfold encSp
  rw [show (10000 : Nat) = 9999 + 1 from rfl, run_equalIn_agg w 9999 59 _ _ hS (by kernel_rfl)]
  simp only [Program.fieldsOf, Tryz.underlying59]
  go_simp
  by_cases h1 : a = c <;> by_cases h2 : b = d <;> simp [h1, h2]
section
variable {P : Program} {κ : Type} [DecidableEq κ] {enc : κ → Value} {kt : TypeId}
theorem find_asking (heq : ∀ a b w, (Op.equalIn 10000 kt (enc a) (enc b)).run P w = .ok (decide (a = b)) w) (w : World) (k : κ) : ∀ (es : List MapEntry) (l : List (κ × Value)) (i : Nat), es.map (fun e => (e.key, e.val)) = l.map (fun p => (enc p.1, p.2)) →
    (lkp k l = none → (Instr.findAsking kt (enc k) es i).run P w = .ok none w) ∧ (∀ x, lkp k l = some x → ∃ j, (Instr.findAsking kt (enc k) es i).run P w = .ok (some (j, x)) w)
  | [], [], i, _ => ⟨fun _ => by simp [Instr.findAsking], fun x h => by simp [lkp] at h⟩
  | [], _ :: _, i, h => by simp at h
  | _ :: _, [], i, h => by simp at h
  | e :: es, (n, v) :: l, i, h => by
    simp only [List.map_cons, List.cons.injEq, Prod.mk.injEq] at h
    obtain ⟨⟨hk, hv⟩, ht⟩ := h
    have ih := find_asking heq w k es l (i + 1) ht
    have he : (Op.equal kt (enc k) e.key).run P w = .ok (decide (k = n)) w := by rw [hk]; exact heq k n w
    unfold Instr.findAsking
    simp only [Sem.run_bind, he, Result.andThen_ok]
    by_cases hn : k = n
    · subst hn
      refine ⟨fun h => by simp [lkp] at h, fun x hx => ?_⟩
      simp [lkp] at hx
      subst hx
      exact ⟨i, by simp [hv]⟩
    · simp only [lkp, hn, decide_false, if_false, Bool.false_eq_true]
      exact ih
theorem KeyLaw.asking {fs : Array Field} (hd : P.underlying kt = some (.struct fs)) (hc : ∀ w b k, (Instr.checkKey b 10000 kt (enc k)).run P w = .ok () w)
    (heq : ∀ a b w, (Op.equalIn 10000 kt (enc a) (enc b)).run P w = .ok (decide (a = b)) w) : KeyLaw P kt enc where
  chk := hc
  find w k es l h := by
    have hf := find_asking heq w k es l 0 h
    cases es with
    | nil =>
      cases l with
      | nil => exact ⟨fun _ => by simp [Instr.findKey, run_underlying hd, Result.andThen, Instr.findNow], fun x hx => by simp [lkp] at hx⟩
      | cons p l => simp at h
    | cons e es =>
      have hnow : Instr.findNow (.struct fs) (enc k) (e :: es) 0 = none := by simp [Instr.findNow, Instr.sameNow]
      have hk : (Instr.findKey kt (enc k) (e :: es)).run P w = (Instr.findAsking kt (enc k) (e :: es) 0).run P w := by
        simp only [Instr.findKey, Sem.run_bind, run_underlying hd, Result.andThen_ok, hnow]
      rw [hk]
      exact hf
end
theorem Tryz.chkSp (n : Nat) (b : Bool) (x y : Int) (w : World) : (Instr.checkKey b (n + 1 + 1) 59 (.agg #[.int .i64 x, .int .i64 y])).run Tryz.prog w = .ok () w := by
  have u3 := Tryz.underlying3
  have a3 := Tryz.isAgg3
  have z3 := Tryz.sizeOf3
  have hk : ∀ v w, (Instr.checkKey b (n + 1) 3 (.int .i64 v)).run Tryz.prog w = .ok () w := fun v w => by
    rw [Instr.checkKey]
    simp only [Sem.run_bind, run_underlying u3, Result.andThen_ok, Sem.run_pure]
  rw [Instr.checkKey]
  simp only [Sem.run_bind, run_underlying Tryz.underlying59, Result.andThen_ok]
  rw [← Array.forIn_toList]
  simp only [List.forIn_cons, List.forIn_nil]
  go_simp
theorem Tryz.keySp : KeyLaw Tryz.prog 59 encSp :=
  KeyLaw.asking Tryz.underlying59 (fun w b k => Tryz.chkSp 9998 b k.1 k.2 w) Tryz.spotEq
structure ABox (τ : Nat → Nat) (B A M : Nat) (w0 w : World) (sp nx st : Value) (ini many : Int) (S : List Sp2) (L : List (List Int)) (T : List Int) : Prop where
  m : GMem τ B w sp nx st S L T
  a : w.heap[A]? = some (.cells #[sp, .int .i64 ini, nx, st, .int .i64 many, .map (some M)] 74 (0, 0))
  mp : MapG encSp w M (xL S)
  alt : A < B
  mlt : M < B
  ne : M ≠ A
  alo : w0.heap.size ≤ A
  mlo : w0.heap.size ≤ M
  e : Ext w0 w
section
variable {τ : Nat → Nat} {B A M : Nat} {w0 w wa w' : World} {sp nx st : Value} {ini many : Int} {S : List Sp2} {L : List (List Int)} {T : List Int}
theorem ABox.ext (h : ABox τ B A M w0 w sp nx st ini many S L T) (hE : Ext w w') : ABox τ B A M w0 w' sp nx st ini many S L T := ⟨h.m.ext hE, blk_ext h.a hE, h.mp.ext hE, h.alt, h.mlt, h.ne, h.alo, h.mlo, h.e.trans hE⟩
end
section
variable {τ : Nat → Nat} {B A M : Nat} {w0 w wa w6 w8 : World} {sp nx st : Value} {ini many : Int} {S : List Sp2} {L : List (List Int)} {T : List Int}
theorem GMem.grown0 (h : GMem τ B w sp nx st S L T) (hg : w.grownBy w6 (some M)) (hM : M < B) : GMem τ B w6 sp nx st S L T := by
  obtain ⟨vs, h1, h2⟩ := h.nx
  have h0 := h.lo M hM
  have key : ∀ t, t ≠ 0 → ∀ b, some M = some b → τ b ≠ t := fun t ht b hb => by injection hb with hb; subst hb; rw [h0]; exact Ne.symm ht
  exact ⟨h.lo, Nat.le_trans h.size hg.size, h.sp.grown hg (key 1 (by omega)), ⟨vs, h1.grown hg (key 2 (by omega)), h2.grown hg (key 3 (by omega))⟩, h.st.grown hg (key 4 (by omega))⟩
theorem ABox.push (h : ABox τ B A M w0 w sp nx st ini many S L T) {s : Sp2} (hm6 : MapG encSp w6 M (xL S ++ [(s, .int .i64 (S.length : Int))])) (hg6 : w.grownBy w6 (some M)) (hal : Ext w6 wa)
    {v' : Value} {n : Nat} {xs : List Value} (ho : w8.ownsRow B 59 2 v' n xs) (hn : n = S.length + 1) (hx : xs = S.flatMap spc ++ spc s) (hg : wa.grownBy w8 sp.ownBlock) (hb : v'.ownBlock = sp.ownBlock ∨ v'.ownBlock = some wa.heap.size) :
    w8.heap[A]? = some (.cells #[sp, .int .i64 ini, nx, st, .int .i64 many, .map (some M)] 74 (0, 0)) ∧
    ∃ τ', ABox τ' B A M w0 (w8.setCell ⟨A, 0, none⟩ v') v' nx st ini many (S ++ [s]) L T ∧ (∀ b, b < w.heap.size → τ' b = τ b) ∧ w.heap.size ≤ (w8.setCell ⟨A, 0, none⟩ v').heap.size ∧
      ∀ (t : Nat) (P : World → Prop), t ≠ 0 → t ≠ 1 → Ent τ t w P → Ent τ' t (w8.setCell ⟨A, 0, none⟩ v') P := by
  have hA := h.alt
  have hM := h.mlt
  have hne := h.ne
  have hal2 := h.alo
  have hml2 := h.mlo
  have hsz0 := h.m.size
  have hs6 := hg6.size
  have hsa := hal.size
  have h6 := h.m.grown0 hg6 hM
  have ha := h6.ext hal
  have hsp := ha.sp.own
  have hlow : ∀ k, k < B → some k ≠ sp.ownBlock := fun k hk e => by have := (hsp.lt k e.symm).1; omega
  have hA6 := blk_grown h.a hg6 (show some A ≠ some M from fun e => by injection e with e; omega)
  have hA8 := blk_grown (blk_ext hA6 hal) hg (hlow A hA)
  have hlo8 := (ha.appSp ho hn hx hg hb).lo A hA
  refine ⟨hA8, tagAt τ wa.heap.size 1, ⟨(ha.appSp ho hn hx hg hb).low (p := ⟨A, 0, none⟩) hA v', blk_set hA8 (i := 0) v', ?_, hA, hM, hne, hal2, hml2, ?_⟩, fun b hb' => tagAt_lt (by omega), ?_, ?_⟩
  · rw [xL_snoc]
    exact ((hm6.ext hal).grown hg (hlow M hM)).set (p := ⟨A, 0, none⟩) (Ne.symm hne) v'
  · have e1 : Ext w0 w6 := Below.grown h.e hg6 h.e.size (fun b hb' => by injection hb' with hb'; omega)
    exact ext_st (Below.grown (e1.trans hal) hg (e1.trans hal).size (fun b hb' => by have := (hsp.lt b hb').1; omega)) (p := ⟨A, 0, none⟩) hal2 v'
  · have := hg.size
    simp
    omega
  · intro t P ht0 ht1 hP
    have p6 := hP.grown hg6 (fun b hb' => by injection hb' with hb'; subst hb'; rw [h.m.lo _ hM]; exact Ne.symm ht0)
    exact ((p6.ext hal).app ha.sp hg (Ne.symm ht1)).set (p := ⟨A, 0, none⟩) (by show tagAt τ wa.heap.size 1 A ≠ t; rw [hlo8]; exact Ne.symm ht0) v'
end
def PlaceR (τ : Nat → Nat) (B A M : Nat) (w0 w : World) (nx st : Value) (ini many : Int) (S : List Sp2) (L : List (List Int)) (T : List Int) (s : Sp2) (e : Ending) (w' : World) : Prop :=
  ∃ (n : Nat) (S' : List Sp2) (sp' : Value) (τ' : Nat → Nat), e = .returned (.tuple #[.int .i64 (n : Int), .bool true]) ∧ S'[n]? = some s ∧ (S' = S ∨ s ∉ S ∧ S' = S ++ [s] ∧ n = S.length) ∧
    ABox τ' B A M w0 w' sp' nx st ini many S' L T ∧ (∀ b, b < w.heap.size → τ' b = τ b) ∧ w.heap.size ≤ w'.heap.size ∧ ∀ (t : Nat) (P : World → Prop), t ≠ 0 → t ≠ 1 → Ent τ t w P → Ent τ' t w' P
set_option maxRecDepth 100000 in
set_option maxHeartbeats 4000000 in
theorem place_old (τ : Nat → Nat) (B A M : Nat) (w0 w : World) (sp nx st : Value) (ini many : Int) (S : List Sp2) (L : List (List Int)) (T : List Int) (s : Sp2) (h : ABox τ B A M w0 w sp nx st ini many S L T) (hs : s ∈ S) :
    Calls Tryz.prog 18 #[.pointer (some ⟨A, 0, none⟩), encSp s] w (PlaceR τ B A M w0 w nx st ini many S L T s) := by
  obtain ⟨n, hn, hlk⟩ := xL_some hs
  obtain ⟨s1, s2⟩ := s
  have hx := ext_al (Ext.refl w) (Obj.cells #[.int .i64 s1, .int .i64 s2] 59)
  have hb := blk_new w (Obj.cells #[.int .i64 s1, .int .i64 s2] 59)
  have a5 := blk_cell (blk_ext h.a hx) (i := 5) rfl
  have b0 := blk_cell hb (i := 0) rfl
  have b1 := blk_cell hb (i := 1) rfl
  have HLK := fun k => run_lookup_g (P := Tryz.prog) Tryz.keySp Tryz.underlying72 (h.mp.ext (Ext.trans hx (below_drewN (Ext.refl _) k))) (s1, s2) _ hlk true
  simp only [if_true] at HLK
  have HB := Lib.hid (h.ext hx)
  have HX := Lib.hid hx
  have HN := Lib.hid hn
  unfold encSp at HLK ⊢
  clear h hs hn hlk hx hb
  go_enter Tryz.func18, Tryz.ntmps18
  go_wp2_with fail
  generalize w.alloc (Obj.cells #[.int .i64 s1, .int .i64 s2] 59) = W1 at *
  go_quiet (fail)
  go_wp2
  go_ret2
  have hE : Ext w (W1.drewN nq) := Ext.trans HX.out (below_drewN (Ext.refl _) _)
  exact ⟨n, S, sp, τ, rfl, HN.out, .inl rfl, HB.out.ext (below_drewN (Ext.refl _) _), fun _ _ => rfl, hE.size, fun t P _ _ h => h.ext hE⟩
theorem Tryz.zeroIn (w : World) : (zeroValue 3).run Tryz.prog w = .ok (.int .i64 0) w := by kernel_rfl
set_option maxRecDepth 100000 in
set_option maxHeartbeats 4000000 in
theorem place_new (τ : Nat → Nat) (B A M : Nat) (w0 w : World) (sp nx st : Value) (ini many : Int) (S : List Sp2) (L : List (List Int)) (T : List Int) (s : Sp2) (h : ABox τ B A M w0 w sp nx st ini many S L T) (hs : s ∉ S) (hl : S.length < 20000) :
    Calls Tryz.prog 18 #[.pointer (some ⟨A, 0, none⟩), encSp s] w (PlaceR τ B A M w0 w nx st ini many S L T s) := by
  have hlk := xL_none hs
  obtain ⟨s1, s2⟩ := s
  have hx := ext_al (Ext.refl w) (Obj.cells #[.int .i64 s1, .int .i64 s2] 59)
  have hb := blk_new w (Obj.cells #[.int .i64 s1, .int .i64 s2] 59)
  have a5 := blk_cell (blk_ext h.a hx) (i := 5) rfl
  have b0 := blk_cell hb (i := 0) rfl
  have b1 := blk_cell hb (i := 1) rfl
  have HLK := fun k => run_lookup_gn (P := Tryz.prog) Tryz.keySp Tryz.underlying72 (h.mp.ext (Ext.trans hx (below_drewN (Ext.refl _) k))) (s1, s2) (Tryz.zeroIn _) hlk true
  simp only [if_true] at HLK
  have HB := Lib.hid (h.ext hx)
  have HX := Lib.hid hx
  have HBL := Lib.hid hb
  have HK := Lib.hid hlk
  have HS := Lib.hid hs
  obtain ⟨asp, csp, rfl, _⟩ := id h.m.sp.own.row
  obtain ⟨n, hn⟩ : ∃ n, S.length = n := ⟨_, rfl⟩
  have HN := Lib.hid hn
  rw [hn] at hl HB
  have hne : ((n : Int) == 20000) = false := by rw [beq_eq_false_iff_ne]; omega
  unfold encSp at HLK ⊢
  clear h hs hlk hx hb hn
  go_enter Tryz.func18, Tryz.ntmps18
  go_wp2_with fail
  generalize w.alloc (Obj.cells #[.int .i64 s1, .int .i64 s2] 59) = W1 at *
  go_quiet (fail)
  have hE2 : Ext W1 (W1.drewN nq) := below_drewN (Ext.refl _) _
  have HB2 := Lib.hid (HB.out.ext hE2)
  have HX2 := Lib.hid (Ext.trans HX.out hE2)
  have HBL2 := Lib.hid (blk_ext HBL.out hE2)
  clear hE2 HLK a5 b0 b1 HB HX HBL
  generalize W1.drewN nq = W2 at *
  have a0 := blk_cell HB2.out.a (i := 0) rfl
  have a5 := blk_cell HB2.out.a (i := 5) rfl
  have b0 := blk_cell HBL2.out (i := 0) rfl
  have b1 := blk_cell HBL2.out (i := 1) rfl
  go_wp2_with fail
  refine region_tail 6 (by kernel_rfl) (by kernel_rfl) ?_
  simp only [List.take_succ_cons, List.take_zero, List.drop_succ_cons, List.drop_zero]
  repeat still_step
  try refine wpStill_nil ?_
  go_wp2_with (at_mapUpdate; go_must (refine wpl_update_g Tryz.keySp Tryz.underlying72 rfl rfl (HB2.out.ext (Below.drew (Ext.refl _))).mp rfl rfl HK.out ?_))
  intro w6 hm6 hg6 hs6
  have HM6 := Lib.hid hm6
  have HG6 := Lib.hid hg6
  have HB3 := Lib.hid (HB2.out.ext (Below.drew (Ext.refl _)))
  have HX3 := Lib.hid (HX2.out.trans (Below.drew (Ext.refl _)))
  have hne2 := HB2.out.ne
  have hlt2 := HB2.out.alt
  have hA6 := blk_grown HB3.out.a hg6 (show some A ≠ some M from fun e => by injection e with e; omega)
  have hZM : w.heap.size ≠ M := fun e => by
    have h1 := HB2.out.mp
    obtain ⟨es, ck, h1, _⟩ := h1
    rw [← e, HBL2.out] at h1
    cases h1
  have hB6 := blk_grown (blk_ext HBL2.out (Below.drew (Ext.refl _))) hg6 (show some w.heap.size ≠ some M from fun e => by injection e with e; omega)
  have a0 := blk_cell hA6 (i := 0) rfl
  have b0 := blk_cell hB6 (i := 0) rfl
  have b1 := blk_cell hB6 (i := 1) rfl
  have hal := ext_al (Ext.refl w6) (Obj.cells #[.int .i64 s1, .int .i64 s2] 59)
  have cX := blk_cell (blk_ext hA6 hal) (i := 0) rfl
  have HAL := Lib.hid (show Ext w6 (w6.alloc (Obj.cells #[.int .i64 s1, .int .i64 s2] 59)).drew from Below.drew hal)
  have hsz6 := hg6.size
  have HSP := Lib.hid ((HB3.out.m.grown0 hg6 HB2.out.mlt).ext HAL.out).sp.own
  have hszB := HB3.out.m.size
  rw [HN.out] at HSP
  clear hm6 hg6 hs6 hA6 hB6 hal
  go_wp2_with fail
  go_region_law (refine step_append rfl rfl Tryz.slSpots B (by rfl) HSP.out (by rfl) ((Row.newSp _ _ _ _).ext (Below.drew (Ext.refl _))) (by intro u hu; simp only [spc, List.mem_cons, List.not_mem_nil, or_false] at hu; rcases hu with rfl | rfl <;> rfl) (by unfold maxLen; omega) (by omega) (by simp; omega) ?_
                 intro v8 w8 hown8 hg8 hb8 _
                 obtain ⟨hA8, τ8, hB8, ht8, hs8, hk8⟩ := HB3.out.push (s := (s1, s2)) (by rw [HN.out]; exact HM6.out) HG6.out HAL.out hown8 (by rw [HN.out]) rfl hg8 hb8
                 obtain ⟨a8, c8, rfl, _⟩ := hown8.row
                 have cG8 := blk_cell hA8 (i := 0) rfl
                 have fG8 := blk_free hA8 0
                 have HB8 := Lib.hid hB8
                 have HT8 := Lib.hid ht8
                 have HS8 := Lib.hid hs8
                 have HK8 := Lib.hid hk8
                 clear hA8 hB8 ht8 hs8 hk8 hown8 hg8 hb8)
  all_goals
    go_wp2
    go_ret2
    have hsz := HX3.out.size
    exact ⟨n, S ++ [(s1, s2)], _, τ8, rfl, by rw [← HN.out]; simp, .inr ⟨HS.out, rfl, HN.out.symm⟩, HB8.out, fun b hb => HT8.out b (by omega), by have := HS8.out; omega, fun t P h0 h1 hP => HK8.out t P h0 h1 (hP.ext HX3.out)⟩
end Go.Proofs.YtciihiiacbnimaaGreatDoor
