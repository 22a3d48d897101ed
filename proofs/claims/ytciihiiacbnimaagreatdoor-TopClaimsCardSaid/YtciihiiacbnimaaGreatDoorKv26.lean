/- Several texts in one: ExP; ExA; VerP; RunP; GrowP; TopP; TopQ; Wlk; VRuns; VLet; VKeeps; TopClP; XGok. No condition. -/
import Derived.Test.YtciihiiacbnimaaGreatDoorKv12
import Derived.Test.YtciihiiacbnimaaGreatDoorKv25
import Derived.Deep.DeepCutAuto
import Derived.Deep.RegionLaw
import Derived.Test.YtciihiiacbnimaaGreatDoorKv14
import Derived.Test.YtciihiiacbnimaaGreatDoorKv3
import Derived.Test.YtciihiiacbnimaaGreatDoorKv10
import Derived.Test.YtciihiiacbnimaaGreatDoorKv23
import Derived.Test.YtciihiiacbnimaaGreatDoorKv24
import Derived.Test.YtciihiiacbnimaaGreatDoorKv16
import Derived.Deep.RegionHeld3
namespace Go.Proofs.YtciihiiacbnimaaGreatDoor
open Go.RowKit
def bX (m : Md) (P : List Tm) (t : Tm) (x : Sp2) : List Sp2 := behL (folX m P t x.1 x.2.toNat) (2 ^ cntA t.flat) (nextL m x.1)
def iX (m : Md) (P : List Tm) (t : Tm) : List Sp2 := begL m.first (letS P (valsL m.vars m.first)) t (2 ^ cntA t.flat)
def oX (m : Md) (t : Tm) (x : Sp2) : Prop := 0 ≤ x.1 ∧ x.1 < countL m.vars ∧ 0 ≤ x.2 ∧ x.2 < ((2 ^ cntA t.flat : Nat) : Int)
def sX (m : Md) (P : List Tm) (t : Tm) (x : Sp2) : Int := (meUp t.flat (t.ends 0) (tvT (letS P (valsL m.vars x.1)) x.2.toNat t 0) t.flat.length : Nat)
theorem iX_nodup (m : Md) (P : List Tm) (t : Tm) : (iX m P t).Nodup := by
  unfold iX begL
  rw [List.Nodup, List.pairwise_map]
  refine ((List.nodup_range (n := 2 ^ cntA t.flat)).filter _).imp fun h e => h ?_
  have e2 := congrArg Prod.snd e
  exact Int.ofNat.inj e2
theorem iX_ok {m : Md} {P : List Tm} {t : Tm} (hk : TkOk m P t) : ∀ x ∈ iX m P t, oX m t x := by
  intro x hx
  unfold iX begL at hx
  obtain ⟨c, hc, rfl⟩ := List.mem_map.1 hx
  have h1 := List.mem_range.1 (List.mem_filter.1 hc).1
  have h2 := codeL_bd hk.ok.vars (inits_in hk.ok.vars)
  exact ⟨h2.1, h2.2, by omega, by show (c : Int) < _; omega⟩
theorem bX_ok {m : Md} {P : List Tm} {t : Tm} (hk : TkOk m P t) {x : Sp2} (hx : oX m t x) : ∀ y ∈ bX m P t x, oX m t y := by
  intro y hy
  unfold bX behL at hy
  obtain ⟨n, hn, hy⟩ := List.mem_flatMap.1 hy
  unfold behN at hy
  obtain ⟨c, hc, rfl⟩ := List.mem_map.1 hy
  have h1 := List.mem_range.1 (List.mem_filter.1 hc).1
  have h2 := NextP.in hk.ok.toPre hx.1 hx.2.1 (((nextL_ok m x.1).mem n).1 hn)
  exact ⟨h2.1, h2.2, by omega, by show (c : Int) < _; omega⟩
theorem bX_len {m : Md} {P : List Tm} {t : Tm} (hk : TkOk m P t) (x : Sp2) : (bX m P t x).length ≤ 768 := by
  have h1 := behL_len (folX m P t x.1 x.2.toNat) (2 ^ cntA t.flat) (nextL m x.1)
  have h2 : (nextL m x.1).length ≤ 12 := by
    have := (nextL_len m x.1).2
    have := hk.ok.twelve
    omega
  have h3 : 2 ^ cntA t.flat ≤ 64 := by
    have := Nat.pow_le_pow_right (n := 2) (by omega) hk.ff.cnt
    simpa using this
  have h4 := Nat.mul_le_mul h2 h3
  unfold bX
  omega
section
variable {τ : Nat → Nat} {B A M : Nat} {w0 w wa w' : World} {sp nx st : Value} {ini many : Int} {S : List Sp2} {L : List (List Int)} {T : List Int}
theorem ABox.retag (h : ABox τ B A M w0 w sp nx st ini many S L T) (t : Nat) : ABox (tagAt τ w.heap.size t) B A M w0 w sp nx st ini many S L T := ⟨h.m.retag t, h.a, h.mp, h.alt, h.mlt, h.ne, h.alo, h.mlo, h.e⟩
theorem ABox.app5 (h : ABox τ B A M w0 w sp nx st ini many S L T) {lv lv' : Value} {n n' : Nat} {xs xs' : List Value} (hc : OwnT τ 5 w B 3 1 lv n xs) (hg : w.grownBy w' lv.ownBlock)
    (ho : w'.ownsRow B 3 1 lv' n' xs') (hb : lv'.ownBlock = lv.ownBlock ∨ lv'.ownBlock = some w.heap.size) :
    ABox (tagAt τ w.heap.size 5) B A M w0 w' sp nx st ini many S L T ∧ OwnT (tagAt τ w.heap.size 5) 5 w' B 3 1 lv' n' xs' ∧ ∀ P, Ent τ 8 w P → Ent (tagAt τ w.heap.size 5) 8 w' P := by
  obtain ⟨vs, h1, h2⟩ := h.m.nx
  have hlow : ∀ k, k < B → some k ≠ lv.ownBlock := fun k hk e => by have := (hc.own.lt k e.symm).1; omega
  have hA := h.alt
  have hM := h.mlt
  refine ⟨⟨⟨fun b hb => by have := h.m.size; rw [tagAt_lt (by omega)]; exact h.m.lo b hb, Nat.le_trans h.m.size hg.size, h.m.sp.other hc hg (by omega), ⟨vs, h1.other hc hg (by omega), h2.app hc hg (by omega)⟩, h.m.st.other hc hg (by omega)⟩,
    blk_grown h.a hg (hlow A hA), h.mp.grown hg (hlow M hM), hA, hM, h.ne, h.alo, h.mlo, ?_⟩, hc.app ho hb, fun P hP => hP.app hc hg (by omega)⟩
  exact Below.grown h.e hg h.e.size (fun b hb => by have := (hc.own.lt b hb).1; have := h.alo; omega)
theorem ABox.start (w : World) (ini many : Int) (M : Nat) (hM : M = w.heap.size) :
    ABox (fun _ => 0) (M + 2) (M + 1) M w ((w.alloc (Obj.map #[] 0)).alloc (Obj.cells #[.slice none 0 0, .int .i64 ini, .slice none 0 0, .slice none 0 0, .int .i64 many, .map (some M)] 74)) (.slice none 0 0) (.slice none 0 0) (.slice none 0 0) ini many [] [] [] := by
  subst hM
  have h1 := ext_al (Ext.refl (w.alloc (Obj.map #[] 0))) (Obj.cells #[.slice none 0 0, .int .i64 ini, .slice none 0 0, .slice none 0 0, .int .i64 many, .map (some w.heap.size)] 74)
  have h2 := blk_new (w.alloc (Obj.map #[] 0)) (Obj.cells #[.slice none 0 0, .int .i64 ini, .slice none 0 0, .slice none 0 0, .int .i64 many, .map (some w.heap.size)] 74)
  rw [World.size_alloc] at h2
  exact ⟨GMem.nil _ _ (by simp), h2, (MapG.new encSp w).ext h1, by omega, by omega, by omega, by omega, Nat.le_refl _, (ext_al (Ext.refl w) _).trans h1⟩
def tag53 (τ : Nat → Nat) : Nat → Nat := fun b => if τ b = 5 then 3 else τ b
theorem OwnT.t53 {t : Nat} {e : TypeId} {size n : Nat} {v : Value} {xs : List Value} (h : OwnT τ t w B e size v n xs) (ht : t ≠ 5) : OwnT (tag53 τ) t w B e size v n xs := ⟨h.own, fun b hb => by
  have := h.tag b hb
  unfold tag53
  rw [this, if_neg ht]⟩
theorem Ent.t53 {P : World → Prop} (h : Ent τ 3 w P) : Ent (tag53 τ) 3 w P := fun x hx hb => h x hx fun b h1 h2 => hb b h1 (by unfold tag53; rw [h2]; rfl)
theorem Ent.t55 {P : World → Prop} (h : Ent τ 5 w P) : Ent (tag53 τ) 3 w P := fun x hx hb => h x hx fun b h1 h2 => hb b h1 (by unfold tag53; rw [if_pos h2])
theorem ABox.t53 (h : ABox τ B A M w0 w sp nx st ini many S L T) : ABox (tag53 τ) B A M w0 w sp nx st ini many S L T := by
  obtain ⟨vs, h1, h2⟩ := h.m.nx
  exact ⟨⟨fun b hb => by unfold tag53; rw [h.m.lo b hb]; rfl, h.m.size, h.m.sp.t53 (by omega), ⟨vs, h1.t53 (by omega), h2.t53⟩, h.m.st.t53 (by omega)⟩, h.a, h.mp, h.alt, h.mlt, h.ne, h.alo, h.mlo, h.e⟩
theorem ABox.pushNx (h : ABox τ B A M w0 w sp nx st ini many S L T) (hal : Ext w wa) {v' u : Value} {l : List Int} {n : Nat} {vs xs : List Value} (h1 : OwnT τ 2 w B 27 1 nx L.length vs) (h2 : Ent τ 3 w fun x => Each x vs L) (hu : Ent τ 3 w fun x => Ints x u l)
    (ho : w'.ownsRow B 27 1 v' n xs) (hn : n = L.length + 1) (hx : xs = vs ++ [u]) (hg : wa.grownBy w' nx.ownBlock) (hb : v'.ownBlock = nx.ownBlock ∨ v'.ownBlock = some wa.heap.size) :
    w'.heap[A]? = some (.cells #[sp, .int .i64 ini, nx, st, .int .i64 many, .map (some M)] 74 (0, 0)) ∧ ∃ τ', ABox τ' B A M w0 (w'.setCell ⟨A, 2, none⟩ v') sp v' st ini many S (L ++ [l]) T := by
  have hA := h.alt
  have hM := h.mlt
  have hne := h.ne
  have hlow : ∀ k, k < B → some k ≠ nx.ownBlock := fun k hk e => by have := (h1.own.lt k e.symm).1; omega
  have hA8 := blk_grown (blk_ext h.a hal) hg (hlow A hA)
  refine ⟨hA8, _, ⟨((h.m.ext hal).appNx (h1.ext hal) (h2.ext hal) (hu.ext hal) ho hn hx hg hb).low (p := ⟨A, 2, none⟩) hA v', blk_set hA8 (i := 2) v', ((h.mp.ext hal).grown hg (hlow M hM)).set (p := ⟨A, 2, none⟩) (Ne.symm hne) v', hA, hM, hne, h.alo, h.mlo, ?_⟩⟩
  exact ext_st ((h.e.trans hal).grown hg (h.e.trans hal).size (fun b hb => by have := (h1.own.lt b hb).1; have := h.alo; omega)) (p := ⟨A, 2, none⟩) h.alo v'
theorem ABox.pushSt (h : ABox τ B A M w0 w sp nx st ini many S L T) (hal : Ext w wa) {v' : Value} {n : Nat} {xs : List Value} {x : Int} (ho : w'.ownsRow B 3 1 v' n xs) (hn : n = T.length + 1) (hx : xs = T.map (.int .i64) ++ [.int .i64 x])
    (hg : wa.grownBy w' st.ownBlock) (hb : v'.ownBlock = st.ownBlock ∨ v'.ownBlock = some wa.heap.size) :
    w'.heap[A]? = some (.cells #[sp, .int .i64 ini, nx, st, .int .i64 many, .map (some M)] 74 (0, 0)) ∧ ∃ τ', ABox τ' B A M w0 (w'.setCell ⟨A, 3, none⟩ v') sp nx v' ini many S L (T ++ [x]) := by
  have hA := h.alt
  have hM := h.mlt
  have hne := h.ne
  have hlow : ∀ k, k < B → some k ≠ st.ownBlock := fun k hk e => by have := (h.m.st.own.lt k e.symm).1; omega
  have hA8 := blk_grown (blk_ext h.a hal) hg (hlow A hA)
  refine ⟨hA8, _, ⟨((h.m.ext hal).appSt ho hn hx hg hb).low (p := ⟨A, 3, none⟩) hA v', blk_set hA8 (i := 3) v', ((h.mp.ext hal).grown hg (hlow M hM)).set (p := ⟨A, 3, none⟩) (Ne.symm hne) v', hA, hM, hne, h.alo, h.mlo, ?_⟩⟩
  exact ext_st ((h.e.trans hal).grown hg (h.e.trans hal).size (fun b hb => by have := (h.m.st.own.lt b hb).1; have := h.alo; omega)) (p := ⟨A, 3, none⟩) h.alo v'
end
theorem spotsX_at {w : World} {a : Option Addr} {n c : Nat} {l : List (Int × Int)} (h : Row w 2 a n c (l.flatMap spc)) : ∃ b off, (0 < l.length → a = some ⟨b, off, none⟩) ∧ ∀ (i : Nat) (hi : i < l.length), w.cell? ⟨b, off + i * 2, none⟩ = some (.int .i64 l[i].1) ∧ w.cell? ⟨b, off + i * 2 + 1, none⟩ = some (.int .i64 l[i].2) := by
  obtain ⟨b, off, _, h2, h3⟩ := h.lie
  have key : ∀ (l : List (Int × Int)) (i : Nat) (hi : i < l.length), (l.flatMap spc)[i * 2]? = some (.int .i64 l[i].1) ∧ (l.flatMap spc)[i * 2 + 1]? = some (.int .i64 l[i].2) := by
    intro l
    induction l with
    | nil => intro i hi; simp at hi
    | cons x r ih =>
      intro i hi
      cases i with
      | zero => simp [spc]
      | succ i =>
        have := ih i (by simpa using hi)
        simp only [List.flatMap_cons, spc]
        rw [show (i + 1) * 2 = i * 2 + 2 by omega, show i * 2 + 2 + 1 = (i * 2 + 1) + 2 by omega]
        simpa using this
  refine ⟨b, off, fun hl => h2 ?_, fun i hi => ⟨h3 _ _ (key l i hi).1, ?_⟩⟩
  · have := (key l 0 hl).1
    exact getElem?_pos this
  · have := h3 _ _ (key l i hi).2
    rwa [← Nat.add_assoc] at this
def ExplR (m : Md) (P : List Tm) (t : Tm) (w : World) (e : Ending) (w' : World) : Prop :=
  ∃ (τ : Nat → Nat) (sp nx st : Value) (X : List Sp2) (L : List (List Int)), e = .returned (.tuple #[.agg #[sp, .int .i64 ((iX m P t).length : Int), nx, st, .int .i64 (cntA t.flat : Int)], .int .i64 0]) ∧
    GMem τ w.heap.size w' sp nx st X L (X.map (sX m P t)) ∧ XDone (bX m P t) (oX m t) (iX m P t) X L ∧ Ext w w'
theorem place_any (τ : Nat → Nat) (B A M : Nat) (w0 w : World) (sp nx st : Value) (ini many : Int) (S : List Sp2) (L : List (List Int)) (T : List Int) (s : Sp2) (h : ABox τ B A M w0 w sp nx st ini many S L T) (hl : S.length < 20000 ∨ s ∈ S) :
    Calls Tryz.prog 18 #[.pointer (some ⟨A, 0, none⟩), .agg #[.int .i64 s.1, .int .i64 s.2]] w (PlaceR τ B A M w0 w nx st ini many S L T s) := by
  by_cases hs : s ∈ S
  · exact place_old τ B A M w0 w sp nx st ini many S L T s h hs
  · exact place_new τ B A M w0 w sp nx st ini many S L T s h hs (hl.resolve_right hs)
theorem XInv.put {BF : Sp2 → List Sp2} {O : Sp2 → Prop} {I X : List Sp2} {nx : List (List Int)} {cur : List Int} {t : Nat} (h : XInv BF O I X nx cur t) {x : Sp2} (hx : X[nx.length]? = some x) {y : Sp2} (hy : (BF x)[t]? = some y) (ho : O y) {n : Nat} {S' : List Sp2} (hn : S'[n]? = some y)
    (hS : S' = X ∨ y ∉ X ∧ S' = X ++ [y] ∧ n = X.length) : XInv BF O I S' nx (cur ++ [(n : Int)]) (t + 1) ∧ S'[nx.length]? = some x ∧ S'.take nx.length = X.take nx.length := by
  rcases hS with rfl | ⟨h1, rfl, rfl⟩
  · exact ⟨h.old hx hy hn, hx, rfl⟩
  · have hl := (List.getElem?_eq_some_iff.1 hx).1
    exact ⟨h.grow hx hy h1 ho, by rw [List.getElem?_append_left hl]; exact hx, List.take_append_of_le_length h.le⟩
theorem OwnT.placed {τ τ' : Nat → Nat} {w w' : World} {B : Nat} {e : TypeId} {size n t : Nat} {v : Value} {xs : List Value} (h : OwnT τ t w B e size v n xs) (h0 : t ≠ 0) (h1 : t ≠ 1) (ht : ∀ b, b < w.heap.size → τ' b = τ b)
    (hk : ∀ (t : Nat) (P : World → Prop), t ≠ 0 → t ≠ 1 → Ent τ t w P → Ent τ' t w' P) : OwnT τ' t w' B e size v n xs :=
  ⟨(hk t _ h0 h1 h.ent).now, fun b hb => (ht b (h.own.lt b hb).2).trans (h.tag b hb)⟩
theorem room {BF : Sp2 → List Sp2} {I X : List Sp2} {nx : List (List Int)} {cur : List Int} {t : Nat} {C N : Nat} (h : XInv BF (fun x => 0 ≤ x.1 ∧ x.1 < (C : Int) ∧ 0 ≤ x.2 ∧ x.2 < (N : Int)) I X nx cur t) (hCN : C * N ≤ 20000) {y : Sp2} (hy : 0 ≤ y.1 ∧ y.1 < (C : Int) ∧ 0 ≤ y.2 ∧ y.2 < (N : Int)) : X.length < 20000 ∨ y ∈ X := by
  by_cases hm : y ∈ X
  · exact .inr hm
  · left
    have := pairs_bound C N (X := X ++ [y]) (by
      rw [List.nodup_append]
      refine ⟨h.nd, by simp, ?_⟩
      intro a ha b hb e
      simp at hb
      subst hb; subst e
      exact hm ha) (fun x hx => by
      rcases List.mem_append.1 hx with hx | hx
      · exact h.ok x hx
      · simp at hx; subst hx; exact hy)
    simp at this
    omega
end Go.Proofs.YtciihiiacbnimaaGreatDoor

namespace Go.Proofs.YtciihiiacbnimaaGreatDoor
open Go.RowKit
set_option maxRecDepth 100000 in
set_option maxHeartbeats 16000000 in
theorem explore_any (vv rv pv fv : Value) (m : Md) (P : List Tm) (t : Tm) (w : World) (h : IsTask w vv rv pv fv m P t) (ht : Tab w) (hk : TkOk m P t) (C : Nat) (hC : countL m.vars = (C : Int)) (hCN : C * 2 ^ cntA t.flat ≤ 20000) :
    Calls Tryz.prog 6 #[.agg #[vv, rv, pv, fv]] w (ExplR m P t w) := by
  have HBE := Lib.hid fun wx (hx : Ext w wx) => (show Calls Tryz.prog 16 #[.agg #[vv, rv, pv, fv]] wx fun e w' => ∃ v, e = .returned (.tuple #[v, .int .i64 0]) ∧
      w'.ownsRow wx.heap.size 59 2 v (iX m P t).length ((iX m P t).flatMap spc) ∧ Ext wx w' from begin_any vv rv pv fv m P t wx (h.ext hx) (ht.ext hx) hk)
  have HPL := Lib.hid fun wx (hx : Ext w wx) => places_any fv t.flat (P.length : Int) t wx (h.fo.ext hx) (ht.ext hx) hk.ff
  have HPN := Lib.hid (plL_len t.flat)
  have hc6 := hk.ff.cnt
  have HLE := Lib.hid fun (n : Int) wx (hx : Ext w wx) (hn : 0 ≤ n ∧ n < countL m.vars) => sletter_any vv rv pv m P n wx (h.md.ext hx) (ht.ext hx) hk.ok (h.pr.ext hx) hk.pk hn.1 hn.2
  have HLL := Lib.hid fun n => letS_len P (valsL m.vars n)
  have HME := Lib.hid fun (vl : Value) (n : Int) (c : Nat) wx (hx : Ext w wx) (hL : Bools wx vl (letS P (valsL m.vars n))) (hc : c < 2 ^ cntA t.flat) => (show Calls Tryz.prog 19 #[fv, vl, .int .i64 (c : Int)] wx fun e w' => e = .returned (.tuple #[.int .i64 (sX m P t (n, (c : Int))), .int .i64 0]) ∧ Ext wx w' from
    meets_any fv t.flat t vl (letS P (valsL m.vars n)) c wx (h.fo.ext hx) (ht.ext hx) (by rw [letS_len]; exact hk.ff) hL hc)
  have HBH := Lib.hid fun (n : Int) (c : Nat) wx (hx : Ext w wx) (hn : 0 ≤ n ∧ n < countL m.vars) (hc : c < 2 ^ cntA t.flat) => (show Calls Tryz.prog 20 #[.agg #[vv, rv, pv, fv], .agg #[.int .i64 n, .int .i64 (c : Int)]] wx fun e w' => ∃ v, e = .returned (.tuple #[v, .int .i64 0]) ∧
      w'.ownsRow wx.heap.size 59 2 v (bX m P t (n, (c : Int))).length ((bX m P t (n, (c : Int))).flatMap spc) ∧ Ext wx w' from pbehind_any vv rv pv fv m P t n c wx (h.ext hx) (ht.ext hx) hk hn.1 hn.2 hc)
  have HIN := Lib.hid (iX_nodup m P t)
  have HIO := Lib.hid (iX_ok hk)
  have HBO := Lib.hid fun x (hx : oX m t x) => bX_ok hk hx
  have HBN := Lib.hid fun x => bX_len hk (P := P) x
  unfold ExplR
  unfold oX at HIO HBO ⊢
  rw [hC] at HLE HBH HIO HBO ⊢
  obtain ⟨N, hN⟩ : ∃ x, 2 ^ cntA t.flat = x := ⟨_, rfl⟩
  rw [hN] at hCN HME HBH HIO HBO ⊢
  obtain ⟨k, hk6⟩ : ∃ x, cntA t.flat = x := ⟨_, rfl⟩
  rw [hk6] at HPN hc6 ⊢
  obtain ⟨I, hI⟩ : ∃ x, iX m P t = x := ⟨_, rfl⟩
  rw [hI] at HBE HIN HIO ⊢
  obtain ⟨BF, hBF⟩ : ∃ x, bX m P t = x := ⟨_, rfl⟩
  rw [hBF] at HBH HBO HBN ⊢
  obtain ⟨SF, hSF⟩ : ∃ x, sX m P t = x := ⟨_, rfl⟩
  rw [hSF] at HME ⊢
  obtain ⟨LT, hLT⟩ : ∃ LT : Int → List Bool, (fun n => letS P (valsL m.vars n)) = LT := ⟨_, rfl⟩
  have hLTa : ∀ n, letS P (valsL m.vars n) = LT n := fun n => by rw [← hLT]
  simp only [hLTa] at HLE HME HLL
  obtain ⟨av, cv, ar, cr, ap, cp, af, nf, cf, rfl, rfl, rfl, rfl⟩ := h.val
  have HCN := Lib.hid hCN
  have hIl : I.length ≤ 20000 := Nat.le_trans (pairs_bound C N (X := I) HIN.out (fun x hx => HIO.out x hx)) hCN
  have hp6 := hk.pk.six
  clear h ht hk hC hCN hN hk6 hI hBF hSF hLT hLTa
  generalize m.vars.length = nv at *
  generalize m.rules.length = nr at *
  generalize P.length = np at *
  have hb := blk_new w (Obj.cells #[.slice av nv cv, .slice ar nr cr, .slice ap np cp, .slice af nf cf] 35)
  have hx := ext_al (Ext.refl (w.alloc (Obj.cells #[.slice av nv cv, .slice ar nr cr, .slice ap np cp, .slice af nf cf] 35))) (Obj.cells #[.slice none 0 0, .int .i64 0, .slice none 0 0, .slice none 0 0, .int .i64 0] 44)
  have hb2 := blk_new (w.alloc (Obj.cells #[.slice av nv cv, .slice ar nr cr, .slice ap np cp, .slice af nf cf] 35)) (Obj.cells #[.slice none 0 0, .int .i64 0, .slice none 0 0, .slice none 0 0, .int .i64 0] 44)
  rw [World.size_alloc] at hb2
  have HE := Lib.hid ((ext_al (Ext.refl w) (Obj.cells #[.slice av nv cv, .slice ar nr cr, .slice ap np cp, .slice af nf cf] 35)).trans hx)
  have HB := Lib.hid (blk_ext hb hx)
  have HR := Lib.hid hb2
  have d0 := blk_cell HB.out (i := 0) rfl
  have d1 := blk_cell HB.out (i := 1) rfl
  have d2 := blk_cell HB.out (i := 2) rfl
  have d3 := blk_cell HB.out (i := 3) rfl
  clear hb hx hb2
  go_enter Tryz.func6, Tryz.ntmps6
  go_wp2_with fail
  generalize (w.alloc (Obj.cells #[.slice av nv cv, .slice ar nr cr, .slice ap np cp, .slice af nf cf] 35)).alloc (Obj.cells #[.slice none 0 0, .int .i64 0, .slice none 0 0, .slice none 0 0, .int .i64 0] 44) = W0 at *
  refine (HBE.out _ HE.out).mono ?_
  rintro e w1 ⟨v1, rfl, ho1, hE1⟩
  obtain ⟨a1, c1, rfl, _⟩ := id ho1.row
  have HO1 := Lib.hid ho1
  have HX1 := Lib.hid hE1
  have hb1 := blk_ext HB.out hE1
  have d2 := blk_cell hb1 (i := 2) rfl
  have d3 := blk_cell hb1 (i := 3) rfl
  clear ho1 hE1 hb1 d0 d1 HBE
  go_wp2_with fail
  refine (HPL.out _ (HE.out.trans HX1.out)).mono ?_
  rintro e w2 ⟨a2, c2, rfl, ho2, hE2⟩
  rw [HPN.out]
  have HX2 := Lib.hid (HX1.out.trans hE2)
  have HO2 := Lib.hid (own_ext HO1.out hE2)
  have HAB := Lib.hid (ABox.start w2 (I.length : Int) (k : Int) w2.heap.size rfl)
  clear hE2 ho2 d2 d3 HPL HO1 HX1 HPN
  have hmm := @run_makeMap Tryz.prog
  go_wp2_with fail
  have HMM := Lib.hid (Nat.le_refl w2.heap.size)
  generalize (w2.alloc (Obj.map #[] 0)).alloc (Obj.cells #[.slice none 0 0, .int .i64 (I.length : Int), .slice none 0 0, .slice none 0 0, .int .i64 (k : Int), .map (some w2.heap.size)] 74) = W3 at *
  generalize hMs : w2.heap.size = M at *
  have HMS := Lib.hid hMs
  clear hMs
  go_loopg [59] I.length (fun g x wr => ∃ (i : Nat) (τ : Nat → Nat) (sp : Value), g + i = I.length ∧ x = .int .i64 (i : Int) ∧ ABox τ (M + 2) (M + 1) M w2 wr sp (.slice none 0 0) (.slice none 0 0) (I.length : Int) (k : Int) (I.take i) [] [])
  case atStart => exact ⟨0, _, _, by omega, by go_num, HAB.out⟩
  case round =>
    obtain ⟨i, τ, sp, hgi, rfl, hA⟩ := hrel
    have HGI := Lib.hid hgi
    have HA := Lib.hid hA
    clear hgi HAB
    by_cases hi : i < I.length
    · obtain ⟨_, _, e1, hr⟩ := id (own_ext HO2.out hA.e).row
      simp only [Value.slice.injEq] at e1
      obtain ⟨rfl, -, rfl⟩ := e1
      obtain ⟨bS, oS, s1, s2⟩ := spotsX_at hr
      obtain rfl := s1 (by omega)
      obtain ⟨c0, c1⟩ := s2 i hi
      have hcap := hr.le
      have HNI := Lib.hid (show I[i] ∉ I.take i from fun hm => by
        obtain ⟨j, hj, e⟩ := List.mem_iff_getElem.1 hm
        rw [List.length_take] at hj
        rw [List.getElem_take] at e
        have := nodup_at HIN.out (i := j) (j := i) (by rw [List.getElem?_eq_getElem (by omega), e]) (List.getElem?_eq_getElem hi)
        omega)
      have HTK := Lib.hid (show I.take (i + 1) = I.take i ++ [I[i]] from List.take_succ_eq_append_getElem hi)
      have HLT := Lib.hid (show (I.take i).length < 20000 from by
        rw [List.length_take]
        omega)
      have hiI : (i : Int) < (I.length : Int) := by omega
      have hi0 : (0 : Int) ≤ (i : Int) := by omega
      have hx3 := ext_al (Ext.refl wr) (Obj.cells #[.int .i64 I[i].1, .int .i64 I[i].2] 59)
      have hb3 := blk_new wr (Obj.cells #[.int .i64 I[i].1, .int .i64 I[i].2] 59)
      have HPC := Lib.hid (place_any τ (M + 2) (M + 1) M w2 _ sp _ _ _ _ _ _ _ I[i] (hA.ext hx3) (.inl HLT.out))
      have b0 := blk_cell hb3 (i := 0) rfl
      have b1 := blk_cell hb3 (i := 1) rfl
      generalize I[i] = s at *
      clear hA hr s1 s2 hx3 hb3
      go_wp2_with fail
      refine HPC.out.mono ?_
      rintro e w5 ⟨n, S', sp', τ', rfl, hn, hS, hA5, -, -, -⟩
      obtain rfl : S' = I.take (i + 1) := by
        rcases hS with rfl | ⟨_, rfl, _⟩
        · exact absurd (List.mem_of_getElem? hn) HNI.out
        · exact HTK.out.symm
      have HA5 := Lib.hid hA5
      clear hn hS hA5 c0 c1 b0 b1
      go_wp2_with fail
      go_roundg (gk - 1)
      case measure => have := HGI.out; omega
      case rel => exact ⟨i + 1, _, _, by have := HGI.out; omega, by go_num, HA5.out⟩
    · obtain rfl : i = I.length := by have := HGI.out; omega
      have hiI : ¬ (I.length : Int) < (I.length : Int) := by omega
      rw [List.take_length] at hA
      have HAI := Lib.hid hA
      have HX0 := Lib.hid (show XInv BF (fun x => 0 ≤ x.1 ∧ x.1 < (C : Int) ∧ 0 ≤ x.2 ∧ x.2 < (N : Int)) I I [] [] 0 from XInv.start HIN.out HIO.out)
      clear hA HA HGI
      go_wp2_with fail
      go_loopg [11] 20001 (fun g x wr => ∃ (i : Nat) (τ : Nat → Nat) (sp nx st : Value) (X : List Sp2) (L : List (List Int)), g + i = 20001 ∧ x = .int .i64 (i : Int) ∧ L.length = i ∧ ABox τ (M + 2) (M + 1) M w2 wr sp nx st (I.length : Int) (k : Int) X L ((X.take i).map SF) ∧ XInv BF (fun x => 0 ≤ x.1 ∧ x.1 < (C : Int) ∧ 0 ≤ x.2 ∧ x.2 < (N : Int)) I X L [] 0)
      case atStart => exact ⟨0, _, _, _, _, I, [], by omega, by go_num, rfl, HAI.out, HX0.out⟩
      case round =>
        obtain ⟨i, τ, sp, nx, st, X, L, hgi, rfl, hLi, hA, hI⟩ := hrel
        subst hLi
        obtain ⟨T, hTe⟩ : ∃ T, (X.take L.length).map SF = T := ⟨_, rfl⟩
        rw [hTe] at hA
        have HTE := Lib.hid hTe
        have HGI := Lib.hid hgi
        have HA := Lib.hid hA
        have HXI := Lib.hid hI
        have hXl : X.length ≤ 20000 := Nat.le_trans (pairs_bound C N (X := X) hI.nd (fun x hx => hI.ok x hx)) HCN.out
        have hLX := hI.le
        obtain ⟨asp, csp, rfl, hrsp⟩ := hA.m.sp.own.row
        have a0 := blk_cell hA.a (i := 0) rfl
        clear HAI HX0 hgi
        by_cases hi : L.length < X.length
        · obtain ⟨bS, oS, s1, s2⟩ := spotsX_at hrsp
          obtain rfl := s1 (by omega)
          obtain ⟨c0, c1⟩ := s2 L.length hi
          have hxo := hI.ok X[L.length] (by simp)
          have HXG := Lib.hid (List.getElem?_eq_getElem hi)
          have hcap := hrsp.le
          generalize X[L.length] = x at *
          obtain ⟨x1, x2⟩ := x
          obtain ⟨c, rfl⟩ : ∃ c : Nat, x2 = (c : Int) := ⟨x2.toNat, by have := hxo.2.2.1; simp at this; omega⟩
          have hx1 : 0 ≤ x1 ∧ x1 < (C : Int) := ⟨hxo.1, hxo.2.1⟩
          have hcN : c < N := by have := hxo.2.2.2; simp at this; omega
          have HXO := Lib.hid hxo
          have hW2 := HX2.out.trans hA.e
          have hbt := blk_ext HB.out hW2
          have hx3 := ext_al (Ext.refl wr) (Obj.cells #[.int .i64 x1, .int .i64 (c : Int)] 59)
          have hb3 := blk_new wr (Obj.cells #[.int .i64 x1, .int .i64 (c : Int)] 59)
          have HBT := Lib.hid (blk_ext hbt hx3)
          have HB3 := Lib.hid hb3
          have HX3 := Lib.hid (HE.out.trans (hW2.trans hx3))
          have HA3 := Lib.hid (hA.ext hx3)
          have d0 := blk_cell HBT.out (i := 0) rfl
          have d1 := blk_cell HBT.out (i := 1) rfl
          have d2 := blk_cell HBT.out (i := 2) rfl
          have b0 := blk_cell HB3.out (i := 0) rfl
          have hiI : (L.length : Int) < (X.length : Int) := by omega
          have hi0 : (0 : Int) ≤ (L.length : Int) := by omega
          obtain ⟨nL, hnL⟩ : ∃ x, L.length = x := ⟨_, rfl⟩
          obtain ⟨nX, hnX⟩ : ∃ x, X.length = x := ⟨_, rfl⟩
          rw [hnL] at hi hiI hi0 c0 c1 hLX
          rw [hnX] at hi hiI hcap hLX hXl a0
          have HNL := Lib.hid hnL
          have HNX := Lib.hid hnX
          clear hxo hW2 hbt hx3 hb3 hrsp s1 s2 hI hA hTe
          go_wp2_with fail
          generalize wr.alloc (Obj.cells #[.int .i64 x1, .int .i64 (c : Int)] 59) = W3 at *
          refine (HLE.out x1 _ HX3.out hx1).mono ?_
          rintro e w4 ⟨v4, rfl, ho4, hE4⟩
          obtain ⟨a4, c4, rfl, _⟩ := id ho4.row
          have HBO4 := Lib.hid (show Bools w4 (.slice a4 np c4) (LT x1) from by
            have h := ho4.reads
            unfold Bools
            rw [HLL.out]
            exact h)
          have HX4 := Lib.hid (HX3.out.trans hE4)
          have HA4 := Lib.hid (HA3.out.ext hE4)
          have HBT4 := Lib.hid (blk_ext HBT.out hE4)
          have HB4 := Lib.hid (blk_ext HB3.out hE4)
          have d3 := blk_cell HBT4.out (i := 3) rfl
          have b1 := blk_cell HB4.out (i := 1) rfl
          clear ho4 hE4 a0 c0 c1 d0 d1 d2 b0 HX3 HA3 HBT HB3
          go_wp2_with fail
          refine (HME.out _ x1 c _ HX4.out HBO4.out hcN).mono ?_
          rintro e w5 ⟨rfl, hE5⟩
          have HX5 := Lib.hid (HX4.out.trans hE5)
          have HA5 := Lib.hid (HA4.out.ext hE5)
          have HBT5 := Lib.hid (blk_ext HBT4.out hE5)
          have HB5 := Lib.hid (blk_ext HB4.out hE5)
          have d0 := blk_cell HBT5.out (i := 0) rfl
          have d1 := blk_cell HBT5.out (i := 1) rfl
          have d2 := blk_cell HBT5.out (i := 2) rfl
          have e3 := blk_cell HBT5.out (i := 3) rfl
          have b0 := blk_cell HB5.out (i := 0) rfl
          have e1 := blk_cell HB5.out (i := 1) rfl
          clear hE5 d3 b1 HX4 HA4 HBT4 HB4 HBO4
          go_wp2_with fail
          refine (HBH.out x1 c _ HX5.out hx1 hcN).mono ?_
          rintro e w6 ⟨v6, rfl, ho6, hE6⟩
          obtain ⟨a6, c6, rfl, _⟩ := id ho6.row
          have hb768 := HBN.out (x1, (c : Int))
          obtain ⟨Y, hY⟩ : ∃ Y, BF (x1, (c : Int)) = Y := ⟨_, rfl⟩
          rw [hY] at ho6 hb768 ⊢
          have HY := Lib.hid hY
          have hA6 := (HA5.out.retag 8).ext hE6
          have ho8 := OwnT.fresh τ 8 ho6
          have HC0 := Lib.hid (OwnT.nil (tagAt τ w5.heap.size 8) 5 w6 (M + 2) 3 1)
          have HE8 := Lib.hid ho8.ent
          have HAI := Lib.hid hA6
          clear hE6 ho6 hY hA6 ho8 d0 d1 d2 e3 b0 e1 HX5 HA5 HBT5 HB5
          obtain ⟨H5, hH5⟩ : ∃ x, w5.heap.size = x := ⟨_, rfl⟩
          rw [hH5] at HE8 HC0 HAI
          clear hH5
          go_wp2_with fail
          obtain ⟨wo, rfl⟩ : ∃ wo : World, wo = wr := ⟨_, rfl⟩
          obtain ⟨G0, rfl⟩ : ∃ G0 : Nat, G0 = gk := ⟨_, rfl⟩
          go_loopg [112, 17] Y.length (fun g x y wq => ∃ (j : Nat) (τ' : Nat → Nat) (sp' : Value) (X' : List Sp2) (cur : List Int) (al : Option Addr) (cl : Nat), g + j = Y.length ∧ x = .int .i64 (j : Int) ∧ y = .slice al j cl ∧ cur.length = j ∧
            ABox τ' (M + 2) (M + 1) M w2 wq sp' nx st (I.length : Int) (k : Int) X' L T ∧ XInv BF (fun x => 0 ≤ x.1 ∧ x.1 < (C : Int) ∧ 0 ≤ x.2 ∧ x.2 < (N : Int)) I X' L cur j ∧ X'[L.length]? = some (x1, (c : Int)) ∧ X'.take L.length = X.take L.length ∧
            OwnT τ' 5 wq (M + 2) 3 1 (.slice al j cl) j (cur.map (.int .i64)) ∧ Ent τ' 8 wq (fun z => z.ownsRow H5 59 2 (.slice a6 Y.length c6) Y.length (Y.flatMap spc)))
          case atStart => exact ⟨0, _, _, X, [], none, 0, by omega, by go_num, rfl, rfl, HAI.out, HXI.out, HXG.out, rfl, HC0.out, HE8.out⟩
          case round =>
            obtain ⟨j, τ', sp', X', cur, al, cl, hgj, rfl, rfl, hcj, hA, hI, hx, hT, hO, hE⟩ := hrel
            have HGJ := Lib.hid hgj
            have HCJ := Lib.hid hcj
            have HXI' := Lib.hid hI
            have HXG' := Lib.hid hx
            have HTT := Lib.hid hT
            have HOO := Lib.hid hO
            have HAA := Lib.hid hA
            have HEE := Lib.hid hE
            clear hgj hcj hx hT HAI HC0 HE8
            by_cases hj : j < Y.length
            · obtain ⟨_, _, e1, hr⟩ := id hE.now.row
              simp only [Value.slice.injEq] at e1
              obtain ⟨rfl, -, rfl⟩ := e1
              obtain ⟨bS, oS, s1, s2⟩ := spotsX_at hr
              obtain rfl := s1 (by omega)
              obtain ⟨c0, c1⟩ := s2 j hj
              have hYj := List.getElem?_eq_getElem hj
              have hym := List.getElem_mem hj
              generalize Y[j] = y at *
              have hyo := HBO.out _ HXO.out y (by rw [HY.out]; exact hym)
              have HYO := Lib.hid hyo
              have HYJ := Lib.hid hYj
              have hx3 := ext_al (Ext.refl wr) (Obj.cells #[.int .i64 y.1, .int .i64 y.2] 59)
              have hb3 := blk_new wr (Obj.cells #[.int .i64 y.1, .int .i64 y.2] 59)
              have HPC := Lib.hid (place_any τ' (M + 2) (M + 1) M w2 _ sp' _ _ _ _ _ _ _ y (hA.ext hx3) (room hI HCN.out hyo))
              have b0 := blk_cell hb3 (i := 0) rfl
              have b1 := blk_cell hb3 (i := 1) rfl
              have HO3 := Lib.hid (hO.ext hx3)
              have HE3 := Lib.hid (hE.ext hx3)
              have hjI : (j : Int) < (Y.length : Int) := by omega
              have hj0 : (0 : Int) ≤ (j : Int) := by omega
              clear hr s1 s2 hx3 hb3 hyo hym hYj hI hA hO hE HAA HEE HOO
              go_wp2_with fail
              generalize wr.alloc (Obj.cells #[.int .i64 y.1, .int .i64 y.2] 59) = W7 at *
              refine HPC.out.mono ?_
              rintro e w7 ⟨n, S', sp7, τ7, rfl, hn, hS, hA7, ht7, hs7, hk7⟩
              obtain ⟨hI7, hx7, hT7⟩ := HXI'.out.put HXG'.out (by rw [HY.out]; exact HYJ.out) HYO.out hn hS
              have HA7 := Lib.hid hA7
              have HI7 := Lib.hid hI7
              have HX7 := Lib.hid hx7
              have HT7 := Lib.hid (hT7.trans HTT.out)
              have ho7 := HO3.out.placed (by omega) (by omega) ht7 hk7
              have HO7 := Lib.hid ho7
              have HE7 := Lib.hid (hk7 8 _ (by omega) (by omega) HE3.out)
              have hx8 := ext_al (Ext.refl w7) (Obj.cells #[.int .i64 (n : Int)] 3)
              have HX8 := Lib.hid hx8
              have HO8 := Lib.hid (ho7.ext hx8)
              have hsz := hA7.m.size
              clear hn hS hA7 ht7 hs7 hk7 hI7 hx7 hT7 ho7 hx8 c0 c1 b0 b1 HPC HO3 HE3
              go_wp2_with (at_builtin; go_must (refine wpl_append rfl rfl Tryz.slIntsG (M + 2) rfl HO8.out.own rfl (Row.oneG _ _ _ _ rfl) (one_int _) (by unfold maxLen; omega) (by omega) (by simp; omega) ?_))
              intro v9 w9 hown9 hg9 hb9 _
              obtain ⟨hA9, hO9, hk9⟩ := (HA7.out.ext HX8.out).app5 HO8.out hg9 hown9 (by rcases hb9 with h | h; exact .inl h; right; rw [h]; simp)
              obtain ⟨a9, c9, rfl, _⟩ := id hown9.row
              have HA9 := Lib.hid hA9
              have HO9 := Lib.hid hO9
              have HE9 := Lib.hid (hk9 _ (HE7.out.ext HX8.out))
              clear hown9 hg9 hb9 hA9 hO9 hk9 HO8
              go_wp2_with fail
              go_roundg (gk - 1)
              case measure => have := HGJ.out; omega
              case rel => exact ⟨j + 1, _, _, S', cur ++ [(n : Int)], a9, c9, by have := HGJ.out; omega, by go_num, rfl, by rw [List.length_append, HCJ.out]; rfl, HA9.out, HI7.out, HX7.out, HT7.out, by rw [List.map_append]; exact HO9.out, HE9.out⟩
            · obtain rfl : j = Y.length := by have := HGJ.out; omega
              have hjI : ¬ (Y.length : Int) < (Y.length : Int) := by omega
              have HRW := Lib.hid (HXI'.out.row HXG'.out (by rw [HY.out]))
              have HTK := Lib.hid (show (X'.take (nL + 1)).map SF = T ++ [SF (x1, (c : Int))] from by
                have hx' := HXG'.out
                rw [HNL.out] at hx'
                have hl := (List.getElem?_eq_some_iff.1 hx').1
                rw [List.take_add_one, hx', List.map_append, ← HNL.out, HTT.out, HTE.out]
                rfl)
              have hAt := hA.t53
              have HUN := Lib.hid (Ent.t55 (hO.ent.mono fun z hz => (show Ints z (.slice al Y.length cl) cur from by
                have h := hz.reads
                unfold Ints
                rw [HCJ.out]
                exact h)))
              obtain ⟨vs, h1, h2⟩ := hAt.m.nx
              obtain ⟨an, cn, rfl, hrn⟩ := id h1.own.row
              have hncap := hrn.le
              have a2 := blk_cell hA.a (i := 2) rfl
              have hx9 := ext_al (Ext.refl wr) (Obj.cells #[.slice al Y.length cl] 27)
              have HX9 := Lib.hid hx9
              have HN9 := Lib.hid (h1.ext hx9)
              have HN1 := Lib.hid h1
              have HN2 := Lib.hid h2
              have HAT := Lib.hid hAt
              have hsz := hA.m.size
              rw [HNL.out] at HN9 a2
              have hL20 : nL ≤ 20000 := by omega
              clear hI hA hO hE hAt h1 h2 hrn hx9 HAA HEE HOO
              go_wp2_with (at_builtin; go_must (refine wpl_append rfl rfl Tryz.slLists (M + 2) rfl HN9.out.own rfl (Row.oneG _ _ _ _ rfl) (by simp [Value.oneCell']) (by unfold maxLen; omega) (by omega) (by simp; omega) ?_))
              intro v10 w10 hown10 hg10 hb10 _
              obtain ⟨hb10', τ10, hA10⟩ := HAT.out.pushNx HX9.out HN1.out HN2.out HUN.out hown10 (by rw [HNL.out]) rfl (by rw [HNL.out]; exact hg10) (by rw [HNL.out]; rcases hb10 with h | h; exact .inl h; right; rw [h]; simp)
              obtain ⟨a10, c10, rfl, _⟩ := id hown10.row
              have c2' := blk_cell hb10' (i := 2) rfl
              have f2' := blk_free hb10' 2
              have HA10 := Lib.hid hA10
              clear hown10 hg10 hb10 hb10' hA10 HN1 HN2 HUN HN9 HAT a2
              go_upto_region 29 with fail
              generalize w10.setCell ⟨M + 1, 2, none⟩ (.slice a10 (nL + 1) c10) = W10 at *
              have HTL := Lib.hid (show T.length = nL from by
                rw [← HTE.out, List.length_map, List.length_take, HNX.out, HNL.out]
                omega)
              obtain ⟨at', ct, rfl, hrt⟩ := id HA10.out.m.st.own.row
              have htcap := hrt.le
              have a3 := blk_cell HA10.out.a (i := 3) rfl
              have hxA := ext_al (Ext.refl W10) (Obj.cells #[.int .i64 (SF (x1, (c : Int)))] 3)
              have HXA := Lib.hid hxA
              have hoA := HA10.out.m.st.own
              have hszA := HA10.out.m.size
              rw [HTL.out] at hoA a3 htcap
              have HOA := Lib.hid (own_ext hoA hxA)
              clear hrt hxA hoA c2' f2'
              go_wp2_with (at_builtin; go_must (refine wpl_append rfl rfl Tryz.slIntsG (M + 2) rfl HOA.out rfl (Row.oneG _ _ _ _ rfl) (one_int _) (by unfold maxLen; omega) (by omega) (by simp; omega) ?_))
              intro v11 w11 hown11 hg11 hb11 _
              obtain ⟨hb11', τ11, hA11⟩ := HA10.out.pushSt (x := SF (x1, (c : Int))) HXA.out hown11 (by rw [HTL.out]) rfl (by rw [HTL.out]; exact hg11) (by rw [HTL.out]; rcases hb11 with h | h; exact .inl h; right; rw [h]; simp)
              obtain ⟨a11, c11, rfl, _⟩ := id hown11.row
              have c3' := blk_cell hb11' (i := 3) rfl
              have f3' := blk_free hb11' 3
              have HA11 := Lib.hid hA11
              clear hown11 hg11 hb11 hb11' hA11 HOA a3
              go_wp2_with fail
              go_roundg (G0 - 1)
              case measure => have := HGI.out; have := HNL.out; omega
              case rel => exact ⟨nL + 1, _, _, _, _, X', L ++ [cur], by have := HGI.out; have := HNL.out; omega, by go_num, by rw [List.length_append, HNL.out]; rfl, by rw [HTK.out]; exact HA11.out, HRW.out⟩
        · have hLe : L.length = X.length := by omega
          have HDN := Lib.hid (hI.last hLe)
          have HTX := Lib.hid (show T = X.map SF from by rw [← hTe, hLe, List.take_length])
          have hiI : ¬ (L.length : Int) < (X.length : Int) := by omega
          obtain ⟨ax, cx, rfl, _⟩ : ∃ a c, nx = .slice a L.length c ∧ True := by
            obtain ⟨vs, h1, _⟩ := hA.m.nx
            obtain ⟨a, c, e, _⟩ := h1.own.row
            exact ⟨a, c, e, trivial⟩
          obtain ⟨at', ct, rfl, _⟩ := id hA.m.st.own.row
          have hW2 := HX2.out.trans hA.e
          have hR := blk_ext HR.out hW2
          have a1' := blk_cell hA.a (i := 1) rfl
          have a2' := blk_cell hA.a (i := 2) rfl
          have a3' := blk_cell hA.a (i := 3) rfl
          have a4' := blk_cell hA.a (i := 4) rfl
          have r0 := blk_cell hR (i := 0) rfl
          have r1 := blk_cell hR (i := 1) rfl
          have r2 := blk_cell hR (i := 2) rfl
          have r3 := blk_cell hR (i := 3) rfl
          have r4 := blk_cell hR (i := 4) rfl
          have f0 := blk_free hR 0
          have f1 := blk_free hR 1
          have f2 := blk_free hR 2
          have f3 := blk_free hR 3
          have f4 := blk_free hR 4
          have hRM : w.heap.size + 1 < M + 2 := by
            have h1 := blk_lt HR.out
            have h2 := HX2.out.size
            rw [HMS.out] at h2
            omega
          have HRM := Lib.hid hRM
          have HEW := Lib.hid (HE.out.trans hW2)
          clear hrsp hI hA hTe hW2 hR hLe hRM
          go_wp2_with fail
          refine bodyPost_ret (v := .tuple #[.agg #[.slice asp X.length csp, .int .i64 (I.length : Int), .slice ax L.length cx, .slice at' T.length ct, .int .i64 (k : Int)], .int .i64 0]) (by simp [results, Tryz.results6, go_sem, r0, r1, r2, r3, r4]) rfl ?_
          obtain rfl := HTX.out
          have hrm := HRM.out
          refine ⟨τ, _, _, _, rfl, X, L, GMem.base ((((((HA.out.m.low ?_ _).low ?_ _).low ?_ _).low ?_ _).low ?_ _)) (by omega), HDN.out, ext_st (ext_st (ext_st (ext_st (ext_st HEW.out ?_ _) ?_ _) ?_ _) ?_ _) ?_ _⟩
          all_goals first | exact hrm | exact Nat.le_succ _
end Go.Proofs.YtciihiiacbnimaaGreatDoor

namespace Go.Proofs.YtciihiiacbnimaaGreatDoor
open Go.RowKit
structure RunL (m : Md) (n back : Nat) (x : Nat → Int) : Prop where
  hb : back < n
  first : x 0 = m.first
  step : ∀ i, i < n → NextP m (x i) (x (nxt n back i))
def wdOf (m : Md) (P : List Tm) (n back : Nat) (x : Nat → Int) : Wd := ⟨(List.range n).map fun i => letS P (valsL m.vars (x i)), back⟩
theorem wdOf_n (m : Md) (P : List Tm) (n back : Nat) (x : Nat → Int) : (wdOf m P n back x).n = n := by simp [wdOf, Wd.n]
theorem wdOf_get (m : Md) (P : List Tm) {n back : Nat} (x : Nat → Int) {i : Nat} (hi : i < n) : (wdOf m P n back x).ls.getD i [] = letS P (valsL m.vars (x i)) := by
  simp [wdOf, List.getD, hi]
section
end
end Go.Proofs.YtciihiiacbnimaaGreatDoor

namespace Go.Proofs.YtciihiiacbnimaaGreatDoor
section
end
section
end
end Go.Proofs.YtciihiiacbnimaaGreatDoor

namespace Go.Proofs.YtciihiiacbnimaaGreatDoor
section
end
section
end
end Go.Proofs.YtciihiiacbnimaaGreatDoor

namespace Go.Proofs.YtciihiiacbnimaaGreatDoor
end Go.Proofs.YtciihiiacbnimaaGreatDoor

namespace Go.Proofs.YtciihiiacbnimaaGreatDoor
theorem RunL.in {m : Md} (hp : m.Pre) {n back : Nat} {x : Nat → Int} (hr : RunL m n back x) : ∀ i, i < n → 0 ≤ x i ∧ x i < countL m.vars := by
  intro i
  induction i with
  | zero => intro _; rw [hr.first]; exact first_bd hp
  | succ i ih =>
    intro hi
    have h1 := ih (by omega)
    have h2 := hr.step i (by omega)
    have e : nxt n back i = i + 1 := by unfold nxt; rw [if_pos hi]
    rw [e] at h2
    exact h2.in hp h1.1 h1.2
end Go.Proofs.YtciihiiacbnimaaGreatDoor

namespace Go.Proofs.YtciihiiacbnimaaGreatDoor
open Go.RowKit
structure PathS (m : Md) (p : List Int) : Prop where
  pos : 0 < p.length
  first : p[0]? = some m.first
  step : ∀ (j : Nat) (x y : Int), p[j]? = some x → p[j + 1]? = some y → NextP m x y
theorem PathS.start (m : Md) : PathS m [m.first] := ⟨by simp, rfl, fun j x y _ h => by simp at h⟩
theorem PathS.snoc {m : Md} {p : List Int} (h : PathS m p) {c d : Int} (hc : p[p.length - 1]? = some c) (hn : NextP m c d) : PathS m (p ++ [d]) := by
  have hp := h.pos
  refine ⟨by simp, by rw [List.getElem?_append_left hp]; exact h.first, fun j x y h1 h2 => ?_⟩
  by_cases hj : j + 1 < p.length
  · rw [List.getElem?_append_left (by omega)] at h1
    rw [List.getElem?_append_left hj] at h2
    exact h.step j x y h1 h2
  · have hl := (List.getElem?_eq_some_iff.1 h2).1
    simp at hl
    have e : j = p.length - 1 := by omega
    subst e
    rw [List.getElem?_append_left (by omega), hc] at h1
    rw [List.getElem?_append_right (by omega)] at h2
    have e2 : p.length - 1 + 1 - p.length = 0 := by omega
    rw [e2] at h2
    simp at h1 h2
    subst h1; subst h2; exact hn
theorem PathS.run {m : Md} {p : List Int} (h : PathS m p) {c d : Int} (hc : p[p.length - 1]? = some c) (hn : NextP m c d) {at' : Nat} (ha : p[at']? = some d) : RunL m p.length at' (fun i => p.getD i 0) := by
  have hp := h.pos
  have hat := (List.getElem?_eq_some_iff.1 ha).1
  refine ⟨hat, by simp only [List.getD, h.first]; rfl, fun i hi => ?_⟩
  have hx : p[i]? = some p[i] := List.getElem?_eq_getElem hi
  unfold nxt
  split
  · rename_i h1
    have hy : p[i + 1]? = some p[i + 1] := List.getElem?_eq_getElem h1
    simp only [List.getD, hx, hy, Option.getD_some]
    exact h.step i _ _ hx hy
  · have e : i = p.length - 1 := by omega
    subst e
    simp only [List.getD, hc, ha, Option.getD_some]
    exact hn
theorem row_take {w : World} {H n cap k : Nat} {xs : List Value} (h : Row w 1 (some ⟨H, 0, none⟩) n cap xs) (hk : k ≤ n) : Row w 1 (some ⟨H, 0, none⟩) k k (xs.take k) := by
  have hl := h.len
  have h1 := h.le
  have h2 := h.max
  refine ⟨by rw [List.length_take]; omega, Nat.le_refl _, by omega, H, 0, (by intro h; cases h), fun _ => rfl, fun j u hu => h.cells j u ?_⟩
  rw [List.getElem?_take] at hu
  split at hu
  · exact hu
  · cases hu
theorem row_from {w : World} {H n cap k : Nat} {xs : List Value} (h : Row w 1 (some ⟨H, 0, none⟩) n cap xs) (hk : k ≤ n) : Row w 1 (some ⟨H, k, none⟩) (n - k) (cap - k) (xs.drop k) := by
  have hl := h.len
  have h1 := h.le
  have h2 := h.max
  refine ⟨by rw [List.length_drop]; omega, by omega, by omega, H, k, (by intro h; cases h), fun _ => rfl, fun j u hu => ?_⟩
  rw [List.getElem?_drop] at hu
  have := h.cells _ u hu
  rwa [Nat.zero_add] at this
def WalkR (m : Md) (w : World) (e : Ending) (w' : World) : Prop :=
  ∃ (a1 : Option Addr) (n1 c1 : Nat) (a2 : Option Addr) (n2 c2 : Nat), e = .returned (.tuple #[.agg #[.slice a1 n1 c1, .slice a2 n2 c2], .bool true]) ∧ Ext w w' ∧
    (n2 = 0 ∨ ∃ (p : List Int) (back : Nat), RunL m p.length back (fun i => p.getD i 0) ∧ n1 = back ∧ n2 = p.length - back ∧ p.length ≤ 12 ∧ Reads w' 1 (.slice a1 n1 c1) n1 ((p.take back).map (.int .i64)) ∧ Reads w' 1 (.slice a2 n2 c2) n2 ((p.drop back).map (.int .i64)))
set_option maxRecDepth 100000 in
set_option maxHeartbeats 16000000 in
theorem walk_any (vv rv lv : Value) (m : Md) (ls : List Int) (w : World) (h : IsMd w vv rv m) (ht : Tab w) (hp : m.Ok) (h0 : 0 < m.vars.length) (hl : Ints w lv ls) (hi : ∀ n ∈ ls, I64 n) :
    Calls Tryz.prog 5 #[.agg #[vv, rv], lv] w (WalkR m w) := by
  have HFI := Lib.hid fun wx (hx : Ext w wx) => first_any vv rv m wx (h.ext hx) (ht.ext hx) hp
  have HNX := Lib.hid fun (c : Int) wx (hx : Ext w wx) (hc : ReachS m c) => nextE_any vv rv m c wx (h.ext hx) (ht.ext hx) hp h0 (hc.bd hp.toPre).1 (hc.bd hp.toPre).2
  have HNL := Lib.hid fun c => nextL_len m c
  have HNM := Lib.hid fun c d => (nextL_ok m c).mem d
  have H12 := Lib.hid hp.twelve
  obtain ⟨av, cv, rfl⟩ := EachL.val h.vars
  obtain ⟨ar, cr, rfl⟩ := EachL.val h.rules
  obtain ⟨al, cl, rfl, hrl⟩ := hl
  have HRL := Lib.hid hrl
  have HI := Lib.hid hi
  have hlm : ls.length ≤ 9223372036854775807 := by have := hrl.le; have := hrl.max; unfold maxLen at this; omega
  generalize m.vars.length = nv at *
  generalize m.rules.length = nr at *
  have hx := ext_al (Ext.refl w) (Obj.cells #[.slice av nv cv, .slice ar nr cr] 31)
  have HBM := Lib.hid (blk_ext (blk_new w (Obj.cells #[.slice av nv cv, .slice ar nr cr] 31)) (ext_al (Ext.refl _) (Obj.cells #[.slice none 0 0, .slice none 0 0] 38)))
  have hb2 := blk_new (w.alloc (Obj.cells #[.slice av nv cv, .slice ar nr cr] 31)) (Obj.cells #[.slice none 0 0, .slice none 0 0] 38)
  rw [World.size_alloc] at hb2
  have HBR := Lib.hid hb2
  have HX := Lib.hid (hx.trans (ext_al (Ext.refl _) (Obj.cells #[.slice none 0 0, .slice none 0 0] 38)))
  have d0 := blk_cell HBM.out (i := 0) rfl
  have d1 := blk_cell HBM.out (i := 1) rfl
  clear h ht hp h0 hrl hi hx hb2
  go_enter Tryz.func5, Tryz.ntmps5
  go_wp2_with fail
  generalize (w.alloc (Obj.cells #[.slice av nv cv, .slice ar nr cr] 31)).alloc (Obj.cells #[.slice none 0 0, .slice none 0 0] 38) = W0 at *
  refine (HFI.out _ HX.out).mono ?_
  rintro e w1 ⟨rfl, hE1⟩
  have HE1 := Lib.hid (HX.out.trans hE1)
  have HWZ := Lib.hid (show w.heap.size + 1 < w1.heap.size from blk_lt (blk_ext HBR.out hE1))
  have HBM1 := Lib.hid (blk_ext HBM.out hE1)
  have HBR1 := Lib.hid (blk_ext HBR.out hE1)
  obtain ⟨fi, hfi⟩ : ∃ x, m.first = x := ⟨_, rfl⟩
  have HPS := Lib.hid (PathS.start m)
  have HRS := Lib.hid (show ReachS m fi from hfi ▸ ReachS.first)
  rw [hfi] at HPS ⊢
  clear hE1 d0 d1 hfi HFI HX HBM HBR
  have hx1 := ext_al (Ext.refl w1) (Obj.cells #[.int .i64 fi] 3)
  have HX1 := Lib.hid hx1
  have HO1 := Lib.hid (show (w1.alloc (Obj.cells #[.int .i64 fi] 3)).ownsRow w1.heap.size 3 1 (.slice (some ⟨w1.heap.size, 0, none⟩) 1 1) 1 [.int .i64 fi] from World.ownsRow_lit w1 #[.int .i64 fi] 1 (Nat.le_refl _) (by unfold maxLen; omega) rfl)
  clear hx1
  go_upto_region 3 with fail
  obtain ⟨B, hB⟩ : ∃ x, w1.heap.size = x := ⟨_, rfl⟩
  have HB := Lib.hid hB
  rw [hB] at HO1 ⊢
  clear hB
  generalize w1.alloc (Obj.cells #[.int .i64 fi] 3) = W2 at *
  go_wp2_with fail
  go_loopg [9, 6, 8] 12 (fun g x y z wr => ∃ (i : Nat) (c : Int) (p : List Int) (a : Option Addr) (cp : Nat), g + i = 12 ∧ x = .int .i64 (i : Int) ∧ y = .int .i64 c ∧ z = .slice a p.length cp ∧ p.length = i + 1 ∧ PathS m p ∧ p[p.length - 1]? = some c ∧ ReachS m c ∧ Ext w1 wr ∧ wr.ownsRow B 3 1 (.slice a p.length cp) p.length (p.map (.int .i64)))
  case atStart => exact ⟨0, fi, [fi], _, _, by omega, by go_num, rfl, rfl, rfl, HPS.out, rfl, HRS.out, HX1.out, HO1.out⟩
  case round =>
    obtain ⟨i, c, p, a, cp, hgi, rfl, rfl, rfl, hpl, hP, hc, hR, hE, hO⟩ := hrel
    have HGI := Lib.hid hgi
    have HPL := Lib.hid hpl
    have HP := Lib.hid hP
    have HC := Lib.hid hc
    have HRc := Lib.hid hR
    have HE := Lib.hid hE
    have HO := Lib.hid hO
    have d0 := blk_cell (blk_ext HBM1.out hE) (i := 0) rfl
    have d1 := blk_cell (blk_ext HBM1.out hE) (i := 1) rfl
    clear hgi hpl hP hc hR hE hO HPS HRS HX1 HO1
    by_cases hi12 : i < 12
    · have hiI : (i : Int) < 12 := by omega
      go_wp2_with fail
      refine (HNX.out c _ (HE1.out.trans HE.out) HRc.out).mono ?_
      rintro e w5 ⟨v5, rfl, ho5, hE5⟩
      have hn1 := (HNL.out c).1
      have hn2 := (HNL.out c).2
      have h12 := H12.out
      obtain ⟨a5, c5, rfl, hr5⟩ := ho5.row
      obtain ⟨b5, o5, q51, q52⟩ := ints_at' hr5
      obtain rfl := q51 hn1
      have hc5 := hr5.le
      have hm5 := hr5.max
      unfold maxLen at hm5
      have HQ5 := Lib.hid q52
      have HE5 := Lib.hid (HE.out.trans hE5)
      have HO5 := Lib.hid (own_ext HO.out hE5)
      have HNE := Lib.hid fun (k : Nat) (hk : k < (nextL m c).length) => (HNM.out c (nextL m c)[k]).1 (by simp)
      obtain ⟨ns, hns⟩ : ∃ x, nextL m c = x := ⟨_, rfl⟩
      rw [hns] at hn1 hn2 HQ5 HNE hc5 ⊢
      have hd0 : (((ns.length : Nat) : Int) == 0) = false := by rw [beq_eq_false_iff_ne]; omega
      clear ho5 hE5 hr5 q51 q52 hns d0 d1 HE HO
      have hp1 := HP.out.pos
      have hp12 : p.length ≤ 12 := by have := HPL.out; omega
      obtain ⟨n, hn⟩ : ∃ x, ns.length = x := ⟨_, rfl⟩
      have HNN := Lib.hid hn
      rw [hn] at hn1 hn2 hc5 hd0 ⊢
      clear hn
      rcases Nat.lt_or_ge i ls.length with hil | hil
      · have hgl : ls[i]? = some ls[i] := List.getElem?_eq_getElem hil
        obtain ⟨bl, ol, q1, q2⟩ := ints_at' HRL.out
        obtain rfl := q1 (by omega)
        have cI := cell_later (HE1.out.trans HE5.out) (q2 i hil)
        obtain ⟨hi1, hi2⟩ := HI.out ls[i] (by simp)
        generalize ls[i] = li at *
        have hilI : (i : Int) < (ls.length : Int) := by omega
        have hi0 : (0 : Int) ≤ (i : Int) := by omega
        have hcl := HRL.out.le
        clear hgl q1 q2
        go_wp2_with fail
        refine (kpicked_any li n _ hi1 hi2 (by omega) (by omega)).mono ?_
        rintro e wz ⟨rfl, rfl⟩
        have hkb := pk_bd li n (by omega)
        obtain ⟨k, hk⟩ : ∃ k : Nat, pk li n = (k : Int) := ⟨(pk li n).toNat, by omega⟩
        rw [hk] at hkb ⊢
        clear hk
        have hkn : k < n := by omega
        have hkl : k < ns.length := by have := HNN.out; omega
        have cK := HQ5.out k hkl
        have HNEk := Lib.hid (HNE.out k hkl)
        generalize ns[k] = c' at *
        have HRc' := Lib.hid (HRc.out.next HNEk.out)
        have hkI : (k : Int) < (n : Int) := by omega
        have hk0 : (0 : Int) ≤ (k : Int) := by omega
        go_wp2_with fail
        clear cK
        obtain ⟨H, hcap, e⟩ := own_shape HO5.out hp1
        simp only [Value.slice.injEq, true_and] at e
        obtain ⟨rfl, rfl⟩ := e
        have hHB := (HO5.out.lt H rfl).1
        have HRW := Lib.hid (show Row w5 1 (some ⟨H, 0, none⟩) p.length cp (p.map (.int .i64)) from by obtain ⟨_, _, e, h⟩ := HO5.out.row; simp only [Value.slice.injEq, true_and] at e; obtain ⟨rfl, rfl⟩ := e; exact h)
        have hcap1 := HRW.out.le
        have hcap2 := HRW.out.max
        unfold maxLen at hcap2
        obtain ⟨np, hnp⟩ : ∃ x, p.length = x := ⟨_, rfl⟩
        have HNP := Lib.hid hnp
        rw [hnp] at hp1 hp12 hcap1 HPL ⊢
        clear hnp
        obtain ⟨gm, rfl⟩ : ∃ x : Nat, x = gk := ⟨_, rfl⟩
        go_loopg [13] np (fun g x wr => ∃ a' : Int, a' + 1 = (g : Int) ∧ g ≤ np ∧ x = .int .i64 a' ∧ wr = w5)
        case atStart => exact ⟨(np : Int) - 1, by omega, Nat.le_refl _, by go_num, rfl⟩
        case round =>
          obtain ⟨a', hga, hgn, rfl, rfl⟩ := hrel
          by_cases ha0 : 0 ≤ a'
          · obtain ⟨q, rfl⟩ : ∃ q : Nat, a' = (q : Int) := ⟨a'.toNat, by omega⟩
            obtain rfl : gk = q + 1 := by omega
            have hq : q < p.length := by have := HNP.out; omega
            have cq := HRW.out.cells q (.int .i64 p[q]) (by rw [List.getElem?_map, List.getElem?_eq_getElem hq]; rfl)
            rw [Nat.zero_add] at cq
            have hgq : p[q]? = some p[q] := List.getElem?_eq_getElem hq
            generalize p[q] = xq at *
            have HGQ := Lib.hid hgq
            have hqI : (q : Int) < (np : Int) := by omega
            have hq0 : (0 : Int) ≤ (q : Int) := by omega
            clear hgq
            by_cases hxc : xq = c'
            · have HXC := Lib.hid hxc
              have hxb : (xq == c') = true := by rw [beq_iff_eq]; exact hxc
              clear hxc
              have hgeI : ¬ (ls.length : Int) ≤ (i : Int) := by omega
              go_wp2_with fail
              refine (kpicked_any li 3 _ hi1 hi2 (by omega) (by omega)).mono ?_
              rintro e wy ⟨rfl, rfl⟩
              have hyb := pk_bd li 3 (by omega)
              obtain ⟨y, hy⟩ : ∃ y : Nat, pk li 3 = (y : Int) := ⟨(pk li 3).toNat, by omega⟩
              rw [hy] at hyb ⊢
              clear hy
              by_cases hy0 : 0 < y
              · have hyI : (0 : Int) < (y : Int) := by omega
                go_upto_region 17 with fail
                have r0 := blk_cell (blk_ext HBR1.out HE5.out) (i := 0) rfl
                have r1 := blk_cell (blk_ext HBR1.out HE5.out) (i := 1) rfl
                have f0 := blk_free (blk_ext HBR1.out HE5.out) 0
                have f1 := blk_free (blk_ext HBR1.out HE5.out) 1
                go_region
                all_goals
                  go_wp2
                  have hO8 := own_setCell (own_setCell HO5.out (p := ⟨w.heap.size + 1, 0, none⟩) (.slice (some ⟨H, 0, none⟩) q q) (fun e => by have h : B ≤ w.heap.size + 1 := (HO5.out.lt _ e).1; have := HB.out; have := HWZ.out; omega)) (p := ⟨w.heap.size + 1, 1, none⟩) (.slice (some ⟨H, q, none⟩) (np - q) (cp - q)) (fun e => by have h : B ≤ w.heap.size + 1 := (HO5.out.lt _ e).1; have := HB.out; have := HWZ.out; omega)
                  have hO9 := own_ext hO8 (Below.drew (Ext.refl _))
                  have hb9 := blk_ext (blk_set (i := 1) (blk_set (i := 0) (blk_ext HBR1.out HE5.out) (.slice (some ⟨H, 0, none⟩) q q)) (.slice (some ⟨H, q, none⟩) (np - q) (cp - q))) (Below.drew (Ext.refl _))
                  have z0 := blk_cell hb9 (i := 0) (v := .slice (some ⟨H, 0, none⟩) q q) (by simp)
                  have z1 := blk_cell hb9 (i := 1) (v := .slice (some ⟨H, q, none⟩) (np - q) (cp - q)) (by simp)
                  have hx9 : Ext w _ := Below.drew (ext_st (ext_st (HE1.out.trans HE5.out) (p := ⟨w.heap.size + 1, 0, none⟩) (Nat.le_succ _) (.slice (some ⟨H, 0, none⟩) q q)) (p := ⟨w.heap.size + 1, 1, none⟩) (Nat.le_succ _) (.slice (some ⟨H, q, none⟩) (np - q) (cp - q)))
                  obtain ⟨_, _, e9, hr9⟩ := hO9.row
                  simp only [Value.slice.injEq, true_and] at e9
                  obtain ⟨rfl, rfl⟩ := e9
                  rw [HNP.out] at hr9
                  have hrun := HP.out.run HC.out HNEk.out (at' := q) (by rw [HGQ.out, HXC.out])
                  refine bodyPost_ret (v := .tuple #[.agg #[.slice (some ⟨H, 0, none⟩) q q, .slice (some ⟨H, q, none⟩) (np - q) (cp - q)], .bool true]) (by simp [results, Tryz.results5, go_sem, z0, z1]) rfl ⟨_, _, _, _, _, _, rfl, hx9, .inr ⟨p, q, hrun, rfl, by rw [HNP.out], by rw [HNP.out]; exact hp12, ⟨_, _, rfl, by rw [List.map_take]; exact row_take hr9 (by omega)⟩, ⟨_, _, rfl, by rw [List.map_drop]; exact row_from hr9 (by omega)⟩⟩⟩
              · have hyI : ¬ (0 : Int) < (y : Int) := by omega
                go_wp2_with fail
                go_roundg q
                case measure => omega
                case rel => exact ⟨(q : Int) - 1, by omega, by omega, by go_num, rfl⟩
            · have hxb : (xq == c') = false := by rw [beq_eq_false_iff_ne]; exact hxc
              go_wp2_with fail
              go_roundg q
              case measure => omega
              case rel => exact ⟨(q : Int) - 1, by omega, by omega, by go_num, rfl⟩
          · have hgk : gk = 0 := by omega
            have ha1 : a' < 0 := by omega
            subst hgk
            have HPN := Lib.hid (HP.out.snoc HC.out HNEk.out)
            have hoR := own_ext HO5.out (ext_al (Ext.refl wr) (Obj.cells #[.int .i64 c'] 3))
            rw [HNP.out] at hoR
            have HE6 := Lib.hid (ext_al HE5.out (Obj.cells #[.int .i64 c'] 3))
            go_wp2_with (at_builtin; go_must (refine wpl_append rfl rfl Tryz.slIntsG B rfl hoR rfl (Row.oneM _ _ _ _ (by simp)) (by simp [Value.oneCell']) (by unfold maxLen; omega) (by omega) (by have h1 := HE6.out.size; have h2 := HB.out; omega) ?_))
            intro v8 w8 hown8 hg8 hb8 _
            obtain ⟨a8, c8, rfl, _⟩ := id hown8.row
            have HE8 := Lib.hid (Below.grown HE6.out hg8 HE6.out.size (fun b hb => by have := (HO5.out.lt b hb).1; have := HB.out; omega))
            have HLS := Lib.hid (show (p ++ [c']).length = np + 1 by rw [List.length_append, HNP.out]; rfl)
            have HO8 := Lib.hid (show w8.ownsRow B 3 1 (.slice a8 (np + 1) c8) (np + 1) ((p ++ [c']).map (.int .i64)) from by rw [List.map_append]; exact hown8)
            have HLC := Lib.hid (show (p ++ [c'])[(p ++ [c']).length - 1]? = some c' by simp)
            clear hown8 hg8 hb8 hoR
            go_wp2_with fail
            go_roundg (gm - 1)
            case measure => have := HGI.out; omega
            case rel => exact ⟨i + 1, c', p ++ [c'], a8, c8, by have := HGI.out; omega, by go_num, rfl, by rw [HLS.out], by rw [HLS.out, HPL.out], HPN.out, HLC.out, HRc'.out, HE8.out, by rw [HLS.out]; exact HO8.out⟩
      · have hilI : ¬ (i : Int) < (ls.length : Int) := by omega
        have hkn : 0 < n := hn1
        have hkl : 0 < ns.length := by have := HNN.out; omega
        have cK := HQ5.out 0 hkl
        have HNEk := Lib.hid (HNE.out 0 hkl)
        generalize ns[0] = c' at *
        have HRc' := Lib.hid (HRc.out.next HNEk.out)
        have hkI : (0 : Int) < (n : Int) := by omega
        have cK0 : w5.cell? ⟨b5, o5, none⟩ = some (.int .i64 c') := cK
        go_wp2_with fail
        clear cK cK0
        obtain ⟨H, hcap, e⟩ := own_shape HO5.out hp1
        simp only [Value.slice.injEq, true_and] at e
        obtain ⟨rfl, rfl⟩ := e
        have hHB := (HO5.out.lt H rfl).1
        have HRW := Lib.hid (show Row w5 1 (some ⟨H, 0, none⟩) p.length cp (p.map (.int .i64)) from by obtain ⟨_, _, e, h⟩ := HO5.out.row; simp only [Value.slice.injEq, true_and] at e; obtain ⟨rfl, rfl⟩ := e; exact h)
        have hcap1 := HRW.out.le
        have hcap2 := HRW.out.max
        unfold maxLen at hcap2
        obtain ⟨np, hnp⟩ : ∃ x, p.length = x := ⟨_, rfl⟩
        have HNP := Lib.hid hnp
        rw [hnp] at hp1 hp12 hcap1 HPL ⊢
        clear hnp
        obtain ⟨gm, rfl⟩ : ∃ x : Nat, x = gk := ⟨_, rfl⟩
        go_loopg [13] np (fun g x wr => ∃ a' : Int, a' + 1 = (g : Int) ∧ g ≤ np ∧ x = .int .i64 a' ∧ wr = w5)
        case atStart => exact ⟨(np : Int) - 1, by omega, Nat.le_refl _, by go_num, rfl⟩
        case round =>
          obtain ⟨a', hga, hgn, rfl, rfl⟩ := hrel
          by_cases ha0 : 0 ≤ a'
          · obtain ⟨q, rfl⟩ : ∃ q : Nat, a' = (q : Int) := ⟨a'.toNat, by omega⟩
            obtain rfl : gk = q + 1 := by omega
            have hq : q < p.length := by have := HNP.out; omega
            have cq := HRW.out.cells q (.int .i64 p[q]) (by rw [List.getElem?_map, List.getElem?_eq_getElem hq]; rfl)
            rw [Nat.zero_add] at cq
            have hgq : p[q]? = some p[q] := List.getElem?_eq_getElem hq
            generalize p[q] = xq at *
            have HGQ := Lib.hid hgq
            have hqI : (q : Int) < (np : Int) := by omega
            have hq0 : (0 : Int) ≤ (q : Int) := by omega
            clear hgq
            by_cases hxc : xq = c'
            · have HXC := Lib.hid hxc
              have hxb : (xq == c') = true := by rw [beq_iff_eq]; exact hxc
              clear hxc
              have hgeI : (ls.length : Int) ≤ (i : Int) := by omega
              go_upto_region 17 with fail
              have r0 := blk_cell (blk_ext HBR1.out HE5.out) (i := 0) rfl
              have r1 := blk_cell (blk_ext HBR1.out HE5.out) (i := 1) rfl
              have f0 := blk_free (blk_ext HBR1.out HE5.out) 0
              have f1 := blk_free (blk_ext HBR1.out HE5.out) 1
              go_region
              all_goals
                go_wp2
                have hO8 := own_setCell (own_setCell HO5.out (p := ⟨w.heap.size + 1, 0, none⟩) (.slice (some ⟨H, 0, none⟩) q q) (fun e => by have h : B ≤ w.heap.size + 1 := (HO5.out.lt _ e).1; have := HB.out; have := HWZ.out; omega)) (p := ⟨w.heap.size + 1, 1, none⟩) (.slice (some ⟨H, q, none⟩) (np - q) (cp - q)) (fun e => by have h : B ≤ w.heap.size + 1 := (HO5.out.lt _ e).1; have := HB.out; have := HWZ.out; omega)
                have hO9 := own_ext hO8 (Below.drew (Ext.refl _))
                have hb9 := blk_ext (blk_set (i := 1) (blk_set (i := 0) (blk_ext HBR1.out HE5.out) (.slice (some ⟨H, 0, none⟩) q q)) (.slice (some ⟨H, q, none⟩) (np - q) (cp - q))) (Below.drew (Ext.refl _))
                have z0 := blk_cell hb9 (i := 0) (v := .slice (some ⟨H, 0, none⟩) q q) (by simp)
                have z1 := blk_cell hb9 (i := 1) (v := .slice (some ⟨H, q, none⟩) (np - q) (cp - q)) (by simp)
                have hx9 : Ext w _ := Below.drew (ext_st (ext_st (HE1.out.trans HE5.out) (p := ⟨w.heap.size + 1, 0, none⟩) (Nat.le_succ _) (.slice (some ⟨H, 0, none⟩) q q)) (p := ⟨w.heap.size + 1, 1, none⟩) (Nat.le_succ _) (.slice (some ⟨H, q, none⟩) (np - q) (cp - q)))
                obtain ⟨_, _, e9, hr9⟩ := hO9.row
                simp only [Value.slice.injEq, true_and] at e9
                obtain ⟨rfl, rfl⟩ := e9
                rw [HNP.out] at hr9
                have hrun := HP.out.run HC.out HNEk.out (at' := q) (by rw [HGQ.out, HXC.out])
                refine bodyPost_ret (v := .tuple #[.agg #[.slice (some ⟨H, 0, none⟩) q q, .slice (some ⟨H, q, none⟩) (np - q) (cp - q)], .bool true]) (by simp [results, Tryz.results5, go_sem, z0, z1]) rfl ⟨_, _, _, _, _, _, rfl, hx9, .inr ⟨p, q, hrun, rfl, by rw [HNP.out], by rw [HNP.out]; exact hp12, ⟨_, _, rfl, by rw [List.map_take]; exact row_take hr9 (by omega)⟩, ⟨_, _, rfl, by rw [List.map_drop]; exact row_from hr9 (by omega)⟩⟩⟩
            · have hxb : (xq == c') = false := by rw [beq_eq_false_iff_ne]; exact hxc
              go_wp2_with fail
              go_roundg q
              case measure => omega
              case rel => exact ⟨(q : Int) - 1, by omega, by omega, by go_num, rfl⟩
          · have hgk : gk = 0 := by omega
            have ha1 : a' < 0 := by omega
            subst hgk
            have HPN := Lib.hid (HP.out.snoc HC.out HNEk.out)
            have hoR := own_ext HO5.out (ext_al (Ext.refl wr) (Obj.cells #[.int .i64 c'] 3))
            rw [HNP.out] at hoR
            have HE6 := Lib.hid (ext_al HE5.out (Obj.cells #[.int .i64 c'] 3))
            go_wp2_with (at_builtin; go_must (refine wpl_append rfl rfl Tryz.slIntsG B rfl hoR rfl (Row.oneM _ _ _ _ (by simp)) (by simp [Value.oneCell']) (by unfold maxLen; omega) (by omega) (by have h1 := HE6.out.size; have h2 := HB.out; omega) ?_))
            intro v8 w8 hown8 hg8 hb8 _
            obtain ⟨a8, c8, rfl, _⟩ := id hown8.row
            have HE8 := Lib.hid (Below.grown HE6.out hg8 HE6.out.size (fun b hb => by have := (HO5.out.lt b hb).1; have := HB.out; omega))
            have HLS := Lib.hid (show (p ++ [c']).length = np + 1 by rw [List.length_append, HNP.out]; rfl)
            have HO8 := Lib.hid (show w8.ownsRow B 3 1 (.slice a8 (np + 1) c8) (np + 1) ((p ++ [c']).map (.int .i64)) from by rw [List.map_append]; exact hown8)
            have HLC := Lib.hid (show (p ++ [c'])[(p ++ [c']).length - 1]? = some c' by simp)
            clear hown8 hg8 hb8 hoR
            go_wp2_with fail
            go_roundg (gm - 1)
            case measure => have := HGI.out; omega
            case rel => exact ⟨i + 1, c', p ++ [c'], a8, c8, by have := HGI.out; omega, by go_num, rfl, by rw [HLS.out], by rw [HLS.out, HPL.out], HPN.out, HLC.out, HRc'.out, HE8.out, by rw [HLS.out]; exact HO8.out⟩
    · obtain rfl : i = 12 := by have := HGI.out; omega
      have hiI : ¬ ((12 : Nat) : Int) < 12 := by omega
      have r0 := blk_cell (blk_ext HBR1.out HE.out) (i := 0) rfl
      have r1 := blk_cell (blk_ext HBR1.out HE.out) (i := 1) rfl
      have f0 := blk_free (blk_ext HBR1.out HE.out) 0
      have f1 := blk_free (blk_ext HBR1.out HE.out) 1
      have hb9 := blk_set (i := 1) (blk_set (i := 0) (blk_ext HBR1.out HE.out) (.slice none 0 0)) (.slice none 0 0)
      have z0 := blk_cell hb9 (i := 0) (v := .slice none 0 0) (by simp)
      have z1 := blk_cell hb9 (i := 1) (v := .slice none 0 0) (by simp)
      have HX9 := Lib.hid (ext_st (ext_st (HE1.out.trans HE.out) (p := ⟨w.heap.size + 1, 0, none⟩) (Nat.le_succ _) (.slice none 0 0)) (p := ⟨w.heap.size + 1, 1, none⟩) (Nat.le_succ _) (.slice none 0 0))
      clear d0 d1
      go_wp2
      refine bodyPost_ret (v := .tuple #[.agg #[.slice none 0 0, .slice none 0 0], .bool true]) (by simp [results, Tryz.results5, go_sem, z0, z1]) rfl ⟨_, _, _, _, _, _, rfl, HX9.out, .inl rfl⟩
end Go.Proofs.YtciihiiacbnimaaGreatDoor

namespace Go.Proofs.YtciihiiacbnimaaGreatDoor
open Go.RowKit
set_option maxRecDepth 100000 in
set_option maxHeartbeats 8000000 in
theorem vruns_any (vv rv sv lv : Value) (m : Md) (p : List Int) (back : Nat) (w : World) (h : IsMd w vv rv m) (ht : Tab w) (hp : m.Ok) (h0 : 0 < m.vars.length) (hr : RunL m p.length back fun i => p.getD i 0)
    (hS : Ints w sv (p.take back)) (hL : Ints w lv (p.drop back)) (h24 : p.length ≤ 24) :
    Calls Tryz.prog 22 #[.agg #[vv, rv], .agg #[sv, lv]] w fun e w' => e = .returned (.tuple #[.bool true, .int .i64 0]) ∧ Ext w w' := by
  have HCO := Lib.hid fun wx (hx : Ext w wx) => count_any vv rv m wx (h.ext hx) (ht.ext hx) hp
  have HFI := Lib.hid fun wx (hx : Ext w wx) => first_any vv rv m wx (h.ext hx) (ht.ext hx) hp
  have HNX := Lib.hid fun (c : Int) wx (hx : Ext w wx) (hc : 0 ≤ c ∧ c < countL m.vars) => nextE_any vv rv m c wx (h.ext hx) (ht.ext hx) hp h0 hc.1 hc.2
  have HXI := Lib.hid fun i hi => hr.in hp.toPre i hi
  have HST := Lib.hid fun i (hi : i < p.length) => ((nextL_ok m (p.getD i 0)).mem (p.getD (nxt p.length back i) 0)).2 (hr.step i hi)
  have HNL := Lib.hid fun c => (show (nextL m c).length ≤ 20000 from by have := (nextL_len m c).2; have := hp.twelve; omega)
  have HF0 := Lib.hid (show p.getD 0 0 = m.first from hr.first)
  have hb := hr.hb
  obtain ⟨N, hN⟩ : ∃ N, p.length = N := ⟨_, rfl⟩
  have HN := Lib.hid hN
  have hlS : (p.take back).length = back := by rw [List.length_take]; omega
  have hlL : (p.drop back).length = N - back := by rw [List.length_drop]; omega
  obtain ⟨as', cs', rfl, hS'⟩ := id hS
  obtain ⟨al, cl, rfl, hL'⟩ := id hL
  rw [hlS] at hS' ⊢
  rw [hlL] at hL' ⊢
  obtain ⟨av, cv, rfl⟩ := EachL.val h.vars
  obtain ⟨ar, cr, rfl⟩ := EachL.val h.rules
  generalize m.vars.length = nv at *
  generalize m.rules.length = nr at *
  obtain ⟨K, hK⟩ : ∃ K, countL m.vars = K := ⟨_, rfl⟩
  rw [hK] at HCO HNX HXI
  obtain ⟨mf, hmf⟩ : ∃ x, m.first = x := ⟨_, rfl⟩
  rw [hmf] at HFI HF0
  have hx1 := ext_al (Ext.refl w) (Obj.cells #[.slice av nv cv, .slice ar nr cr] 31)
  have hx2 := ext_al (Ext.refl (w.alloc (Obj.cells #[.slice av nv cv, .slice ar nr cr] 31))) (Obj.cells #[.slice as' back cs', .slice al (N - back) cl] 38)
  have HBM := Lib.hid (blk_ext (blk_new w (Obj.cells #[.slice av nv cv, .slice ar nr cr] 31)) hx2)
  have hbl := blk_new (w.alloc (Obj.cells #[.slice av nv cv, .slice ar nr cr] 31)) (Obj.cells #[.slice as' back cs', .slice al (N - back) cl] 38)
  rw [World.size_alloc] at hbl
  have HBL := Lib.hid hbl
  have HX := Lib.hid (hx1.trans hx2)
  have HS := Lib.hid hS'
  have HL := Lib.hid hL'
  have HLL := Lib.hid hlL
  rw [hN] at hb h24 HST HXI
  have d0 := blk_cell HBM.out (i := 0) rfl
  have d1 := blk_cell HBM.out (i := 1) rfl
  clear h ht hp h0 hr hS hL hlS hlL hS' hL' hx1 hx2 hbl hN hK hmf
  go_enter Tryz.func22, Tryz.ntmps22
  go_wp2_with fail
  generalize (w.alloc (Obj.cells #[.slice av nv cv, .slice ar nr cr] 31)).alloc (Obj.cells #[.slice as' back cs', .slice al (N - back) cl] 38) = W0 at *
  refine (HCO.out _ HX.out).mono ?_
  rintro e w1 ⟨rfl, hE1⟩
  have HE1 := Lib.hid hE1
  have hbm := blk_ext HBM.out hE1
  clear d0 d1 hE1
  have d0 := blk_cell hbm (i := 0) rfl
  have d1 := blk_cell hbm (i := 1) rfl
  clear hbm
  go_wp2_with fail
  refine (HFI.out _ (HX.out.trans HE1.out)).mono ?_
  rintro e w2 ⟨rfl, hE2⟩
  have HE2 := Lib.hid (HE1.out.trans hE2)
  have hbl := blk_ext HBL.out HE2.out
  clear d0 d1 hE2
  have l0 := blk_cell hbl (i := 0) rfl
  have l1 := blk_cell hbl (i := 1) rfl
  clear hbl
  go_wp2_with fail
  have hx3 := ext_al (Ext.refl w2) (Obj.cells #[.slice as' back cs', .slice al (N - back) cl] 27)
  refine (concatI_two (w2.alloc (Obj.cells #[.slice as' back cs', .slice al (N - back) cl] 27)) (some ⟨w2.heap.size, 0, none⟩) as' al 2 back cs' (N - back) cl _ _ (Row.new w2 27 [.slice as' back cs', .slice al (N - back) cl] (by simp [maxLen])) (HS.out.ext (HX.out.trans (HE2.out.trans hx3))) (HL.out.ext (HX.out.trans (HE2.out.trans hx3))) (by intro u hu; obtain ⟨_, _, rfl⟩ := List.mem_map.1 hu; rfl) (by intro u hu; obtain ⟨_, _, rfl⟩ := List.mem_map.1 hu; rfl) (by omega) (by omega)).mono ?_
  rintro e w3 ⟨a3, c3, rfl, ho3, hE3⟩
  rw [show back + (N - back) = N by omega, ← List.map_append, List.take_append_drop] at ho3
  rw [show back + (N - back) = N by omega]
  have HE3 := Lib.hid (HE2.out.trans (hx3.trans hE3))
  obtain ⟨_, _, e3, hr3⟩ := ho3.reads
  simp only [Value.slice.injEq, true_and] at e3
  obtain ⟨rfl, rfl⟩ := e3
  obtain ⟨bI, oI, i1, i2⟩ := ints_cells hr3
  obtain rfl := i1 (by have := HN.out; omega)
  have hc1 := hr3.le
  have hc2 := hr3.max
  have c0 := i2 0 (by have := HN.out; omega)
  rw [Nat.add_zero, show p[0]'(by have := HN.out; omega) = mf from by have := HF0.out; rwa [List.getD, List.getElem?_eq_getElem (by have := HN.out; omega), Option.getD_some] at this] at c0
  have HI2 := Lib.hid i2
  have hbl := blk_ext HBL.out HE3.out
  clear l0 l1 ho3 hx3 hE3 hr3 i2
  have l0 := blk_cell hbl (i := 0) rfl
  have l1 := blk_cell hbl (i := 1) rfl
  clear hbl
  have hlI : (((N - back : Nat) : Int) == 0) = false := by rw [beq_eq_false_iff_ne]; omega
  have hNI : (0 : Int) < (N : Int) := by omega
  unfold maxLen at hc2
  go_wp2_with fail
  clear l0 l1 c0
  go_loopg [48] N (fun g x wr => ∃ i : Nat, g + i = N ∧ x = .int .i64 (i : Int) ∧ Ext w3 wr)
  case atStart => exact ⟨0, by omega, by go_num, Ext.refl _⟩
  case round =>
    obtain ⟨i, hgi, rfl, hE⟩ := hrel
    have HGI := Lib.hid hgi
    have HEi := Lib.hid hE
    clear hgi hE
    by_cases hi : i < N
    · have hil : i < p.length := by have := HN.out; omega
      have ci := cell_later HEi.out (HI2.out i hil)
      have hxi := HXI.out i hi
      have hst := HST.out i hi
      have hgx : p.getD i 0 = p[i] := by rw [List.getD, List.getElem?_eq_getElem hil]; rfl
      simp only [hgx] at hxi
      rw [hgx] at hst
      obtain ⟨x, hx⟩ : ∃ x, p[i] = x := ⟨_, rfl⟩
      rw [hx] at ci hxi hst
      obtain ⟨hx0, hxK⟩ := hxi
      have hx0' : ¬ x < 0 := by omega
      have hxK' : ¬ K ≤ x := by omega
      have hbl := blk_ext (blk_ext HBL.out HE3.out) HEi.out
      have l1 := blk_cell hbl (i := 1) rfl
      have hbm := blk_ext (blk_ext HBM.out HE3.out) HEi.out
      have d0 := blk_cell hbm (i := 0) rfl
      have d1 := blk_cell hbm (i := 1) rfl
      obtain ⟨bL, oL, j1, j2⟩ := ints_cells HL.out
      obtain rfl := j1 (by rw [HLL.out]; omega)
      have cL := cell_later (HX.out.trans (HE3.out.trans HEi.out)) (j2 0 (by rw [HLL.out]; omega))
      rw [Nat.add_zero] at cL
      have hcl1 := HL.out.le
      have hcl2 := HL.out.max
      unfold maxLen at hcl2
      have hLI : (0 : Int) < ((N - back : Nat) : Int) := by omega
      have hiI : (i : Int) < (N : Int) := by omega
      have hi0 : (0 : Int) ≤ (i : Int) := by omega
      have HXB := Lib.hid (show 0 ≤ x ∧ x < K from ⟨hx0, hxK⟩)
      unfold nxt at hst
      rcases Nat.lt_or_ge (i + 1) N with hl | hl
      case' inl =>
        have hl2 : i + 1 < p.length := by have := HN.out; omega
        have cn := cell_later HEi.out (HI2.out (i + 1) hl2)
        rw [if_pos hl, List.getD, List.getElem?_eq_getElem hl2, Option.getD_some] at hst
        obtain ⟨tz, hto⟩ : ∃ tz, p[i + 1] = tz := ⟨_, rfl⟩
        rw [hto] at cn hst
        have hi1I : (i : Int) + 1 < (N : Int) := by omega
        have hi10 : (0 : Int) ≤ (i : Int) + 1 := by omega
        generalize (p.drop back)[0]'_ = zz at cL
        clear hto hl2
      case' inr =>
        have hbp : back < p.length := by have := HN.out; omega
        rw [if_neg (by omega), List.getD, List.getElem?_eq_getElem hbp, Option.getD_some] at hst
        rw [List.getElem_drop] at cL
        obtain ⟨tz, hto⟩ : ∃ tz, p[back] = tz := ⟨_, rfl⟩
        simp only [Nat.add_zero, hto] at cL
        rw [hto] at hst
        have hi1I : ¬ (i : Int) + 1 < (N : Int) := by omega
        clear hto hbp
      all_goals
        have HMEM := Lib.hid hst
        clear hst hgx hx hbl hbm j2
        go_wp2_with fail
        refine (HNX.out x _ (HX.out.trans (HE3.out.trans HEi.out)) HXB.out).mono ?_
        rintro e w5 ⟨v5, rfl, ho5, hE5⟩
        have HI5 := Lib.hid (show Ints w5 v5 (nextL m x) from ho5.reads)
        obtain ⟨a5, c5, rfl, _⟩ := id HI5.out
        have HE5 := Lib.hid (HEi.out.trans hE5)
        clear ho5 hE5
        go_wp2_with fail
        refine (containsI_yes _ (nextL m x) tz w5 HI5.out HMEM.out (HNL.out x)).mono ?_
        rintro e w6 ⟨rfl, rfl⟩
        go_wp2_with fail
        go_roundg (gk - 1)
        case measure => have := HGI.out; omega
        case rel => exact ⟨i + 1, by have := HGI.out; omega, by go_num, HE5.out⟩
    · obtain rfl : i = N := by have := HGI.out; omega
      have hiI : ¬ (i : Int) < (i : Int) := by omega
      have HEF := Lib.hid (HX.out.trans (HE3.out.trans HEi.out))
      go_wp2
      go_ret2
      exact ⟨rfl, HEF.out⟩
end Go.Proofs.YtciihiiacbnimaaGreatDoor

namespace Go.Proofs.YtciihiiacbnimaaGreatDoor
open Go.RowKit
set_option maxRecDepth 100000 in
set_option maxHeartbeats 8000000 in
theorem vletters_any (vv rv pv fv lv : Value) (m : Md) (P : List Tm) (t : Tm) (l : List Int) (w : World) (h : IsTask w vv rv pv fv m P t) (ht : Tab w) (hk : TkOk m P t) (hl : Ints w lv l) (hc : ∀ c ∈ l, 0 ≤ c ∧ c < countL m.vars) (h24 : l.length ≤ 24) :
    Calls Tryz.prog 24 #[.agg #[vv, rv, pv, fv], lv] w fun e w' => ∃ a cp, e = .returned (.slice a l.length cp) ∧ BLists w' (.slice a l.length cp) (l.map fun c => letS P (valsL m.vars c)) ∧ Ext w w' := by
  have HNX := Lib.hid fun (c : Int) wx (hx : Ext w wx) (hc : 0 ≤ c ∧ c < countL m.vars) => sletter_any vv rv pv m P c wx (h.md.ext hx) (ht.ext hx) hk.ok (h.pr.ext hx) hk.pk hc.1 hc.2
  have HC := Lib.hid hc
  obtain ⟨av, cv, ar, cr, ap, cp, af, nf, cf, rfl, rfl, rfl, rfl⟩ := h.val
  obtain ⟨al, cl, rfl, hrl⟩ := id hl
  have HRL := Lib.hid hrl
  obtain ⟨F, hF⟩ : ∃ F : Int → List Bool, F = fun c => letS P (valsL m.vars c) := ⟨_, rfl⟩
  have HFL := Lib.hid (show ∀ c, (F c).length = P.length from fun c => by rw [hF]; exact letS_len _ _)
  have HFE := Lib.hid (show ∀ c, letS P (valsL m.vars c) = F c from fun c => by rw [hF])
  rw [show (fun c => letS P (valsL m.vars c)) = F from hF.symm]
  generalize m.vars.length = nv at *
  generalize m.rules.length = nr at *
  generalize P.length = np at *
  obtain ⟨n, hn⟩ : ∃ n, l.length = n := ⟨_, rfl⟩
  have HN := Lib.hid hn
  have hx := ext_al (Ext.refl w) (Obj.cells #[.slice av nv cv, .slice ar nr cr, .slice ap np cp, .slice af nf cf] 35)
  have HB := Lib.hid (blk_new w (Obj.cells #[.slice av nv cv, .slice ar nr cr, .slice ap np cp, .slice af nf cf] 35))
  have HX := Lib.hid hx
  rw [hn] at h24 ⊢
  clear h ht hk hl hc hrl hx hF hn
  go_enter Tryz.func24, Tryz.ntmps24
  go_wp2_with fail
  generalize w.alloc (Obj.cells #[.slice av nv cv, .slice ar nr cr, .slice ap np cp, .slice af nf cf] 35) = W0 at *
  go_loopg [12, 5] n (fun g x y wr => ∃ (c : Nat) (τ : Nat → Nat) (a : Option Addr) (cp : Nat) (vs : List Value), g + c = n ∧ x = .int .i64 (c : Int) ∧ y = .slice a c cp ∧ GL Bools 53 W0 wr W0.heap.size τ (.slice a c cp) c vs ((l.map F).take c))
  case atStart => exact ⟨0, _, none, 0, [], by omega, by go_num, rfl, GL.start (Ext.refl _) (Nat.le_refl _) (Nat.le_refl _)⟩
  case round =>
    obtain ⟨c, τ, a, cp, vs, hgc, rfl, rfl, hG⟩ := hrel
    have HG := Lib.hid hG
    have HGC := Lib.hid hgc
    have hb := blk_ext HB.out hG.ext
    have d0 := blk_cell hb (i := 0) rfl
    have d1 := blk_cell hb (i := 1) rfl
    have d2 := blk_cell hb (i := 2) rfl
    clear hG hgc hb
    by_cases hc : c < n
    · have hcl : c < l.length := by have := HN.out; omega
      obtain ⟨bI, oI, i1, i2⟩ := ints_cells HRL.out
      obtain rfl := i1 (by omega)
      have ci := cell_later (HX.out.trans HG.out.ext) (i2 c hcl)
      have hxc := HC.out l[c] (by simp)
      have HTK := Lib.hid (show (l.map F).take (c + 1) = (l.map F).take c ++ [F l[c]] from by rw [List.take_succ_eq_append_getElem (by simpa using hcl)]; simp)
      generalize l[c] = x at *
      have hc1 := HRL.out.le
      have hc2 := HRL.out.max
      rw [HN.out] at hc1
      have hcI : (c : Int) < (n : Int) := by omega
      have hc0 : (0 : Int) ≤ (c : Int) := by omega
      have HXC := Lib.hid hxc
      unfold maxLen at hc2
      clear i2 hcl hxc
      go_wp2_with fail
      refine (HNX.out x _ (HX.out.trans HG.out.ext) HXC.out).mono ?_
      rintro e w6 ⟨v6, rfl, ho6, hE6⟩
      rw [HFE.out] at ho6
      obtain ⟨a6, c6, rfl, _⟩ := id ho6.row
      have HE6 := Lib.hid hE6
      have HO6 := Lib.hid (show w6.ownsRow wr.heap.size 4 1 (.slice a6 np c6) (F x).length ((F x).map .bool) from by rw [HFL.out]; exact ho6)
      have hoR := own_ext (own_ext HG.out.own.own hE6) (ext_al (Ext.refl w6) (Obj.cells #[.slice a6 np c6] 53))
      have hsz : W0.heap.size ≤ w6.heap.size + 1 := by have := HG.out.hi; have := hE6.size; omega
      clear ho6 hE6 d0 d1 d2 ci
      go_wp2_with (at_builtin; go_must (refine wpl_append rfl rfl Tryz.slBoolss W0.heap.size rfl hoR rfl (Row.oneAt' _ _ _ _ (by simp)) (by simp [Value.oneCell']) (by unfold maxLen; omega) (by omega) (by simpa using hsz) ?_))
      intro v3 w3 hown3 hg3 hb3 _
      obtain ⟨a3, c3, rfl, _⟩ := hown3.row
      obtain ⟨τ', hM'⟩ := HG.out.step (l := F x) HE6.out (own_bools_ent (k := wr.heap.size) HO6.out) _ hown3 hg3 (by simpa using hb3)
      rw [← HTK.out] at hM'
      have HM' := Lib.hid hM'
      clear hown3 hg3 hb3 hM' hoR
      go_wp2_with fail
      go_roundg (gk - 1)
      case measure => have := HGC.out; omega
      case rel => exact ⟨c + 1, τ', a3, c3, _, by have := HGC.out; omega, by go_num, rfl, HM'.out⟩
    · obtain rfl : c = n := by have := HGC.out; omega
      have hcI : ¬ (c : Int) < (c : Int) := by omega
      have hD := HG.out.done
      rw [List.take_of_length_le (by rw [List.length_map, HN.out]; omega)] at hD
      have HD := Lib.hid hD
      have HEF := Lib.hid (HX.out.trans HG.out.ext)
      clear d0 d1 d2 hD
      go_wp2
      go_ret
      exact ⟨_, _, rfl, HD.out, HEF.out⟩
end Go.Proofs.YtciihiiacbnimaaGreatDoor

namespace Go.Proofs.YtciihiiacbnimaaGreatDoor
open Go.RowKit
theorem wdOf_list (m : Md) (P : List Tm) (p : List Int) {back : Nat} (hb : back < p.length) : (⟨(p.take back).map (fun c => letS P (valsL m.vars c)) ++ (p.drop back).map (fun c => letS P (valsL m.vars c)), ((p.take back).map fun c => letS P (valsL m.vars c)).length⟩ : Wd) = wdOf m P p.length back fun i => p.getD i 0 := by
  unfold wdOf
  rw [← List.map_append, List.take_append_drop, List.length_map, List.length_take, Nat.min_eq_left (by omega)]
  congr 1
  apply List.ext_getElem?
  intro i
  rw [List.getElem?_map, List.getElem?_map]
  by_cases hi : i < p.length
  · rw [List.getElem?_range hi, List.getElem?_eq_getElem hi]
    simp [List.getD, hi]
  · rw [List.getElem?_eq_none (by omega), List.getElem?_eq_none (by simp; omega)]
    rfl
theorem six_later {w w' : World} {g k : Nat} {a b c d e f : Value} (hb : Ext w w') (h : w.cell? ⟨g, 0, none⟩ = some a ∧ w.cell? ⟨g, 1, none⟩ = some b ∧ w.cell? ⟨g, 2, none⟩ = some c ∧ w.cell? ⟨g, 3, none⟩ = some d ∧ w.cell? ⟨k, 0, none⟩ = some e ∧ w.cell? ⟨k, 1, none⟩ = some f) :
    w'.cell? ⟨g, 0, none⟩ = some a ∧ w'.cell? ⟨g, 1, none⟩ = some b ∧ w'.cell? ⟨g, 2, none⟩ = some c ∧ w'.cell? ⟨g, 3, none⟩ = some d ∧ w'.cell? ⟨k, 0, none⟩ = some e ∧ w'.cell? ⟨k, 1, none⟩ = some f :=
  ⟨cell_later hb h.1, cell_later hb h.2.1, cell_later hb h.2.2.1, cell_later hb h.2.2.2.1, cell_later hb h.2.2.2.2.1, cell_later hb h.2.2.2.2.2⟩
structure LetIn (a1 : Option Addr) (n1 c1 : Nat) (l1 : List (List Bool)) (a : Option Addr) (n c : Nat) (l : List (List Bool)) : Prop where
  ea : a = a1
  en : n = n1
  ec : c = c1
  el : l = l1
set_option maxRecDepth 100000 in
set_option maxHeartbeats 8000000 in
theorem vkeeps_any (vv rv pv fv sv lv : Value) (m : Md) (P : List Tm) (t : Tm) (p : List Int) (back : Nat) (w : World) (h : IsTask w vv rv pv fv m P t) (ht : Tab w) (hk : TkOk m P t) (hr : RunL m p.length back fun i => p.getD i 0)
    (hS : Ints w sv (p.take back)) (hL : Ints w lv (p.drop back)) (h12 : p.length ≤ 12) :
    Calls Tryz.prog 7 #[.agg #[vv, rv, pv, fv], .agg #[sv, lv]] w fun e w' => e = .returned (.tuple #[.bool (satB (wdOf m P p.length back fun i => p.getD i 0) t 0), .int .i64 0]) ∧ Ext w w' := by
  have hb := hr.hb
  have hin : ∀ c ∈ p, 0 ≤ c ∧ c < countL m.vars := fun c hc => by
    obtain ⟨i, hi, e⟩ := List.mem_iff_getElem.1 hc
    have := hr.in hk.ok.toPre i hi
    simp only [List.getD, List.getElem?_eq_getElem hi, Option.getD_some, e] at this
    exact this
  have HCK := Lib.hid fun wx (hx : Ext w wx) => pcheck_any vv rv pv fv m P t wx (h.ext hx) (ht.ext hx) hk
  have HRU := Lib.hid fun wx (hx : Ext w wx) => vruns_any vv rv sv lv m p back wx (h.md.ext hx) (ht.ext hx) hk.ok hk.v0 hr (hS.ext hx) (hL.ext hx) (by omega)
  have HLS := Lib.hid fun wx (hx : Ext w wx) => vletters_any vv rv pv fv sv m P t (p.take back) wx (h.ext hx) (ht.ext hx) hk (hS.ext hx) (fun c hc => hin c (List.mem_of_mem_take hc)) (by rw [List.length_take]; omega)
  have HLL := Lib.hid fun wx (hx : Ext w wx) => vletters_any vv rv pv fv lv m P t (p.drop back) wx (h.ext hx) (ht.ext hx) hk (hL.ext hx) (fun c hc => hin c (List.mem_of_mem_drop hc)) (by rw [List.length_drop]; omega)
  have hwd := wdOf_list m P p hb
  obtain ⟨SMq, hSM⟩ : ∃ SMq, (p.take back).map (fun c => letS P (valsL m.vars c)) = SMq := ⟨_, rfl⟩
  obtain ⟨LP, hLP⟩ : ∃ LP, (p.drop back).map (fun c => letS P (valsL m.vars c)) = LP := ⟨_, rfl⟩
  rw [hSM, hLP] at hwd
  rw [hSM] at HLS
  rw [hLP] at HLL
  have hlS : (p.take back).length = back := by rw [List.length_take]; omega
  have hlL : (p.drop back).length = p.length - back := by rw [List.length_drop]
  have hok : WdOk SMq LP P.length := ⟨by rw [← hSM, List.length_map, hlS]; omega, by rw [← hLP, List.length_map, hlL]; omega, by rw [← hLP, List.length_map, hlL]; omega, fun x hx => by
    rcases List.mem_append.1 hx with hx | hx
    · rw [← hSM] at hx; obtain ⟨c, _, rfl⟩ := List.mem_map.1 hx; exact letS_len _ _
    · rw [← hLP] at hx; obtain ⟨c, _, rfl⟩ := List.mem_map.1 hx; exact letS_len _ _⟩
  have HHO := Lib.hid fun wx (hx : Ext w wx) (s l : Value) (h1 : BLists wx s SMq) (h2 : BLists wx l LP) => wholds_any fv s l t SMq LP P.length wx (h.fo.ext hx) (ht.ext hx) hk.ff ⟨h1, h2⟩ hok
  rw [hwd] at HHO
  generalize satB (wdOf m P p.length back fun i => p.getD i 0) t 0 = z at *
  rw [hlS] at HLS
  rw [hlL] at HLL
  obtain ⟨av, cv, ar, cr, ap, cp, af, nf, cf, rfl, rfl, rfl, rfl⟩ := h.val
  obtain ⟨as', cs', rfl, _⟩ := id hS
  obtain ⟨al, cl, rfl, _⟩ := id hL
  rw [hlS] at HRU HLS ⊢
  rw [hlL] at HRU HLL ⊢
  generalize m.vars.length = nv at *
  generalize m.rules.length = nr at *
  generalize P.length = np at *
  obtain ⟨nl, hnl⟩ : ∃ x, p.length - back = x := ⟨_, rfl⟩
  rw [hnl] at HRU HLL ⊢
  have hnl1 : nl ≤ 12 := by omega
  have hb12 : back ≤ 12 := by omega
  have HGS := Lib.hid fun (a : Option Addr) (n c : Nat) (l : List (List Bool)) wx (hx : Ext w wx) (hp : LetIn as' back cs' SMq a n c l) => (show Calls Tryz.prog 24 #[.agg #[.slice av nv cv, .slice ar nr cr, .slice ap np cp, .slice af nf cf], .slice a n c] wx fun e w' => ∃ a' cp', e = .returned (.slice a' n cp') ∧ BLists w' (.slice a' n cp') l ∧ Ext wx w' from by
    obtain ⟨rfl, rfl, rfl, rfl⟩ := hp; exact HLS.out wx hx)
  have HGL := Lib.hid fun (a : Option Addr) (n c : Nat) (l : List (List Bool)) wx (hx : Ext w wx) (hp : LetIn al nl cl LP a n c l) => (show Calls Tryz.prog 24 #[.agg #[.slice av nv cv, .slice ar nr cr, .slice ap np cp, .slice af nf cf], .slice a n c] wx fun e w' => ∃ a' cp', e = .returned (.slice a' n cp') ∧ BLists w' (.slice a' n cp') l ∧ Ext wx w' from by
    obtain ⟨rfl, rfl, rfl, rfl⟩ := hp; exact HLL.out wx hx)
  have HPS := Lib.hid (show LetIn as' back cs' SMq as' back cs' SMq from ⟨rfl, rfl, rfl, rfl⟩)
  have HPL := Lib.hid (show LetIn al nl cl LP al nl cl LP from ⟨rfl, rfl, rfl, rfl⟩)
  clear HLS HLL
  have hx1 := ext_al (Ext.refl w) (Obj.cells #[.slice av nv cv, .slice ar nr cr, .slice ap np cp, .slice af nf cf] 35)
  have hx2 := ext_al (Ext.refl (w.alloc (Obj.cells #[.slice av nv cv, .slice ar nr cr, .slice ap np cp, .slice af nf cf] 35))) (Obj.cells #[.slice as' back cs', .slice al nl cl] 38)
  have HBT := Lib.hid (blk_ext (blk_new w (Obj.cells #[.slice av nv cv, .slice ar nr cr, .slice ap np cp, .slice af nf cf] 35)) hx2)
  have hbl := blk_new (w.alloc (Obj.cells #[.slice av nv cv, .slice ar nr cr, .slice ap np cp, .slice af nf cf] 35)) (Obj.cells #[.slice as' back cs', .slice al nl cl] 38)
  rw [World.size_alloc] at hbl
  have HBL := Lib.hid hbl
  have HX := Lib.hid (hx1.trans hx2)
  have d0 := blk_cell HBT.out (i := 0) rfl
  have d1 := blk_cell HBT.out (i := 1) rfl
  have d2 := blk_cell HBT.out (i := 2) rfl
  have d3 := blk_cell HBT.out (i := 3) rfl
  clear h ht hk hr hS hL hlS hlL hin hwd hSM hLP hok hx1 hx2 hbl hnl hb h12
  go_enter Tryz.func7, Tryz.ntmps7
  go_wp2_with fail
  obtain ⟨tB, htB⟩ : ∃ x, w.heap.size = x := ⟨_, rfl⟩
  rw [htB] at HBT HBL d0 d1 d2 d3 ⊢
  clear htB
  generalize (w.alloc (Obj.cells #[.slice av nv cv, .slice ar nr cr, .slice ap np cp, .slice af nf cf] 35)).alloc (Obj.cells #[.slice as' back cs', .slice al nl cl] 38) = W0 at *
  refine (HCK.out _ HX.out).mono ?_
  rintro e w1 ⟨rfl, hE1⟩
  have HE1 := Lib.hid (HX.out.trans hE1)
  have HBT1 := Lib.hid (blk_ext HBT.out hE1)
  have HBL1 := Lib.hid (blk_ext HBL.out hE1)
  clear hE1 d0 d1 d2 d3 HBT HBL HX
  have d0 := blk_cell HBT1.out (i := 0) rfl
  have d1 := blk_cell HBT1.out (i := 1) rfl
  have l0 := blk_cell HBL1.out (i := 0) rfl
  have l1 := blk_cell HBL1.out (i := 1) rfl
  have hbI : ¬ (12 : Int) < (back : Int) := by omega
  have hlI : ¬ (12 : Int) < (nl : Int) := by omega
  go_wp2_with fail
  refine (HRU.out _ HE1.out).mono ?_
  rintro e w2 ⟨rfl, hE2⟩
  have HE2 := Lib.hid (HE1.out.trans hE2)
  have HBT2 := Lib.hid (blk_ext HBT1.out hE2)
  have HBL2 := Lib.hid (blk_ext HBL1.out hE2)
  clear hE2 d0 d1 l0 l1 HBT1 HBL1
  have cur := And.intro (blk_cell HBT2.out (i := 0) rfl) (And.intro (blk_cell HBT2.out (i := 1) rfl) (And.intro (blk_cell HBT2.out (i := 2) rfl) (And.intro (blk_cell HBT2.out (i := 3) rfl) (And.intro (blk_cell HBL2.out (i := 0) rfl) (blk_cell HBL2.out (i := 1) rfl)))))
  have EW := HE2.out
  go_upto_region 9 with fail
  go_region_held3 (fun w' => w'.cell? ⟨tB, 0, none⟩ = some (.slice av nv cv) ∧ w'.cell? ⟨tB, 1, none⟩ = some (.slice ar nr cr) ∧ w'.cell? ⟨tB, 2, none⟩ = some (.slice ap np cp) ∧ w'.cell? ⟨tB, 3, none⟩ = some (.slice af nf cf) ∧ w'.cell? ⟨tB + 1, 0, none⟩ = some (.slice as' back cs') ∧ w'.cell? ⟨tB + 1, 1, none⟩ = some (.slice al nl cl))
    (first | exact cur | exact six_later (Below.drew (Ext.refl _)) cur | go_keep)
    (first
      | (go_at_call 24
         refine (HGS.out _ _ _ SMq _ ?_ ?_).mono ?_
         · first | exact EW | exact Below.drew EW
         · exact HPS.out
         rintro e wn ⟨aS, cS, rfl, BS, hE⟩
         first
           | (replace cur := six_later hE (six_later (Below.drew (Ext.refl _)) cur)
              have hEE := Ext.trans (Below.drew EW) hE
              (try replace BL := BL.ext (Ext.trans (Below.drew (Ext.refl _)) hE)))
           | (replace cur := six_later hE cur
              have hEE := Ext.trans EW hE
              (try replace BL := BL.ext hE))
         replace EW := hEE
         clear hEE hE)
      | (go_at_call 24
         refine (HGL.out _ _ _ LP _ ?_ ?_).mono ?_
         · first | exact EW | exact Below.drew EW
         · exact HPL.out
         rintro e wn ⟨aL, cL, rfl, BL, hE⟩
         first
           | (replace cur := six_later hE (six_later (Below.drew (Ext.refl _)) cur)
              have hEE := Ext.trans (Below.drew EW) hE
              (try replace BS := BS.ext (Ext.trans (Below.drew (Ext.refl _)) hE)))
           | (replace cur := six_later hE cur
              have hEE := Ext.trans EW hE
              (try replace BS := BS.ext hE))
         replace EW := hEE
         clear hEE hE)
      | (go_at_call 23
         refine (HHO.out _ (by first | exact EW | exact Below.drew EW) _ _ (by first | exact BS | exact BS.ext (Below.drew (Ext.refl _))) (by first | exact BL | exact BL.ext (Below.drew (Ext.refl _)))).mono ?_
         rintro e wn ⟨rfl, hE⟩
         first
           | (replace cur := six_later hE (six_later (Below.drew (Ext.refl _)) cur)
              have hEE := Ext.trans (Below.drew EW) hE)
           | (replace cur := six_later hE cur
              have hEE := Ext.trans EW hE)
         replace EW := hEE
         clear hEE hE))
  all_goals
    have HEF := Lib.hid EW
    clear cur EW
    go_wp2
    go_ret2
    exact ⟨rfl, HEF.out⟩
end Go.Proofs.YtciihiiacbnimaaGreatDoor

namespace Go.Proofs.YtciihiiacbnimaaGreatDoor
open Go.RowKit
theorem claims_way {m : Md} {P : List Tm} {t : Tm} (hk : TkOk m P t) {X : List Sp2} {L : List (List Int)} (hX : XDone (bX m P t) (oX m t) (iX m P t) X L) {n back : Nat} {x : Nat → Int} (hr : RunL m n back x) (hns : ¬ Sat (wdOf m P n back x) t 0) :
    ∃ id : Nat → Nat, (∀ i, i < n → X[id i]? = some (x i, (clU (ahB (wdOf m P n back x) t) (cntA t.flat) i : Int))) ∧ id 0 < (iX m P t).length ∧ ∀ i, i < n → Edge L (id i) (id (nxt n back i)) := by
  obtain ⟨W, hWd⟩ : ∃ W, wdOf m P n back x = W := ⟨_, rfl⟩
  have hWn : W.n = n := by rw [← hWd, wdOf_n]
  have hWb : W.back = back := by rw [← hWd]; rfl
  have hWl : ∀ i, i < n → W.ls.getD i [] = letS P (valsL m.vars (x i)) := fun i hi => by rw [← hWd]; exact wdOf_get m P _ hi
  rw [hWd] at hns
  have hb := hr.hb
  have hbW : W.back < W.n := by omega
  obtain ⟨c, hc⟩ : ∃ c : Nat → Nat, ∀ i, c i = clU (ahB W t) (cntA t.flat) i := ⟨_, fun _ => rfl⟩
  have hclt : ∀ i, c i < 2 ^ cntA t.flat := fun i => by rw [hc]; exact clU_lt _ _ _
  obtain ⟨hfol, _⟩ := (line_iff hbW hk.ff.ok hk.ff.fit (N := cntA t.flat) rfl (c := c) (fun i _ => hclt i)).2 fun i _ => hc i
  have htv := claims_tv hbW hk.ff.ok hk.ff.fit (N := cntA t.flat) rfl (c := c) (fun i _ => hc i) 0 t (subs_head t) 0 (by omega)
  have hpos := t.size_pos
  have hy0 : (x 0, (c 0 : Int)) ∈ iX m P t := by
    unfold iX begL
    refine List.mem_map.2 ⟨c 0, List.mem_filter.2 ⟨List.mem_range.2 (hclt 0), ?_⟩, by rw [hr.first]⟩
    unfold tvW at htv
    rw [hWl 0 (by omega), hr.first] at htv
    have e : satB W t 0 = false := by
      cases h : satB W t 0
      · rfl
      · exact absurd (satB_iff.1 h) hns
    rw [e] at htv
    cases hv : tvT (letS P (valsL m.vars m.first)) (c 0) t 0 with
    | nil => rfl
    | cons b r => rw [hv] at htv; simp at htv; simp [htv]
  have hfx : ∀ i, i < n → folX m P t (x i) (c i) (x (nxt n back i)) (c (nxt n back i)) = true := fun i hi => by
    have h1 := hfol i (by omega)
    unfold folN tvW at h1
    rw [hWn, hWb, hWl i hi, hWl _ (nxt_lt hb)] at h1
    exact h1
  have hI : ∀ k, k < (iX m P t).length → X[k]? = (iX m P t)[k]? := fun k hk2 => by rw [← hX.pre, List.getElem?_take, if_pos hk2]
  have hmemB : ∀ i, i < n → (x (nxt n back i), (c (nxt n back i) : Int)) ∈ bX m P t (x i, (c i : Int)) := by
    intro i hi
    unfold bX behL
    refine List.mem_flatMap.2 ⟨x (nxt n back i), ((nextL_ok m (x i)).mem _).2 (hr.step i hi), ?_⟩
    unfold behN
    exact List.mem_map.2 ⟨c (nxt n back i), List.mem_filter.2 ⟨List.mem_range.2 (hclt _), hfx i hi⟩, rfl⟩
  have hclosed : ∀ (a : Nat) (y z : Sp2), X[a]? = some y → z ∈ bX m P t y → ∃ b : Nat, X[b]? = some z := by
    intro a y z ha hz
    have hal := (List.getElem?_eq_some_iff.1 ha).1
    have hlj : L[a]? = some (L[a]'(by rw [hX.len]; exact hal)) := List.getElem?_eq_getElem _
    have hL := hX.lead a _ y hlj ha
    obtain ⟨q, hq, e⟩ := List.mem_iff_getElem.1 hz
    obtain ⟨b, _, hb2⟩ := hL.2 q _ z (List.getElem?_eq_getElem (by rw [hL.1]; exact hq)) (by rw [List.getElem?_eq_getElem hq, e])
    exact ⟨b, hb2⟩
  have hall : ∀ i, i < n → ∃ a : Nat, X[a]? = some (x i, (c i : Int)) := by
    intro i
    induction i with
    | zero =>
      intro _
      obtain ⟨k, hk2, e⟩ := List.mem_iff_getElem.1 hy0
      exact ⟨k, by rw [hI k hk2, List.getElem?_eq_getElem hk2, e]⟩
    | succ i ih =>
      intro hi
      obtain ⟨a, ha⟩ := ih (by omega)
      have h1 := hmemB i (by omega)
      have e : nxt n back i = i + 1 := by unfold nxt; rw [if_pos hi]
      rw [e] at h1
      exact hclosed a _ _ ha h1
  obtain ⟨id, hid⟩ : ∃ id : Nat → Nat, ∀ i, i < n → X[id i]? = some (x i, (c i : Int)) :=
    ⟨fun i => if h : i < n then (hall i h).choose else 0, fun i hi => by simp only [dif_pos hi]; exact (hall i hi).choose_spec⟩
  have hed : ∀ i, i < n → Edge L (id i) (id (nxt n back i)) := fun i hi => (hX.edge (hid i hi)).2 ⟨_, hid _ (nxt_lt hb), hmemB i hi⟩
  have hid0 : id 0 < (iX m P t).length := by
    obtain ⟨k, hk2, e⟩ := List.mem_iff_getElem.1 hy0
    have := nodup_at hX.nd (hid 0 (by omega)) (j := k) (by rw [hI k hk2, List.getElem?_eq_getElem hk2, e])
    omega
  refine ⟨id, fun i hi => ?_, hid0, hed⟩
  rw [hWd, ← hc]
  exact hid i hi
theorem spot_one {X : List Sp2} (hn : X.Nodup) {i j : Nat} {s : Sp2} (h1 : X[i]? = some s) (h2 : X[j]? = some s) : i = j := nodup_at hn h1 h2
end Go.Proofs.YtciihiiacbnimaaGreatDoor

namespace Go.Proofs.YtciihiiacbnimaaGreatDoor
open Go.RowKit
theorem spots_cells {w : World} {a : Option Addr} {n c : Nat} {X : List Sp2} (h : Spots w (.slice a n c) X) : n ≤ c ∧ c ≤ maxLen ∧ ∃ b off, (0 < X.length → a = some ⟨b, off, none⟩) ∧ ∀ (i : Nat) (hi : i < X.length), w.cell? ⟨b, off + i * 2, none⟩ = some (.int .i64 X[i].1) ∧ w.cell? ⟨b, off + i * 2 + 1, none⟩ = some (.int .i64 X[i].2) := by
  obtain ⟨a', c', e, hr⟩ := h
  simp only [Value.slice.injEq] at e
  obtain ⟨rfl, rfl, rfl⟩ := e
  exact ⟨hr.le, hr.max, spotsX_at hr⟩
end Go.Proofs.YtciihiiacbnimaaGreatDoor
