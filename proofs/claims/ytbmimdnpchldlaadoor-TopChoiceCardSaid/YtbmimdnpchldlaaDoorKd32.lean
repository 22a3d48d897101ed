/- Several texts in one: ExP; ExA; XGok; VerP; RunP; GrowP; TopP; TopQ. No condition. -/
import Derived.Test.YtbmimdnpchldlaaDoorKd18
import Derived.Test.YtbmimdnpchldlaaDoorKd31
import Derived.Deep.DeepCutAuto
import Derived.Deep.RegionLaw
import Derived.Test.YtbmimdnpchldlaaDoorKd2
import Derived.Test.YtbmimdnpchldlaaDoorKd20
import Derived.Test.YtbmimdnpchldlaaDoorKd3
import Derived.Test.YtbmimdnpchldlaaDoorKd17
import Derived.Test.YtbmimdnpchldlaaDoorKd29
namespace Go.Proofs.YtbmimdnpchldlaaDoor
open Go.RowKit

/-- What leads on; where it begins; what may be a spot; its sets. -/
def bX (m : Md) (P : List Tm) (t : Tm) (x : Sp2) : List Sp2 := behL (folX m P t x.1 x.2.toNat) (2 ^ cntA t.flat) (nextL m x.1)
def iX (m : Md) (P : List Tm) (t : Tm) : List Sp2 := begL m.first (letS P (valsL m.vars m.first)) t (2 ^ cntA t.flat)
def oX (m : Md) (t : Tm) (x : Sp2) : Prop := 0 ≤ x.1 ∧ x.1 < countL m.vars ∧ 0 ≤ x.2 ∧ x.2 < ((2 ^ cntA t.flat : Nat) : Int)
def sX (m : Md) (P : List Tm) (t : Tm) (x : Sp2) : Int := (meUp t.flat (t.ends 0) (tvT (letS P (valsL m.vars x.1)) x.2.toNat t 0) t.flat.length : Nat)

theorem iX_nodup (m : Md) (P : List Tm) (t : Tm) : (iX m P t).Nodup := by
  unfold iX begL
  rw [List.Nodup, List.pairwise_map]
  refine ((List.nodup_range (n := 2 ^ cntA t.flat)).filter _).imp fun h e => h ?_
  have e2 := congrArg Prod.snd e
  exact Int.ofNat.inj e2
theorem iX_ok {m : Md} {P : List Tm} {t : Tm} (hk : TkOk m P t) : ∀ x ∈ iX m P t, oX m t x := by
  intro x hx
  unfold iX begL at hx
  obtain ⟨c, hc, rfl⟩ := List.mem_map.1 hx
  have h1 := List.mem_range.1 (List.mem_filter.1 hc).1
  have h2 := codeL_bd hk.ok.vars (inits_in hk.ok.vars)
  exact ⟨h2.1, h2.2, by omega, by show (c : Int) < _; omega⟩
theorem bX_ok {m : Md} {P : List Tm} {t : Tm} (hk : TkOk m P t) {x : Sp2} (hx : oX m t x) : ∀ y ∈ bX m P t x, oX m t y := by
  intro y hy
  unfold bX behL at hy
  obtain ⟨n, hn, hy⟩ := List.mem_flatMap.1 hy
  unfold behN at hy
  obtain ⟨c, hc, rfl⟩ := List.mem_map.1 hy
  have h1 := List.mem_range.1 (List.mem_filter.1 hc).1
  have h2 := NextP.in hk.ok.toPre hx.1 hx.2.1 (((nextL_ok m x.1).mem n).1 hn)
  exact ⟨h2.1, h2.2, by omega, by show (c : Int) < _; omega⟩

theorem bX_len {m : Md} {P : List Tm} {t : Tm} (hk : TkOk m P t) (x : Sp2) : (bX m P t x).length ≤ 768 := by
  have h1 := behL_len (folX m P t x.1 x.2.toNat) (2 ^ cntA t.flat) (nextL m x.1)
  have h2 : (nextL m x.1).length ≤ 12 := by
    have := (nextL_len m x.1).2
    have := hk.ok.twelve
    omega
  have h3 : 2 ^ cntA t.flat ≤ 64 := by
    have := Nat.pow_le_pow_right (n := 2) (by omega) hk.ff.cnt
    simpa using this
  have h4 := Nat.mul_le_mul h2 h3
  unfold bX
  omega

section
variable {τ : Nat → Nat} {B A M : Nat} {w0 w wa w' : World} {sp nx st : Value} {ini many : Int} {S : List Sp2} {L : List (List Int)} {T : List Int}
theorem ABox.retag (h : ABox τ B A M w0 w sp nx st ini many S L T) (t : Nat) : ABox (tagAt τ w.heap.size t) B A M w0 w sp nx st ini many S L T := ⟨h.m.retag t, h.a, h.mp, h.alt, h.mlt, h.ne, h.alo, h.mlo, h.e⟩
theorem ABox.app5 (h : ABox τ B A M w0 w sp nx st ini many S L T) {lv lv' : Value} {n n' : Nat} {xs xs' : List Value} (hc : OwnT τ 5 w B 3 1 lv n xs) (hg : w.grownBy w' lv.ownBlock)
    (ho : w'.ownsRow B 3 1 lv' n' xs') (hb : lv'.ownBlock = lv.ownBlock ∨ lv'.ownBlock = some w.heap.size) :
    ABox (tagAt τ w.heap.size 5) B A M w0 w' sp nx st ini many S L T ∧ OwnT (tagAt τ w.heap.size 5) 5 w' B 3 1 lv' n' xs' ∧ ∀ P, Ent τ 8 w P → Ent (tagAt τ w.heap.size 5) 8 w' P := by
  obtain ⟨vs, h1, h2⟩ := h.m.nx
  have hlow : ∀ k, k < B → some k ≠ lv.ownBlock := fun k hk e => by have := (hc.own.lt k e.symm).1; omega
  have hA := h.alt
  have hM := h.mlt
  refine ⟨⟨⟨fun b hb => by have := h.m.size; rw [tagAt_lt (by omega)]; exact h.m.lo b hb, Nat.le_trans h.m.size hg.size, h.m.sp.other hc hg (by omega), ⟨vs, h1.other hc hg (by omega), h2.app hc hg (by omega)⟩, h.m.st.other hc hg (by omega)⟩,
    blk_grown h.a hg (hlow A hA), h.mp.grown hg (hlow M hM), hA, hM, h.ne, h.alo, h.mlo, ?_⟩, hc.app ho hb, fun P hP => hP.app hc hg (by omega)⟩
  exact Below.grown h.e hg h.e.size (fun b hb => by have := (hc.own.lt b hb).1; have := h.alo; omega)

theorem ABox.start (w : World) (ini many : Int) (M : Nat) (hM : M = w.heap.size) :
    ABox (fun _ => 0) (M + 2) (M + 1) M w ((w.alloc (Obj.map #[] 0)).alloc (Obj.cells #[.slice none 0 0, .int .i64 ini, .slice none 0 0, .slice none 0 0, .int .i64 many, .map (some M)] 73)) (.slice none 0 0) (.slice none 0 0) (.slice none 0 0) ini many [] [] [] := by
  subst hM
  have h1 := ext_al (Ext.refl (w.alloc (Obj.map #[] 0))) (Obj.cells #[.slice none 0 0, .int .i64 ini, .slice none 0 0, .slice none 0 0, .int .i64 many, .map (some w.heap.size)] 73)
  have h2 := blk_new (w.alloc (Obj.map #[] 0)) (Obj.cells #[.slice none 0 0, .int .i64 ini, .slice none 0 0, .slice none 0 0, .int .i64 many, .map (some w.heap.size)] 73)
  rw [World.size_alloc] at h2
  exact ⟨GMem.nil _ _ (by simp), h2, (MapG.new encSp w).ext h1, by omega, by omega, by omega, by omega, Nat.le_refl _, (ext_al (Ext.refl w) _).trans h1⟩

/-- What grew has grown: its tag is the lists'. -/
def tag53 (τ : Nat → Nat) : Nat → Nat := fun b => if τ b = 5 then 3 else τ b
theorem OwnT.t53 {t : Nat} {e : TypeId} {size n : Nat} {v : Value} {xs : List Value} (h : OwnT τ t w B e size v n xs) (ht : t ≠ 5) : OwnT (tag53 τ) t w B e size v n xs := ⟨h.own, fun b hb => by
  have := h.tag b hb
  unfold tag53
  rw [this, if_neg ht]⟩
theorem Ent.t53 {P : World → Prop} (h : Ent τ 3 w P) : Ent (tag53 τ) 3 w P := fun x hx hb => h x hx fun b h1 h2 => hb b h1 (by unfold tag53; rw [h2]; rfl)
theorem Ent.t55 {P : World → Prop} (h : Ent τ 5 w P) : Ent (tag53 τ) 3 w P := fun x hx hb => h x hx fun b h1 h2 => hb b h1 (by unfold tag53; rw [if_pos h2])
theorem ABox.t53 (h : ABox τ B A M w0 w sp nx st ini many S L T) : ABox (tag53 τ) B A M w0 w sp nx st ini many S L T := by
  obtain ⟨vs, h1, h2⟩ := h.m.nx
  exact ⟨⟨fun b hb => by unfold tag53; rw [h.m.lo b hb]; rfl, h.m.size, h.m.sp.t53 (by omega), ⟨vs, h1.t53 (by omega), h2.t53⟩, h.m.st.t53 (by omega)⟩, h.a, h.mp, h.alt, h.mlt, h.ne, h.alo, h.mlo, h.e⟩

theorem ABox.pushNx (h : ABox τ B A M w0 w sp nx st ini many S L T) (hal : Ext w wa) {v' u : Value} {l : List Int} {n : Nat} {vs xs : List Value} (h1 : OwnT τ 2 w B 38 1 nx L.length vs) (h2 : Ent τ 3 w fun x => Each x vs L) (hu : Ent τ 3 w fun x => Ints x u l)
    (ho : w'.ownsRow B 38 1 v' n xs) (hn : n = L.length + 1) (hx : xs = vs ++ [u]) (hg : wa.grownBy w' nx.ownBlock) (hb : v'.ownBlock = nx.ownBlock ∨ v'.ownBlock = some wa.heap.size) :
    w'.heap[A]? = some (.cells #[sp, .int .i64 ini, nx, st, .int .i64 many, .map (some M)] 73 (0, 0)) ∧ ∃ τ', ABox τ' B A M w0 (w'.setCell ⟨A, 2, none⟩ v') sp v' st ini many S (L ++ [l]) T := by
  have hA := h.alt
  have hM := h.mlt
  have hne := h.ne
  have hlow : ∀ k, k < B → some k ≠ nx.ownBlock := fun k hk e => by have := (h1.own.lt k e.symm).1; omega
  have hA8 := blk_grown (blk_ext h.a hal) hg (hlow A hA)
  refine ⟨hA8, _, ⟨((h.m.ext hal).appNx (h1.ext hal) (h2.ext hal) (hu.ext hal) ho hn hx hg hb).low (p := ⟨A, 2, none⟩) hA v', blk_set hA8 (i := 2) v', ((h.mp.ext hal).grown hg (hlow M hM)).set (p := ⟨A, 2, none⟩) (Ne.symm hne) v', hA, hM, hne, h.alo, h.mlo, ?_⟩⟩
  exact ext_st ((h.e.trans hal).grown hg (h.e.trans hal).size (fun b hb => by have := (h1.own.lt b hb).1; have := h.alo; omega)) (p := ⟨A, 2, none⟩) h.alo v'
theorem ABox.pushSt (h : ABox τ B A M w0 w sp nx st ini many S L T) (hal : Ext w wa) {v' : Value} {n : Nat} {xs : List Value} {x : Int} (ho : w'.ownsRow B 3 1 v' n xs) (hn : n = T.length + 1) (hx : xs = T.map (.int .i64) ++ [.int .i64 x])
    (hg : wa.grownBy w' st.ownBlock) (hb : v'.ownBlock = st.ownBlock ∨ v'.ownBlock = some wa.heap.size) :
    w'.heap[A]? = some (.cells #[sp, .int .i64 ini, nx, st, .int .i64 many, .map (some M)] 73 (0, 0)) ∧ ∃ τ', ABox τ' B A M w0 (w'.setCell ⟨A, 3, none⟩ v') sp nx v' ini many S L (T ++ [x]) := by
  have hA := h.alt
  have hM := h.mlt
  have hne := h.ne
  have hlow : ∀ k, k < B → some k ≠ st.ownBlock := fun k hk e => by have := (h.m.st.own.lt k e.symm).1; omega
  have hA8 := blk_grown (blk_ext h.a hal) hg (hlow A hA)
  refine ⟨hA8, _, ⟨((h.m.ext hal).appSt ho hn hx hg hb).low (p := ⟨A, 3, none⟩) hA v', blk_set hA8 (i := 3) v', ((h.mp.ext hal).grown hg (hlow M hM)).set (p := ⟨A, 3, none⟩) (Ne.symm hne) v', hA, hM, hne, h.alo, h.mlo, ?_⟩⟩
  exact ext_st ((h.e.trans hal).grown hg (h.e.trans hal).size (fun b hb => by have := (h.m.st.own.lt b hb).1; have := h.alo; omega)) (p := ⟨A, 3, none⟩) h.alo v'
end

theorem spotsX_at {w : World} {a : Option Addr} {n c : Nat} {l : List (Int × Int)} (h : Row w 2 a n c (l.flatMap spc)) : ∃ b off, (0 < l.length → a = some ⟨b, off, none⟩) ∧ ∀ (i : Nat) (hi : i < l.length), w.cell? ⟨b, off + i * 2, none⟩ = some (.int .i64 l[i].1) ∧ w.cell? ⟨b, off + i * 2 + 1, none⟩ = some (.int .i64 l[i].2) := by
  obtain ⟨b, off, _, h2, h3⟩ := h.lie
  have key : ∀ (l : List (Int × Int)) (i : Nat) (hi : i < l.length), (l.flatMap spc)[i * 2]? = some (.int .i64 l[i].1) ∧ (l.flatMap spc)[i * 2 + 1]? = some (.int .i64 l[i].2) := by
    intro l
    induction l with
    | nil => intro i hi; simp at hi
    | cons x r ih =>
      intro i hi
      cases i with
      | zero => simp [spc]
      | succ i =>
        have := ih i (by simpa using hi)
        simp only [List.flatMap_cons, spc]
        rw [show (i + 1) * 2 = i * 2 + 2 by omega, show i * 2 + 2 + 1 = (i * 2 + 1) + 2 by omega]
        simpa using this
  refine ⟨b, off, fun hl => h2 ?_, fun i hi => ⟨h3 _ _ (key l i hi).1, ?_⟩⟩
  · have := (key l 0 hl).1
    exact getElem?_pos this
  · have := h3 _ _ (key l i hi).2
    rwa [← Nat.add_assoc] at this

/-- What Explore answers. -/
def ExplR (m : Md) (P : List Tm) (t : Tm) (w : World) (e : Ending) (w' : World) : Prop :=
  ∃ (τ : Nat → Nat) (sp nx st : Value) (X : List Sp2) (L : List (List Int)), e = .returned (.tuple #[.agg #[sp, .int .i64 ((iX m P t).length : Int), nx, st, .int .i64 (cntA t.flat : Int)], .int .i64 0]) ∧
    GMem τ w.heap.size w' sp nx st X L (X.map (sX m P t)) ∧ XDone (bX m P t) (oX m t) (iX m P t) X L ∧ Ext w w'

theorem place_any (τ : Nat → Nat) (B A M : Nat) (w0 w : World) (sp nx st : Value) (ini many : Int) (S : List Sp2) (L : List (List Int)) (T : List Int) (s : Sp2) (h : ABox τ B A M w0 w sp nx st ini many S L T) (hl : S.length < 20000 ∨ s ∈ S) :
    Calls Tryd.prog 18 #[.pointer (some ⟨A, 0, none⟩), .agg #[.int .i64 s.1, .int .i64 s.2]] w (PlaceR τ B A M w0 w nx st ini many S L T s) := by
  by_cases hs : s ∈ S
  · exact place_old τ B A M w0 w sp nx st ini many S L T s h hs
  · exact place_new τ B A M w0 w sp nx st ini many S L T s h hs (hl.resolve_right hs)

theorem XInv.put {BF : Sp2 → List Sp2} {O : Sp2 → Prop} {I X : List Sp2} {nx : List (List Int)} {cur : List Int} {t : Nat} (h : XInv BF O I X nx cur t) {x : Sp2} (hx : X[nx.length]? = some x) {y : Sp2} (hy : (BF x)[t]? = some y) (ho : O y) {n : Nat} {S' : List Sp2} (hn : S'[n]? = some y)
    (hS : S' = X ∨ y ∉ X ∧ S' = X ++ [y] ∧ n = X.length) : XInv BF O I S' nx (cur ++ [(n : Int)]) (t + 1) ∧ S'[nx.length]? = some x ∧ S'.take nx.length = X.take nx.length := by
  rcases hS with rfl | ⟨h1, rfl, rfl⟩
  · exact ⟨h.old hx hy hn, hx, rfl⟩
  · have hl := (List.getElem?_eq_some_iff.1 hx).1
    exact ⟨h.grow hx hy h1 ho, by rw [List.getElem?_append_left hl]; exact hx, List.take_append_of_le_length h.le⟩

/-- A row that grows, behind place. -/
theorem OwnT.placed {τ τ' : Nat → Nat} {w w' : World} {B : Nat} {e : TypeId} {size n t : Nat} {v : Value} {xs : List Value} (h : OwnT τ t w B e size v n xs) (h0 : t ≠ 0) (h1 : t ≠ 1) (ht : ∀ b, b < w.heap.size → τ' b = τ b)
    (hk : ∀ (t : Nat) (P : World → Prop), t ≠ 0 → t ≠ 1 → Ent τ t w P → Ent τ' t w' P) : OwnT τ' t w' B e size v n xs :=
  ⟨(hk t _ h0 h1 h.ent).now, fun b hb => (ht b (h.own.lt b hb).2).trans (h.tag b hb)⟩

/-- A place for one more, as long as all spots lie below two bounds. -/
theorem room {BF : Sp2 → List Sp2} {I X : List Sp2} {nx : List (List Int)} {cur : List Int} {t : Nat} {C N : Nat} (h : XInv BF (fun x => 0 ≤ x.1 ∧ x.1 < (C : Int) ∧ 0 ≤ x.2 ∧ x.2 < (N : Int)) I X nx cur t) (hCN : C * N ≤ 20000) {y : Sp2} (hy : 0 ≤ y.1 ∧ y.1 < (C : Int) ∧ 0 ≤ y.2 ∧ y.2 < (N : Int)) : X.length < 20000 ∨ y ∈ X := by
  by_cases hm : y ∈ X
  · exact .inr hm
  · left
    have := pairs_bound C N (X := X ++ [y]) (by
      rw [List.nodup_append]
      refine ⟨h.nd, by simp, ?_⟩
      intro a ha b hb e
      simp at hb
      subst hb; subst e
      exact hm ha) (fun x hx => by
      rcases List.mem_append.1 hx with hx | hx
      · exact h.ok x hx
      · simp at hx; subst hx; exact hy)
    simp at this
    omega

end Go.Proofs.YtbmimdnpchldlaaDoor

namespace Go.Proofs.YtbmimdnpchldlaaDoor
open Go.RowKit

set_option maxRecDepth 100000 in
set_option maxHeartbeats 16000000 in
theorem explore_any (vv rv pv fv : Value) (m : Md) (P : List Tm) (t : Tm) (w : World) (h : IsTask w vv rv pv fv m P t) (ht : Tab w) (hk : TkOk m P t) (C : Nat) (hC : countL m.vars = (C : Int)) (hCN : C * 2 ^ cntA t.flat ≤ 20000) :
    Calls Tryd.prog 7 #[.agg #[vv, rv, pv, fv]] w (ExplR m P t w) := by
  have HBE := Lib.hid fun wx (hx : Ext w wx) => (show Calls Tryd.prog 16 #[.agg #[vv, rv, pv, fv]] wx fun e w' => ∃ v, e = .returned (.tuple #[v, .int .i64 0]) ∧
      w'.ownsRow wx.heap.size 49 2 v (iX m P t).length ((iX m P t).flatMap spc) ∧ Ext wx w' from begin_any vv rv pv fv m P t wx (h.ext hx) (ht.ext hx) hk)
  have HPL := Lib.hid fun wx (hx : Ext w wx) => places_any fv t.flat (P.length : Int) t wx (h.fo.ext hx) (ht.ext hx) hk.ff
  have HPN := Lib.hid (plL_len t.flat)
  have hc6 := hk.ff.cnt
  have HLE := Lib.hid fun (n : Int) wx (hx : Ext w wx) (hn : 0 ≤ n ∧ n < countL m.vars) => sletter_any vv rv pv m P n wx (h.md.ext hx) (ht.ext hx) hk.ok (h.pr.ext hx) hk.pk hn.1 hn.2
  have HLL := Lib.hid fun n => letS_len P (valsL m.vars n)
  have HME := Lib.hid fun (vl : Value) (n : Int) (c : Nat) wx (hx : Ext w wx) (hL : Bools wx vl (letS P (valsL m.vars n))) (hc : c < 2 ^ cntA t.flat) => (show Calls Tryd.prog 20 #[fv, vl, .int .i64 (c : Int)] wx fun e w' => e = .returned (.tuple #[.int .i64 (sX m P t (n, (c : Int))), .int .i64 0]) ∧ Ext wx w' from
    meets_any fv t.flat t vl (letS P (valsL m.vars n)) c wx (h.fo.ext hx) (ht.ext hx) (by rw [letS_len]; exact hk.ff) hL hc)
  have HBH := Lib.hid fun (n : Int) (c : Nat) wx (hx : Ext w wx) (hn : 0 ≤ n ∧ n < countL m.vars) (hc : c < 2 ^ cntA t.flat) => (show Calls Tryd.prog 21 #[.agg #[vv, rv, pv, fv], .agg #[.int .i64 n, .int .i64 (c : Int)]] wx fun e w' => ∃ v, e = .returned (.tuple #[v, .int .i64 0]) ∧
      w'.ownsRow wx.heap.size 49 2 v (bX m P t (n, (c : Int))).length ((bX m P t (n, (c : Int))).flatMap spc) ∧ Ext wx w' from pbehind_any vv rv pv fv m P t n c wx (h.ext hx) (ht.ext hx) hk hn.1 hn.2 hc)
  have HIN := Lib.hid (iX_nodup m P t)
  have HIO := Lib.hid (iX_ok hk)
  have HBO := Lib.hid fun x (hx : oX m t x) => bX_ok hk hx
  have HBN := Lib.hid fun x => bX_len hk (P := P) x
  unfold ExplR
  unfold oX at HIO HBO ⊢
  rw [hC] at HLE HBH HIO HBO ⊢
  obtain ⟨N, hN⟩ : ∃ x, 2 ^ cntA t.flat = x := ⟨_, rfl⟩
  rw [hN] at hCN HME HBH HIO HBO ⊢
  obtain ⟨k, hk6⟩ : ∃ x, cntA t.flat = x := ⟨_, rfl⟩
  rw [hk6] at HPN hc6 ⊢
  obtain ⟨I, hI⟩ : ∃ x, iX m P t = x := ⟨_, rfl⟩
  rw [hI] at HBE HIN HIO ⊢
  obtain ⟨BF, hBF⟩ : ∃ x, bX m P t = x := ⟨_, rfl⟩
  rw [hBF] at HBH HBO HBN ⊢
  obtain ⟨SF, hSF⟩ : ∃ x, sX m P t = x := ⟨_, rfl⟩
  rw [hSF] at HME ⊢
  obtain ⟨LT, hLT⟩ : ∃ LT : Int → List Bool, (fun n => letS P (valsL m.vars n)) = LT := ⟨_, rfl⟩
  have hLTa : ∀ n, letS P (valsL m.vars n) = LT n := fun n => by rw [← hLT]
  simp only [hLTa] at HLE HME HLL
  obtain ⟨av, cv, ar, cr, ap, cp, af, nf, cf, rfl, rfl, rfl, rfl⟩ := h.val
  have HCN := Lib.hid hCN
  have hIl : I.length ≤ 20000 := Nat.le_trans (pairs_bound C N (X := I) HIN.out (fun x hx => HIO.out x hx)) hCN
  have hp6 := hk.pk.six
  clear h ht hk hC hCN hN hk6 hI hBF hSF hLT hLTa
  generalize m.vars.length = nv at *
  generalize m.rules.length = nr at *
  generalize P.length = np at *
  have hb := blk_new w (Obj.cells #[.slice av nv cv, .slice ar nr cr, .slice ap np cp, .slice af nf cf] 34)
  have hx := ext_al (Ext.refl (w.alloc (Obj.cells #[.slice av nv cv, .slice ar nr cr, .slice ap np cp, .slice af nf cf] 34))) (Obj.cells #[.slice none 0 0, .int .i64 0, .slice none 0 0, .slice none 0 0, .int .i64 0] 40)
  have hb2 := blk_new (w.alloc (Obj.cells #[.slice av nv cv, .slice ar nr cr, .slice ap np cp, .slice af nf cf] 34)) (Obj.cells #[.slice none 0 0, .int .i64 0, .slice none 0 0, .slice none 0 0, .int .i64 0] 40)
  rw [World.size_alloc] at hb2
  have HE := Lib.hid ((ext_al (Ext.refl w) (Obj.cells #[.slice av nv cv, .slice ar nr cr, .slice ap np cp, .slice af nf cf] 34)).trans hx)
  have HB := Lib.hid (blk_ext hb hx)
  have HR := Lib.hid hb2
  have d0 := blk_cell HB.out (i := 0) rfl
  have d1 := blk_cell HB.out (i := 1) rfl
  have d2 := blk_cell HB.out (i := 2) rfl
  have d3 := blk_cell HB.out (i := 3) rfl
  clear hb hx hb2
  go_enter Tryd.func7, Tryd.ntmps7
  go_wp2_with fail
  generalize (w.alloc (Obj.cells #[.slice av nv cv, .slice ar nr cr, .slice ap np cp, .slice af nf cf] 34)).alloc (Obj.cells #[.slice none 0 0, .int .i64 0, .slice none 0 0, .slice none 0 0, .int .i64 0] 40) = W0 at *
  refine (HBE.out _ HE.out).mono ?_
  rintro e w1 ⟨v1, rfl, ho1, hE1⟩
  obtain ⟨a1, c1, rfl, _⟩ := id ho1.row
  have HO1 := Lib.hid ho1
  have HX1 := Lib.hid hE1
  have hb1 := blk_ext HB.out hE1
  have d2 := blk_cell hb1 (i := 2) rfl
  have d3 := blk_cell hb1 (i := 3) rfl
  clear ho1 hE1 hb1 d0 d1 HBE
  go_wp2_with fail
  refine (HPL.out _ (HE.out.trans HX1.out)).mono ?_
  rintro e w2 ⟨a2, c2, rfl, ho2, hE2⟩
  rw [HPN.out]
  have HX2 := Lib.hid (HX1.out.trans hE2)
  have HO2 := Lib.hid (own_ext HO1.out hE2)
  have HAB := Lib.hid (ABox.start w2 (I.length : Int) (k : Int) w2.heap.size rfl)
  clear hE2 ho2 d2 d3 HPL HO1 HX1 HPN
  have hmm := @run_makeMap Tryd.prog
  go_wp2_with fail
  have HMM := Lib.hid (Nat.le_refl w2.heap.size)
  generalize (w2.alloc (Obj.map #[] 0)).alloc (Obj.cells #[.slice none 0 0, .int .i64 (I.length : Int), .slice none 0 0, .slice none 0 0, .int .i64 (k : Int), .map (some w2.heap.size)] 73) = W3 at *
  generalize hMs : w2.heap.size = M at *
  have HMS := Lib.hid hMs
  clear hMs
  go_loopg [59] I.length (fun g x wr => ∃ (i : Nat) (τ : Nat → Nat) (sp : Value), g + i = I.length ∧ x = .int .i64 (i : Int) ∧ ABox τ (M + 2) (M + 1) M w2 wr sp (.slice none 0 0) (.slice none 0 0) (I.length : Int) (k : Int) (I.take i) [] [])
  case atStart => exact ⟨0, _, _, by omega, by go_num, HAB.out⟩
  case round =>
    obtain ⟨i, τ, sp, hgi, rfl, hA⟩ := hrel
    have HGI := Lib.hid hgi
    have HA := Lib.hid hA
    clear hgi HAB
    by_cases hi : i < I.length
    · obtain ⟨_, _, e1, hr⟩ := id (own_ext HO2.out hA.e).row
      simp only [Value.slice.injEq] at e1
      obtain ⟨rfl, -, rfl⟩ := e1
      obtain ⟨bS, oS, s1, s2⟩ := spotsX_at hr
      obtain rfl := s1 (by omega)
      obtain ⟨c0, c1⟩ := s2 i hi
      have hcap := hr.le
      have HNI := Lib.hid (show I[i] ∉ I.take i from fun hm => by
        obtain ⟨j, hj, e⟩ := List.mem_iff_getElem.1 hm
        rw [List.length_take] at hj
        rw [List.getElem_take] at e
        have := nodup_at HIN.out (i := j) (j := i) (by rw [List.getElem?_eq_getElem (by omega), e]) (List.getElem?_eq_getElem hi)
        omega)
      have HTK := Lib.hid (show I.take (i + 1) = I.take i ++ [I[i]] from List.take_succ_eq_append_getElem hi)
      have HLT := Lib.hid (show (I.take i).length < 20000 from by
        rw [List.length_take]
        omega)
      have hiI : (i : Int) < (I.length : Int) := by omega
      have hi0 : (0 : Int) ≤ (i : Int) := by omega
      have hx3 := ext_al (Ext.refl wr) (Obj.cells #[.int .i64 I[i].1, .int .i64 I[i].2] 49)
      have hb3 := blk_new wr (Obj.cells #[.int .i64 I[i].1, .int .i64 I[i].2] 49)
      have HPC := Lib.hid (place_any τ (M + 2) (M + 1) M w2 _ sp _ _ _ _ _ _ _ I[i] (hA.ext hx3) (.inl HLT.out))
      have b0 := blk_cell hb3 (i := 0) rfl
      have b1 := blk_cell hb3 (i := 1) rfl
      generalize I[i] = s at *
      clear hA hr s1 s2 hx3 hb3
      go_wp2_with fail
      refine HPC.out.mono ?_
      rintro e w5 ⟨n, S', sp', τ', rfl, hn, hS, hA5, -, -, -⟩
      obtain rfl : S' = I.take (i + 1) := by
        rcases hS with rfl | ⟨_, rfl, _⟩
        · exact absurd (List.mem_of_getElem? hn) HNI.out
        · exact HTK.out.symm
      have HA5 := Lib.hid hA5
      clear hn hS hA5 c0 c1 b0 b1
      go_wp2_with fail
      go_roundg (gk - 1)
      case measure => have := HGI.out; omega
      case rel => exact ⟨i + 1, _, _, by have := HGI.out; omega, by go_num, HA5.out⟩
    · obtain rfl : i = I.length := by have := HGI.out; omega
      have hiI : ¬ (I.length : Int) < (I.length : Int) := by omega
      rw [List.take_length] at hA
      have HAI := Lib.hid hA
      have HX0 := Lib.hid (show XInv BF (fun x => 0 ≤ x.1 ∧ x.1 < (C : Int) ∧ 0 ≤ x.2 ∧ x.2 < (N : Int)) I I [] [] 0 from XInv.start HIN.out HIO.out)
      clear hA HA HGI
      go_wp2_with fail
      go_loopg [11] 20001 (fun g x wr => ∃ (i : Nat) (τ : Nat → Nat) (sp nx st : Value) (X : List Sp2) (L : List (List Int)), g + i = 20001 ∧ x = .int .i64 (i : Int) ∧ L.length = i ∧ ABox τ (M + 2) (M + 1) M w2 wr sp nx st (I.length : Int) (k : Int) X L ((X.take i).map SF) ∧ XInv BF (fun x => 0 ≤ x.1 ∧ x.1 < (C : Int) ∧ 0 ≤ x.2 ∧ x.2 < (N : Int)) I X L [] 0)
      case atStart => exact ⟨0, _, _, _, _, I, [], by omega, by go_num, rfl, HAI.out, HX0.out⟩
      case round =>
        obtain ⟨i, τ, sp, nx, st, X, L, hgi, rfl, hLi, hA, hI⟩ := hrel
        subst hLi
        obtain ⟨T, hTe⟩ : ∃ T, (X.take L.length).map SF = T := ⟨_, rfl⟩
        rw [hTe] at hA
        have HTE := Lib.hid hTe
        have HGI := Lib.hid hgi
        have HA := Lib.hid hA
        have HXI := Lib.hid hI
        have hXl : X.length ≤ 20000 := Nat.le_trans (pairs_bound C N (X := X) hI.nd (fun x hx => hI.ok x hx)) HCN.out
        have hLX := hI.le
        obtain ⟨asp, csp, rfl, hrsp⟩ := hA.m.sp.own.row
        have a0 := blk_cell hA.a (i := 0) rfl
        clear HAI HX0 hgi
        by_cases hi : L.length < X.length
        · obtain ⟨bS, oS, s1, s2⟩ := spotsX_at hrsp
          obtain rfl := s1 (by omega)
          obtain ⟨c0, c1⟩ := s2 L.length hi
          have hxo := hI.ok X[L.length] (by simp)
          have HXG := Lib.hid (List.getElem?_eq_getElem hi)
          have hcap := hrsp.le
          generalize X[L.length] = x at *
          obtain ⟨x1, x2⟩ := x
          obtain ⟨c, rfl⟩ : ∃ c : Nat, x2 = (c : Int) := ⟨x2.toNat, by have := hxo.2.2.1; simp at this; omega⟩
          have hx1 : 0 ≤ x1 ∧ x1 < (C : Int) := ⟨hxo.1, hxo.2.1⟩
          have hcN : c < N := by have := hxo.2.2.2; simp at this; omega
          have HXO := Lib.hid hxo
          have hW2 := HX2.out.trans hA.e
          have hbt := blk_ext HB.out hW2
          have hx3 := ext_al (Ext.refl wr) (Obj.cells #[.int .i64 x1, .int .i64 (c : Int)] 49)
          have hb3 := blk_new wr (Obj.cells #[.int .i64 x1, .int .i64 (c : Int)] 49)
          have HBT := Lib.hid (blk_ext hbt hx3)
          have HB3 := Lib.hid hb3
          have HX3 := Lib.hid (HE.out.trans (hW2.trans hx3))
          have HA3 := Lib.hid (hA.ext hx3)
          have d0 := blk_cell HBT.out (i := 0) rfl
          have d1 := blk_cell HBT.out (i := 1) rfl
          have d2 := blk_cell HBT.out (i := 2) rfl
          have b0 := blk_cell HB3.out (i := 0) rfl
          have hiI : (L.length : Int) < (X.length : Int) := by omega
          have hi0 : (0 : Int) ≤ (L.length : Int) := by omega
          obtain ⟨nL, hnL⟩ : ∃ x, L.length = x := ⟨_, rfl⟩
          obtain ⟨nX, hnX⟩ : ∃ x, X.length = x := ⟨_, rfl⟩
          rw [hnL] at hi hiI hi0 c0 c1 hLX
          rw [hnX] at hi hiI hcap hLX hXl a0
          have HNL := Lib.hid hnL
          have HNX := Lib.hid hnX
          clear hxo hW2 hbt hx3 hb3 hrsp s1 s2 hI hA hTe
          go_wp2_with fail
          generalize wr.alloc (Obj.cells #[.int .i64 x1, .int .i64 (c : Int)] 49) = W3 at *
          refine (HLE.out x1 _ HX3.out hx1).mono ?_
          rintro e w4 ⟨v4, rfl, ho4, hE4⟩
          obtain ⟨a4, c4, rfl, _⟩ := id ho4.row
          have HBO4 := Lib.hid (show Bools w4 (.slice a4 np c4) (LT x1) from by
            have h := ho4.reads
            unfold Bools
            rw [HLL.out]
            exact h)
          have HX4 := Lib.hid (HX3.out.trans hE4)
          have HA4 := Lib.hid (HA3.out.ext hE4)
          have HBT4 := Lib.hid (blk_ext HBT.out hE4)
          have HB4 := Lib.hid (blk_ext HB3.out hE4)
          have d3 := blk_cell HBT4.out (i := 3) rfl
          have b1 := blk_cell HB4.out (i := 1) rfl
          clear ho4 hE4 a0 c0 c1 d0 d1 d2 b0 HX3 HA3 HBT HB3
          go_wp2_with fail
          refine (HME.out _ x1 c _ HX4.out HBO4.out hcN).mono ?_
          rintro e w5 ⟨rfl, hE5⟩
          have HX5 := Lib.hid (HX4.out.trans hE5)
          have HA5 := Lib.hid (HA4.out.ext hE5)
          have HBT5 := Lib.hid (blk_ext HBT4.out hE5)
          have HB5 := Lib.hid (blk_ext HB4.out hE5)
          have d0 := blk_cell HBT5.out (i := 0) rfl
          have d1 := blk_cell HBT5.out (i := 1) rfl
          have d2 := blk_cell HBT5.out (i := 2) rfl
          have e3 := blk_cell HBT5.out (i := 3) rfl
          have b0 := blk_cell HB5.out (i := 0) rfl
          have e1 := blk_cell HB5.out (i := 1) rfl
          clear hE5 d3 b1 HX4 HA4 HBT4 HB4 HBO4
          go_wp2_with fail
          refine (HBH.out x1 c _ HX5.out hx1 hcN).mono ?_
          rintro e w6 ⟨v6, rfl, ho6, hE6⟩
          obtain ⟨a6, c6, rfl, _⟩ := id ho6.row
          have hb768 := HBN.out (x1, (c : Int))
          obtain ⟨Y, hY⟩ : ∃ Y, BF (x1, (c : Int)) = Y := ⟨_, rfl⟩
          rw [hY] at ho6 hb768 ⊢
          have HY := Lib.hid hY
          have hA6 := (HA5.out.retag 8).ext hE6
          have ho8 := OwnT.fresh τ 8 ho6
          have HC0 := Lib.hid (OwnT.nil (tagAt τ w5.heap.size 8) 5 w6 (M + 2) 3 1)
          have HE8 := Lib.hid ho8.ent
          have HAI := Lib.hid hA6
          clear hE6 ho6 hY hA6 ho8 d0 d1 d2 e3 b0 e1 HX5 HA5 HBT5 HB5
          obtain ⟨H5, hH5⟩ : ∃ x, w5.heap.size = x := ⟨_, rfl⟩
          rw [hH5] at HE8 HC0 HAI
          clear hH5
          go_wp2_with fail
          obtain ⟨wo, rfl⟩ : ∃ wo : World, wo = wr := ⟨_, rfl⟩
          obtain ⟨G0, rfl⟩ : ∃ G0 : Nat, G0 = gk := ⟨_, rfl⟩
          go_loopg [112, 17] Y.length (fun g x y wq => ∃ (j : Nat) (τ' : Nat → Nat) (sp' : Value) (X' : List Sp2) (cur : List Int) (al : Option Addr) (cl : Nat), g + j = Y.length ∧ x = .int .i64 (j : Int) ∧ y = .slice al j cl ∧ cur.length = j ∧
            ABox τ' (M + 2) (M + 1) M w2 wq sp' nx st (I.length : Int) (k : Int) X' L T ∧ XInv BF (fun x => 0 ≤ x.1 ∧ x.1 < (C : Int) ∧ 0 ≤ x.2 ∧ x.2 < (N : Int)) I X' L cur j ∧ X'[L.length]? = some (x1, (c : Int)) ∧ X'.take L.length = X.take L.length ∧
            OwnT τ' 5 wq (M + 2) 3 1 (.slice al j cl) j (cur.map (.int .i64)) ∧ Ent τ' 8 wq (fun z => z.ownsRow H5 49 2 (.slice a6 Y.length c6) Y.length (Y.flatMap spc)))
          case atStart => exact ⟨0, _, _, X, [], none, 0, by omega, by go_num, rfl, rfl, HAI.out, HXI.out, HXG.out, rfl, HC0.out, HE8.out⟩
          case round =>
            obtain ⟨j, τ', sp', X', cur, al, cl, hgj, rfl, rfl, hcj, hA, hI, hx, hT, hO, hE⟩ := hrel
            have HGJ := Lib.hid hgj
            have HCJ := Lib.hid hcj
            have HXI' := Lib.hid hI
            have HXG' := Lib.hid hx
            have HTT := Lib.hid hT
            have HOO := Lib.hid hO
            have HAA := Lib.hid hA
            have HEE := Lib.hid hE
            clear hgj hcj hx hT HAI HC0 HE8
            by_cases hj : j < Y.length
            · obtain ⟨_, _, e1, hr⟩ := id hE.now.row
              simp only [Value.slice.injEq] at e1
              obtain ⟨rfl, -, rfl⟩ := e1
              obtain ⟨bS, oS, s1, s2⟩ := spotsX_at hr
              obtain rfl := s1 (by omega)
              obtain ⟨c0, c1⟩ := s2 j hj
              have hYj := List.getElem?_eq_getElem hj
              have hym := List.getElem_mem hj
              generalize Y[j] = y at *
              have hyo := HBO.out _ HXO.out y (by rw [HY.out]; exact hym)
              have HYO := Lib.hid hyo
              have HYJ := Lib.hid hYj
              have hx3 := ext_al (Ext.refl wr) (Obj.cells #[.int .i64 y.1, .int .i64 y.2] 49)
              have hb3 := blk_new wr (Obj.cells #[.int .i64 y.1, .int .i64 y.2] 49)
              have HPC := Lib.hid (place_any τ' (M + 2) (M + 1) M w2 _ sp' _ _ _ _ _ _ _ y (hA.ext hx3) (room hI HCN.out hyo))
              have b0 := blk_cell hb3 (i := 0) rfl
              have b1 := blk_cell hb3 (i := 1) rfl
              have HO3 := Lib.hid (hO.ext hx3)
              have HE3 := Lib.hid (hE.ext hx3)
              have hjI : (j : Int) < (Y.length : Int) := by omega
              have hj0 : (0 : Int) ≤ (j : Int) := by omega
              clear hr s1 s2 hx3 hb3 hyo hym hYj hI hA hO hE HAA HEE HOO
              go_wp2_with fail
              generalize wr.alloc (Obj.cells #[.int .i64 y.1, .int .i64 y.2] 49) = W7 at *
              refine HPC.out.mono ?_
              rintro e w7 ⟨n, S', sp7, τ7, rfl, hn, hS, hA7, ht7, hs7, hk7⟩
              obtain ⟨hI7, hx7, hT7⟩ := HXI'.out.put HXG'.out (by rw [HY.out]; exact HYJ.out) HYO.out hn hS
              have HA7 := Lib.hid hA7
              have HI7 := Lib.hid hI7
              have HX7 := Lib.hid hx7
              have HT7 := Lib.hid (hT7.trans HTT.out)
              have ho7 := HO3.out.placed (by omega) (by omega) ht7 hk7
              have HO7 := Lib.hid ho7
              have HE7 := Lib.hid (hk7 8 _ (by omega) (by omega) HE3.out)
              have hx8 := ext_al (Ext.refl w7) (Obj.cells #[.int .i64 (n : Int)] 3)
              have HX8 := Lib.hid hx8
              have HO8 := Lib.hid (ho7.ext hx8)
              have hsz := hA7.m.size
              clear hn hS hA7 ht7 hs7 hk7 hI7 hx7 hT7 ho7 hx8 c0 c1 b0 b1 HPC HO3 HE3
              go_wp2_with (at_builtin; go_must (refine wpl_append rfl rfl Tryd.slIntsG (M + 2) rfl HO8.out.own rfl (Row.oneG _ _ _ _ rfl) (one_int _) (by unfold maxLen; omega) (by omega) (by simp; omega) ?_))
              intro v9 w9 hown9 hg9 hb9 _
              obtain ⟨hA9, hO9, hk9⟩ := (HA7.out.ext HX8.out).app5 HO8.out hg9 hown9 (by rcases hb9 with h | h; exact .inl h; right; rw [h]; simp)
              obtain ⟨a9, c9, rfl, _⟩ := id hown9.row
              have HA9 := Lib.hid hA9
              have HO9 := Lib.hid hO9
              have HE9 := Lib.hid (hk9 _ (HE7.out.ext HX8.out))
              clear hown9 hg9 hb9 hA9 hO9 hk9 HO8
              go_wp2_with fail
              go_roundg (gk - 1)
              case measure => have := HGJ.out; omega
              case rel => exact ⟨j + 1, _, _, S', cur ++ [(n : Int)], a9, c9, by have := HGJ.out; omega, by go_num, rfl, by rw [List.length_append, HCJ.out]; rfl, HA9.out, HI7.out, HX7.out, HT7.out, by rw [List.map_append]; exact HO9.out, HE9.out⟩
            · obtain rfl : j = Y.length := by have := HGJ.out; omega
              have hjI : ¬ (Y.length : Int) < (Y.length : Int) := by omega
              have HRW := Lib.hid (HXI'.out.row HXG'.out (by rw [HY.out]))
              have HTK := Lib.hid (show (X'.take (nL + 1)).map SF = T ++ [SF (x1, (c : Int))] from by
                have hx' := HXG'.out
                rw [HNL.out] at hx'
                have hl := (List.getElem?_eq_some_iff.1 hx').1
                rw [List.take_add_one, hx', List.map_append, ← HNL.out, HTT.out, HTE.out]
                rfl)
              have hAt := hA.t53
              have HUN := Lib.hid (Ent.t55 (hO.ent.mono fun z hz => (show Ints z (.slice al Y.length cl) cur from by
                have h := hz.reads
                unfold Ints
                rw [HCJ.out]
                exact h)))
              obtain ⟨vs, h1, h2⟩ := hAt.m.nx
              obtain ⟨an, cn, rfl, hrn⟩ := id h1.own.row
              have hncap := hrn.le
              have a2 := blk_cell hA.a (i := 2) rfl
              have hx9 := ext_al (Ext.refl wr) (Obj.cells #[.slice al Y.length cl] 38)
              have HX9 := Lib.hid hx9
              have HN9 := Lib.hid (h1.ext hx9)
              have HN1 := Lib.hid h1
              have HN2 := Lib.hid h2
              have HAT := Lib.hid hAt
              have hsz := hA.m.size
              rw [HNL.out] at HN9 a2
              have hL20 : nL ≤ 20000 := by omega
              clear hI hA hO hE hAt h1 h2 hrn hx9 HAA HEE HOO
              go_wp2_with (at_builtin; go_must (refine wpl_append rfl rfl Tryd.slLists (M + 2) rfl HN9.out.own rfl (Row.oneG _ _ _ _ rfl) (by simp [Value.oneCell']) (by unfold maxLen; omega) (by omega) (by simp; omega) ?_))
              intro v10 w10 hown10 hg10 hb10 _
              obtain ⟨hb10', τ10, hA10⟩ := HAT.out.pushNx HX9.out HN1.out HN2.out HUN.out hown10 (by rw [HNL.out]) rfl (by rw [HNL.out]; exact hg10) (by rw [HNL.out]; rcases hb10 with h | h; exact .inl h; right; rw [h]; simp)
              obtain ⟨a10, c10, rfl, _⟩ := id hown10.row
              have c2' := blk_cell hb10' (i := 2) rfl
              have f2' := blk_free hb10' 2
              have HA10 := Lib.hid hA10
              clear hown10 hg10 hb10 hb10' hA10 HN1 HN2 HUN HN9 HAT a2
              go_upto_region 29 with fail
              generalize w10.setCell ⟨M + 1, 2, none⟩ (.slice a10 (nL + 1) c10) = W10 at *
              have HTL := Lib.hid (show T.length = nL from by
                rw [← HTE.out, List.length_map, List.length_take, HNX.out, HNL.out]
                omega)
              obtain ⟨at', ct, rfl, hrt⟩ := id HA10.out.m.st.own.row
              have htcap := hrt.le
              have a3 := blk_cell HA10.out.a (i := 3) rfl
              have hxA := ext_al (Ext.refl W10) (Obj.cells #[.int .i64 (SF (x1, (c : Int)))] 3)
              have HXA := Lib.hid hxA
              have hoA := HA10.out.m.st.own
              have hszA := HA10.out.m.size
              rw [HTL.out] at hoA a3 htcap
              have HOA := Lib.hid (own_ext hoA hxA)
              clear hrt hxA hoA c2' f2'
              go_wp2_with (at_builtin; go_must (refine wpl_append rfl rfl Tryd.slIntsG (M + 2) rfl HOA.out rfl (Row.oneG _ _ _ _ rfl) (one_int _) (by unfold maxLen; omega) (by omega) (by simp; omega) ?_))
              intro v11 w11 hown11 hg11 hb11 _
              obtain ⟨hb11', τ11, hA11⟩ := HA10.out.pushSt (x := SF (x1, (c : Int))) HXA.out hown11 (by rw [HTL.out]) rfl (by rw [HTL.out]; exact hg11) (by rw [HTL.out]; rcases hb11 with h | h; exact .inl h; right; rw [h]; simp)
              obtain ⟨a11, c11, rfl, _⟩ := id hown11.row
              have c3' := blk_cell hb11' (i := 3) rfl
              have f3' := blk_free hb11' 3
              have HA11 := Lib.hid hA11
              clear hown11 hg11 hb11 hb11' hA11 HOA a3
              go_wp2_with fail
              go_roundg (G0 - 1)
              case measure => have := HGI.out; have := HNL.out; omega
              case rel => exact ⟨nL + 1, _, _, _, _, X', L ++ [cur], by have := HGI.out; have := HNL.out; omega, by go_num, by rw [List.length_append, HNL.out]; rfl, by rw [HTK.out]; exact HA11.out, HRW.out⟩
        · have hLe : L.length = X.length := by omega
          have HDN := Lib.hid (hI.last hLe)
          have HTX := Lib.hid (show T = X.map SF from by rw [← hTe, hLe, List.take_length])
          have hiI : ¬ (L.length : Int) < (X.length : Int) := by omega
          obtain ⟨ax, cx, rfl, _⟩ : ∃ a c, nx = .slice a L.length c ∧ True := by
            obtain ⟨vs, h1, _⟩ := hA.m.nx
            obtain ⟨a, c, e, _⟩ := h1.own.row
            exact ⟨a, c, e, trivial⟩
          obtain ⟨at', ct, rfl, _⟩ := id hA.m.st.own.row
          have hW2 := HX2.out.trans hA.e
          have hR := blk_ext HR.out hW2
          have a1' := blk_cell hA.a (i := 1) rfl
          have a2' := blk_cell hA.a (i := 2) rfl
          have a3' := blk_cell hA.a (i := 3) rfl
          have a4' := blk_cell hA.a (i := 4) rfl
          have r0 := blk_cell hR (i := 0) rfl
          have r1 := blk_cell hR (i := 1) rfl
          have r2 := blk_cell hR (i := 2) rfl
          have r3 := blk_cell hR (i := 3) rfl
          have r4 := blk_cell hR (i := 4) rfl
          have f0 := blk_free hR 0
          have f1 := blk_free hR 1
          have f2 := blk_free hR 2
          have f3 := blk_free hR 3
          have f4 := blk_free hR 4
          have hRM : w.heap.size + 1 < M + 2 := by
            have h1 := blk_lt HR.out
            have h2 := HX2.out.size
            rw [HMS.out] at h2
            omega
          have HRM := Lib.hid hRM
          have HEW := Lib.hid (HE.out.trans hW2)
          clear hrsp hI hA hTe hW2 hR hLe hRM
          go_wp2_with fail
          refine bodyPost_ret (v := .tuple #[.agg #[.slice asp X.length csp, .int .i64 (I.length : Int), .slice ax L.length cx, .slice at' T.length ct, .int .i64 (k : Int)], .int .i64 0]) (by simp [results, Tryd.results7, go_sem, r0, r1, r2, r3, r4]) rfl ?_
          obtain rfl := HTX.out
          have hrm := HRM.out
          refine ⟨τ, _, _, _, rfl, X, L, GMem.base ((((((HA.out.m.low ?_ _).low ?_ _).low ?_ _).low ?_ _).low ?_ _)) (by omega), HDN.out, ext_st (ext_st (ext_st (ext_st (ext_st HEW.out ?_ _) ?_ _) ?_ _) ?_ _) ?_ _⟩
          all_goals first | exact hrm | exact Nat.le_succ _

end Go.Proofs.YtbmimdnpchldlaaDoor

namespace Go.Proofs.YtbmimdnpchldlaaDoor
open Go.RowKit

theorem xdone_gok {m : Md} {P : List Tm} {t : Tm} {X : List Sp2} {L : List (List Int)} (hk : TkOk m P t) (hX : XDone (bX m P t) (oX m t) (iX m P t) X L) (C : Nat) (hC : countL m.vars = (C : Int)) (hCN : C * 2 ^ cntA t.flat ≤ 20000) :
    GOk X.length L (X.map (sX m P t)) ((iX m P t).length : Int) (cntA t.flat) where
  nx := hX.len
  st := by simp
  max := Nat.le_trans (pairs_bound C (2 ^ cntA t.flat) hX.nd fun x hx => by
    obtain ⟨h1, h2, h3, h4⟩ := hX.ok x hx
    exact ⟨h1, by rw [← hC]; exact h2, h3, h4⟩) hCN
  i0 := by omega
  i1 := by have := hX.ilen; omega
  m6 := hk.ff.cnt
  ins := hX.inside
  bits := by
    intro s hs
    obtain ⟨x, _, rfl⟩ := List.mem_map.1 hs
    unfold sX
    have := meUp_lt t.flat (t.ends 0) (tvT (letS P (valsL m.vars x.1)) x.2.toNat t 0) t.flat.length (Nat.le_refl _)
    rw [List.take_length] at this
    refine ⟨by omega, ?_⟩
    have e : ((2 ^ cntA t.flat : Nat) : Int) = (2 : Int) ^ cntA t.flat := by push_cast; rfl
    omega

theorem spots_cells {w : World} {a : Option Addr} {n c : Nat} {X : List Sp2} (h : Spots w (.slice a n c) X) : n ≤ c ∧ c ≤ maxLen ∧ ∃ b off, (0 < X.length → a = some ⟨b, off, none⟩) ∧ ∀ (i : Nat) (hi : i < X.length), w.cell? ⟨b, off + i * 2, none⟩ = some (.int .i64 X[i].1) ∧ w.cell? ⟨b, off + i * 2 + 1, none⟩ = some (.int .i64 X[i].2) := by
  obtain ⟨a', c', e, hr⟩ := h
  simp only [Value.slice.injEq] at e
  obtain ⟨rfl, rfl, rfl⟩ := e
  exact ⟨hr.le, hr.max, spotsX_at hr⟩

end Go.Proofs.YtbmimdnpchldlaaDoor

namespace Go.Proofs.YtbmimdnpchldlaaDoor
open Go.RowKit

/-- A run that goes round: n states, the loop begins at back. -/
structure RunL (m : Md) (n back : Nat) (x : Nat → Int) : Prop where
  hb : back < n
  first : x 0 = m.first
  step : ∀ i, i < n → NextP m (x i) (x (nxt n back i))

/-- Its word. -/
def wdOf (m : Md) (P : List Tm) (n back : Nat) (x : Nat → Int) : Wd := ⟨(List.range n).map fun i => letS P (valsL m.vars (x i)), back⟩
theorem wdOf_n (m : Md) (P : List Tm) (n back : Nat) (x : Nat → Int) : (wdOf m P n back x).n = n := by simp [wdOf, Wd.n]
theorem wdOf_get (m : Md) (P : List Tm) {n back : Nat} (x : Nat → Int) {i : Nat} (hi : i < n) : (wdOf m P n back x).ls.getD i [] = letS P (valsL m.vars (x i)) := by
  simp [wdOf, List.getD, hi]

/-- Each run keeps the formula. -/
def HoldsR (m : Md) (P : List Tm) (t : Tm) : Prop := ∀ n back x, RunL m n back x → Sat (wdOf m P n back x) t 0

section
variable {m : Md} {P : List Tm} {t : Tm} (hk : TkOk m P t) {X : List Sp2} {L : List (List Int)} (hX : XDone (bX m P t) (oX m t) (iX m P t) X L)
include hk hX

theorem init_at {s : Nat} (hs : s < (iX m P t).length) : ∃ c : Nat, X[s]? = some (m.first, (c : Int)) ∧ c < 2 ^ cntA t.flat ∧ (tvT (letS P (valsL m.vars m.first)) c t 0).head?.getD false = false := by
  have _ := hk
  have h1 : X[s]? = (iX m P t)[s]? := by
    rw [← hX.pre, List.getElem?_take, if_pos hs]
  have h2 : (iX m P t)[s]? = some ((iX m P t)[s]) := List.getElem?_eq_getElem hs
  have h3 : (iX m P t)[s] ∈ iX m P t := by simp
  generalize (iX m P t)[s] = y at *
  unfold iX begL at h3
  obtain ⟨c, hc, rfl⟩ := List.mem_map.1 h3
  have h4 := List.mem_filter.1 hc
  refine ⟨c, h1.trans h2, List.mem_range.1 h4.1, ?_⟩
  simpa using h4.2

theorem edge_at {i k : Nat} {x y : Sp2} (hx : X[i]? = some x) (hy : X[k]? = some y) : Edge L i k ↔ NextP m x.1 y.1 ∧ folX m P t x.1 x.2.toNat y.1 y.2.toNat = true := by
  have _ := hk
  have hyo := hX.ok y (List.mem_of_getElem? hy)
  rw [hX.edge hx]
  constructor
  · rintro ⟨z, hz, hm⟩
    obtain rfl := Option.some.inj (hy.symm.trans hz)
    unfold bX behL at hm
    obtain ⟨n, hn, hm⟩ := List.mem_flatMap.1 hm
    unfold behN at hm
    obtain ⟨c, hc, rfl⟩ := List.mem_map.1 hm
    exact ⟨((nextL_ok m x.1).mem n).1 hn, by simpa using (List.mem_filter.1 hc).2⟩
  · rintro ⟨h1, h2⟩
    refine ⟨y, hy, ?_⟩
    unfold bX behL
    refine List.mem_flatMap.2 ⟨y.1, ((nextL_ok m x.1).mem y.1).2 h1, ?_⟩
    unfold behN
    obtain ⟨_, _, h3, h4⟩ := hyo
    refine List.mem_map.2 ⟨y.2.toNat, List.mem_filter.2 ⟨List.mem_range.2 (by omega), h2⟩, ?_⟩
    exact Prod.ext rfl (by show ((y.2.toNat : Nat) : Int) = y.2; omega)

/-- A fair part that is reached is a run that does not keep the formula. -/
theorem fair_breaks {mm : Nat} (hF : FairR L (bitsN (X.map (sX m P t))) (cntA t.flat) X.length (iX m P t).length mm) : ¬ HoldsR m P t := by
  obtain ⟨hmn, hf, s, hs, hr⟩ := hF
  obtain ⟨st, hst⟩ := Way.of_reach hr
  obtain ⟨l, hl0, hl, hlb⟩ := hf.round
  obtain ⟨c0, hc0, hc1, hc2⟩ := init_at hk hX hs
  have hsl : s < X.length := (List.getElem?_eq_some_iff.1 hc0).1
  have hW := hst.app hl
  obtain ⟨xs, hxs⟩ : ∃ xs, xs = st ++ l := ⟨_, rfl⟩
  have hn0 : st.length < xs.length := by rw [hxs, List.length_append]; omega
  have hin : ∀ i, i < xs.length → xs.getD i 0 < X.length := by
    intro i hi
    rw [hxs] at hi
    have h1 : (st ++ l)[i] ∈ st ++ l := by simp
    have h2 := hW.all _ h1
    have h3 := reach_in hX.inside hX.len h2.1 hsl
    rw [hxs, List.getD, List.getElem?_eq_getElem hi]
    exact h3
  have hedge : ∀ i, i < xs.length → Edge L (xs.getD i 0) (xs.getD (nxt xs.length st.length i) 0) := by
    intro i hi
    have h1 := hW.edge i (by rw [← hxs]; exact hi)
    rw [← hxs] at hW
    simp only [← hxs] at h1
    have e1 : xs.getD i 0 = xs[i] := by simp [List.getD, hi]
    rw [e1]
    unfold nxt
    by_cases h2 : i + 1 < xs.length
    · rw [dif_pos h2] at h1
      rw [if_pos h2, show xs.getD (i + 1) 0 = xs[i + 1] by simp [List.getD, h2]]
      exact h1
    · rw [dif_neg h2] at h1
      rw [if_neg h2]
      have hh := hl.head0
      have e2 : xs.getD st.length 0 = mm := by
        rw [hxs, List.getD, List.getElem?_append_right (Nat.le_refl _), Nat.sub_self]
        cases l with
        | nil => simp at hl0
        | cons y r => simp at hh; subst hh; rfl
      rw [e2]
      exact h1
  obtain ⟨y, hy⟩ : ∃ y : Nat → Sp2, ∀ i, i < xs.length → X[xs.getD i 0]? = some (y i) := by
    refine ⟨fun i => X.getD (xs.getD i 0) (0, 0), fun i hi => ?_⟩
    have h := hin i hi
    show X[xs.getD i 0]? = some (X.getD (xs.getD i 0) (0, 0))
    generalize xs.getD i 0 = q at *
    rw [List.getD, List.getElem?_eq_getElem h]
    rfl
  have hlt : st.length < xs.length := hn0
  have hx0 : xs.getD 0 0 = s := by
    have hh := hW.head0
    rw [← hxs] at hh
    have hp : 0 < xs.length := by omega
    rw [List.getElem?_append_left hp] at hh
    simp [List.getD, hh]
  have hy0 : y 0 = (m.first, (c0 : Int)) := by
    have := hy 0 (by omega)
    rw [hx0, hc0] at this
    exact (Option.some.inj this).symm
  have hstep : ∀ i, i < xs.length → NextP m (y i).1 (y (nxt xs.length st.length i)).1 ∧ folX m P t (y i).1 (y i).2.toNat (y (nxt xs.length st.length i)).1 (y (nxt xs.length st.length i)).2.toNat = true :=
    fun i hi => (edge_at hk hX (hy i hi) (hy _ (nxt_lt hlt))).1 (hedge i hi)
  intro hH
  have hrun : RunL m xs.length st.length fun i => (y i).1 := ⟨hlt, by show (y 0).1 = _; rw [hy0], fun i hi => (hstep i hi).1⟩
  have hsat := hH _ _ _ hrun
  obtain ⟨W, hWd⟩ : ∃ W, wdOf m P xs.length st.length (fun i => (y i).1) = W := ⟨_, rfl⟩
  have hWn : W.n = xs.length := by rw [← hWd, wdOf_n]
  have hWb : W.back = st.length := by rw [← hWd]; rfl
  have hWl : ∀ i, i < xs.length → W.ls.getD i [] = letS P (valsL m.vars (y i).1) := fun i hi => by rw [← hWd]; exact wdOf_get m P _ hi
  rw [hWd] at hsat
  have hbW : W.back < W.n := by omega
  have hline := (line_iff hbW hk.ff.ok hk.ff.fit (N := cntA t.flat) rfl (c := fun i => (y i).2.toNat) (fun i hi => by
    obtain ⟨_, _, h3, h4⟩ := hX.ok _ (List.mem_of_getElem? (hy i (by omega)))
    omega)).1 ⟨fun i hi => by
      rw [hWn] at hi
      unfold folN tvW
      rw [hWn, hWb, hWl i hi, hWl _ (nxt_lt hlt)]
      exact (hstep i hi).2, by
      rw [full_iff (macc_lt (fun j => metN_lt W t _ j) _ _)]
      intro b hb
      obtain ⟨i, hi, hbit⟩ := hlb b hb
      obtain ⟨j, hj, e⟩ := List.mem_iff_getElem.1 hi
      have hji : st.length + j < xs.length := by rw [hxs, List.length_append]; omega
      refine (macc_bit _ _ _ _).2 ⟨st.length + j, by omega, by omega, ?_⟩
      have hxi : xs.getD (st.length + j) 0 = i := by
        rw [hxs, List.getD, List.getElem?_append_right (by omega), Nat.add_sub_cancel_left, List.getElem?_eq_getElem hj, e]
        rfl
      have hyi := hy _ hji
      rw [hxi] at hyi
      unfold metN tvW
      rw [hWl _ hji]
      have e2 : bitsN (X.map (sX m P t)) i = meUp t.flat (t.ends 0) (tvT (letS P (valsL m.vars (y (st.length + j)).1)) (y (st.length + j)).2.toNat t 0) t.flat.length := by
        unfold bitsN
        rw [List.getD, List.getElem?_map, hyi]
        show (sX m P t _).toNat = _
        unfold sX
        simp
      rw [e2] at hbit
      exact hbit⟩
  have htv := claims_tv hbW hk.ff.ok hk.ff.fit (N := cntA t.flat) rfl hline 0 t (subs_head t) 0 (by omega)
  unfold tvW at htv
  rw [hWl 0 (by omega)] at htv
  simp only [hy0] at htv
  have e3 : (tvT (letS P (valsL m.vars m.first)) ((c0 : Int)).toNat t 0).getD 0 false = false := by
    rw [show ((c0 : Int)).toNat = c0 by omega]
    cases hv : tvT (letS P (valsL m.vars m.first)) c0 t 0 with
    | nil => rfl
    | cons b r => rw [hv] at hc2; simpa using hc2
  rw [e3] at htv
  rw [← satB_iff, ← htv] at hsat
  cases hsat

/-- A run that does not keep the formula is a fair part that is reached. -/
theorem breaks_fair (hH : ¬ HoldsR m P t) : ∃ mm, FairR L (bitsN (X.map (sX m P t))) (cntA t.flat) X.length (iX m P t).length mm := by
  unfold HoldsR at hH
  simp only [Classical.not_forall] at hH
  obtain ⟨n, back, x, hr, hns⟩ := hH
  obtain ⟨W, hWd⟩ : ∃ W, wdOf m P n back x = W := ⟨_, rfl⟩
  have hWn : W.n = n := by rw [← hWd, wdOf_n]
  have hWb : W.back = back := by rw [← hWd]; rfl
  have hWl : ∀ i, i < n → W.ls.getD i [] = letS P (valsL m.vars (x i)) := fun i hi => by rw [← hWd]; exact wdOf_get m P _ hi
  rw [hWd] at hns
  have hb := hr.hb
  have hbW : W.back < W.n := by omega
  obtain ⟨c, hc⟩ : ∃ c : Nat → Nat, ∀ i, c i = clU (ahB W t) (cntA t.flat) i := ⟨_, fun _ => rfl⟩
  have hclt : ∀ i, c i < 2 ^ cntA t.flat := fun i => by rw [hc]; exact clU_lt _ _ _
  obtain ⟨hfol, hmet⟩ := (line_iff hbW hk.ff.ok hk.ff.fit (N := cntA t.flat) rfl (c := c) (fun i _ => hclt i)).2 fun i _ => hc i
  have htv := claims_tv hbW hk.ff.ok hk.ff.fit (N := cntA t.flat) rfl (c := c) (fun i _ => hc i) 0 t (subs_head t) 0 (by omega)
  have hpos := t.size_pos
  have hy0 : (x 0, (c 0 : Int)) ∈ iX m P t := by
    unfold iX begL
    refine List.mem_map.2 ⟨c 0, List.mem_filter.2 ⟨List.mem_range.2 (hclt 0), ?_⟩, by rw [hr.first]⟩
    unfold tvW at htv
    rw [hWl 0 (by omega), hr.first] at htv
    have e : satB W t 0 = false := by
      cases h : satB W t 0
      · rfl
      · exact absurd (satB_iff.1 h) hns
    rw [e] at htv
    cases hv : tvT (letS P (valsL m.vars m.first)) (c 0) t 0 with
    | nil => rfl
    | cons b r => rw [hv] at htv; simp at htv; simp [htv]
  have hfx : ∀ i, i < n → folX m P t (x i) (c i) (x (nxt n back i)) (c (nxt n back i)) = true := fun i hi => by
    have h1 := hfol i (by omega)
    unfold folN tvW at h1
    rw [hWn, hWb, hWl i hi, hWl _ (nxt_lt hb)] at h1
    exact h1
  have hI : ∀ k, k < (iX m P t).length → X[k]? = (iX m P t)[k]? := fun k hk2 => by rw [← hX.pre, List.getElem?_take, if_pos hk2]
  have hmemB : ∀ i, i < n → (x (nxt n back i), (c (nxt n back i) : Int)) ∈ bX m P t (x i, (c i : Int)) := by
    intro i hi
    unfold bX behL
    refine List.mem_flatMap.2 ⟨x (nxt n back i), ((nextL_ok m (x i)).mem _).2 (hr.step i hi), ?_⟩
    unfold behN
    exact List.mem_map.2 ⟨c (nxt n back i), List.mem_filter.2 ⟨List.mem_range.2 (hclt _), hfx i hi⟩, rfl⟩
  have hclosed : ∀ (a : Nat) (y z : Sp2), X[a]? = some y → z ∈ bX m P t y → ∃ b : Nat, X[b]? = some z := by
    intro a y z ha hz
    have hal := (List.getElem?_eq_some_iff.1 ha).1
    have hlj : L[a]? = some (L[a]'(by rw [hX.len]; exact hal)) := List.getElem?_eq_getElem _
    have hL := hX.lead a _ y hlj ha
    obtain ⟨q, hq, e⟩ := List.mem_iff_getElem.1 hz
    obtain ⟨b, _, hb2⟩ := hL.2 q _ z (List.getElem?_eq_getElem (by rw [hL.1]; exact hq)) (by rw [List.getElem?_eq_getElem hq, e])
    exact ⟨b, hb2⟩
  have hall : ∀ i, i < n → ∃ a : Nat, X[a]? = some (x i, (c i : Int)) := by
    intro i
    induction i with
    | zero =>
      intro _
      obtain ⟨k, hk2, e⟩ := List.mem_iff_getElem.1 hy0
      exact ⟨k, by rw [hI k hk2, List.getElem?_eq_getElem hk2, e]⟩
    | succ i ih =>
      intro hi
      obtain ⟨a, ha⟩ := ih (by omega)
      have h1 := hmemB i (by omega)
      have e : nxt n back i = i + 1 := by unfold nxt; rw [if_pos hi]
      rw [e] at h1
      exact hclosed a _ _ ha h1
  obtain ⟨id, hid⟩ : ∃ id : Nat → Nat, ∀ i, i < n → X[id i]? = some (x i, (c i : Int)) :=
    ⟨fun i => if h : i < n then (hall i h).choose else 0, fun i hi => by simp only [dif_pos hi]; exact (hall i hi).choose_spec⟩
  have hed : ∀ i, i < n → Edge L (id i) (id (nxt n back i)) := fun i hi => (hX.edge (hid i hi)).2 ⟨_, hid _ (nxt_lt hb), hmemB i hi⟩
  have hre : ∀ j i, i < n → Reach L (id i) (id (nxtN n back j i)) := by
    intro j
    induction j with
    | zero => intro i _; exact .refl _
    | succ j ih => intro i hi; exact (Reach.edge (hed i hi)).trans (ih _ (nxt_lt hb))
  have hsame : ∀ i, back ≤ i → i < n → Same L (id back) (id i) := by
    intro i h1 h2
    obtain ⟨j, hj⟩ := nxtN_reach (n := n) (back := back) (i := back) (k := i) hb (by omega) h2 hb
    obtain ⟨k, hk2⟩ := nxtN_reach (n := n) (back := back) (i := i) (k := back) h2 (by omega) hb hb
    have g1 := hre j back hb
    have g2 := hre k i h2
    rw [hj] at g1
    rw [hk2] at g2
    exact ⟨g1, g2⟩
  have hid0 : id 0 < (iX m P t).length := by
    obtain ⟨k, hk2, e⟩ := List.mem_iff_getElem.1 hy0
    have := nodup_at hX.nd (hid 0 (by omega)) (j := k) (by rw [hI k hk2, List.getElem?_eq_getElem hk2, e])
    omega
  obtain ⟨mm, hm1, hm2⟩ : ∃ mm, Same L (id back) mm ∧ ∀ b, Same L (id back) b → mm ≤ b := by
    have key : ∀ k, ∀ a, a ≤ k → Same L (id back) a → ∃ mm, Same L (id back) mm ∧ ∀ b, Same L (id back) b → mm ≤ b := by
      intro k
      induction k with
      | zero => intro a ha hs; exact ⟨a, hs, fun b _ => by omega⟩
      | succ k ih =>
        intro a ha hs
        by_cases hq : ∃ b, b < a ∧ Same L (id back) b
        · obtain ⟨b, hb1, hb2⟩ := hq
          exact ih b (by omega) hb2
        · exact ⟨a, hs, fun b hb2 => Classical.byContradiction fun hlt => hq ⟨b, by omega, hb2⟩⟩
    exact key _ _ (Nat.le_refl _) (Same.refl L _)
  have hidl : ∀ i, i < n → id i < X.length := fun i hi => (List.getElem?_eq_some_iff.1 (hid i hi)).1
  obtain ⟨j0, hj0⟩ := nxtN_reach (n := n) (back := back) (i := 0) (k := back) (by omega) (by omega) hb hb
  have hr0 := hre j0 0 (by omega)
  rw [hj0] at hr0
  refine ⟨mm, reach_in hX.inside hX.len hm1.1 (hidl back hb), ⟨fun b hb2 => hm2 b (hm1.trans hb2), ?_, ?_⟩, id 0, hid0, hr0.trans hm1.1⟩
  · exact ⟨id back, id (nxt n back back), hidl back hb, hm1.symm, hed back hb, hm1.symm.trans (hsame _ (by unfold nxt; split <;> omega) (nxt_lt hb))⟩
  · intro b hbN
    rw [full_iff (macc_lt (fun j => metN_lt W t _ j) _ _)] at hmet
    obtain ⟨j, h1, h2, h3⟩ := (macc_bit _ _ _ _).1 (hmet b hbN)
    rw [hWb] at h1
    rw [hWn] at h2
    refine ⟨id j, hidl j h2, hm1.symm.trans (hsame j h1 h2), ?_⟩
    unfold bitsN
    rw [List.getD, List.getElem?_map, hid j h2]
    show ((sX m P t (x j, (c j : Int))).toNat).testBit b = true
    unfold metN tvW at h3
    rw [hWl j h2] at h3
    unfold sX
    simpa using h3

/-- There is a fair part just if some run does not keep the formula. -/
theorem fair_iff : (∃ mm, FairR L (bitsN (X.map (sX m P t))) (cntA t.flat) X.length (iX m P t).length mm) ↔ ¬ HoldsR m P t :=
  ⟨fun ⟨_, h⟩ => fair_breaks hk hX h, breaks_fair hk hX⟩
end

end Go.Proofs.YtbmimdnpchldlaaDoor

namespace Go.Proofs.YtbmimdnpchldlaaDoor

/-- A lasso of states from a state. -/
structure LasS (m : Md) (c : Int) (n back : Nat) (x : Nat → Int) : Prop where
  hb : back < n
  first : x 0 = c
  step : ∀ i, i < n → NextP m (x i) (x (nxt n back i))
/-- What comes, one behind the other. -/
def SeqS (m : Md) (c : Int) (z : Nat → Int) : Prop := ∃ n back x, LasS m c n back x ∧ ∀ k, z k = x (nxtN n back k 0)

theorem nxtN_succ (n back : Nat) (k i : Nat) : nxtN n back (k + 1) i = nxt n back (nxtN n back k i) := by rw [nxtN_add]; rfl

section
variable {m : Md} {c d : Int} {z : Nat → Int}
theorem SeqS.zero (h : SeqS m c z) : z 0 = c := by
  obtain ⟨n, back, x, hl, hz⟩ := h
  rw [hz]; exact hl.first
theorem SeqS.step (h : SeqS m c z) (k : Nat) : NextP m (z k) (z (k + 1)) := by
  obtain ⟨n, back, x, hl, hz⟩ := h
  have hb := hl.hb
  rw [hz, hz, nxtN_succ]
  exact hl.step _ (nxtN_lt hb k 0 (by omega))

theorem nxtN_cons (n back : Nat) : ∀ k i, nxtN (n + 1) (back + 1) k (i + 1) = nxtN n back k i + 1
  | 0, _ => rfl
  | k + 1, i => by
    show nxtN (n + 1) (back + 1) k (nxt (n + 1) (back + 1) (i + 1)) = nxtN n back k (nxt n back i) + 1
    have e : nxt (n + 1) (back + 1) (i + 1) = nxt n back i + 1 := by unfold nxt; split <;> split <;> omega
    rw [e]
    exact nxtN_cons n back k _

theorem SeqS.cons (h : SeqS m d z) (hn : NextP m c d) : SeqS m c fun k => if k = 0 then c else z (k - 1) := by
  obtain ⟨n, back, x, hl, hz⟩ := h
  have hb := hl.hb
  refine ⟨n + 1, back + 1, fun i => if i = 0 then c else x (i - 1), ⟨by omega, rfl, fun i hi => ?_⟩, fun k => ?_⟩
  · by_cases h0 : i = 0
    · subst h0
      have e : nxt (n + 1) (back + 1) 0 = 1 := by unfold nxt; rw [if_pos (by omega)]
      rw [e]
      simp only [if_true, Nat.one_ne_zero, if_false, Nat.sub_self]
      rw [hl.first]
      exact hn
    · obtain ⟨j, rfl⟩ : ∃ j, i = j + 1 := ⟨i - 1, by omega⟩
      have e : nxt (n + 1) (back + 1) (j + 1) = nxt n back j + 1 := by unfold nxt; split <;> split <;> omega
      rw [e]
      simpa using hl.step j (by omega)
  · cases k with
    | zero => simp [nxtN]
    | succ k =>
      have e : nxtN (n + 1) (back + 1) (k + 1) 0 = nxtN n back k 0 + 1 := by
        show nxtN (n + 1) (back + 1) k (nxt (n + 1) (back + 1) 0) = _
        have e : nxt (n + 1) (back + 1) 0 = 0 + 1 := by unfold nxt; rw [if_pos (by omega)]
        rw [e, nxtN_cons]
      rw [e]
      simp [hz]

/-- From where one can stay for ever in what is allowed. -/
def StayS (m : Md) (A : Int → Prop) (c : Int) : Prop := ∃ S : Int → Prop, S c ∧ ∀ d, S d → A d ∧ ∃ e, NextP m d e ∧ S e
/-- From where one can come, through what is allowed, to what is wanted. -/
inductive LeadS (m : Md) (A B : Int → Prop) : Int → Prop
  | here {c : Int} : B c → LeadS m A B c
  | step {c d : Int} : A c → NextP m c d → LeadS m A B d → LeadS m A B c

/-- A state's number. -/
def InN (N : Nat) (c : Int) : Prop := 0 ≤ c ∧ c < (N : Int)
theorem LeadS.inr {N : Nat} {A B : Int → Prop} (hN : ∀ c d, InN N c → NextP m c d → InN N d) (h : LeadS m A B c) : InN N c → LeadS m A (fun d => B d ∧ InN N d) c := by
  induction h with
  | here hb => exact fun hc => .here ⟨hb, hc⟩
  | step ha hn _ ih => exact fun hc => .step ha hn (ih (hN _ _ hc hn))

theorem StayS.seq {N : Nat} {A : Int → Prop} (hN : ∀ c d, InN N c → NextP m c d → InN N d) (hcN : InN N c) (h : StayS m A c) : ∃ z, SeqS m c z ∧ ∀ k, A (z k) := by
  obtain ⟨S, hc, hS⟩ := h
  obtain ⟨f, hf⟩ : ∃ f : Int → Int, ∀ d, S d → NextP m d (f d) ∧ S (f d) := by
    have h2 : ∀ d, ∃ e, S d → NextP m d e ∧ S e := fun d => by
      by_cases hd : S d
      · obtain ⟨e, he⟩ := (hS d hd).2
        exact ⟨e, fun _ => he⟩
      · exact ⟨0, fun h => absurd h hd⟩
    exact ⟨fun d => (h2 d).choose, fun d hd => (h2 d).choose_spec hd⟩
  obtain ⟨y, y0, ys⟩ : ∃ y : Nat → Int, y 0 = c ∧ ∀ k, y (k + 1) = f (y k) := ⟨fun k => Nat.rec c (fun _ v => f v) k, rfl, fun _ => rfl⟩
  have hSy : ∀ k, S (y k) := by
    intro k
    induction k with
    | zero => rw [y0]; exact hc
    | succ k ih => rw [ys]; exact (hf _ ih).2
  have hst : ∀ k, NextP m (y k) (y (k + 1)) := fun k => by rw [ys]; exact (hf _ (hSy k)).1
  have hbd : ∀ k, InN N (y k) := by
    intro k
    induction k with
    | zero => rw [y0]; exact hcN
    | succ k ih => exact hN _ _ ih (hst k)
  have hex : ∃ i j, i < j ∧ y i = y j := by
    apply Classical.byContradiction
    intro hno
    have hnd : ((List.range (N + 1)).map fun k => y k).Nodup := by
      rw [List.Nodup, List.pairwise_map]
      refine List.nodup_range.imp_of_mem fun {a b} _ _ hab e => ?_
      rcases Nat.lt_trichotomy a b with q | q | q
      · exact hno ⟨a, b, q, e⟩
      · exact hab q
      · exact hno ⟨b, a, q, e.symm⟩
    have := nodup_boundN N hnd fun x hx => by
      obtain ⟨k, _, rfl⟩ := List.mem_map.1 hx
      exact hbd k
    simp at this
    omega
  obtain ⟨i, j, hij, e⟩ := hex
  refine ⟨fun k => y (nxtN j i k 0), ⟨j, i, y, ⟨hij, y0, fun k hk => ?_⟩, fun _ => rfl⟩, fun k => (hS _ (hSy _)).1⟩
  unfold nxt
  split
  · exact hst k
  · have : k + 1 = j := by omega
    rw [e, ← this]
    exact hst k

theorem SeqS.stay {A : Int → Prop} (h : SeqS m c z) (j : Nat) (hA : ∀ k, A (z (j + k))) : StayS m A (z j) :=
  ⟨fun d => ∃ k, d = z (j + k), ⟨0, rfl⟩, by
    rintro d ⟨k, rfl⟩
    exact ⟨hA k, z (j + k + 1), h.step _, k + 1, by rw [Nat.add_assoc]⟩⟩
theorem SeqS.lead {A B : Int → Prop} (h : SeqS m c z) : ∀ j i, (∀ k, i ≤ k → k < i + j → A (z k)) → B (z (i + j)) → LeadS m A B (z i)
  | 0, i, _, hB => .here hB
  | j + 1, i, hA, hB => .step (hA i (Nat.le_refl _) (by omega)) (h.step i) (h.lead j (i + 1) (fun k h1 h2 => hA k (by omega) (by omega)) (by rw [show i + 1 + j = i + (j + 1) by omega]; exact hB))
theorem LeadS.seq {A B : Int → Prop} {Q : Int → (Nat → Int) → Prop} (h : LeadS m A B c) (hB : ∀ d, B d → ∃ z, SeqS m d z ∧ Q d z) : ∃ z j d, SeqS m c z ∧ (∀ k, k < j → A (z k)) ∧ B d ∧ Q d (fun k => z (j + k)) := by
  induction h with
  | @here c hc =>
    obtain ⟨z, h1, h2⟩ := hB c hc
    exact ⟨z, 0, c, h1, fun k hk => by omega, hc, by simpa using h2⟩
  | @step c d ha hn _ ih =>
    obtain ⟨z, j, d', h1, h2, h3, h4⟩ := ih
    refine ⟨_, j + 1, d', h1.cons hn, fun k hk => ?_, h3, ?_⟩
    · cases k with
      | zero => exact ha
      | succ k => simpa using h2 k (by omega)
    · have e : (fun k => (fun k => if k = 0 then c else z (k - 1)) (j + 1 + k)) = fun k => z (j + k) := by
        funext k
        show (if j + 1 + k = 0 then c else z (j + 1 + k - 1)) = _
        rw [if_neg (by omega), show j + 1 + k - 1 = j + k by omega]
      rw [e]
      exact h4
theorem LeadS.mono {A B A' B' : Int → Prop} (h : LeadS m A B c) (hA : ∀ d, A d → A' d) (hB : ∀ d, B d → B' d) : LeadS m A' B' c := by
  induction h with
  | here hc => exact .here (hB _ hc)
  | step ha hn _ ih => exact .step (hA _ ha) hn ih
theorem LeadS.trans {A B B' : Int → Prop} (h : LeadS m A B c) (hB : ∀ d, B d → LeadS m A B' d) : LeadS m A B' c := by
  induction h with
  | here hc => exact hB _ hc
  | step ha hn _ ih => exact .step ha hn ih

/-- A ring of steps: one comes to its begin again and again. -/
theorem LeadS.round (hn : NextP m c d) (h : LeadS m (fun _ => True) (fun e => e = c) d) : ∃ z, SeqS m c z ∧ ∀ K, ∃ k, K ≤ k ∧ z k = c := by
  have key : ∀ d, LeadS m (fun _ => True) (fun e => e = c) d → ∃ l : List Int, (l ++ [c])[0]? = some d ∧ ∀ i (hi : i < l.length), NextP m l[i] (if h : i + 1 < l.length then l[i + 1] else c) := by
    intro d h
    induction h with
    | here hc => exact ⟨[], by simp [hc], fun i hi => by simp at hi⟩
    | @step a b _ hn _ ih =>
      obtain ⟨l, h0, h1⟩ := ih
      refine ⟨a :: l, by simp, fun i hi => ?_⟩
      cases i with
      | zero =>
        cases l with
        | nil => simp at h0; subst h0; simpa using hn
        | cons y r => simp at h0; subst h0; simpa using hn
      | succ i => have := h1 i (by simpa using hi); simpa using this
  obtain ⟨l, h0, h1⟩ := key d h
  have hxs : ∀ i (hi : i < (c :: l).length), NextP m (c :: l)[i] (if h : i + 1 < (c :: l).length then (c :: l)[i + 1] else c) := by
    intro i hi
    cases i with
    | zero =>
      cases l with
      | nil => simp at h0; subst h0; simpa using hn
      | cons y r => simp at h0; subst h0; simpa using hn
    | succ i => have := h1 i (by simpa using hi); simpa using this
  obtain ⟨xs, hx⟩ : ∃ xs, c :: l = xs := ⟨_, rfl⟩
  have h00 : xs[0]? = some c := by rw [← hx]; rfl
  have hl0 : 0 < xs.length := by rw [← hx]; simp
  rw [hx] at hxs
  have hst : ∀ i, i < xs.length → NextP m (xs.getD i 0) (xs.getD (nxt xs.length 0 i) 0) := by
    intro i hi
    have h2 := hxs i hi
    rw [List.getD, List.getElem?_eq_getElem hi]
    unfold nxt
    by_cases h3 : i + 1 < xs.length
    · rw [dif_pos h3] at h2
      rw [if_pos h3, List.getD, List.getElem?_eq_getElem h3]
      exact h2
    · rw [dif_neg h3] at h2
      rw [if_neg h3, List.getD, h00]
      exact h2
  refine ⟨fun k => xs.getD (nxtN xs.length 0 k 0) 0, ⟨xs.length, 0, fun i => xs.getD i 0, ⟨hl0, by show xs.getD 0 0 = c; rw [List.getD, h00]; rfl, hst⟩, fun _ => rfl⟩, fun K => ?_⟩
  obtain ⟨j, hj⟩ := nxtN_reach (n := xs.length) (back := 0) (i := nxtN xs.length 0 K 0) (k := 0) (nxtN_lt hl0 K 0 hl0) (by omega) hl0 hl0
  refine ⟨K + j, by omega, ?_⟩
  show xs.getD (nxtN xs.length 0 (K + j) 0) 0 = c
  rw [nxtN_add, hj, List.getD, h00]
  rfl
/-- What comes again and again in a lasso leads back to itself. -/
theorem SeqS.again {A : Int → Prop} (h : SeqS m c z) (hA : ∀ K, ∃ k, K ≤ k ∧ A (z k)) : ∃ k, A (z k) ∧ ∃ j, 0 < j ∧ z (k + j) = z k := by
  obtain ⟨n, back, x, hl, hz⟩ := h
  have hb := hl.hb
  obtain ⟨k, hk, ha⟩ := hA n
  refine ⟨k, ha, n - back, by omega, ?_⟩
  rw [hz, hz]
  have h1 : back ≤ nxtN n back k 0 := by
    have e : k = n + (k - n) := by omega
    rw [e, nxtN_add, nxtN_back n 0 (by omega) (by omega)]
    have := nxtN_min (n := n) (back := back) (k - n) back
    omega
  have h2 := nxtN_lt hb k 0 (by omega)
  rw [nxtN_add]
  generalize nxtN n back k 0 = q at *
  have e2 : n - back = (n - q) + (q - back) := by omega
  rw [e2, nxtN_add, nxtN_back (n - q) q (by omega) (by omega), nxtN_up _ _ (by omega)]
  congr 1
  omega
end

/-! What must hold of all runs. -/
section
variable {m : Md} {P : List Tm}
/-- A proposition at a state. -/
def pS (m : Md) (P : List Tm) (v : Int) (c : Int) : Prop := (letS P (valsL m.vars c)).getD v.toNat false = true

theorem holds_seq {t : Tm} (φ : (Nat → Int) → Prop) (h : ∀ n back x, back < n → (Sat (wdOf m P n back x) t 0 ↔ φ fun k => x (nxtN n back k 0))) : HoldsR m P t ↔ ∀ z, SeqS m m.first z → φ z := by
  constructor
  · rintro hH z ⟨n, back, x, hl, hz⟩
    obtain rfl : z = fun k => x (nxtN n back k 0) := funext hz
    exact (h n back x hl.hb).1 (hH n back x ⟨hl.hb, hl.first, hl.step⟩)
  · intro hH n back x hr
    exact (h n back x hr.hb).2 (hH _ ⟨n, back, x, ⟨hr.hb, hr.first, hr.step⟩, fun _ => rfl⟩)

theorem sat_prop {n back : Nat} {x : Nat → Int} {v : Int} {i : Nat} (hi : i < n) : Sat (wdOf m P n back x) (.n0 13 v) i ↔ pS m P v (x i) := by
  unfold Sat pS
  rw [if_pos rfl, wdOf_get m P x hi]

theorem holds_fin (v : Int) : HoldsR m P (.n1 17 0 (.n0 13 v)) ↔ ∀ z, SeqS m m.first z → ∃ k, pS m P v (z k) :=
  holds_seq (φ := fun z => ∃ k, pS m P v (z k)) fun n back x hb => by
    rw [sat_fin]
    simp only [wdOf_n]
    exact exists_congr fun j => sat_prop (nxtN_lt hb j 0 (by omega))
theorem holds_unt (u v : Int) : HoldsR m P (.n2 15 0 (.n0 13 u) (.n0 13 v)) ↔ ∀ z, SeqS m m.first z → ∃ j, pS m P v (z j) ∧ ∀ k, k < j → pS m P u (z k) :=
  holds_seq (φ := fun z => ∃ j, pS m P v (z j) ∧ ∀ k, k < j → pS m P u (z k)) fun n back x hb => by
    rw [sat_unt]
    simp only [wdOf_n]
    unfold UntilP
    exact exists_congr fun j => and_congr (sat_prop (nxtN_lt hb j 0 (by omega))) (forall_congr' fun k => forall_congr' fun _ => sat_prop (nxtN_lt hb k 0 (by omega)))
theorem holds_rel (u v : Int) : HoldsR m P (.n2 16 0 (.n0 13 u) (.n0 13 v)) ↔ ∀ z, SeqS m m.first z → ∀ j, pS m P v (z j) ∨ ∃ k, k < j ∧ pS m P u (z k) :=
  holds_seq (φ := fun z => ∀ j, pS m P v (z j) ∨ ∃ k, k < j ∧ pS m P u (z k)) fun n back x hb => by
    rw [sat_rel]
    simp only [wdOf_n]
    unfold RelP
    exact forall_congr' fun j => or_congr (sat_prop (nxtN_lt hb j 0 (by omega))) (exists_congr fun k => and_congr Iff.rfl (sat_prop (nxtN_lt hb k 0 (by omega))))
theorem holds_gf (v : Int) : HoldsR m P (.n1 18 0 (.n1 17 0 (.n0 13 v))) ↔ ∀ z, SeqS m m.first z → ∀ j, ∃ k, pS m P v (z (j + k)) :=
  holds_seq (φ := fun z => ∀ j, ∃ k, pS m P v (z (j + k))) fun n back x hb => by
    rw [sat_glo]
    simp only [sat_fin, wdOf_n, ← nxtN_add]
    exact forall_congr' fun j => exists_congr fun k => sat_prop (nxtN_lt hb (j + k) 0 (by omega))
theorem holds_fg (v : Int) : HoldsR m P (.n1 17 0 (.n1 18 0 (.n0 13 v))) ↔ ∀ z, SeqS m m.first z → ∃ j, ∀ k, pS m P v (z (j + k)) :=
  holds_seq (φ := fun z => ∃ j, ∀ k, pS m P v (z (j + k))) fun n back x hb => by
    rw [sat_fin]
    simp only [sat_glo, wdOf_n, ← nxtN_add]
    exact exists_congr fun j => forall_congr' fun k => sat_prop (nxtN_lt hb (j + k) 0 (by omega))

variable {N : Nat} (hN : ∀ c d, InN N c → NextP m c d → InN N d) (hF : InN N m.first) (hT : ∀ c, ∃ d, NextP m c d)
include hN hF

theorem ever_law (v : Int) : HoldsR m P (.n1 17 0 (.n0 13 v)) ↔ ¬ StayS m (fun c => ¬ pS m P v c) m.first := by
  rw [holds_fin]
  constructor
  · intro h hs
    obtain ⟨z, hz, ha⟩ := hs.seq hN hF
    obtain ⟨k, hk⟩ := h z hz
    exact ha k hk
  · intro h z hz
    apply Classical.byContradiction
    intro hno
    refine h ?_
    have := hz.stay (A := fun c => ¬ pS m P v c) 0 fun k hk => hno ⟨0 + k, hk⟩
    rwa [hz.zero] at this

include hT
/-- Each state begins some run. -/
theorem seq_any {c : Int} (hc : InN N c) : ∃ z, SeqS m c z := by
  have _ := hF
  obtain ⟨z, hz, _⟩ := StayS.seq (c := c) (A := fun _ => True) hN hc ⟨fun _ => True, trivial, fun d _ => ⟨trivial, by obtain ⟨e, he⟩ := hT d; exact ⟨e, he, trivial⟩⟩⟩
  exact ⟨z, hz⟩

theorem until_law (u v : Int) : HoldsR m P (.n2 15 0 (.n0 13 u) (.n0 13 v)) ↔ ¬ LeadS m (fun c => ¬ pS m P v c ∧ pS m P u c) (fun c => ¬ pS m P v c ∧ ¬ pS m P u c) m.first ∧ ¬ StayS m (fun c => ¬ pS m P v c ∧ pS m P u c) m.first := by
  rw [holds_unt]
  constructor
  · intro h
    refine ⟨fun hl => ?_, fun hs => ?_⟩
    · obtain ⟨z, j, d, hz, ha, ⟨⟨hb1, hb2⟩, _⟩, hq⟩ := (hl.inr hN hF).seq (Q := fun d z => z 0 = d) fun d hd => by
        obtain ⟨z, hz⟩ := seq_any hN hF hT hd.2
        exact ⟨z, hz, hz.zero⟩
      simp only [Nat.add_zero] at hq
      obtain ⟨i, hi1, hi2⟩ := h z hz
      by_cases hij : i < j
      · exact (ha i hij).1 hi1
      · by_cases e : i = j
        · subst e; rw [hq] at hi1; exact hb1 hi1
        · have := hi2 j (by omega)
          rw [hq] at this
          exact hb2 this
    · obtain ⟨z, hz, ha⟩ := hs.seq hN hF
      obtain ⟨i, hi1, _⟩ := h z hz
      exact (ha i).1 hi1
  · rintro ⟨h1, h2⟩ z hz
    by_cases hall : ∀ k, ¬ pS m P v (z k) ∧ pS m P u (z k)
    · refine absurd ?_ h2
      have := hz.stay (A := fun c => ¬ pS m P v c ∧ pS m P u c) 0 fun k => hall (0 + k)
      rwa [hz.zero] at this
    · obtain ⟨j, hj, hmin⟩ : ∃ j, ¬ (¬ pS m P v (z j) ∧ pS m P u (z j)) ∧ ∀ k, k < j → ¬ pS m P v (z k) ∧ pS m P u (z k) := by
        obtain ⟨j0, hj0⟩ := Classical.not_forall.1 hall
        have key : ∀ b a, a ≤ b → ¬ (¬ pS m P v (z a) ∧ pS m P u (z a)) → ∃ j, ¬ (¬ pS m P v (z j) ∧ pS m P u (z j)) ∧ ∀ k, k < j → ¬ pS m P v (z k) ∧ pS m P u (z k) := by
          intro b
          induction b with
          | zero => intro a ha hna; exact ⟨a, hna, fun k hk => by omega⟩
          | succ b ih =>
            intro a ha hna
            by_cases hq : ∃ k, k < a ∧ ¬ (¬ pS m P v (z k) ∧ pS m P u (z k))
            · obtain ⟨k, hk, hnk⟩ := hq
              exact ih k (by omega) hnk
            · exact ⟨a, hna, fun k hk => Classical.byContradiction fun hn => hq ⟨k, hk, hn⟩⟩
        exact key j0 j0 (Nat.le_refl _) hj0
      by_cases hv : pS m P v (z j)
      · exact ⟨j, hv, fun k hk => (hmin k hk).2⟩
      · refine absurd ?_ h1
        have hu : ¬ pS m P u (z j) := fun hu => hj ⟨hv, hu⟩
        have := hz.lead (A := fun c => ¬ pS m P v c ∧ pS m P u c) (B := fun c => ¬ pS m P v c ∧ ¬ pS m P u c) j 0 (fun k _ hk => hmin k (by omega)) (by rw [Nat.zero_add]; exact ⟨hv, hu⟩)
        rwa [hz.zero] at this

theorem release_law (u v : Int) : HoldsR m P (.n2 16 0 (.n0 13 u) (.n0 13 v)) ↔ ¬ LeadS m (fun c => ¬ pS m P u c) (fun c => ¬ pS m P v c) m.first := by
  rw [holds_rel]
  constructor
  · intro h hl
    obtain ⟨z, j, d, hz, ha, ⟨hb, _⟩, hq⟩ := (hl.inr hN hF).seq (Q := fun d z => z 0 = d) fun d hd => by
      obtain ⟨z, hz⟩ := seq_any hN hF hT hd.2
      exact ⟨z, hz, hz.zero⟩
    simp only [Nat.add_zero] at hq
    rcases h z hz j with h | ⟨k, hk, h⟩
    · rw [hq] at h; exact hb h
    · exact ha k hk h
  · intro h z hz j
    by_cases hv : pS m P v (z j)
    · exact .inl hv
    · right
      apply Classical.byContradiction
      intro hno
      refine h ?_
      have := hz.lead (A := fun c => ¬ pS m P u c) (B := fun c => ¬ pS m P v c) j 0 (fun k _ hk hu => hno ⟨k, by omega, hu⟩) (by rw [Nat.zero_add]; exact hv)
      rwa [hz.zero] at this

theorem again_law (v : Int) : HoldsR m P (.n1 18 0 (.n1 17 0 (.n0 13 v))) ↔ ¬ LeadS m (fun _ => True) (StayS m fun c => ¬ pS m P v c) m.first := by
  have _ := hT
  rw [holds_gf]
  constructor
  · intro h hl
    obtain ⟨z, j, d, hz, _, _, hq⟩ := (hl.inr hN hF).seq (Q := fun _ z => ∀ k, ¬ pS m P v (z k)) fun d hd => hd.1.seq hN hd.2
    obtain ⟨k, hk⟩ := h z hz j
    exact hq k hk
  · intro h z hz j
    apply Classical.byContradiction
    intro hno
    refine h ?_
    have h1 := hz.stay (A := fun c => ¬ pS m P v c) j fun k hk => hno ⟨k, hk⟩
    have := hz.lead (A := fun _ => True) (B := StayS m fun c => ¬ pS m P v c) j 0 (fun _ _ _ => trivial) (by rw [Nat.zero_add]; exact h1)
    rwa [hz.zero] at this

theorem settles_law (v : Int) : HoldsR m P (.n1 17 0 (.n1 18 0 (.n0 13 v))) ↔ ¬ LeadS m (fun _ => True) (fun c => ¬ pS m P v c ∧ ∃ d, NextP m c d ∧ LeadS m (fun _ => True) (fun e => e = c) d) m.first := by
  have _ := hT
  have _ := hN
  have _ := hF
  rw [holds_fg]
  constructor
  · intro h hl
    obtain ⟨z, j, d, hz, _, hd, hq⟩ := hl.seq (Q := fun d z => ∀ K, ∃ k, K ≤ k ∧ z k = d) fun d hd => by
      obtain ⟨_, e, he, hle⟩ := hd
      exact LeadS.round he hle
    obtain ⟨i, hi⟩ := h z hz
    obtain ⟨k, hk, e⟩ := hq i
    have e2 : z (j + k) = d := e
    have := hi (j + k - i)
    rw [show i + (j + k - i) = j + k by omega, e2] at this
    exact hd.1 this
  · intro h z hz
    apply Classical.byContradiction
    intro hno
    refine h ?_
    have hA : ∀ K, ∃ k, K ≤ k ∧ ¬ pS m P v (z k) := by
      intro K
      apply Classical.byContradiction
      intro hn
      exact hno ⟨K, fun k => Classical.byContradiction fun hp => hn ⟨K + k, by omega, hp⟩⟩
    obtain ⟨k, hk, j, hj, e⟩ := hz.again (A := fun c => ¬ pS m P v c) hA
    have h2 := hz.lead (A := fun _ => True) (B := fun e => e = z k) (j - 1) (k + 1) (fun _ _ _ => trivial) (by rw [show k + 1 + (j - 1) = k + j by omega]; exact e)
    have := hz.lead (A := fun _ => True) (B := fun c => ¬ pS m P v c ∧ ∃ d, NextP m c d ∧ LeadS m (fun _ => True) (fun e => e = c) d) k 0 (fun _ _ _ => trivial) (by rw [Nat.zero_add]; exact ⟨hk, z (k + 1), hz.step k, h2⟩)
    rwa [hz.zero] at this
end

end Go.Proofs.YtbmimdnpchldlaaDoor

namespace Go.Proofs.YtbmimdnpchldlaaDoor

/-- From which spots one can stay in what is allowed. -/
def StayI (next : List (List Int)) (al : List Bool) (c : Nat) : Prop := ∃ S : Nat → Prop, S c ∧ ∀ d, S d → al[d]? = some true ∧ ∃ e, Edge next d e ∧ S e
/-- From which spots one can come, through what is allowed, to what is wanted. -/
inductive LeadI (next : List (List Int)) (al wa : List Bool) : Nat → Prop
  | here {c : Nat} : wa[c]? = some true → LeadI next al wa c
  | step {c d : Nat} : al[c]? = some true → Edge next c d → LeadI next al wa d → LeadI next al wa c

structure GInv (next : List (List Int)) (al inn : List Bool) : Prop where
  len : inn.length = al.length
  sub : ∀ c : Nat, inn[c]? = some true → al[c]? = some true
  sup : ∀ c : Nat, StayI next al c → inn[c]? = some true
structure LInv (next : List (List Int)) (al wa inn : List Bool) : Prop where
  len : inn.length = wa.length
  sub : ∀ c : Nat, inn[c]? = some true → LeadI next al wa c
  sup : ∀ c : Nat, wa[c]? = some true → inn[c]? = some true

section
variable {next : List (List Int)} {al wa inn : List Bool}
theorem GInv.start (next : List (List Int)) (al : List Bool) : GInv next al al := ⟨rfl, fun _ h => h, fun c h => by
  obtain ⟨S, hc, hS⟩ := h
  exact (hS c hc).1⟩
theorem GInv.drop (h : GInv next al inn) {c : Nat} (hno : ∀ e, Edge next c e → inn[e]? ≠ some true) : GInv next al (inn.set c false) := by
  refine ⟨by simp [h.len], fun d hd => ?_, fun d hd => ?_⟩
  · rw [List.getElem?_set] at hd
    split at hd
    · split at hd <;> simp at hd
    · exact h.sub d hd
  · rw [List.getElem?_set]
    split
    · rename_i e
      subst e
      obtain ⟨S, hc, hS⟩ := hd
      obtain ⟨_, e, he, hse⟩ := hS c hc
      exact absurd (h.sup e ⟨S, hse, hS⟩) (hno e he)
    · exact h.sup d hd
theorem GInv.done (h : GInv next al inn) (hp : ∀ c : Nat, inn[c]? = some true → ∃ e, Edge next c e ∧ inn[e]? = some true) (c : Nat) : inn[c]? = some true ↔ StayI next al c :=
  ⟨fun hc => ⟨fun d => inn[d]? = some true, hc, fun d hd => ⟨h.sub d hd, hp d hd⟩⟩, h.sup c⟩
theorem LInv.start (next : List (List Int)) (al wa : List Bool) : LInv next al wa wa := ⟨rfl, fun _ h => .here h, fun _ h => h⟩
theorem LInv.add (h : LInv next al wa inn) {c e : Nat} (ha : al[c]? = some true) (he : Edge next c e) (hi : inn[e]? = some true) : LInv next al wa (inn.set c true) := by
  refine ⟨by simp [h.len], fun d hd => ?_, fun d hd => ?_⟩
  · rw [List.getElem?_set] at hd
    split at hd
    · rename_i e2
      subst e2
      exact .step ha he (h.sub e hi)
    · exact h.sub d hd
  · rw [List.getElem?_set]
    have h1 := h.sup d hd
    split
    · rename_i e2
      subst e2
      rw [if_pos (List.getElem?_eq_some_iff.1 h1).1]
    · exact h1
theorem LInv.done (h : LInv next al wa inn) (hp : ∀ c : Nat, al[c]? = some true → ∀ e, Edge next c e → inn[e]? = some true → inn[c]? = some true) (c : Nat) : inn[c]? = some true ↔ LeadI next al wa c :=
  ⟨h.sub c, fun hl => by
    induction hl with
    | here hw => exact h.sup _ hw
    | step ha he _ ih => exact hp _ ha _ he ih⟩
theorem count_drop : ∀ (l : List Bool) (c : Nat), l[c]? = some true → (l.set c false).count true + 1 = l.count true
  | b :: l, 0, h => by simp at h; subst h; simp
  | b :: l, c + 1, h => by
    have := count_drop l c (by simpa using h)
    simp only [List.set_cons_succ, List.count_cons]
    omega
end

/-! States and spots. -/
/-- The next states of all states. -/
def nextA (m : Md) (N : Nat) : List (List Int) := (List.range N).map fun c : Nat => nextL m (c : Int)
theorem nextA_edge {m : Md} {N : Nat} {c d : Nat} : Edge (nextA m N) c d ↔ c < N ∧ NextP m (c : Int) (d : Int) := by
  unfold Edge nextA
  constructor
  · rintro ⟨l, h1, h2⟩
    rw [List.getElem?_map] at h1
    by_cases hc : c < N
    · rw [List.getElem?_range hc] at h1
      simp at h1
      subst h1
      exact ⟨hc, ((nextL_ok m c).mem d).1 h2⟩
    · rw [List.getElem?_eq_none (by simp; omega)] at h1
      cases h1
  · rintro ⟨hc, h⟩
    exact ⟨nextL m c, by rw [List.getElem?_map, List.getElem?_range hc]; rfl, ((nextL_ok m c).mem d).2 h⟩

/-- A set of states, state by state. -/
def MarksS (N : Nat) (l : List Bool) (A : Int → Prop) : Prop := l.length = N ∧ ∀ c : Nat, c < N → (l[c]? = some true ↔ A (c : Int))

section
variable {m : Md} {N : Nat} (hN : ∀ c d, InN N c → NextP m c d → InN N d)
include hN
theorem stay_marks {al inn : List Bool} {A : Int → Prop} (hA : MarksS N al A) (h : ∀ c : Nat, inn[c]? = some true ↔ StayI (nextA m N) al c) (hl : inn.length = N) : MarksS N inn (StayS m A) := by
  refine ⟨hl, fun c hc => (h c).trans ?_⟩
  constructor
  · rintro ⟨S, h1, h2⟩
    refine ⟨fun d => ∃ k : Nat, d = (k : Int) ∧ S k, ⟨c, rfl, h1⟩, ?_⟩
    rintro d ⟨k, rfl, hk⟩
    obtain ⟨g1, e, g2, g3⟩ := h2 k hk
    have hkN : k < N := by have := (List.getElem?_eq_some_iff.1 g1).1; rw [hA.1] at this; exact this
    exact ⟨(hA.2 k hkN).1 g1, (e : Int), (nextA_edge.1 g2).2, e, rfl, g3⟩
  · rintro ⟨S, h1, h2⟩
    refine ⟨fun k => k < N ∧ S (k : Int), ⟨hc, h1⟩, fun k hk => ?_⟩
    obtain ⟨g1, e, g2, g3⟩ := h2 _ hk.2
    have he := hN _ _ ⟨by omega, by omega⟩ g2
    obtain ⟨e', rfl⟩ : ∃ e' : Nat, e = (e' : Int) := ⟨e.toNat, by have := he.1; omega⟩
    have he2 : e' < N := by have := he.2; omega
    exact ⟨(hA.2 k hk.1).2 g1, e', nextA_edge.2 ⟨hk.1, g2⟩, he2, g3⟩
theorem lead_marks {al wa inn : List Bool} {A B : Int → Prop} (hA : MarksS N al A) (hB : MarksS N wa B) (h : ∀ c : Nat, inn[c]? = some true ↔ LeadI (nextA m N) al wa c) (hl : inn.length = N) : MarksS N inn (LeadS m A B) := by
  refine ⟨hl, fun c hc => (h c).trans ?_⟩
  constructor
  · intro h
    clear hc
    induction h with
    | @here c hw =>
      have hcN : c < N := by have := (List.getElem?_eq_some_iff.1 hw).1; rw [hB.1] at this; exact this
      exact .here ((hB.2 c hcN).1 hw)
    | @step c d ha he _ ih =>
      have hcN : c < N := by have := (List.getElem?_eq_some_iff.1 ha).1; rw [hA.1] at this; exact this
      exact .step ((hA.2 c hcN).1 ha) (nextA_edge.1 he).2 ih
  · intro h
    obtain ⟨x, hx⟩ : ∃ x, (c : Int) = x := ⟨_, rfl⟩
    rw [hx] at h
    induction h generalizing c with
    | here hb =>
      subst hx
      exact .here ((hB.2 c hc).2 hb)
    | @step a d ha hn _ ih =>
      subst hx
      have hd := hN _ _ ⟨by omega, by omega⟩ hn
      obtain ⟨d', rfl⟩ : ∃ d' : Nat, d = (d' : Int) := ⟨d.toNat, by have := hd.1; omega⟩
      have hd2 : d' < N := by have := hd.2; omega
      exact .step ((hA.2 c hc).2 ha) (nextA_edge.2 ⟨hc, hn⟩) (ih d' hd2 rfl)
end

end Go.Proofs.YtbmimdnpchldlaaDoor

namespace Go.Proofs.YtbmimdnpchldlaaDoor

/-- The verdict, as a bool. -/
noncomputable def holdsB (m : Md) (P : List Tm) (t : Tm) : Bool := @decide (HoldsR m P t) (Classical.propDecidable _)
theorem holdsB_iff {m : Md} {P : List Tm} {t : Tm} : holdsB m P t = true ↔ HoldsR m P t := by unfold holdsB; exact @decide_eq_true_iff _ (Classical.propDecidable _)
theorem holdsB_eq {m : Md} {P : List Tm} {t : Tm} {b : Bool} (h : HoldsR m P t ↔ b = true) : holdsB m P t = b := by
  have := holdsB_iff.trans h
  cases b <;> cases hx : holdsB m P t <;> simp_all
theorem HoldsR.mono {m : Md} {P : List Tm} {a b : Tm} (h : ∀ W : Wd, W.back < W.n → Sat W a 0 → Sat W b 0) (ha : HoldsR m P a) : HoldsR m P b :=
  fun n back x hr => h _ (by rw [wdOf_n]; exact hr.hb) (ha n back x hr)
theorem holdsB_mono {m : Md} {P : List Tm} {a b : Tm} (h : ∀ W : Wd, W.back < W.n → Sat W a 0 → Sat W b 0) (ha : holdsB m P a = true) : holdsB m P b = true :=
  holdsB_iff.2 ((holdsB_iff.1 ha).mono h)
theorem holdsB_congr {m : Md} {P : List Tm} {a b : Tm} (h : ∀ W : Wd, satB W a 0 = satB W b 0) : holdsB m P b = holdsB m P a := by
  refine holdsB_eq ?_
  rw [holdsB_iff]
  exact ⟨HoldsR.mono fun W _ hs => satB_iff.1 ((h W).trans (satB_iff.2 hs)), HoldsR.mono fun W _ hs => satB_iff.1 ((h W).symm.trans (satB_iff.2 hs))⟩

theorem codes_in {m : Md} (hp : m.Pre) {N : Nat} (hN : countL m.vars = (N : Int)) : (∀ c d, InN N c → NextP m c d → InN N d) ∧ InN N m.first := by
  refine ⟨fun c d hc hn => ?_, ?_⟩
  · have := NextP.in hp hc.1 (by rw [hN]; exact hc.2) hn
    exact ⟨this.1, by rw [← hN]; exact this.2⟩
  · have := first_bd hp
    exact ⟨this.1, by rw [← hN]; exact this.2⟩
/-- There is a run. -/
theorem run_any {m : Md} (hp : m.Pre) : ∃ n back x, RunL m n back x := by
  have h1 := first_bd hp
  obtain ⟨N, hN⟩ : ∃ N : Nat, countL m.vars = (N : Int) := ⟨(countL m.vars).toNat, by omega⟩
  obtain ⟨hc, hF⟩ := codes_in hp hN
  obtain ⟨z, n, back, x, hl, _⟩ := seq_any (m := m) hc hF (NextP.some m) hF
  exact ⟨n, back, x, hl.hb, hl.first, hl.step⟩

theorem holdsB_yes (m : Md) (P : List Tm) (v : Int) : holdsB m P (.n0 11 v) = true := holdsB_iff.2 fun _ _ _ _ => satB_iff.1 (satB_yes _ _ _)
theorem holdsB_no {m : Md} (hp : m.Pre) (P : List Tm) (v : Int) : holdsB m P (.n0 12 v) = false := by
  refine holdsB_eq ⟨fun h => ?_, fun h => by cases h⟩
  obtain ⟨n, back, x, hr⟩ := run_any hp
  have h1 := satB_iff.2 (h n back x hr)
  rw [satB_no] at h1
  exact h1
theorem holdsB_and (m : Md) (P : List Tm) (v : Int) (a b : Tm) : holdsB m P (.n2 8 v a b) = (holdsB m P a && holdsB m P b) := by
  refine holdsB_eq ?_
  rw [Bool.and_eq_true, holdsB_iff, holdsB_iff]
  exact ⟨fun h => ⟨fun n b x hr => ((sat_and _ _ _ _ _).1 (h n b x hr)).1, fun n b x hr => ((sat_and _ _ _ _ _).1 (h n b x hr)).2⟩, fun h n b x hr => (sat_and _ _ _ _ _).2 ⟨h.1 n b x hr, h.2 n b x hr⟩⟩

/-- Of what holds always, and of what holds now. -/
theorem glo_now {m : Md} {P : List Tm} {v : Int} {f : Tm} (h : holdsB m P (.n1 18 v f) = true) : holdsB m P f = true :=
  holdsB_mono (fun W _ hs => by have := (sat_glo _ _ _ _).1 hs 0; exact this) h
theorem glo_next {m : Md} {P : List Tm} {v v2 : Int} {f : Tm} (h : holdsB m P (.n1 18 v f) = true) : holdsB m P (.n1 14 v2 f) = true :=
  holdsB_mono (fun W _ hs => (sat_next _ _ _ _).2 (by have := (sat_glo _ _ _ _).1 hs 1; exact this)) h
theorem now_ever {m : Md} {P : List Tm} {v : Int} {f : Tm} (h : holdsB m P f = true) : holdsB m P (.n1 17 v f) = true :=
  holdsB_mono (fun _ _ hs => (sat_fin _ _ _ _).2 ⟨0, hs⟩) h
theorem unt_ever {m : Md} {P : List Tm} {v v2 : Int} {f g : Tm} (h : holdsB m P (.n2 15 v f g) = true) : holdsB m P (.n1 17 v2 g) = true :=
  holdsB_mono (fun W _ hs => by obtain ⟨j, hj, _⟩ := (sat_unt _ _ _ _ _).1 hs; exact (sat_fin _ _ _ _).2 ⟨j, hj⟩) h
theorem rel_now {m : Md} {P : List Tm} {v : Int} {f g : Tm} (h : holdsB m P (.n2 16 v f g) = true) : holdsB m P g = true :=
  holdsB_mono (fun W _ hs => by
    rcases (sat_rel _ _ _ _ _).1 hs 0 with h | ⟨k, hk, _⟩
    · exact h
    · omega) h
theorem glo_rel {m : Md} {P : List Tm} {v v2 : Int} {f g : Tm} (h : holdsB m P (.n1 18 v g) = true) : holdsB m P (.n2 16 v2 f g) = true :=
  holdsB_mono (fun _ _ hs => (sat_rel _ _ _ _ _).2 fun j => .inl ((sat_glo _ _ _ _).1 hs j)) h
theorem now_until {m : Md} {P : List Tm} {v : Int} {f g : Tm} (h : holdsB m P g = true) : holdsB m P (.n2 15 v f g) = true :=
  holdsB_mono (fun W _ hs => (sat_unt _ _ _ _ _).2 ⟨0, hs, fun k hk => by omega⟩) h
theorem ever_unt (W : Wd) (f : Tm) (v v2 v3 : Int) (i : Nat) : satB W (.n1 17 v f) i = satB W (.n2 15 v2 (.n0 11 v3) f) i := satB_congr (by
  rw [sat_fin, sat_unt]
  exact ⟨fun ⟨j, h⟩ => ⟨j, h, fun _ _ => satB_iff.1 (satB_yes _ _ _)⟩, fun ⟨j, h, _⟩ => ⟨j, h⟩⟩)

end Go.Proofs.YtbmimdnpchldlaaDoor

namespace Go.Proofs.YtbmimdnpchldlaaDoor

theorem RunL.in {m : Md} (hp : m.Pre) {n back : Nat} {x : Nat → Int} (hr : RunL m n back x) : ∀ i, i < n → 0 ≤ x i ∧ x i < countL m.vars := by
  intro i
  induction i with
  | zero => intro _; rw [hr.first]; exact first_bd hp
  | succ i ih =>
    intro hi
    have h1 := ih (by omega)
    have h2 := hr.step i (by omega)
    have e : nxt n back i = i + 1 := by unfold nxt; rw [if_pos hi]
    rw [e] at h2
    exact h2.in hp h1.1 h1.2

/-- Where one model's ways are another's, what holds of the other holds of the one. -/
theorem run_more {m m' : Md} (hp : m.Pre) (hv : m'.vars = m.vars) (hn : ∀ c d, 0 ≤ c → c < countL m.vars → NextP m c d → NextP m' c d) {P : List Tm} {t : Tm} (h : HoldsR m' P t) : HoldsR m P t := by
  intro n back x hr
  have hin := hr.in hp
  have h1 := h n back x ⟨hr.hb, by unfold Md.first; rw [hv]; exact hr.first, fun i hi => hn _ _ (hin i hi).1 (hin i hi).2 (hr.step i hi)⟩
  unfold wdOf at h1 ⊢
  rw [hv] at h1
  exact h1

theorem behind_eq {m m' : Md} (hv : m'.vars = m.vars) (xs : List Int) (l : List Rl) : behindL m' xs l = behindL m xs l := by
  induction l with
  | nil => rfl
  | cons r l ih =>
    simp only [behindL, ih]
    unfold afterV
    rw [hv]

/-- A rule that can always be done and changes nothing. -/
def stayR : Rl := ⟨.n0 11 0, []⟩
theorem stay_after (m : Md) (xs : List Int) : afterV m stayR xs = some xs := by
  unfold afterV stayR
  have e : evalT xs (.n0 11 0) = some 1 := by
    show over (leafV xs 11 0) = some 1
    unfold leafV
    rw [if_neg (by omega), if_neg (by omega), if_pos rfl]
    unfold over
    rw [if_pos (show Small 1 by unfold Small; omega)]
  rw [e]
  simp [setsV]
theorem stay_next {m : Md} (hp : m.Pre) {c d : Int} (h0 : 0 ≤ c) (h1 : c < countL m.vars) : NextP ⟨m.vars, m.rules ++ [stayR]⟩ c d ↔ d = c ∨ d ∈ behindL m (valsL m.vars c) m.rules := by
  have hb : behindL ⟨m.vars, m.rules ++ [stayR]⟩ (valsL m.vars c) (m.rules ++ [stayR]) = behindL m (valsL m.vars c) m.rules ++ [c] := by
    rw [behind_eq (m := m) (m' := ⟨m.vars, m.rules ++ [stayR]⟩) rfl, behindL_app]
    congr 1
    simp only [behindL, stay_after, List.append_nil]
    rw [code_valsL hp.vars c h0 h1]
  unfold NextP
  show d ∈ behindL ⟨m.vars, m.rules ++ [stayR]⟩ (valsL m.vars c) (m.rules ++ [stayR]) ∨ (behindL ⟨m.vars, m.rules ++ [stayR]⟩ (valsL m.vars c) (m.rules ++ [stayR]) = [] ∧ d = c) ↔ _
  rw [hb]
  simp only [List.mem_append, List.mem_singleton, List.append_eq_nil_iff, List.cons_ne_nil, and_false, false_and, or_false]
  exact or_comm
theorem stay_more {m : Md} (hp : m.Pre) {P : List Tm} {t : Tm} (h : holdsB ⟨m.vars, m.rules ++ [stayR]⟩ P t = true) : holdsB m P t = true := by
  refine holdsB_iff.2 (run_more (m' := ⟨m.vars, m.rules ++ [stayR]⟩) hp rfl (fun c d h0 h1 hn => ?_) (holdsB_iff.1 h))
  refine (stay_next hp h0 h1).2 ?_
  rcases hn with hn | ⟨_, hn⟩
  · exact .inr hn
  · exact .inl hn

/-- Rules in another order, or twice. -/
theorem same_rules {m m' : Md} (hp : m.Pre) (hp' : m'.Pre) (hv : m'.vars = m.vars) (hn : ∀ c d, NextP m' c d ↔ NextP m c d) (P : List Tm) (t : Tm) : holdsB m' P t = holdsB m P t := by
  refine holdsB_eq ?_
  rw [holdsB_iff]
  exact ⟨run_more hp hv fun c d _ _ h => (hn c d).2 h, run_more hp' hv.symm fun c d _ _ h => (hn c d).1 h⟩

/-! Variables of other names, and one more that nobody uses. -/
theorem vals_app (a b : List Vr) (c : Int) : valsL (a ++ b) c = valsL a (digL b c).2 ++ valsL b c := by
  unfold valsL
  have : (digL (a ++ b) c).1 = (digL a (digL b c).2).1 ++ (digL b c).1 ∧ (digL (a ++ b) c).2 = (digL a (digL b c).2).2 := by
    induction a with
    | nil => simp [digL]
    | cons v l ih => simp [digL, ih.1, ih.2]
  exact this.1
theorem codeL_app : ∀ (a b : List Vr) (xs ys : List Int) (n : Int), xs.length = a.length → codeL (a ++ b) (xs ++ ys) n = codeL b ys (codeL a xs n)
  | [], b, xs, ys, n, h => by
    cases xs with
    | nil => rfl
    | cons x xs => simp at h
  | v :: a, b, xs, ys, n, h => by
    cases xs with
    | nil => simp at h
    | cons x xs => exact codeL_app a b xs ys _ (by simpa using h)

/-- The same variables, but for their names. -/
def SameV (a b : List Vr) : Prop := a.map (fun v => (v.low, v.high, v.init)) = b.map fun v => (v.low, v.high, v.init)
theorem SameV.cons {v u : Vr} {a b : List Vr} (h : SameV (v :: a) (u :: b)) : v.low = u.low ∧ v.high = u.high ∧ v.init = u.init ∧ SameV a b := by
  unfold SameV at *
  simp only [List.map_cons, List.cons.injEq, Prod.mk.injEq] at h
  exact ⟨h.1.1, h.1.2.1, h.1.2.2, h.2⟩
theorem SameV.len {a b : List Vr} (h : SameV a b) : a.length = b.length := by have := congrArg List.length h; simpa using this
theorem SameV.dig : ∀ {a b : List Vr}, SameV a b → ∀ c, digL a c = digL b c
  | [], [], _, c => rfl
  | [], _ :: _, h, c => by have := h.len; simp at this
  | _ :: _, [], h, c => by have := h.len; simp at this
  | v :: a, u :: b, h, c => by
    obtain ⟨h1, h2, _, h4⟩ := h.cons
    simp only [digL, SameV.dig h4 c]
    unfold Vr.span
    rw [h1, h2]
theorem SameV.vals {a b : List Vr} (h : SameV a b) (c : Int) : valsL a c = valsL b c := by unfold valsL; rw [h.dig]
theorem SameV.code : ∀ {a b : List Vr}, SameV a b → ∀ xs n, codeL a xs n = codeL b xs n
  | [], [], _, xs, n => rfl
  | [], _ :: _, h, xs, n => by have := h.len; simp at this
  | _ :: _, [], h, xs, n => by have := h.len; simp at this
  | v :: a, u :: b, h, xs, n => by
    obtain ⟨h1, h2, _, h4⟩ := h.cons
    cases xs with
    | nil => rfl
    | cons x xs =>
      simp only [codeL, SameV.code h4]
      unfold Vr.span
      rw [h1, h2]
theorem SameV.inits {a b : List Vr} (h : SameV a b) : a.map (·.init) = b.map (·.init) := by
  have := congrArg (List.map (fun p : Int × Int × Int => p.2.2)) h
  simpa [List.map_map, Function.comp_def] using this
theorem SameV.at {a b : List Vr} (h : SameV a b) (i : Nat) (z : Vr) : (a.getD i z).low = (b.getD i z).low ∧ (a.getD i z).high = (b.getD i z).high := by
  have h1 : (a.map (fun v => (v.low, v.high, v.init)))[i]? = (b.map fun v => (v.low, v.high, v.init))[i]? := by rw [show a.map (fun v => (v.low, v.high, v.init)) = b.map fun v => (v.low, v.high, v.init) from h]
  rw [List.getElem?_map, List.getElem?_map] at h1
  simp only [List.getD]
  cases ha : a[i]? <;> cases hb : b[i]? <;> rw [ha, hb] at h1 <;> simp at h1 ⊢
  exact ⟨h1.1, h1.2.1⟩

/-- Terms do not see values that they do not name. -/
theorem evalT_more (xs ys : List Int) {n : Int} (hn : n ≤ xs.length) : ∀ {t : Tm}, t.good n → evalT (xs ++ ys) t = evalT xs t := by
  intro t
  induction t with
  | n0 k v =>
    intro h
    show over (leafV (xs ++ ys) k v) = over (leafV xs k v)
    congr 1
    unfold leafV
    by_cases h1 : k = 1
    · rw [if_pos h1, if_pos h1]
    · rw [if_neg h1, if_neg h1]
      by_cases h2 : k = 2
      · rw [if_pos h2, if_pos h2]
        have h3 := h (k, v) (by simp [Tm.flat])
        subst h2
        have h4 : 0 ≤ v ∧ v < n := by
          unfold opE at h3
          simp at h3
          omega
        simp only [List.getD]
        rw [List.getElem?_append_left (by omega)]
      · rw [if_neg h2, if_neg h2]
  | n1 k v a ih =>
    intro h
    show (evalT (xs ++ ys) a).bind _ = (evalT xs a).bind _
    rw [ih (good_1 h)]
  | n2 k v a b iha ihb =>
    intro h
    show (evalT (xs ++ ys) b).bind _ = (evalT xs b).bind _
    rw [ihb (good_2 h).2, iha (good_2 h).1]

end Go.Proofs.YtbmimdnpchldlaaDoor
