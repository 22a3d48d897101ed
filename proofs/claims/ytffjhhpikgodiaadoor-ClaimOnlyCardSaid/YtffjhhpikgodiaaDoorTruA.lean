/- The contract of logic.Truths. -/
import Derived.Test.YtffjhhpikgodiaaDoorLogA
import Derived.Test.YtffjhhpikgodiaaDoorTruP
import Derived.Test.YtffjhhpikgodiaaDoorBits
import Derived.Deep.RegionLaw
import Derived.BigQuiet
import Derived.Deep.RegionHeld3
namespace Go.Proofs.YtffjhhpikgodiaaDoor
open Go.RowKit

theorem Tryd.slBools : SlTy Tryd.prog 30 4 (.bool false) 1 1 := SlTy.mk' Tryd.underlying30 (by kernel_rfl) (by rfl) (by omega)

/-- Truths from a place on; ahead of it nothing yet. -/
def mixL (tv : List Bool) (i : Nat) : List Bool := List.replicate i false ++ tv.drop i
theorem mixL_len {tv : List Bool} {i : Nat} (h : i ≤ tv.length) : (mixL tv i).length = tv.length := by simp [mixL]; omega
theorem mixL_get {tv : List Bool} {i j : Nat} (hj : i ≤ j) : (mixL tv i)[j]? = tv[j]? := by
  rw [mixL, List.getElem?_append_right (by simpa using hj), List.length_replicate, List.getElem?_drop]
  congr 1; omega
theorem mixL_at {tv : List Bool} {i : Nat} : (mixL tv (i + 1))[i]? = some false := by
  rw [mixL, List.getElem?_append_left (by simp), List.getElem?_replicate, if_pos (by omega)]
theorem mixL_set {tv : List Bool} {i : Nat} {b : Bool} (h : tv[i]? = some b) : (mixL tv (i + 1)).set i b = mixL tv i := by
  obtain ⟨hl, he⟩ := List.getElem?_eq_some_iff.1 h
  apply List.ext_getElem?
  intro j
  rw [List.getElem?_set]
  by_cases hij : i = j
  · subst hij
    rw [if_pos rfl, if_pos (by rw [mixL_len (by omega)]; exact hl), mixL_get (Nat.le_refl _), h]
  · rw [if_neg hij]
    by_cases hlt : i < j
    · rw [mixL_get (by omega), mixL_get (by omega)]
    · rw [mixL, mixL, List.getElem?_append_left (by simp; omega), List.getElem?_append_left (by simp; omega), List.getElem?_replicate, List.getElem?_replicate, if_pos (by omega), if_pos (by omega)]
theorem mixL_no {tv : List Bool} {i : Nat} (h : tv[i]? = some false) : mixL tv (i + 1) = mixL tv i := by
  have := mixL_set h
  rw [← this]
  apply List.ext_getElem?
  intro j
  rw [List.getElem?_set]
  by_cases hij : i = j
  · subst hij
    obtain ⟨hl, _⟩ := List.getElem?_eq_some_iff.1 h
    rw [if_pos rfl, if_pos (by rw [mixL_len (by omega)]; exact hl), mixL_at]
  · rw [if_neg hij]

theorem own_bool {w : World} {base D n cap i : Nat} {l : List Bool} {x : Bool} (h : w.ownsRow base 4 1 (.slice (some ⟨D, 0, none⟩) n cap) n (l.map .bool)) (hi : l[i]? = some x) : w.cell? ⟨D, i, none⟩ = some (.bool x) := by
  obtain ⟨hl, e⟩ := List.getElem?_eq_some_iff.1 hi
  refine (own_cellAt h (i := i) (by simpa using hl)).trans ?_
  rw [List.getElem_map, e]

theorem row_ints {α : Type} {f : α → Value} {w : World} {a : Option Addr} {n c : Nat} {l : List α} (h : Row w 1 a n c (l.map f)) : ∃ b off, (0 < l.length → a = some ⟨b, off, none⟩) ∧ ∀ (i : Nat) (x : α), l[i]? = some x → w.cell? ⟨b, off + i, none⟩ = some (f x) := by
  obtain ⟨b, off, _, h2, h3⟩ := h.lie
  exact ⟨b, off, fun hl => h2 (by simpa using hl), fun i x hi => h3 i _ (by rw [List.getElem?_map, hi]; rfl)⟩

set_option maxRecDepth 100000 in
theorem first_any (w : World) (O D A n at' : Nat) (b : Bool) (hO : w.heap[O]? = some (.cells #[.slice (some ⟨D, 0, none⟩) n n] 30 (0, 0))) (hA : w.heap[A]? = some (.cells #[.int .i64 (at' : Int)] 3 (0, 0)))
    (hc : w.cell? ⟨D, at' + 1, none⟩ = some (.bool b)) (hn : at' + 1 < n) (hn6 : n ≤ 60) :
    Calls Tryd.prog 33 #[.pointer (some ⟨O, 0, none⟩), .pointer (some ⟨A, 0, none⟩)] w fun e w' => e = .returned (.bool b) ∧ w = w' := by
  have cO := blk_cell hO (i := 0) rfl
  have cA := blk_cell hA (i := 0) rfl
  have hnI : (at' : Int) + 1 < (n : Int) := by omega
  have hn0 : (0 : Int) ≤ (at' : Int) + 1 := by omega
  have hto : ((at' : Int) + 1).toNat = at' + 1 := by omega
  clear hO hA
  go_enter Tryd.func33, Tryd.ntmps33
  go_wp2
  go_ret
  exact ⟨rfl, rfl⟩

set_option maxRecDepth 100000 in
theorem second_any (w : World) (O D E A n at' s : Nat) (ae : Option Addr) (ce ne : Nat) (es : List Int) (b : Bool) (hO : w.heap[O]? = some (.cells #[.slice (some ⟨D, 0, none⟩) n n] 30 (0, 0))) (hA : w.heap[A]? = some (.cells #[.int .i64 (at' : Int)] 3 (0, 0)))
    (hE : w.heap[E]? = some (.cells #[.slice ae ne ce] 25 (0, 0))) (hes : Row w 1 ae ne ce (es.map (.int .i64))) (he : es[at' + 1]? = some (s : Int))
    (hc : w.cell? ⟨D, s, none⟩ = some (.bool b)) (hs : s < n) (ha : at' < 60) :
    Calls Tryd.prog 34 #[.pointer (some ⟨O, 0, none⟩), .pointer (some ⟨E, 0, none⟩), .pointer (some ⟨A, 0, none⟩)] w fun e w' => e = .returned (.bool b) ∧ ∃ q, w' = w.drewN q := by
  have cO := blk_cell hO (i := 0) rfl
  have cA := blk_cell hA (i := 0) rfl
  have cE := blk_cell hE (i := 0) rfl
  have hel : es.length = ne := by have := hes.len; simpa using this
  obtain ⟨hl, he'⟩ := List.getElem?_eq_some_iff.1 he
  obtain ⟨bb, oo, h1, h3⟩ := row_ints hes
  obtain rfl := h1 (by omega)
  have cN := h3 _ _ he
  have hnI : (at' : Int) + 1 < (ne : Int) := by omega
  have hn0 : (0 : Int) ≤ (at' : Int) + 1 := by omega
  have hto : ((at' : Int) + 1).toNat = at' + 1 := by omega
  have hsI : (s : Int) < (n : Int) := by omega
  have hs0 : (0 : Int) ≤ (s : Int) := by omega
  clear hO hA hE h1 h3 he he' hes hel
  go_enter Tryd.func34, Tryd.ntmps34
  go_wp2_with fail
  go_quiet (fail)
  go_wp2
  go_ret
  exact ⟨rfl, _, rfl⟩

/-- Where Truths lies at. -/
structure TM (W2 w : World) (O D A n : Nat) (tv : List Bool) (i : Nat) : Prop where
  ext : Ext W2 w
  o : w.heap[O]? = some (.cells #[.slice (some ⟨D, 0, none⟩) n n] 30 (0, 0))
  a : w.heap[A]? = some (.cells #[.int .i64 ((i : Int) - 1)] 3 (0, 0))
  row : w.ownsRow W2.heap.size 4 1 (.slice (some ⟨D, 0, none⟩) n n) n ((mixL tv i).map .bool)
  oa : A ≠ O
  od : O ≠ D
  ad : A ≠ D
  lo : W2.heap.size ≤ O
  la : W2.heap.size ≤ A

theorem TM.drew {W2 w : World} {O D A n : Nat} {tv : List Bool} {i : Nat} (h : TM W2 w O D A n tv i) (q : Nat) : TM W2 (w.drewN q) O D A n tv i :=
  ⟨below_drewN h.ext q, blk_ext h.o (below_drewN (Ext.refl _) q), blk_ext h.a (below_drewN (Ext.refl _) q), own_ext h.row (below_drewN (Ext.refl _) q), h.oa, h.od, h.ad, h.lo, h.la⟩
theorem TM.put {W2 w : World} {O D A n : Nat} {tv : List Bool} {i : Nat} {b : Bool} (h : TM W2 w O D A n tv (i + 1)) (hb : tv[i]? = some b) :
    let w1 := w.setCell ⟨D, i, none⟩ (.bool b)
    Ext W2 w1 ∧ w1.heap[O]? = some (.cells #[.slice (some ⟨D, 0, none⟩) n n] 30 (0, 0)) ∧ w1.ownsRow W2.heap.size 4 1 (.slice (some ⟨D, 0, none⟩) n n) n ((mixL tv i).map .bool) := by
  have hD := (h.row.lt D rfl).1
  refine ⟨ext_st h.ext (p := ⟨D, i, none⟩) hD _, blk_far h.o (p := ⟨D, i, none⟩) (Ne.symm h.od) _, ?_⟩
  have := own_setAt h.row (i := i) (.bool b)
  rw [← List.map_set, mixL_set hb] at this
  exact this

theorem TM.later {W2 w w' : World} {O D A n : Nat} {tv : List Bool} {i : Nat} (h : TM W2 w O D A n tv i) (hE : Ext w w') : TM W2 w' O D A n tv i :=
  ⟨h.ext.trans hE, blk_ext h.o hE, blk_ext h.a hE, own_ext h.row hE, h.oa, h.od, h.ad, h.lo, h.la⟩

/-- One place further to the front. -/
theorem TM.next {W2 w : World} {O D n j A' : Nat} {tv : List Bool} (hE : Ext W2 w) (ho : w.heap[O]? = some (.cells #[.slice (some ⟨D, 0, none⟩) n n] 30 (0, 0))) (hr : w.ownsRow W2.heap.size 4 1 (.slice (some ⟨D, 0, none⟩) n n) n ((mixL tv j).map .bool)) (od : O ≠ D) (lo : W2.heap.size ≤ O) (hA : A' = w.heap.size) :
    TM W2 (w.alloc (.cells #[.int .i64 ((j : Int) - 1)] 3)) O D A' n tv j := by
  subst hA
  have hO := blk_lt ho
  have hD := (hr.lt D rfl).2
  have hx := ext_al (Ext.refl w) (Obj.cells #[.int .i64 ((j : Int) - 1)] 3)
  exact ⟨hE.trans hx, blk_ext ho hx, blk_new w _, own_ext hr hx, by omega, od, by omega, lo, hE.size⟩
theorem TM.fin {W2 w w' W5 : World} {O D A n j A' : Nat} {tv : List Bool} {b : Bool} (h : TM W2 w O D A n tv (j + 1)) (hx : Ext w w') (hb : tv[j]? = some b) (h5 : W5 = w'.setCell ⟨D, j, none⟩ (.bool b)) (hA : A' = W5.heap.size) :
    TM W2 (W5.alloc (.cells #[.int .i64 ((j : Int) - 1)] 3)) O D A' n tv j := by
  obtain ⟨p1, p2, p3⟩ := (h.later hx).put hb
  subst h5
  exact TM.next p1 p2 p3 h.od h.lo hA
theorem TM.same {W2 w : World} {O D A n j A' : Nat} {tv : List Bool} (h : TM W2 w O D A n tv (j + 1)) (hb : tv[j]? = some false) (hA : A' = w.heap.size) :
    TM W2 (w.alloc (.cells #[.int .i64 ((j : Int) - 1)] 3)) O D A' n tv j := by
  have hr := h.row
  rw [mixL_no hb] at hr
  exact TM.next h.ext h.o hr h.od h.lo hA

theorem tv_at (L : List Bool) (c : Nat) (t : Tm) (ht : t.ok) (i : Nat) (k v : Int) (h : t.flat[i]? = some (k, v)) : TvAt L c t.flat (t.ends 0) (tvT L c t 0) i k v := by
  obtain ⟨hl, _⟩ := List.getElem?_eq_some_iff.1 h
  have := tv_law L c t ht [] [] [] [] [] [] rfl rfl i (by rw [← Tm.flat_len]; exact hl) k v (by simpa using h)
  simpa [cntA] using this

theorem bit_shr (c n : Nat) (hc : c < 64) : (bits .and .i64 ((c : Int) / 2 ^ n) 1 == 1) = c.testBit n := by
  have e : (c : Int) / 2 ^ n = ((c / 2 ^ n : Nat) : Int) := by push_cast; rfl
  have hle : c / 2 ^ n ≤ c := Nat.div_le_self _ _
  have h := i64_and_nat (c / 2 ^ n) 1 (by omega) (by omega)
  rw [e, show (1 : Int) = ((1 : Nat) : Int) from rfl, h, Nat.and_one_is_mod, Nat.testBit_eq_decide_div_mod_eq, Bool.eq_iff_iff, beq_iff_eq, decide_eq_true_eq]
  omega

theorem getD_some {l : List Bool} {i : Nat} (h : i < l.length) : l[i]? = some (l.getD i false) := by simp [List.getD, List.getElem?_eq_getElem h]

set_option maxRecDepth 100000 in
set_option maxHeartbeats 8000000 in
theorem truths_any (v : Value) (l : List Op2) (t : Tm) (vl : Value) (L : List Bool) (c : Nat) (w : World) (h : Ops w v l) (ht : Tab w) (hf : IsF l (L.length : Int) t) (hL : Bools w vl L) (hc : c < 2 ^ cntA l) :
    Calls Tryd.prog 19 #[v, vl, .int .i64 (c : Int)] w fun e w' => ∃ D, e = .returned (.tuple #[.slice (some ⟨D, 0, none⟩) l.length l.length, .int .i64 0]) ∧ w'.ownsRow w.heap.size 4 1 (.slice (some ⟨D, 0, none⟩) l.length l.length) l.length ((tvT L c t 0).map .bool) ∧ Ext w w' := by
  have hen := ends_term t hf.ok hf.small
  rw [hf.flat] at hen
  have HPL := Lib.hid (places_any v l (L.length : Int) t w h ht hf)
  have HEN := Lib.hid fun wx (hx : Ext w wx) => by have H := ends_any v l wx (h.ext hx) (ht.ext hx); rw [hen] at H; exact H
  have hl60 : l.length ≤ 60 := by rw [← hf.flat, Tm.flat_len]; exact hf.small
  have hpos : 0 < l.length := by rw [← hf.flat, Tm.flat_len]; exact t.size_pos
  have htl : (tvT L c t 0).length = l.length := by rw [tvT_len, ← Tm.flat_len, hf.flat]
  have hel : (t.ends 0).length = l.length := by rw [Tm.ends_len, ← Tm.flat_len, hf.flat]
  have HTV := Lib.hid fun i k v (hi : l[i]? = some (k, v)) => by have := tv_at L c t hf.ok i k v (by rw [hf.flat]; exact hi); rw [hf.flat] at this; exact this
  obtain ⟨a, cap, rfl, hr⟩ := h
  obtain ⟨al, cl, rfl, hrl⟩ := hL
  have HR := Lib.hid hr
  have HRL := Lib.hid hrl
  have HF := Lib.hid hf
  have hpl := plL_len l
  have hc6 := hf.cnt
  have hcp : 2 ^ cntA l ≤ 2 ^ 6 := Nat.pow_le_pow_right (by omega) hc6
  have hpe : ((2 ^ cntA l : Nat) : Int) = (2 : Int) ^ cntA l := by push_cast; rfl
  have hw0 : IntKind.i64.wrap ((2 : Int) ^ cntA l) = (2 : Int) ^ cntA l := IntWalk.i64_in _ (by omega)
  obtain ⟨PM, hPM⟩ : ∃ PM, (2 : Int) ^ cntA l = PM := ⟨_, rfl⟩
  rw [hPM] at hpe
  replace hw0 := hw0.trans hPM
  have hcI : ¬ PM ≤ (c : Int) := by omega
  have hc0 : ¬ (c : Int) < 0 := by omega
  generalize t.ends 0 = es at *
  generalize tvT L c t 0 = tv at *
  have hmf : ∀ (fn : Fn) (first cap : Array Value) (w : World), (Instr.makeFunc fn first cap).run Tryd.prog w = .ok (.func fn first cap) w := fun _ _ _ _ => rfl
  have HTL := Lib.hid htl
  have HEL := Lib.hid hel
  have hc64 : c < 64 := by omega
  clear hen hf hr hrl ht htl hel hpe hcp hc hPM
  rw [hpl] at HPL
  clear hpl
  generalize hcn : cntA l = N at *
  have HCN := Lib.hid hcn
  clear hcn
  have HLL := Lib.hid fun i (hi : i < l.length) => cntA_take l hi
  have HCT := Lib.hid (show cntA (l.take l.length) = N by rw [List.take_length]; exact HCN.out)
  go_enter Tryd.func19, Tryd.ntmps19
  go_wp2_with fail
  refine HPL.out.mono ?_
  rintro e w1 ⟨ap, cp, rfl, -, hE1⟩
  have HE1 := Lib.hid hE1
  clear hE1 HPL
  go_wp2_with fail
  refine (HEN.out _ HE1.out).mono ?_
  rintro e w2 ⟨hE2, v2, rfl, hown2⟩
  obtain ⟨ae, ce, rfl, hre⟩ := hown2.row
  have hx := ext_al (Ext.refl w2) (Obj.cells #[.slice ae es.length ce] 25)
  have HRE := Lib.hid (hre.ext hx)
  have BE := Lib.hid (blk_new w2 (Obj.cells #[.slice ae es.length ce] 25))
  have HE2 := Lib.hid ((HE1.out.trans hE2).trans hx)
  clear hown2 hre hE2 hx HEN HE1
  go_wp2_with (at_make; go_must (refine wpList_make_full _ rfl _ _ 30 rfl (w2.heap.size + 1) 4 (Tryd.slBools.inf.choose) (.bool false) 1 Tryd.underlying30 Tryd.slBools.inf.choose_spec.1 Tryd.slBools.inf.choose_spec.2.1 Tryd.slBools.inf.choose_spec.2.2.1 .i64 .i64 l.length l.length l.length rfl rfl rfl rfl (by rw [Tryd.slBools.inf.choose_spec.2.2.2]; omega) (by unfold maxLen; omega) (by simp) ?_))
  intro w3 hown3 hg3
  have hmx : (madeCells #[Value.bool false] l.length).toList = (mixL tv l.length).map .bool := by
    rw [toList_madeCells_one, mixL, List.drop_of_length_le (by rw [HTL.out]; exact Nat.le_refl _), List.append_nil, List.map_replicate]
  rw [hmx] at hown3
  have hW2 : (w2.alloc (Obj.cells #[.slice ae es.length ce] 25)).heap.size = w2.heap.size + 1 := by simp
  have hE3 : Ext (w2.alloc (Obj.cells #[.slice ae es.length ce] 25)) w3 := (Ext.refl _).grown hg3 (Nat.le_refl _) (by simp)
  have hD3 : w2.heap.size + 1 < w3.heap.size := (hown3.lt _ rfl).2
  have hxO := ext_al (Ext.refl w3) (Obj.cells #[.slice (some ⟨w2.heap.size + 1, 0, none⟩) l.length l.length] 30)
  have bO := blk_new w3 (Obj.cells #[.slice (some ⟨w2.heap.size + 1, 0, none⟩) l.length l.length] 30)
  have hTM : TM (w2.alloc (Obj.cells #[.slice ae es.length ce] 25)) ((w3.alloc (Obj.cells #[.slice (some ⟨w2.heap.size + 1, 0, none⟩) l.length l.length] 30)).alloc (Obj.cells #[.int .i64 ((l.length : Int) - 1)] 3)) w3.heap.size (w2.heap.size + 1) (w3.heap.size + 1) l.length tv l.length :=
    ⟨ext_al (hE3.trans hxO) _, blk_ext bO (ext_al (Ext.refl _) _), by
      have := blk_new (w3.alloc (Obj.cells #[.slice (some ⟨w2.heap.size + 1, 0, none⟩) l.length l.length] 30)) (Obj.cells #[.int .i64 ((l.length : Int) - 1)] 3)
      rw [show (w3.alloc (Obj.cells #[.slice (some ⟨w2.heap.size + 1, 0, none⟩) l.length l.length] 30)).heap.size = w3.heap.size + 1 by simp] at this
      exact this, own_ext (by rw [hW2]; exact hown3) (ext_al hxO _), by omega, by omega, by omega, by rw [hW2]; omega, by rw [hW2]; omega⟩
  have HTM := Lib.hid hTM
  clear hown3 hg3 hmx hE3 hD3 hxO bO hTM
  go_wp2_with fail
  generalize (w3.alloc (Obj.cells #[.slice (some ⟨w2.heap.size + 1, 0, none⟩) l.length l.length] 30)).alloc (Obj.cells #[.int .i64 ((l.length : Int) - 1)] 3) = W5 at *
  generalize w3.heap.size + 1 = A0 at *
  generalize w3.heap.size = O at *
  generalize w2.alloc (Obj.cells #[.slice ae es.length ce] 25) = W2 at *
  generalize w2.heap.size + 1 = D at *
  generalize w2.heap.size = E at *
  clear hW2
  go_loopg [13, 14] l.length (fun m x y wr => ∃ (i A : Nat), m = i ∧ i ≤ l.length ∧ x = .int .i64 (cntA (l.take i) : Int) ∧ y = .pointer (some ⟨A, 0, none⟩) ∧ TM W2 wr O D A l.length tv i)
  case atStart => exact ⟨l.length, A0, rfl, Nat.le_refl _, by rw [HCT.out], rfl, HTM.out⟩
  case round =>
    obtain ⟨i, A, hgi, hil, rfl, rfl, hT⟩ := hrel
    have HGI := Lib.hid hgi
    clear HTM hgi
    have HT := Lib.hid hT
    cases i with
    | zero =>
      have cA := blk_cell hT.a (i := 0) rfl
      have cO := blk_cell hT.o (i := 0) rfl
      have hr := hT.row
      have e : mixL tv 0 = tv := by simp [mixL]
      rw [e] at hr
      have HRW := Lib.hid hr
      have HEW := Lib.hid (HE2.out.trans hT.ext)
      have HSZ := Lib.hid HE2.out.size
      clear hT hr e
      go_wp2
      go_ret2
      exact ⟨D, rfl, own_down HRW.out HSZ.out, HEW.out⟩
    | succ j =>
      have hj : j < l.length := by omega
      have haj : ((j + 1 : Nat) : Int) - 1 = (j : Int) := by omega
      have ha := hT.a
      rw [haj] at ha
      have cA := blk_cell ha (i := 0) rfl
      have cO := blk_cell hT.o (i := 0) rfl
      have hEW := HE2.out.trans hT.ext
      obtain ⟨b, off, hb, hc⟩ := (HR.out.ext hEW).ops
      obtain rfl := hb hpos
      obtain ⟨k1, k2⟩ := hc j hj
      have htva := HTV.out j l[j].1 l[j].2 (List.getElem?_eq_getElem hj)
      obtain ⟨hf1, hf2, hf3, hf4⟩ := HF.out.fit l[j] (by simp)
      have HTA := Lib.hid htva
      have HA := Lib.hid ha
      have HCL := Lib.hid (HLL.out j hj)
      have hjI : (j : Int) < (l.length : Int) := by omega
      have hj0 : (0 : Int) ≤ (j : Int) := by omega
      have hcD := own_bool hT.row (i := j) mixL_at
      have hfD := own_freeAt hT.row j
      have hAO := hT.oa
      have hOD := hT.od
      have hAD := hT.ad
      have hDO : ¬ D = O := fun e => hOD e.symm
      have hDA : ¬ D = A := fun e => hAD e.symm
      have hnA : ∀ b : Bool, tv.getD (j + 1) false = b → j + 1 < l.length → wr.cell? ⟨D, j + 1, none⟩ = some (.bool b) := fun b hb h => by
        have := getD_some (l := tv) (i := j + 1) (by rw [HTL.out]; exact h)
        rw [hb] at this
        exact own_bool hT.row (by rw [mixL_get (Nat.le_refl _)]; exact this)
      have hnB : ∀ (b : Bool) (s : Nat), tv.getD s false = b → j + 1 < s → s < l.length → wr.cell? ⟨D, s, none⟩ = some (.bool b) := fun b s hb h1 h2 => by
        have := getD_some (l := tv) (i := s) (by rw [HTL.out]; exact h2)
        rw [hb] at this
        exact own_bool hT.row (by rw [mixL_get (by omega)]; exact this)
      have HF1 := Lib.hid fun (b : Bool) (hb : tv.getD (j + 1) false = b) (h : j + 1 < l.length) wx (hx : Ext wr wx) => first_any wx O D A l.length j b (blk_ext hT.o hx) (blk_ext ha hx) (cell_later hx (hnA b hb h)) h hl60
      have HF2 := Lib.hid fun (b : Bool) (s : Nat) (hb : tv.getD s false = b) (h1 : j + 1 < s) (h2 : s < l.length) (h3 : es[j + 1]? = some (s : Int)) wx (hx : Ext wr wx) => second_any wx O D E A l.length j s ae ce es.length es b (blk_ext hT.o hx) (blk_ext ha hx) (blk_ext BE.out (hT.ext.trans hx)) (HRE.out.ext (hT.ext.trans hx)) h3 (cell_later hx (hnB b s hb h1 h2)) h2 (by omega)
      clear hnA hnB
      generalize cntA (l.take (j + 1)) = cn1 at *
      generalize hcn0 : cntA (l.take j) = cn0 at *
      have HC0 := Lib.hid hcn0
      generalize hlj : l[j] = o at *
      obtain ⟨k, u⟩ := o
      simp only at k1 k2 hf1 hf2 hf3 hf4 HTA HCL
      have HLJ := Lib.hid hlj
      clear hc hb hT htva ha hcn0 hlj
      have hcase : k = 13 ∨ k = 11 ∨ k = 12 ∨ k = 10 ∨ k = 8 ∨ k = 9 ∨ 14 ≤ k := by omega
      rcases hcase with rfl | rfl | rfl | rfl | rfl | rfl | hk14
      · -- prop
        obtain ⟨h5, h6⟩ := hf3 rfl
        obtain ⟨un, rfl⟩ : ∃ un : Nat, u = (un : Int) := ⟨u.toNat, by omega⟩
        obtain ⟨bL, oL, hL1, hL2⟩ := row_ints (HRL.out.ext hEW)
        obtain rfl := hL1 (by omega)
        have cL := hL2 un _ (getD_some (by omega))
        have hpv := HTA.out.prop rfl
        rw [show ((un : Int)).toNat = un by omega] at hpv
        have HPV := Lib.hid hpv
        have hcc : cn1 = cn0 := HCL.out
        have HCC := Lib.hid hcc
        generalize L.getD un false = bb at *
        clear hpv hcc hL1 hL2 hf3 hf4 HF1 HF2
        go_wp2_with fail
        go_region
        all_goals
          go_wp2_with fail
          go_roundg j
          case measure => have := HGI.out; omega
          case rel => exact ⟨j, _, rfl, by omega, by rw [HCC.out, HC0.out], rfl, by first | exact HT.out.fin (w' := wr) (Ext.refl _) HPV.out rfl (by simp) | exact (HT.out.fin (w' := wr) (Ext.refl _) HPV.out rfl (by simp)).later (Below.drew (Ext.refl _)) | exact (HT.out.fin (w' := wr) (Ext.refl _) HPV.out rfl (by simp)).later (below_drewN (Ext.refl _) _)⟩
      · -- yes
        have HPV := Lib.hid (HTA.out.yes rfl)
        have hcc : cn1 = cn0 := HCL.out
        have HCC := Lib.hid hcc
        clear hcc hf3 hf4 HF1 HF2
        go_wp2_with fail
        go_roundg j
        case measure => have := HGI.out; omega
        case rel => exact ⟨j, _, rfl, by omega, by rw [HCC.out, HC0.out], rfl, by first | exact HT.out.fin (w' := wr) (Ext.refl _) HPV.out rfl (by simp) | exact (HT.out.fin (w' := wr) (Ext.refl _) HPV.out rfl (by simp)).later (Below.drew (Ext.refl _)) | exact (HT.out.fin (w' := wr) (Ext.refl _) HPV.out rfl (by simp)).later (below_drewN (Ext.refl _) _)⟩
      · -- no
        have HPV := Lib.hid (HTA.out.no rfl)
        have hcc : cn1 = cn0 := HCL.out
        have HCC := Lib.hid hcc
        clear hcc hf3 hf4 HF1 HF2
        go_wp2_with fail
        go_roundg j
        case measure => have := HGI.out; omega
        case rel => exact ⟨j, _, rfl, by omega, by rw [HCC.out, HC0.out], rfl, HT.out.same HPV.out rfl⟩
      · -- not
        have hpv := HTA.out.not rfl
        have hone := HTA.out.one (.inl rfl)
        obtain ⟨b1, hb1⟩ : ∃ b, tv.getD (j + 1) false = b := ⟨_, rfl⟩
        rw [hb1] at hpv
        have HFF := Lib.hid (HF1.out b1 hb1 hone)
        have HPV := Lib.hid hpv
        have hcc : cn1 = cn0 := HCL.out
        have HCC := Lib.hid hcc
        clear hcc hf3 hf4 HF1 HF2 hpv hone hb1
        go_wp2_with fail
        go_region_law (go_simp
                       go_at_call 33
                       refine (HFF.out _ (by first | exact Ext.refl _ | exact Below.drew (Ext.refl _))).mono ?_
                       rintro e wq ⟨rfl, rfl⟩)
        all_goals
          go_wp2_with fail
          go_roundg j
          case measure => have := HGI.out; omega
          case rel => exact ⟨j, _, rfl, by omega, by rw [HCC.out, HC0.out], rfl, by first | exact HT.out.fin (w' := wr) (Ext.refl _) HPV.out rfl (by simp) | exact (HT.out.fin (w' := wr) (Ext.refl _) HPV.out rfl (by simp)).later (Below.drew (Ext.refl _)) | exact (HT.out.fin (w' := wr) (Ext.refl _) HPV.out rfl (by simp)).later (below_drewN (Ext.refl _) _)⟩
      · -- and
        have hpv := HTA.out.and rfl
        have hone := HTA.out.one (.inr rfl)
        obtain ⟨ht1, ht2, ht3⟩ := HTA.out.two rfl
        obtain ⟨b1, hb1⟩ : ∃ b, tv.getD (j + 1) false = b := ⟨_, rfl⟩
        obtain ⟨s, hs⟩ : ∃ s, secAt es j = s := ⟨_, rfl⟩
        rw [hs] at hpv ht1 ht2 ht3
        obtain ⟨b2, hb2⟩ : ∃ b, tv.getD s false = b := ⟨_, rfl⟩
        rw [hb1, hb2] at hpv
        have HFF := Lib.hid (HF1.out b1 hb1 hone)
        have HSS := Lib.hid (HF2.out b2 s hb2 ht2 ht3 ht1)
        have hcc : cn1 = cn0 := HCL.out
        have HCC := Lib.hid hcc
        clear hcc hf3 hf4 HF1 HF2 hone hb1 hb2 ht1 ht2 ht3 hs
        cases b1
        · skip
          have HPV := Lib.hid hpv
          clear hpv
          go_wp2_with fail
          have HSF := Lib.hid (still_of (HFF.out wr.drew (Below.drew (Ext.refl _))))
          have cO' : wr.drew.cell? ⟨O, 0, none⟩ = some (.slice (some ⟨D, 0, none⟩) l.length l.length) := cO
          have cA' : wr.drew.cell? ⟨A, 0, none⟩ = some (.int .i64 (j : Int)) := cA
          refine region_tail 9 (by kernel_rfl) (by kernel_rfl) ?_
          generalize hWd : wr.drew = Wd at *
          have HWD := Lib.hid hWd
          clear hWd
          simp only [List.take_succ_cons, List.take_zero, List.drop_succ_cons, List.drop_zero]
          iterate 3 still_step
          still_call HSF.out
          iterate 5 still_step
          refine wpStill_nil ?_
          rw [← HWD.out]
          go_wp2_with fail
          go_roundg j
          case measure => have := HGI.out; omega
          case rel => exact ⟨j, _, rfl, by omega, by rw [HCC.out, HC0.out], rfl, by first | exact HT.out.fin (w' := wr) (Ext.refl _) HPV.out rfl (by simp) | exact (HT.out.fin (w' := wr) (Ext.refl _) HPV.out rfl (by simp)).later (Below.drew (Ext.refl _)) | exact (HT.out.fin (w' := wr) (Ext.refl _) HPV.out rfl (by simp)).later (below_drewN (Ext.refl _) _)⟩
        · skip
          have HPV := Lib.hid hpv
          clear hpv
          go_wp2_with fail
          go_region_held3 (fun w' => w'.cell? ⟨O, 0, none⟩ = some (.slice (some ⟨D, 0, none⟩) l.length l.length) ∧ w'.cell? ⟨A, 0, none⟩ = some (.int .i64 (j : Int)))
            ((first
              | go_keep
              | exact ⟨cell_later (below_drewN (Ext.refl _) _) cO, cell_later (below_drewN (Ext.refl _) _) cA⟩
              | exact ⟨cell_later (Below.drew (Ext.refl _)) cO, cell_later (Below.drew (Ext.refl _)) cA⟩))
            (first
              | (go_at_call 33
                 refine (HFF.out _ (by first | exact Ext.refl _ | exact Below.drew (Ext.refl _))).mono ?_
                 rintro e wq ⟨rfl, rfl⟩)
              | (go_at_call 34
                 refine (HSS.out _ (by first | exact Ext.refl _ | exact Below.drew (Ext.refl _))).mono ?_
                 rintro e wq ⟨rfl, q, rfl⟩))
          all_goals
            go_wp2_with fail
            go_roundg j
            case measure => have := HGI.out; omega
            case rel => exact ⟨j, _, rfl, by omega, by rw [HCC.out, HC0.out], rfl, by first | exact HT.out.fin (w' := wr) (Ext.refl _) HPV.out rfl (by simp) | exact (HT.out.fin (w' := wr) (Ext.refl _) HPV.out rfl (by simp)).later (Below.drew (Ext.refl _)) | exact (HT.out.fin (w' := wr) (Ext.refl _) HPV.out rfl (by simp)).later (below_drewN (Ext.refl _) _)⟩
      · -- or
        have hpv := HTA.out.or rfl
        have hone := HTA.out.one (.inr rfl)
        obtain ⟨ht1, ht2, ht3⟩ := HTA.out.two rfl
        obtain ⟨b1, hb1⟩ : ∃ b, tv.getD (j + 1) false = b := ⟨_, rfl⟩
        obtain ⟨s, hs⟩ : ∃ s, secAt es j = s := ⟨_, rfl⟩
        rw [hs] at hpv ht1 ht2 ht3
        obtain ⟨b2, hb2⟩ : ∃ b, tv.getD s false = b := ⟨_, rfl⟩
        rw [hb1, hb2] at hpv
        have HFF := Lib.hid (HF1.out b1 hb1 hone)
        have HSS := Lib.hid (HF2.out b2 s hb2 ht2 ht3 ht1)
        have hcc : cn1 = cn0 := HCL.out
        have HCC := Lib.hid hcc
        clear hcc hf3 hf4 HF1 HF2 hone hb1 hb2 ht1 ht2 ht3 hs
        cases b1
        · skip
          have HPV := Lib.hid hpv
          clear hpv
          go_wp2_with fail
          go_region_held3 (fun w' => w'.cell? ⟨O, 0, none⟩ = some (.slice (some ⟨D, 0, none⟩) l.length l.length) ∧ w'.cell? ⟨A, 0, none⟩ = some (.int .i64 (j : Int)))
            ((first
              | go_keep
              | exact ⟨cell_later (below_drewN (Ext.refl _) _) cO, cell_later (below_drewN (Ext.refl _) _) cA⟩
              | exact ⟨cell_later (Below.drew (Ext.refl _)) cO, cell_later (Below.drew (Ext.refl _)) cA⟩))
            (first
              | (go_at_call 33
                 refine (HFF.out _ (by first | exact Ext.refl _ | exact Below.drew (Ext.refl _))).mono ?_
                 rintro e wq ⟨rfl, rfl⟩)
              | (go_at_call 34
                 refine (HSS.out _ (by first | exact Ext.refl _ | exact Below.drew (Ext.refl _))).mono ?_
                 rintro e wq ⟨rfl, q, rfl⟩))
          all_goals
            go_wp2_with fail
            go_roundg j
            case measure => have := HGI.out; omega
            case rel => exact ⟨j, _, rfl, by omega, by rw [HCC.out, HC0.out], rfl, by first | exact HT.out.fin (w' := wr) (Ext.refl _) HPV.out rfl (by simp) | exact (HT.out.fin (w' := wr) (Ext.refl _) HPV.out rfl (by simp)).later (Below.drew (Ext.refl _)) | exact (HT.out.fin (w' := wr) (Ext.refl _) HPV.out rfl (by simp)).later (below_drewN (Ext.refl _) _)⟩
        · skip
          have HPV := Lib.hid hpv
          clear hpv
          go_wp2_with fail
          have HSF := Lib.hid (still_of (HFF.out wr.drew (Below.drew (Ext.refl _))))
          have cO' : wr.drew.cell? ⟨O, 0, none⟩ = some (.slice (some ⟨D, 0, none⟩) l.length l.length) := cO
          have cA' : wr.drew.cell? ⟨A, 0, none⟩ = some (.int .i64 (j : Int)) := cA
          refine region_tail 9 (by kernel_rfl) (by kernel_rfl) ?_
          generalize hWd : wr.drew = Wd at *
          have HWD := Lib.hid hWd
          clear hWd
          simp only [List.take_succ_cons, List.take_zero, List.drop_succ_cons, List.drop_zero]
          iterate 3 still_step
          still_call HSF.out
          iterate 5 still_step
          refine wpStill_nil ?_
          rw [← HWD.out]
          go_wp2_with fail
          go_roundg j
          case measure => have := HGI.out; omega
          case rel => exact ⟨j, _, rfl, by omega, by rw [HCC.out, HC0.out], rfl, by first | exact HT.out.fin (w' := wr) (Ext.refl _) HPV.out rfl (by simp) | exact (HT.out.fin (w' := wr) (Ext.refl _) HPV.out rfl (by simp)).later (Below.drew (Ext.refl _)) | exact (HT.out.fin (w' := wr) (Ext.refl _) HPV.out rfl (by simp)).later (below_drewN (Ext.refl _) _)⟩
      · -- ahead
        have hah : aheadB k = true := by simp [aheadB, hk14, hf2]
        have HPV := Lib.hid (HTA.out.ah hah)
        have hcc : cn1 = cn0 + 1 := by have := HCL.out; rw [hah] at this; exact this
        subst hcc
        have hb13 : (k == 13) = false := by rw [beq_eq_false_iff_ne]; omega
        have hb11 : (k == 11) = false := by rw [beq_eq_false_iff_ne]; omega
        have hb12 : (k == 12) = false := by rw [beq_eq_false_iff_ne]; omega
        have hb10 : (k == 10) = false := by rw [beq_eq_false_iff_ne]; omega
        have hb8 : (k == 8) = false := by rw [beq_eq_false_iff_ne]; omega
        have hb9 : (k == 9) = false := by rw [beq_eq_false_iff_ne]; omega
        have hcn6 : cn0 ≤ 6 := by have := cntA_take_le l j; have := HC0.out; have := HCN.out; omega
        clear hf3 hf4 HF1 HF2 hah
        have hbt := bit_shr c cn0 hc64
        have hpv := HPV.out
        rw [HC0.out] at hpv
        have HPV := Lib.hid hpv
        clear hpv
        go_wp2_with fail
        go_region
        all_goals
          go_wp2_with fail
          go_roundg j
          case measure => have := HGI.out; omega
          case rel => exact ⟨j, _, rfl, by omega, by rw [HC0.out], rfl, by first | exact HT.out.fin (w' := wr) (Ext.refl _) HPV.out rfl (by simp) | exact (HT.out.fin (w' := wr) (Ext.refl _) HPV.out rfl (by simp)).later (Below.drew (Ext.refl _)) | exact (HT.out.fin (w' := wr) (Ext.refl _) HPV.out rfl (by simp)).later (below_drewN (Ext.refl _) _)⟩

end Go.Proofs.YtffjhhpikgodiaaDoor
