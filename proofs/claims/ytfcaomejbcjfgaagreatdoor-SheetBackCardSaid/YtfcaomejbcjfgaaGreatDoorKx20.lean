/- Several texts in one: ShBk; ShBs. No condition. -/
import Derived.Test.YtfcaomejbcjfgaaGreatDoorKx19
import Derived.Test.YtfcaomejbcjfgaaGreatDoorKx17
import Derived.Lib.AtoiTie
import Derived.Test.YtfcaomejbcjfgaaGreatDoorKx11
namespace Go.Proofs.YtfcaomejbcjfgaaGreatDoor
theorem digit_val (m : Nat) (h : m < 10) : Lib.digitVal (UInt8.ofNat (48 + m)) = some m := by
  have : ∀ m, m < 10 → Lib.digitVal (UInt8.ofNat (48 + m)) = some m := by decide
  exact this m h
theorem digit_nat (m : Nat) (h : m < 10) : 48 ≤ (UInt8.ofNat (48 + m)).toNat ∧ (UInt8.ofNat (48 + m)).toNat ≤ 57 := by
  have : ∀ m, m < 10 → 48 ≤ (UInt8.ofNat (48 + m)).toNat ∧ (UInt8.ofNat (48 + m)).toNat ≤ 57 := by decide
  exact this m h
theorem decFrom_app : ∀ (a : List UInt8) (acc : Nat) (b : List UInt8), Lib.decFrom acc (a ++ b) = (Lib.decFrom acc a).bind fun x => Lib.decFrom x b
  | [], _, _ => rfl
  | c :: a, acc, b => by
    rw [List.cons_append, Lib.decFrom, Lib.decFrom]
    cases Lib.digitVal c with
    | none => rfl
    | some d => exact decFrom_app a _ b
theorem decFrom_digits : ∀ k m, m < k → Lib.decFrom 0 (Lib.decDigits m) = some m
  | 0, m, h => by omega
  | k + 1, m, hm => by
    rw [Lib.decDigits]
    by_cases h : m < 10
    · rw [dif_pos h, Lib.decFrom, digit_val m h]
      simp [Lib.decFrom]
    · rw [dif_neg h, decFrom_app, decFrom_digits k (m / 10) (by omega)]
      show Lib.decFrom (m / 10) [UInt8.ofNat (48 + m % 10)] = some m
      rw [Lib.decFrom, digit_val (m % 10) (by omega)]
      simp only [Lib.decFrom, Option.some.injEq]
      omega
theorem decDigits_head : ∀ k m, m < k → ∃ c r, Lib.decDigits m = c :: r ∧ 48 ≤ c.toNat ∧ c.toNat ≤ 57
  | 0, m, h => by omega
  | k + 1, m, hm => by
    rw [Lib.decDigits]
    by_cases h : m < 10
    · rw [dif_pos h]
      exact ⟨_, _, rfl, digit_nat m h⟩
    · rw [dif_neg h]
      obtain ⟨c, r, e, h1⟩ := decDigits_head k (m / 10) (by omega)
      rw [e]
      exact ⟨c, _, rfl, h1⟩
theorem decDigits_le : ∀ k m, m < 10 ^ (k + 1) → (Lib.decDigits m).length ≤ k + 1
  | 0, m, hm => by
    have h : m < 10 := by simpa using hm
    rw [Lib.decDigits, dif_pos h]; simp
  | k + 1, m, hm => by
    rw [Lib.decDigits]
    split
    · simp
    · have := decDigits_le k (m / 10) (by rw [Nat.div_lt_iff_lt_mul (by omega), ← Nat.pow_succ]; exact hm)
      simp; omega
theorem decNat_digits (m : Nat) : Lib.decNat (Lib.decDigits m) = some m := by
  obtain ⟨c, r, e, _⟩ := decDigits_head (m + 1) m (by omega)
  unfold Lib.decNat
  rw [e, List.isEmpty_cons, if_neg (by decide), ← e]
  exact decFrom_digits (m + 1) m (by omega)
theorem itoa_head (n : Int) : ∃ c r, Lib.itoa n = c :: r ∧ ((48 ≤ c.toNat ∧ c.toNat ≤ 57) ∨ c = 45 ∧ r ≠ []) := by
  unfold Lib.itoa
  split
  · obtain ⟨c, r, e, _⟩ := decDigits_head (n.natAbs + 1) n.natAbs (by omega)
    exact ⟨45, _, rfl, .inr ⟨rfl, by rw [e]; simp⟩⟩
  · obtain ⟨c, r, e, h⟩ := decDigits_head (n.toNat + 1) n.toNat (by omega)
    exact ⟨c, r, e, .inl h⟩
theorem atoi_itoa (n : Int) : Lib.atoi (Lib.itoa n) = some n := by
  unfold Lib.itoa
  split
  · have : Lib.atoi (45 :: Lib.decDigits n.natAbs) = (Lib.decNat (Lib.decDigits n.natAbs)).map fun (m : Nat) => -(m : Int) := rfl
    rw [this, decNat_digits]
    simp only [Option.map_some, Option.some.injEq]
    omega
  · obtain ⟨c, r, e, h1, h2⟩ := decDigits_head (n.toNat + 1) n.toNat (by omega)
    have h45 : (c == 45) = false := by
      rw [beq_eq_false_iff_ne]; intro e; subst e; simp at h1
    have h43 : (c == 43) = false := by
      rw [beq_eq_false_iff_ne]; intro e; subst e; simp at h1
    have : Lib.atoi (Lib.decDigits n.toNat) = (Lib.decNat (Lib.decDigits n.toNat)).map fun (m : Nat) => (m : Int) := by
      rw [e]
      simp only [Lib.atoi, h45, h43]
      rfl
    rw [this, decNat_digits]
    simp only [Option.map_some, Option.some.injEq]
    omega
theorem atoiN_itoa {n : Int} (h : -1000 ≤ n ∧ n ≤ 1000) : atoiN (Lib.itoa n) = n := by
  have hl : (Lib.itoa n).length ≤ 18 := by
    unfold Lib.itoa
    split
    · have := decDigits_le 3 n.natAbs (by show _ < 10000; omega)
      simp; omega
    · have := decDigits_le 3 n.toNat (by show _ < 10000; omega)
      omega
  unfold atoiN
  rw [Lib.atoiAll_short _ hl, atoi_itoa]
  rfl
def mkB (l : List UInt8) : Bool := match l with
  | [] => true
  | c :: r => !(decide (48 ≤ c.toNat) && decide (c.toNat ≤ 57)) && (c != 45 || r.isEmpty) && c != 80 && (!(decide (97 ≤ c.toNat)) || decide (122 < c.toNat) || l == [121, 101, 115] || l == [110, 111])
theorem marks_mkB : ∀ j, j < 19 → mkB (marksL.getD j []) = true := by decide
theorem no_mark {l : List UInt8} (hl : mkB l = false) : ¬ markAt l < 19 := markAt_no fun j hj h => by
  have := marks_mkB j hj
  rw [h.2, hl] at this
  cases this
theorem mark_at : ∀ k, k < 19 → marksL.getD k [] ≠ [] → markAt (marksL.getD k []) = k := by decide
theorem name_head {s : ByteArray} (h : NameOk s) : ∃ c r, s.data.toList = c :: r ∧ 97 ≤ c.toNat ∧ c.toNat ≤ 122 := by
  have h0 := h.pos
  have h1 := h.ch 0 h0
  have e : s.data.toList.length = s.size := (Lib.size_eq s).symm
  cases hl : s.data.toList with
  | nil => rw [hl] at e; simp at e; omega
  | cons c r =>
    have e2 : s[0] = c := by
      have : s.data.toList[0]? = some c := by rw [hl]; rfl
      have h3 : s.data[0]? = some c := by simpa using this
      have h4 : s.data[0] = c := by
        have := Array.getElem?_eq_some_iff.1 h3
        exact this.2
      exact h4
    rw [e2] at h1
    exact ⟨c, r, rfl, by omega, by omega⟩
theorem name_mkB {s : ByteArray} (h : NameOk s) : mkB s.data.toList = false := by
  obtain ⟨c, r, e, h1, h2⟩ := name_head h
  have hy := h.yes
  have hn := h.no
  rw [ByteArray.toList_eq] at hy hn
  rw [e] at hy hn ⊢
  have b1 : (c :: r == [121, 101, 115]) = false := by rw [beq_eq_false_iff_ne]; exact hy
  have b2 : (c :: r == [110, 111]) = false := by rw [beq_eq_false_iff_ne]; exact hn
  simp only [mkB, b1, b2]
  have d1 : decide (97 ≤ c.toNat) = true := by simpa using h1
  have d2 : decide (122 < c.toNat) = false := by simpa using h2
  simp [d1, d2]
theorem num_mkB (n : Int) : mkB (Lib.itoa n) = false := by
  obtain ⟨c, r, e, h⟩ := itoa_head n
  rw [e]
  rcases h with ⟨h1, h2⟩ | ⟨rfl, h⟩
  · have d1 : decide (48 ≤ c.toNat) = true := by simpa using h1
    have d2 : decide (c.toNat ≤ 57) = true := by simpa using h2
    simp only [mkB, d1, d2]
    simp
  · have : r.isEmpty = false := by cases r with | nil => exact absurd rfl h | cons a b => rfl
    simp only [mkB, this]
    simp
theorem name_not {vs : List Vr} (hn : ∀ v ∈ vs, NameOk v.name) {l : List UInt8} {c : UInt8} {r : List UInt8} (hl : l = c :: r) (hc : ¬ (97 ≤ c.toNat ∧ c.toNat ≤ 122)) : varAt vs ⟨l.toArray⟩ = -1 :=
  varAt_no fun j hj e => by
    obtain ⟨c', r', e1, h1⟩ := name_head (hn _ (List.getElem_mem hj))
    rw [e, hl] at e1
    injection e1 with e1 _
    subst e1
    exact hc h1
theorem opR_num {vs : List Vr} (hn : ∀ v ∈ vs, NameOk v.name) {x : Int} (hx : -1000 ≤ x ∧ x ≤ 1000) : opR vs ⟨(Lib.itoa x).toArray⟩ = (1, x) := by
  obtain ⟨c, r, e, h⟩ := itoa_head x
  have hc : ¬ (97 ≤ c.toNat ∧ c.toNat ≤ 122) := by
    rcases h with h | ⟨rfl, _⟩
    · omega
    · decide
  unfold opR
  rw [if_neg (no_mark (num_mkB x)), name_not hn e hc, if_neg (by decide), if_neg, atoiN_itoa hx]
  show ¬ Lib.hasPrefix (Lib.itoa x) [80] = true
  rw [e]
  have : c ≠ 80 := by
    rintro rfl
    rcases h with h | ⟨h, _⟩
    · simp at h
    · cases h
  simp [Lib.hasPrefix, List.isPrefixOf, Ne.symm this]
theorem opR_prop {vs : List Vr} (hn : ∀ v ∈ vs, NameOk v.name) {x : Int} (hx : -1000 ≤ x ∧ x ≤ 1000) : opR vs ⟨(80 :: Lib.itoa x).toArray⟩ = (13, x) := by
  unfold opR
  rw [if_neg (no_mark (by simp [mkB])), name_not hn (l := 80 :: Lib.itoa x) rfl (by decide), if_neg (by decide), if_pos]
  · show (13, atoiN (Lib.trimPrefix (80 :: Lib.itoa x) [80])) = (13, x)
    have : Lib.trimPrefix (80 :: Lib.itoa x) [80] = Lib.itoa x := by simp [Lib.trimPrefix, Lib.hasPrefix, List.isPrefixOf]
    rw [this, atoiN_itoa hx]
  · show Lib.hasPrefix (80 :: Lib.itoa x) [80] = true
    simp [Lib.hasPrefix, List.isPrefixOf]
theorem varAt_name {vs : List Vr} (hd : (vs.map (·.name)).Nodup) {i : Nat} (hi : i < vs.length) : varAt vs vs[i].name = (i : Int) :=
  varAt_at hi rfl fun j hj hlt e => by
    have h1 := List.pairwise_iff_getElem.1 hd j i (by simpa using hj) (by simpa using hi) hlt
    simp only [List.getElem_map] at h1
    exact h1 e
theorem opR_var {vs : List Vr} (hn : ∀ v ∈ vs, NameOk v.name) (hd : (vs.map (·.name)).Nodup) {i : Nat} (hi : i < vs.length) : opR vs vs[i].name = (2, (i : Int)) := by
  unfold opR
  rw [if_neg (no_mark (name_mkB (hn _ (List.getElem_mem hi)))), varAt_name hd hi, if_pos (by omega)]
theorem opR_mark (vs : List Vr) {k : Nat} (hk : k < 19) (h : marksL.getD k [] ≠ []) : opR vs ⟨(marksL.getD k []).toArray⟩ = ((k : Int), 0) := by
  unfold opR
  rw [show (⟨(marksL.getD k []).toArray⟩ : ByteArray).data.toList = marksL.getD k [] from rfl, mark_at k hk h, if_pos hk]
def OpG (n : Nat) (o : Op2) : Prop := (o.1 = 1 ∧ -1000 ≤ o.2 ∧ o.2 ≤ 1000) ∨ (o.1 = 2 ∧ 0 ≤ o.2 ∧ o.2 < n) ∨ (o.1 = 13 ∧ -1000 ≤ o.2 ∧ o.2 ≤ 1000) ∨ (o.2 = 0 ∧ (3 ≤ o.1 ∧ o.1 ≤ 12 ∨ 14 ≤ o.1 ∧ o.1 ≤ 18))
theorem nameL_at (vs : List Vr) {i : Nat} (hi : i < vs.length) : nameL vs (i : Int) = vs[i].name.data.toList := by
  unfold nameL
  rw [show ((i : Int)).toNat = i by omega, List.getD_eq_getElem?_getD, List.getElem?_eq_getElem hi]; rfl
theorem op_back {vs : List Vr} (hn : ∀ v ∈ vs, NameOk v.name) (hd : (vs.map (·.name)).Nodup) {o : Op2} (h : OpG vs.length o) : opR vs ⟨(wordO vs o).toArray⟩ = o := by
  obtain ⟨k, x⟩ := o
  unfold OpG at h
  simp only at h
  unfold wordO
  simp only
  rcases h with ⟨rfl, h⟩ | ⟨rfl, h1, h2⟩ | ⟨rfl, h⟩ | ⟨rfl, h⟩
  · rw [if_pos rfl]; exact opR_num hn h
  · rw [if_neg (by decide), if_pos rfl]
    obtain ⟨i, rfl⟩ : ∃ i : Nat, x = (i : Int) := ⟨x.toNat, by omega⟩
    have hi : i < vs.length := by omega
    rw [nameL_at vs hi, Lib.mk_data]
    exact opR_var hn hd hi
  · rw [if_neg (by decide), if_neg (by decide), if_pos rfl]; exact opR_prop hn h
  · obtain ⟨j, rfl⟩ : ∃ j : Nat, k = (j : Int) := ⟨k.toNat, by omega⟩
    rw [if_neg (by omega), if_neg (by omega), if_neg (by omega), show ((j : Int)).toNat = j by omega]
    have hj : j < 19 := by omega
    refine opR_mark vs hj ?_
    have : ∀ j, j < 19 → (3 ≤ j ∧ j ≤ 12 ∨ 14 ≤ j ∧ j ≤ 18) → marksL.getD j [] ≠ [] := by decide
    exact this j hj (by omega)
theorem KindG.opg {l : List Op2} {n : Nat} {b : Bool} (h : KindG l n b) : ∀ o ∈ l, OpG n o := by
  intro o ho
  unfold KindG checkL at h
  split at h
  · cases h
  · split at h
    · cases h
    · unfold checkE at h
      split at h
      · cases h
      · rename_i hf
        have := List.find?_eq_none.1 hf o ho
        have h0 : opE o n = 0 := by simpa using this
        obtain ⟨q1, q2, q3, q4⟩ := opE_zero h0
        have hk2 : 1 ≤ o.1 ∧ o.1 ≤ 12 := by unfold okK at q1; simpa using q1
        by_cases e1 : o.1 = 1
        · exact .inl ⟨e1, q2 e1⟩
        · by_cases e2 : o.1 = 2
          · exact .inr (.inl ⟨e2, q3 e2⟩)
          · exact .inr (.inr (.inr ⟨q4 e1 e2, .inl (by omega)⟩))
theorem FormG.opg {p : Int} {l : List Op2} (h : FormG p l) (n : Nat) : ∀ o ∈ l, OpG n o := by
  intro o ho
  obtain ⟨h1, h2, h3, h4⟩ := h.fit o ho
  have := h.p6
  by_cases e : o.1 = 13
  · have := h3 e
    exact .inr (.inr (.inl ⟨e, by omega, by omega⟩))
  · exact .inr (.inr (.inr ⟨h4 e, by omega⟩))
def baL (ws : List (List UInt8)) : List ByteArray := ws.map fun l => ⟨l.toArray⟩
theorem term_back {vs : List Vr} (hn : ∀ v ∈ vs, NameOk v.name) (hd : (vs.map (·.name)).Nodup) : ∀ {l : List Op2}, (∀ o ∈ l, OpG vs.length o) → termR vs (baL (opsW vs l)) = l
  | [], _ => rfl
  | o :: l, h => by
    show opR vs ⟨(wordO vs o).toArray⟩ :: termR vs (baL (opsW vs l)) = o :: l
    rw [op_back hn hd (h o (by simp)), term_back hn hd fun x hx => h x (List.mem_cons_of_mem _ hx)]
theorem index_hit : ∀ {w : List UInt8} (r : List UInt8), (∀ c ∈ w, c ≠ 32) → Lib.index (w ++ 32 :: r) [32] = (w.length : Int)
  | [], r, _ => by simp [Lib.index, List.isPrefixOf]
  | c :: w, r, h => by
    have ih := index_hit (w := w) r fun x hx => h x (List.mem_cons_of_mem _ hx)
    have hc : c ≠ 32 := h c (by simp)
    rw [List.cons_append, Lib.index, ih, if_neg (by simp [List.isPrefixOf, Ne.symm hc]), if_neg (by rw [beq_iff_eq]; omega)]
    simp
theorem count_hit (w r : List UInt8) (h : ∀ c ∈ w, c ≠ 32) : (w ++ 32 :: r).count 32 = r.count 32 + 1 := by
  rw [List.count_append, List.count_cons_self, List.count_eq_zero.2 fun hm => h 32 hm rfl]
  omega
theorem split_words : ∀ (ws : List (List UInt8)) (w : List UInt8), (∀ c ∈ w, c ≠ 32) → (∀ x ∈ ws, ∀ c ∈ x, c ≠ 32) → Lib.splitK [32] 0 ((w ++ joinW ws).count 32) (w ++ joinW ws) = w :: ws
  | [], w, hw, _ => by
    have : (w ++ joinW []).count 32 = 0 := by
      rw [show w ++ joinW [] = w by simp [joinW], List.count_eq_zero]
      exact fun hm => hw 32 hm rfl
    rw [this]
    simp [Lib.splitK, joinW]
  | x :: ws, w, hw, h => by
    have e : w ++ joinW (x :: ws) = w ++ 32 :: (x ++ joinW ws) := by simp [joinW]
    rw [e, count_hit w _ hw, Lib.splitK, index_hit _ hw, if_neg (by rw [beq_iff_eq]; omega)]
    have ih := split_words ws x (h x (by simp)) fun y hy => h y (List.mem_cons_of_mem _ hy)
    have e1 : (w ++ 32 :: (x ++ joinW ws)).take ((w.length : Int).toNat + 0) = w := by simp
    have e2 : (w ++ 32 :: (x ++ joinW ws)).drop ((w.length : Int).toNat + [(32 : UInt8)].length) = x ++ joinW ws := by
      rw [show (w.length : Int).toNat + [(32 : UInt8)].length = w.length + 1 by simp, List.drop_append]
      simp
    rw [e1, e2, ih]
theorem trim_end (l : List UInt8) : Lib.trimSuffix (l ++ [10]) [10] = l := by
  unfold Lib.trimSuffix Lib.hasSuffix
  rw [if_pos (by rw [List.isSuffixOf_iff_suffix]; exact List.suffix_append _ _)]
  simp
theorem wordsB_line {w : List UInt8} {ws : List (List UInt8)} (hw : NoEnd w) (h : ∀ x ∈ ws, NoEnd x) : wordsB ⟨(mkL w ws).toArray⟩ = baL (w :: ws) := by
  have e : trimB ⟨(mkL w ws).toArray⟩ = ⟨(w ++ joinW ws).toArray⟩ := by
    show (⟨(Lib.trimSuffix (w ++ joinW ws ++ [10]) [10]).toArray⟩ : ByteArray) = _
    rw [trim_end]
  have hk : Lib.countB ⟨(w ++ joinW ws).toArray⟩ ⟨#[32]⟩ = (w ++ joinW ws).count 32 := Lib.count_one 32 (w ++ joinW ws)
  have hd := Lib.splitB_data ⟨#[32]⟩ 0 ((w ++ joinW ws).count 32) ⟨(w ++ joinW ws).toArray⟩
  have hs : Lib.splitK [32] 0 ((w ++ joinW ws).count 32) (w ++ joinW ws) = w :: ws := split_words ws w (fun c hc => (hw c hc).2) fun x hx c hc => (h x hx c hc).2
  have hd2 : (Lib.splitB ⟨#[32]⟩ 0 ((w ++ joinW ws).count 32) ⟨(w ++ joinW ws).toArray⟩).map (·.data.toList) = w :: ws := hd.trans hs
  unfold wordsB
  rw [e, hk, baL, ← hd2, List.map_map]
  have : ((fun l : List UInt8 => (⟨l.toArray⟩ : ByteArray)) ∘ fun s : ByteArray => s.data.toList) = id := funext fun s => Lib.mk_data s
  rw [this, List.map_id]
theorem rdAll_app (t : Rt) (a b : List (List UInt8)) : rdAll t (a ++ b) = rdAll (rdAll t a) b := by simp [rdAll]
theorem rd_one (t : Rt) {w : List UInt8} {ws : List (List UInt8)} (hw : NoEnd w) (h : ∀ x ∈ ws, NoEnd x) : rdAll t [mkL w ws] = lineR t (baL (w :: ws)) := by
  show lineR t (wordsB ⟨(mkL w ws).toArray⟩) = _
  rw [wordsB_line hw h]
theorem vr_back {v : Vr} (h : v.Ok) : varR (baL (wVar :: varW v)) = v := by
  have h1 := h.low; have h2 := h.high; have h3 := h.i0; have h4 := h.i1
  obtain ⟨nm, lo, hi, ini⟩ := v
  simp only at h1 h2 h3 h4
  show (⟨⟨nm.data.toList.toArray⟩, atoiN (Lib.itoa lo), atoiN (Lib.itoa hi), atoiN (Lib.itoa ini)⟩ : Vr) = _
  rw [Lib.mk_data, atoiN_itoa (by omega), atoiN_itoa (by omega), atoiN_itoa (by omega)]
theorem varW_ne {v : Vr} (h : v.Ok) : ∀ x ∈ varW v, NoEnd x := by
  intro y hy
  simp [varW] at hy
  rcases hy with rfl | rfl | rfl | rfl
  · exact name_ne h.name
  all_goals exact itoa_ne _
theorem rd_vars : ∀ (l : List Vr) (t : Rt), (∀ v ∈ l, v.Ok) → rdAll t (l.map varL) = { t with vars := t.vars ++ l }
  | [], t, _ => by simp [rdAll]
  | v :: l, t, h => by
    have hv := h v (by simp)
    have e : rdAll t [varL v] = { t with vars := t.vars ++ [v] } := by
      rw [varL_eq, rd_one t (ne_dec _ rfl) (varW_ne hv)]
      show ({ t with vars := t.vars ++ [varR (baL (wVar :: varW v))] } : Rt) = _
      rw [vr_back hv]
    rw [List.map_cons, show varL v :: l.map varL = [varL v] ++ l.map varL from rfl, rdAll_app, e, rd_vars l _ fun x hx => h x (List.mem_cons_of_mem _ hx)]
    simp
section
variable {vs : List Vr} (hn : ∀ v ∈ vs, NameOk v.name) (hd : (vs.map (·.name)).Nodup)
include hn hd
theorem rd_set (t : Rt) (rs : List Rr) (r : Rr) (s : Int × List Op2) (hv : t.vars = vs) (hr : t.rules = rs ++ [r]) (h0 : 0 ≤ s.1) (h1 : s.1 < vs.length) (ho : ∀ o ∈ s.2, OpG vs.length o) :
    rdAll t [setTx vs s] = { t with rules := rs ++ [{ r with sets := r.sets ++ [s] }] } := by
  rw [setTx_eq, rd_one t (ne_dec _ rfl) (fun x hx => by
    rcases List.mem_cons.1 hx with rfl | hx
    · exact nameL_ne hn _
    · exact opsW_ne hn _ x hx)]
  obtain ⟨x, l⟩ := s
  obtain ⟨i, rfl⟩ : ∃ i : Nat, x = (i : Int) := ⟨x.toNat, by simp only at h0; omega⟩
  have hi : i < vs.length := by simp only at h1; omega
  have e1 : varAt t.vars ⟨(nameL vs (i : Int)).toArray⟩ = (i : Int) := by rw [hv, nameL_at vs hi, Lib.mk_data]; exact varAt_name hd hi
  have e2 : termR t.vars (baL (opsW vs l)) = l := by rw [hv]; exact term_back hn hd ho
  have e3 : lineR t (baL (wSet :: nameL vs (i : Int) :: opsW vs l)) = { t with rules := lastM (fun r => { r with sets := r.sets ++ [(varAt t.vars ⟨(nameL vs (i : Int)).toArray⟩, termR t.vars (baL (opsW vs l)))] }) t.rules } := by
    unfold lineR
    rw [if_neg (by simp [baL, wSet]), if_neg (by simp [baL, wSet]), if_pos (by simp [baL, wSet]), if_pos (by simp [baL])]
    rfl
  rw [e3, e1, e2, hr, lastM_snoc]
theorem rd_sets : ∀ (l : List (Int × List Op2)) (t : Rt) (rs : List Rr) (r : Rr), t.vars = vs → t.rules = rs ++ [r] → (∀ s ∈ l, 0 ≤ s.1 ∧ s.1 < vs.length ∧ ∀ o ∈ s.2, OpG vs.length o) → rdAll t (l.map (setTx vs)) = { t with rules := rs ++ [{ r with sets := r.sets ++ l }] }
  | [], t, rs, r, _, hr, _ => by
    obtain ⟨a, b, c, d⟩ := t
    simp only at hr
    subst hr
    simp [rdAll]
  | s :: l, t, rs, r, hv, hr, h => by
    obtain ⟨h0, h1, h2⟩ := h s (by simp)
    rw [List.map_cons, show setTx vs s :: l.map (setTx vs) = [setTx vs s] ++ l.map (setTx vs) from rfl, rdAll_app, rd_set hn hd t rs r s hv hr h0 h1 h2, rd_sets l { t with rules := rs ++ [{ r with sets := r.sets ++ [s] }] } rs { r with sets := r.sets ++ [s] } hv rfl fun x hx => h x (List.mem_cons_of_mem _ hx)]
    simp
theorem rd_rules : ∀ (l : List Rr) (t : Rt), t.vars = vs → (∀ r ∈ l, (∀ o ∈ r.guard, OpG vs.length o) ∧ ∀ s ∈ r.sets, 0 ≤ s.1 ∧ s.1 < vs.length ∧ ∀ o ∈ s.2, OpG vs.length o) → rdAll t (l.flatMap (ruleLs vs)) = { t with rules := t.rules ++ l }
  | [], t, _, _ => by simp [rdAll]
  | r :: l, t, hv, h => by
    obtain ⟨h1, h2⟩ := h r (by simp)
    have e : rdAll t [mkL wRule (opsW vs r.guard)] = { t with rules := t.rules ++ [⟨r.guard, []⟩] } := by
      rw [rd_one t (ne_dec _ rfl) (opsW_ne hn _)]
      have : lineR t (baL (wRule :: opsW vs r.guard)) = { t with rules := t.rules ++ [⟨termR t.vars (baL (opsW vs r.guard)), []⟩] } := by
        unfold lineR
        rw [if_neg (by simp [baL, wRule]), if_pos (by simp [baL, wRule])]
        rfl
      rw [this, hv, term_back hn hd h1]
    rw [List.flatMap_cons, rdAll_app, ruleLs, show mkL wRule (opsW vs r.guard) :: r.sets.map (setTx vs) = [mkL wRule (opsW vs r.guard)] ++ r.sets.map (setTx vs) from rfl, rdAll_app, e,
      rd_sets hn hd r.sets { t with rules := t.rules ++ [⟨r.guard, []⟩] } t.rules ⟨r.guard, []⟩ hv rfl h2, rd_rules l { t with rules := t.rules ++ [{ (⟨r.guard, []⟩ : Rr) with sets := [] ++ r.sets }] } hv fun x hx => h x (List.mem_cons_of_mem _ hx)]
    simp
theorem rd_props : ∀ (l : List (List Op2)) (t : Rt), t.vars = vs → (∀ p ∈ l, ∀ o ∈ p, OpG vs.length o) → rdAll t (l.map (propL vs)) = { t with props := t.props ++ l }
  | [], t, _, _ => by simp [rdAll]
  | p :: l, t, hv, h => by
    have e : rdAll t [propL vs p] = { t with props := t.props ++ [p] } := by
      rw [propL_eq, rd_one t (ne_dec _ rfl) (opsW_ne hn _)]
      have : lineR t (baL (wProp :: opsW vs p)) = { t with props := t.props ++ [termR t.vars (baL (opsW vs p))] } := by
        unfold lineR
        rw [if_neg (by simp [baL, wProp]), if_neg (by simp [baL, wProp]), if_neg (by simp [baL, wProp]), if_pos (by simp [baL, wProp])]
        rfl
      rw [this, hv, term_back hn hd (h p (by simp))]
    rw [List.map_cons, show propL vs p :: l.map (propL vs) = [propL vs p] ++ l.map (propL vs) from rfl, rdAll_app, e, rd_props l { t with props := t.props ++ [p] } hv fun x hx => h x (List.mem_cons_of_mem _ hx)]
    simp
theorem rd_check (t : Rt) (p : List Op2) (hv : t.vars = vs) (h : ∀ o ∈ p, OpG vs.length o) : rdAll t [checkT vs p] = { t with form := p } := by
  rw [checkT_eq, rd_one t (ne_dec _ rfl) (opsW_ne hn _)]
  have : lineR t (baL (wCheck :: opsW vs p)) = { t with form := termR t.vars (baL (opsW vs p)) } := by
    unfold lineR
    rw [if_neg (by simp [baL, wCheck]), if_neg (by simp [baL, wCheck]), if_neg (by simp [baL, wCheck]), if_neg (by simp [baL, wCheck]), if_pos (by simp [baL, wCheck])]
    rfl
  rw [this, hv, term_back hn hd h]
end
theorem read_back {t : Rt} (h : TaskG t) : rdL (showL t) = t := by
  have hn := h.names
  have hd := h.pr.md.vars.nodup
  unfold rdL
  have e1 : rdAll noRt (t.vars.map varL) = ⟨t.vars, [], [], []⟩ := rd_vars _ _ h.pr.md.vars.ok
  have e2 : rdAll ⟨t.vars, [], [], []⟩ (t.rules.flatMap (ruleLs t.vars)) = ⟨t.vars, t.rules, [], []⟩ :=
    rd_rules hn hd t.rules ⟨t.vars, [], [], []⟩ rfl (fun r hr => ⟨(h.pr.md.rules r hr).guard.opg, fun s hs => ⟨((h.pr.md.rules r hr).sets s hs).1, ((h.pr.md.rules r hr).sets s hs).2.1, ((h.pr.md.rules r hr).sets s hs).2.2.opg⟩⟩)
  have e3 : rdAll ⟨t.vars, t.rules, [], []⟩ (t.props.map (propL t.vars)) = ⟨t.vars, t.rules, t.props, []⟩ :=
    rd_props hn hd t.props ⟨t.vars, t.rules, [], []⟩ rfl (fun p hp => (h.pr.each p hp).opg)
  have e4 : rdAll ⟨t.vars, t.rules, t.props, []⟩ [checkT t.vars t.form] = t := rd_check hn hd ⟨t.vars, t.rules, t.props, []⟩ t.form rfl (h.fo.opg _)
  rw [show_lines0 hn, showLs, bodyLs, rdAll_app, rdAll_app, rdAll_app, e1, e2, e3, e4]
end Go.Proofs.YtfcaomejbcjfgaaGreatDoor

namespace Go.Proofs.YtfcaomejbcjfgaaGreatDoor
open Go Go.RowKit
set_option maxRecDepth 100000 in
set_option maxHeartbeats 4000000 in
theorem sameTask_any (v1 r1 p1 f1 v2 r2 p2 f2 : Value) (t : Rt) (w : World) (h1 : IsRt w v1 r1 p1 f1 t) (h2 : IsRt w v2 r2 p2 f2 t) (ht : TaskG t) (hg : Gl w) :
    Calls Tryz.prog 7 #[.agg #[v1, r1, p1, f1], .agg #[v2, r2, p2, f2]] w fun e w' => e = .returned (.bool true) ∧ Ext w w' := by
  have HS1 := Lib.hid fun wx (hx : Ext w wx) => show_any _ _ _ _ t wx (h1.ext hx) (hg.ext hx)
  have HS2 := Lib.hid fun wx (hx : Ext w wx) => show_any _ _ _ _ t wx (h2.ext hx) (hg.ext hx)
  have HSO := Lib.hid fun wx (hx : Ext w wx) => same_ops f1 f2 t.form wx (h1.form.ext hx) (h2.form.ext hx)
  have HT := Lib.hid ht
  obtain ⟨a1, c1, a2, c2, a3, c3, a4, c4, rfl, rfl, rfl, rfl⟩ := h1.val
  obtain ⟨b1, d1, b2, d2, b3, d3, b4, d4, rfl, rfl, rfl, rfl⟩ := h2.val
  generalize t.vars.length = n1 at *
  generalize t.rules.length = n2 at *
  generalize t.props.length = n3 at *
  generalize t.form.length = n4 at *
  clear h1 h2 ht hg
  go_enter Tryz.func7, Tryz.ntmps7
  have hB1 := blk_new w (Obj.cells #[.slice a1 n1 c1, .slice a2 n2 c2, .slice a3 n3 c3, .slice a4 n4 c4] 34)
  have hB2 := blk_new (w.alloc (Obj.cells #[.slice a1 n1 c1, .slice a2 n2 c2, .slice a3 n3 c3, .slice a4 n4 c4] 34)) (Obj.cells #[.slice b1 n1 d1, .slice b2 n2 d2, .slice b3 n3 d3, .slice b4 n4 d4] 34)
  rw [World.size_alloc] at hB2
  replace hB1 := blk_ext hB1 (ext_al (Ext.refl _) (Obj.cells #[.slice b1 n1 d1, .slice b2 n2 d2, .slice b3 n3 d3, .slice b4 n4 d4] 34))
  have EE := Lib.hid (ext_al (ext_al (Ext.refl w) (Obj.cells #[.slice a1 n1 c1, .slice a2 n2 c2, .slice a3 n3 c3, .slice a4 n4 c4] 34)) (Obj.cells #[.slice b1 n1 d1, .slice b2 n2 d2, .slice b3 n3 d3, .slice b4 n4 d4] 34))
  have HB1 := Lib.hid hB1
  have HB2 := Lib.hid hB2
  clear hB1 hB2
  go_wp2_with fail
  refine (HS1.out _ EE.out).mono ?_
  rintro e w2 ⟨c, hc, hE2, rfl⟩
  obtain rfl : c = 0 := hc.2 HT.out
  rw [if_pos rfl]
  have hb1 := blk_ext HB1.out hE2
  have hb2 := blk_ext HB2.out hE2
  have E2 := Lib.hid (EE.out.trans hE2)
  clear hE2 hc HB1 HB2
  have k0 := blk_cell hb2 (i := 0) rfl
  have k1 := blk_cell hb2 (i := 1) rfl
  have k2 := blk_cell hb2 (i := 2) rfl
  have k3 := blk_cell hb2 (i := 3) rfl
  have HB1 := Lib.hid hb1
  have HB2 := Lib.hid hb2
  clear hb1 hb2
  generalize (⟨(showL t).toArray⟩ : ByteArray) = sx at *
  go_wp2_with fail
  refine (HS2.out _ E2.out).mono ?_
  rintro e w3 ⟨c, hc, hE3, rfl⟩
  obtain rfl : c = 0 := hc.2 HT.out
  rw [if_pos rfl]
  have hb1 := blk_ext HB1.out hE3
  have hb2 := blk_ext HB2.out hE3
  have E3 := Lib.hid (E2.out.trans hE3)
  clear hE3 hc HB1 HB2 k0 k1 k2 k3
  have k1 := blk_cell hb2 (i := 1) rfl
  have k2 := blk_cell hb2 (i := 2) rfl
  have k3 := blk_cell hb2 (i := 3) rfl
  have j1 := blk_cell hb1 (i := 1) rfl
  have j2 := blk_cell hb1 (i := 2) rfl
  have j3 := blk_cell hb1 (i := 3) rfl
  clear hb1 hb2
  go_wp2_with fail
  refine (HSO.out _ E3.out).mono ?_
  rintro e w4 ⟨rfl, hE4⟩
  have E4 := Lib.hid (E3.out.trans hE4)
  clear hE4
  go_wp2
  go_ret
  exact ⟨rfl, E4.out⟩
end Go.Proofs.YtfcaomejbcjfgaaGreatDoor
