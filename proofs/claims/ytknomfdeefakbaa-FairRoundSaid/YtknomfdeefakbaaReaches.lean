/- The contract of foretellkeep.reaches. -/
import Derived.Test.YtknomfdeefakbaaGrM
import Derived.Test.YtknomfdeefakbaaReach
import Derived.Deep.LoopGhost
namespace Go.Proofs.Ytknomfdeefakbaa
open Go.RowKit

theorem Try.slBools : SlTy Try.prog 30 4 (.bool false) 1 1 := SlTy.mk' Try.underlying30 (by kernel_rfl) (by rfl) (by omega)

/-- What a search leaves: the marks. -/
def MarkPost (w : World) (n : Nat) (next : List (List Int)) (src : Nat → Prop) (v : Value) (w' : World) : Prop :=
  ∃ seen : List Bool, w'.ownsRow w.heap.size 4 1 v n (seen.map .bool) ∧ seen.length = n ∧ (∀ a : Nat, seen[a]? = some true ↔ ∃ s, src s ∧ Reach next s a) ∧ Ext w w'

theorem made_false (n : Nat) : (madeCells #[Value.bool false] n).toList = (List.replicate n false).map .bool := by rw [toList_madeCells_one, List.map_replicate]

theorem set_map_bool (l : List Bool) (i : Nat) (b : Bool) : (l.map Value.bool).set i (.bool b) = (l.set i b).map .bool := by rw [List.map_set]

set_option maxRecDepth 100000 in
set_option maxHeartbeats 4000000 in
theorem reaches_any (sp nx st : Value) (init many : Int) (S : List Op2) (next : List (List Int)) (src : Nat) (w : World) (hS : Spots w sp S) (hN : Lists w nx next) (hvs : ∃ a n c, st = .slice a n c) (hn : next.length = S.length) (hI : Inside S.length next) (h20 : S.length ≤ 20000) (hsrc : src < S.length) :
    Calls Try.prog 11 #[.agg #[sp, .int .i64 init, nx, st, .int .i64 many], .int .i64 (src : Int)] w fun e w' => ∃ v, e = .returned v ∧ MarkPost w S.length next (· = src) v w' := by
  obtain ⟨asp, csp, rfl, _⟩ := hS
  obtain ⟨ax, cx, rfl⟩ : ∃ a c, nx = .slice a next.length c := by
    obtain ⟨vs, he, a, c, rfl, _⟩ := hN
    exact ⟨a, c, rfl⟩
  obtain ⟨at', nt, ct, rfl⟩ := hvs
  obtain ⟨_, _, _, bn, on, han, hcn⟩ := hN.cells
  have HC := Lib.hid hcn
  have HII := Lib.hid hI
  obtain rfl := han (by omega)
  clear hN han hcn hI
  generalize S.length = n at *
  have HN := Lib.hid hn
  clear hn
  go_enter Try.func11, Try.ntmps11
  go_wp2_with (at_make; go_must (refine wpList_make_full _ rfl _ _ 30 rfl (w.heap.size + 1) 4 (Try.slBools.inf.choose) (.bool false) 1 Try.underlying30 Try.slBools.inf.choose_spec.1 Try.slBools.inf.choose_spec.2.1 Try.slBools.inf.choose_spec.2.2.1 .i64 .i64 n n n rfl rfl rfl rfl (by rw [Try.slBools.inf.choose_spec.2.2.2]; omega) (by unfold maxLen; omega) (by simp) ?_))
  intro w1 hown1 hg1
  rw [made_false] at hown1
  have hA : Ext w (w.alloc (Obj.cells #[.slice asp n csp, .int .i64 init, .slice (some ⟨bn, on, none⟩) next.length cx, .slice at' nt ct, .int .i64 many] 28)) := ext_al (Ext.refl w) _
  have bA := blk_grown (blk_new w (Obj.cells #[.slice asp n csp, .int .i64 init, .slice (some ⟨bn, on, none⟩) next.length cx, .slice at' nt ct, .int .i64 many] 28)) hg1 (by simp)
  have hE1 : Ext w w1 := hA.grown hg1 (by simp) (by simp)
  have o1 := OwnT.fresh (fun _ => 0) 1 hown1
  have cS := own_cellAt hown1 (i := src) (by simpa using hsrc)
  have fS := own_freeAt hown1 src
  have hs1 : w.heap.size + 1 < w1.heap.size := (hown1.lt _ rfl).2
  have o2 := o1.setAt (i := src) (.bool true)
  rw [set_map_bool] at o2
  have bA2 := blk_far bA (p := ⟨w.heap.size + 1, src, none⟩) (by show w.heap.size + 1 ≠ _; omega) (.bool true)
  have hE2 := ext_st hE1 (p := ⟨w.heap.size + 1, src, none⟩) (by show w.heap.size ≤ w.heap.size + 1; omega) (.bool true)
  have O2 := Lib.hid o2
  have BA2 := Lib.hid bA2
  have HE2 := Lib.hid hE2
  clear hown1 hg1 hA bA hE1 o1 o2 bA2 hE2
  go_wp2_with fail
  have hW2 : Ext (w1.setCell ⟨w.heap.size + 1, src, none⟩ (.bool true)) ((w1.setCell ⟨w.heap.size + 1, src, none⟩ (.bool true)).alloc (Obj.cells #[.int .i64 (src : Int)] 3)) := ext_al (Ext.refl _) _
  have ht : ((w1.setCell ⟨w.heap.size + 1, src, none⟩ (.bool true)).alloc (Obj.cells #[.int .i64 (src : Int)] 3)).ownsRow (w1.setCell ⟨w.heap.size + 1, src, none⟩ (.bool true)).heap.size 3 1 (.slice (some ⟨w1.heap.size, 0, none⟩) 1 1) 1 ([(src : Int)].map (.int .i64)) :=
    ⟨rfl, .inr ⟨w1.heap.size, 1, #[.int .i64 (src : Int)], rfl, by simp, by have := blk_new (w1.setCell ⟨w.heap.size + 1, src, none⟩ (.bool true)) (Obj.cells #[.int .i64 (src : Int)] 3); simpa using this, by omega, by unfold maxLen; omega, rfl, rfl⟩⟩
  have P1 := Lib.hid ((O2.out.keep 2).ext hW2)
  have P2 := Lib.hid (OwnT.fresh (tagAt (fun _ => 0) (w.heap.size + 1) 1) 2 ht)
  have BA3 := Lib.hid (blk_ext BA2.out hW2)
  have HE3 := Lib.hid (HE2.out.trans hW2)
  clear hW2 ht O2 BA2 HE2 cS fS
  generalize (w1.setCell ⟨w.heap.size + 1, src, none⟩ (.bool true)).alloc (Obj.cells #[.int .i64 (src : Int)] 3) = W2 at *
  have hseek : Seek n next (· = src) ((List.replicate n false).set src true) [(src : Int)] ∧ Closed next ((List.replicate n false).set src true) [(src : Int)] none :=
    ⟨(seek_begin n next _).1.mark ⟨src, rfl, Reach.refl _⟩ hsrc (by simp), (seek_begin n next (· = src)).2.mark (by simp) (by simp)⟩
  have hcount : ((List.replicate n false).set src true).count true = 1 := by rw [count_set _ _ (by rw [List.getElem?_replicate]; simp [hsrc])]; simp [List.count_replicate]
  have hsrc0 : ((List.replicate n false).set src true)[src]? = some true := by rw [List.getElem?_set]; simp [hsrc]
  have HSK := Lib.hid hseek
  have HCT := Lib.hid hcount
  have HS0 := Lib.hid hsrc0
  clear hseek hcount hsrc0
  go_loopg [6, 7] n (fun m x y wr => ∃ (τ : Nat → Nat) (i : Nat) (seen : List Bool) (todo : List Int), m + i = n ∧ y = .int .i64 (i : Int) ∧ i ≤ todo.length ∧
    OwnT τ 1 wr (w.heap.size + 1) 4 1 (.slice (some ⟨w.heap.size + 1, 0, none⟩) n n) n (seen.map .bool) ∧ OwnT τ 2 wr (w.heap.size + 2) 3 1 x todo.length (todo.map (.int .i64)) ∧
    wr.heap[w.heap.size]? = some (.cells #[.slice asp n csp, .int .i64 init, .slice (some ⟨bn, on, none⟩) next.length cx, .slice at' nt ct, .int .i64 many] 28 (0, 0)) ∧ Ext w wr ∧
    Seek n next (· = src) seen (todo.drop i) ∧ Closed next seen (todo.drop i) none ∧ seen.count true = todo.length ∧ (∀ x ∈ todo, ∃ a : Nat, x = a ∧ seen[a]? = some true) ∧ seen[src]? = some true)
  case atStart => exact ⟨_, 0, _, [(src : Int)], by omega, by go_num, by simp, P1.out, ⟨own_down P2.out.own (by simp; omega), P2.out.tag⟩, BA3.out, HE3.out, HSK.out.1, HSK.out.2, HCT.out, HSK.out.1.pen, HS0.out⟩
  case round =>
    obtain ⟨τ, i, seen, todo, hm, rfl, hi, o1, o2, bA, hE, hsk, hcl, hct, htd, hs0⟩ := hrel
    clear P1 P2 BA3 HE3 HSK HCT HS0
    have hcn : todo.length ≤ n := by rw [← hct, ← hsk.len]; exact List.count_le_length
    obtain ⟨at6, c6, rfl, hr6⟩ := o2.own.row
    by_cases hlt : i < todo.length
    · have hdr : todo.drop i = todo[i] :: todo.drop (i + 1) := List.drop_eq_getElem_cons hlt
      obtain ⟨c, hc, hcs⟩ := htd todo[i] (by simp)
      have hcn' : c < n := by have := (List.getElem?_eq_some_iff.1 hcs).1; rw [hsk.len] at this; exact this
      have hti : todo[i]? = some (c : Int) := by rw [List.getElem?_eq_getElem hlt, hc]
      have hcx : c < next.length := by have := HN.out; omega
      obtain ⟨ai, ci, hx, hx2⟩ := HC.out c hcx
      obtain ⟨_, _, e, hri⟩ := hx2
      simp only [Value.slice.injEq] at e
      obtain ⟨rfl, _, rfl⟩ := e
      have hmi : next[c].length ≤ 9223372036854775807 := by have h1 := hri.max; have h2 := hri.le; unfold maxLen at h1; omega
      obtain ⟨bi, oi, hri1, hri2⟩ := ints_cells hri
      have HL := Lib.hid (show next[c]? = some next[c] from List.getElem?_eq_getElem hcx)
      have HLI := Lib.hid (HII.out next[c] (by simp))
      have HX := Lib.hid hx
      have HI1 := Lib.hid hri1
      have HI2 := Lib.hid hri2
      generalize next[c] = l at *
      have hsk' : Seek n next (· = src) seen (todo.drop (i + 1)) := ⟨hsk.len, hsk.rch, fun x hx => hsk.pen x (by rw [hdr]; exact List.mem_cons_of_mem _ hx)⟩
      have hcl' : Closed next seen (todo.drop (i + 1)) (some (c, 0)) := hcl.begin fun x hx => by
        rw [hdr] at hx
        rcases List.mem_cons.1 hx with h | h
        · exact .inl (h.trans hc)
        · exact .inr h
      have hct' : (todo.length : Int) ≤ 20000 := by omega
      have HSK := Lib.hid hsk'
      have HCL := Lib.hid hcl'
      have HCT := Lib.hid hct
      have HTD := Lib.hid htd
      have HS0 := Lib.hid hs0
      have HTI := Lib.hid hti
      have HM := Lib.hid hm
      have O1 := Lib.hid o1
      have O2 := Lib.hid o2
      have BA := Lib.hid bA
      have HE := Lib.hid hE
      clear hdr hc hcs hti hx hri hri1 hri2 hsk hcl hsk' hcl' hct htd hs0 hm o1 o2 bA hE hr6
      go_wp2_with fail
      obtain ⟨wo, rfl⟩ : ∃ wo : World, wo = wr := ⟨_, rfl⟩
      go_loopg [6, 8] l.length (fun m x y wi => ∃ (τ : Nat → Nat) (k : Nat) (seen : List Bool) (todo : List Int), m + k = l.length ∧ y = .int .i64 (k : Int) ∧ todo[i]? = some (c : Int) ∧
        OwnT τ 1 wi (w.heap.size + 1) 4 1 (.slice (some ⟨w.heap.size + 1, 0, none⟩) n n) n (seen.map .bool) ∧ OwnT τ 2 wi (w.heap.size + 2) 3 1 x todo.length (todo.map (.int .i64)) ∧
        wi.heap[w.heap.size]? = some (.cells #[.slice asp n csp, .int .i64 init, .slice (some ⟨bn, on, none⟩) next.length cx, .slice at' nt ct, .int .i64 many] 28 (0, 0)) ∧ Ext w wi ∧
        Seek n next (· = src) seen (todo.drop (i + 1)) ∧ Closed next seen (todo.drop (i + 1)) (some (c, k)) ∧ seen.count true = todo.length ∧ (∀ x ∈ todo, ∃ a : Nat, x = a ∧ seen[a]? = some true) ∧ seen[src]? = some true)
      case atStart => exact ⟨τ, 0, seen, todo, by omega, by go_num, HTI.out, O1.out, O2.out, BA.out, HE.out, HSK.out, HCL.out, HCT.out, HTD.out, HS0.out⟩
      case round =>
        clear hlt hi hcn hct' HSK HCL HCT HTD HS0 HTI O1 O2 BA HE
        obtain ⟨τ, k, seen, todo, hmk, rfl, hti, o1, o2, bA, hE, hsk, hcl, hct, htd, hs0⟩ := hrel
        have hcn : todo.length ≤ n := by rw [← hct, ← hsk.len]; exact List.count_le_length
        have hlt : i < todo.length := (List.getElem?_eq_some_iff.1 hti).1
        obtain ⟨at7, c7, rfl, hr7⟩ := o2.own.row
        obtain ⟨b7, o7, h71, h72⟩ := ints_cells hr7
        obtain rfl := h71 (by omega)
        have ctd := h72 i hlt
        have htg : todo[i] = (c : Int) := by rw [List.getElem?_eq_getElem hlt] at hti; exact Option.some.inj hti
        rw [htg] at ctd
        have cA2 := blk_cell bA (i := 2) rfl
        have hx := cell_later hE HX.out
        have hcI : (c : Int) < (next.length : Int) := by omega
        have hcI0 : (0 : Int) ≤ (c : Int) := by omega
        have hiI : (i : Int) < (todo.length : Int) := by omega
        have hiI0 : (0 : Int) ≤ (i : Int) := by omega
        by_cases hkl : k < l.length
        · obtain rfl := HI1.out (by omega)
          have hkI : (k : Int) < (l.length : Int) := by omega
          have hkI0 : (0 : Int) ≤ (k : Int) := by omega
          obtain ⟨hy0, hy1⟩ := HLI.out l[k] (by simp)
          obtain ⟨y, hy⟩ : ∃ y : Nat, l[k] = (y : Int) := ⟨l[k].toNat, by omega⟩
          have ck := cell_later hE (HI2.out k hkl)
          rw [hy] at ck hy0 hy1
          have hyn : y < n := by omega
          have hyl : y < seen.length := by have := hsk.len; omega
          have hlk : l[k]? = some (y : Int) := by rw [List.getElem?_eq_getElem hkl, hy]
          have cs := own_cellAt o1.own (i := y) (by simpa using hyl)
          have fs := own_freeAt o1.own y
          rw [List.getElem_map] at cs
          have hed : Edge next c y := ⟨l, HL.out, List.mem_of_getElem? hlk⟩
          obtain ⟨a0, ha0, hac⟩ := htd (c : Int) (by rw [← htg]; simp)
          have hyr : ∃ s, s = src ∧ Reach next s y := by
            obtain ⟨s, h1, h2⟩ := hsk.rch a0 hac
            exact ⟨s, h1, (by obtain rfl : c = a0 := by omega
                              exact h2.step hed)⟩
          have HED := Lib.hid hed
          have HYR := Lib.hid hyr
          have HLK := Lib.hid hlk
          have HSK := Lib.hid hsk
          have HCL := Lib.hid hcl
          have HCT := Lib.hid hct
          have HTD := Lib.hid htd
          have HS0 := Lib.hid hs0
          have HTI := Lib.hid hti
          have HMK := Lib.hid hmk
          have O1 := Lib.hid o1
          have O2 := Lib.hid o2
          have BA := Lib.hid bA
          have HE := Lib.hid hE
          have HLN := Lib.hid hsk.len
          clear hed hyr hlk hsk hcl hct htd hs0 hti hmk o1 o2 bA hE hr7 h71 h72 htg ha0 hac hy
          cases hsy : seen[y] with
          | true =>
            rw [hsy] at cs
            have HSY := Lib.hid (show seen[y]? = some true by rw [List.getElem?_eq_getElem hyl, hsy])
            clear hsy
            go_wp2_with fail
            go_quiet (fail)
            go_wp2_with fail
            go_quiet (fail)
            go_wp2_with fail
            go_roundg (gk - 1)
            case measure => have := HMK.out; omega
            case rel =>
              have hW : ∀ m, Ext wr (wr.drewN m) := fun m => below_drewN (Ext.refl wr) m
              exact ⟨τ, k + 1, seen, todo, by have := HMK.out; omega, by go_num, HTI.out, O1.out.ext (hW _), O2.out.ext (hW _), blk_ext BA.out (hW _), HE.out.trans (hW _), HSK.out, HCL.out.next HL.out HLK.out HSY.out, HCT.out, HTD.out, HS0.out⟩
          | false =>
            rw [hsy] at cs
            have HSY := Lib.hid (show seen[y]? = some false by rw [List.getElem?_eq_getElem hyl, hsy])
            clear hsy
            go_wp2_with fail
            go_quiet (fail)
            obtain ⟨n1, rfl⟩ : ∃ n1 : Nat, n1 = nq := ⟨_, rfl⟩
            go_wp2_with fail
            go_quiet (fail)
            have hW : Ext wr ((wr.drewN n1).drewN nq) := below_drewN (below_drewN (Ext.refl wr) _) _
            replace cs := cell_later hW cs
            replace fs : ((wr.drewN n1).drewN nq).frozen? ⟨w.heap.size + 1, y, none⟩ = false := own_freeAt (O1.out.ext hW).own y
            have P1 := Lib.hid (O1.out.ext hW)
            have P2 := Lib.hid (O2.out.ext hW)
            have BA1 := Lib.hid (blk_ext BA.out hW)
            have HE1 := Lib.hid (HE.out.trans hW)
            clear hW O1 O2 BA HE ctd cA2 hx ck
            generalize (wr.drewN n1).drewN nq = wd at *
            have htS : τ (w.heap.size + 1) = 1 := P1.out.tag _ rfl
            have HTS := Lib.hid htS
            have q1 := P1.out.setAt (i := y) (.bool true)
            rw [set_map_bool] at q1
            have q2 := P2.out.set (p := ⟨w.heap.size + 1, y, none⟩) (by show τ (w.heap.size + 1) ≠ 2; omega) (.bool true)
            have bq := blk_far BA1.out (p := ⟨w.heap.size + 1, y, none⟩) (by show w.heap.size + 1 ≠ w.heap.size; omega) (.bool true)
            have eq1 := ext_st HE1.out (p := ⟨w.heap.size + 1, y, none⟩) (by show w.heap.size ≤ w.heap.size + 1; omega) (.bool true)
            have hcn2 : todo.length + 1 ≤ n := by
              have := count_set seen y HSY.out
              have h := List.count_le_length (a := true) (l := seen.set y true)
              simp only [List.length_set] at h
              have h1 := HCT.out
              have h2 := HLN.out
              omega
            have hsz : w.heap.size + 1 < wd.heap.size := (P1.out.own.lt _ rfl).2
            have ho2 := q2.own.alloc (Obj.cells #[.int .i64 (y : Int)] 3)
            have Q1 := Lib.hid q1
            have Q2 := Lib.hid q2
            have BQ := Lib.hid bq
            have EQ := Lib.hid eq1
            clear htS q1 q2 bq eq1 P1 P2 BA1 HE1
            go_wp2_with (at_builtin; go_must (refine wpl_append rfl rfl Try.slInts (w.heap.size + 2) rfl ho2 rfl (Row.oneAt _ _ _ _ (by simp)) (one_int _) (by unfold maxLen; omega) (by omega) (by simp; omega) ?_))
            intro v3 w3 hown3 hg3 hb3 _
            have hb3' : v3.ownBlock = (Value.slice (some ⟨b7, o7, none⟩) todo.length c7).ownBlock ∨ v3.ownBlock = some ((wd.setCell ⟨w.heap.size + 1, y, none⟩ (.bool true)).alloc (Obj.cells #[.int .i64 (y : Int)] 3)).heap.size := by
              rcases hb3 with h | h
              · exact .inl h
              · right; rw [h]; simp
            have HO3 := Lib.hid hown3
            have HG3 := Lib.hid hg3
            have HB3 := Lib.hid hb3'
            clear hown3 hg3 hb3 hb3' ho2 cs fs
            go_wp2_with fail
            go_roundg (gk - 1)
            case measure => have := HMK.out; omega
            case rel =>
              generalize wd.setCell ⟨w.heap.size + 1, y, none⟩ (.bool true) = W2 at *
              have hal : Ext W2 (W2.alloc (Obj.cells #[.int .i64 (y : Int)] 3)) := ext_al (Ext.refl _) _
              have r2 := (Q2.out.ext hal).app HO3.out HB3.out
              have r1 := (Q1.out.ext hal).other (Q2.out.ext hal) HG3.out (by omega)
              have hlo : ∀ b, (Value.slice (some ⟨b7, o7, none⟩) todo.length c7).ownBlock = some b → w.heap.size + 2 ≤ b := fun b hb => (Q2.out.own.lt b hb).1
              have rA := blk_grown (blk_ext BQ.out hal) HG3.out (fun e => by have := hlo _ e.symm; omega)
              have rE := (EQ.out.trans hal).grown HG3.out (by have := (EQ.out.trans hal).size; omega) (fun b hb => by have := hlo b hb; omega)
              have hl1 := (List.getElem?_eq_some_iff.1 HTI.out).1
              have hdr : (todo ++ [(y : Int)]).drop (i + 1) = todo.drop (i + 1) ++ [(y : Int)] := List.drop_append_of_le_length (by omega)
              have hsk2 := HSK.out.mark (y := y) HYR.out hyn (pend' := todo.drop (i + 1) ++ [(y : Int)]) (by simp)
              have hsy2 : (seen.set y true)[y]? = some true := by rw [List.getElem?_set]; simp [hyl]
              have hcl2 := (HCL.out.mark (y := y) (pend' := todo.drop (i + 1) ++ [(y : Int)]) (fun x hx => by simp [hx]) (by simp)).next HL.out HLK.out hsy2
              refine ⟨_, k + 1, seen.set y true, todo ++ [(y : Int)], by have := HMK.out; omega, by go_num, ?_, r1, ?_, rA, rE, ?_, ?_, ?_, ?_, seen_set HS0.out⟩
              · rw [List.getElem?_append_left hl1]; exact HTI.out
              · simpa using r2
              · rw [hdr]; exact hsk2
              · rw [hdr]; exact hcl2
              · rw [count_set _ _ HSY.out, HCT.out]; simp
              · intro x hx
                rcases List.mem_append.1 hx with h | h
                · obtain ⟨a, h1, h2⟩ := HTD.out x h
                  exact ⟨a, h1, seen_set h2⟩
                · simp only [List.mem_singleton] at h
                  exact ⟨y, h, hsy2⟩
        · obtain rfl : k = l.length := by omega
          have hcl2 := hcl.done HL.out
          have HSK := Lib.hid hsk
          have HCL := Lib.hid hcl2
          have HCT := Lib.hid hct
          have HTD := Lib.hid htd
          have HS0 := Lib.hid hs0
          have O1 := Lib.hid o1
          have O2 := Lib.hid o2
          have BA := Lib.hid bA
          have HE := Lib.hid hE
          have hkI : ¬ (l.length : Int) < (l.length : Int) := by omega
          have hin : i + 1 ≤ n := by omega
          clear hcl2 hsk hcl hct htd hs0 hti hmk o1 o2 bA hE hr7 h71 h72 htg
          go_wp2_with fail
          go_quiet (fail)
          go_wp2_with fail
          go_roundg (n - (i + 1))
          case measure => have := HM.out; omega
          case rel =>
            have hW : ∀ m, Ext wr (wr.drewN m) := fun m => below_drewN (Ext.refl wr) m
            exact ⟨τ, i + 1, seen, todo, by omega, by go_num, by omega, O1.out.ext (hW _), O2.out.ext (hW _), blk_ext BA.out (hW _), HE.out.trans (hW _), HSK.out, HCL.out, HCT.out, HTD.out, HS0.out⟩
    · have hd : todo.drop i = [] := List.drop_eq_nil_of_le (by omega)
      rw [hd] at hsk hcl
      have hend := seek_end hsk hcl (fun s hs => by rw [hs]; exact hs0)
      have HEND := Lib.hid hend
      have HLEN := Lib.hid hsk.len
      have HO := Lib.hid o1.own
      have HE := Lib.hid hE
      have hnlt : ¬ (i : Int) < (todo.length : Int) := by omega
      clear hsk hcl hend hd o1 o2 bA hE hct htd hs0 hr6 hm hlt
      go_wp2
      go_ret
      exact ⟨_, rfl, seen, own_down HO.out (by omega), HLEN.out, HEND.out, HE.out⟩

end Go.Proofs.Ytknomfdeefakbaa
