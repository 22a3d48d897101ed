/- The contract of scc.Reached. -/
import Derived.Test.YtbndjailimhbdaaVisit
import Derived.WalkSmall
namespace Go.Proofs.Ytbndjailimhbdaa
open Go.RowKit

theorem vis_seek {n : Nat} {next : List (List Int)} {src : Nat → Prop} {seen : List Bool} {todo : List Int} {c : Option (Nat × Nat)} {y : Nat} (h : Seek n next src seen todo) (hc : Closed next seen todo c) (hy : ∃ s, src s ∧ Reach next s y) (hn : y < n) :
    Seek n next src (visL seen todo y).1 (visL seen todo y).2 ∧ Closed next (visL seen todo y).1 (visL seen todo y).2 c ∧ (visL seen todo y).1[y]? = some true ∧ (∀ a : Nat, seen[a]? = some true → (visL seen todo y).1[a]? = some true) ∧
      2 * (n - (visL seen todo y).1.count true) + (visL seen todo y).2.length ≤ 2 * (n - seen.count true) + todo.length ∧ (todo.length ≤ seen.count true → (visL seen todo y).2.length ≤ (visL seen todo y).1.count true) := by
  unfold visL
  split
  · rename_i hs
    exact ⟨h, hc, hs, fun _ h => h, Nat.le_refl _, fun h => h⟩
  · rename_i hs
    have hl : y < seen.length := by rw [h.len]; exact hn
    have hf : seen[y]? = some false := by
      rw [List.getElem?_eq_getElem hl] at hs ⊢
      cases hb : seen[y] with
      | true => exact absurd (by rw [hb]) hs
      | false => rfl
    have hcs := count_set seen y hf
    have hle := List.count_le_length (a := true) (l := seen.set y true)
    rw [List.length_set, h.len] at hle
    refine ⟨h.mark hy hn (by simp), hc.mark (by simp +contextual) (by simp), by rw [List.getElem?_set]; simp [hl], fun a ha => seen_set ha, ?_, fun ht => ?_⟩
    · simp only [hcs, List.length_append, List.length_singleton]; omega
    · simp only [hcs, List.length_append, List.length_singleton]; omega

theorem VMem.pop {τ : Nat → Nat} {B S T D n : Nat} {w : World} {seen : List Bool} {s : List Int} {x : Int} (h : VMem τ B S T D n w seen (s ++ [x])) :
    ∃ g cap, w.heap[T]? = some (.cells #[.slice (some ⟨g, 0, none⟩) (s.length + 1) cap] 23 (0, 0)) ∧ w.cell? ⟨g, s.length, none⟩ = some (.int .i64 x) ∧ s.length + 1 ≤ cap ∧ cap ≤ maxLen ∧
      VMem τ B S T D n (w.setCell ⟨T, 0, none⟩ (.slice (some ⟨g, 0, none⟩) s.length cap)) seen s := by
  obtain ⟨h1, h2, h3⟩ := h.ord
  obtain ⟨h4, h5⟩ := h.tag
  obtain ⟨a, c, b1, b2⟩ := h.mt
  simp only [List.length_append, List.length_singleton, List.map_append, List.map_cons, List.map_nil] at b1 b2
  have hr := b2.own.row
  obtain ⟨a', c', e, hrow⟩ := hr
  simp only [Value.slice.injEq] at e
  obtain ⟨rfl, _, rfl⟩ := e
  rcases b2.own.2 with ⟨hn, _⟩ | ⟨g, cap, cur, hv, hb, hgg, hnc, hcm, hcs, ht⟩
  · cases hn
  · simp only [Value.slice.injEq] at hv
    obtain ⟨rfl, _, rfl⟩ := hv
    refine ⟨g, c, b1, ?_, hnc, hcm, blk_far h.ms (p := ⟨T, 0, none⟩) (by show T ≠ S; omega) _, ⟨some ⟨g, 0, none⟩, c, ?_, ?_⟩, h.os.set (p := ⟨T, 0, none⟩) (by rw [h4]; omega) _, h.ord, h4, by simpa using h5⟩
    · have := b2.own.cells (g := g) rfl s.length (.int .i64 x) (by simp)
      simpa [Addr.add_lit] using this
    · have := blk_set b1 (i := 0) (.slice (some ⟨g, 0, none⟩) s.length c)
      simpa using this
    · exact OwnT.low ⟨ownsRow_pop (size := 1) (by simp) b2.own, fun b hb => b2.tag b hb⟩ (p := ⟨T, 0, none⟩) (by show T < B; omega) _

set_option maxRecDepth 100000 in
set_option maxHeartbeats 4000000 in
theorem reached_any (sp nx st : Value) (init : Nat) (M : Nat) (S : List Sp2) (next : List (List Int)) (sets : List Int) (w : World) (hS : Spots w sp S) (hN : Lists w nx next) (hT : Ints w st sets) (hk : GOk S.length next sets init M) :
    Calls Try.prog 16 #[.agg #[sp, .int .i64 (init : Int), nx, st, .int .i64 (M : Int)]] w fun e w' => ∃ v, e = .returned (.tuple #[v, .int .i64 0]) ∧ MarkPost w S.length next (fun s => s < init) v w' := by
  have HCK := Lib.hid fun wx (hx : Ext w wx) => gcheck_ok sp nx st init M S next sets wx (hS.ext hx) (hN.ext hx) (hT.ext hx) hk
  obtain ⟨asp, csp, rfl, _⟩ := hS
  obtain ⟨ax, cx, rfl⟩ : ∃ a c, nx = .slice a next.length c := by
    obtain ⟨vs, he, a, c, rfl, _⟩ := hN
    exact ⟨a, c, rfl⟩
  obtain ⟨at', ct, rfl, hrt⟩ := hT
  obtain ⟨_, _, _, bn, on, han, hcn⟩ := hN.cells
  have hmf : ∀ (fn : Fn) (first cap : Array Value) (w : World), (Instr.makeFunc fn first cap).run Try.prog w = .ok (.func fn first cap) w := fun _ _ _ _ => rfl
  have HC := Lib.hid hcn
  have HA := Lib.hid han
  have HI := Lib.hid hk.ins
  have HN := Lib.hid hk.nx
  have h20 := hk.max
  have hin := hk.i1
  generalize S.length = n at *
  clear hN hcn han hk hrt
  go_enter Try.func16, Try.ntmps16
  go_wp2_with fail
  refine (HCK.out _ (ext_al (Ext.refl w) _)).mono ?_
  rintro e w1 ⟨rfl, hE1⟩
  have hA : Ext w (w.alloc (Obj.cells #[.slice asp n csp, .int .i64 (init : Int), .slice ax next.length cx, .slice at' sets.length ct, .int .i64 (M : Int)] 28)) := ext_al (Ext.refl w) _
  have bA := blk_ext (blk_new w (Obj.cells #[.slice asp n csp, .int .i64 (init : Int), .slice ax next.length cx, .slice at' sets.length ct, .int .i64 (M : Int)] 28)) hE1
  have cA0 := blk_cell bA (i := 0) rfl
  have HE1 := Lib.hid (hA.trans hE1)
  have BA := Lib.hid bA
  have hs1 : w.heap.size < w1.heap.size := blk_lt bA
  clear hA bA hE1 HCK
  go_wp2_with (at_make; go_must (refine wpList_make_full _ rfl _ _ 48 rfl w1.heap.size 4 (Try.slBoolsG.inf.choose) (.bool false) 1 Try.underlying48 Try.slBoolsG.inf.choose_spec.1 Try.slBoolsG.inf.choose_spec.2.1 Try.slBoolsG.inf.choose_spec.2.2.1 .i64 .i64 n n n rfl rfl rfl rfl (by rw [Try.slBoolsG.inf.choose_spec.2.2.2]; omega) (by unfold maxLen; omega) (Nat.le_refl _) ?_))
  intro w2 hown2 hg2
  rw [made_false] at hown2
  have HO2 := Lib.hid hown2
  have HE2 := Lib.hid ((Ext.refl w1).grown hg2 (Nat.le_refl _) (by simp))
  have hs2 : w1.heap.size < w2.heap.size := (hown2.lt _ rfl).2
  clear hown2 hg2 cA0
  have BA2 := Lib.hid (blk_ext BA.out HE2.out)
  have cA1 := blk_cell BA2.out (i := 1) rfl
  have cA2 : ((w2.alloc (Obj.cells #[.slice (some ⟨w1.heap.size, 0, none⟩) n n] 48)).alloc (Obj.cells #[.slice none 0 0] 23)).cell? ⟨w.heap.size, 1, none⟩ = some (.int .i64 (init : Int)) := cell_later (ext_al (ext_al (Ext.refl _) _) _) cA1
  go_wp2_with fail
  clear cA2
  have hW : Ext w2 ((w2.alloc (Obj.cells #[.slice (some ⟨w1.heap.size, 0, none⟩) n n] 48)).alloc (Obj.cells #[.slice none 0 0] 23)) := ext_al (ext_al (Ext.refl _) _) _
  have bS := blk_ext (blk_new w2 (Obj.cells #[.slice (some ⟨w1.heap.size, 0, none⟩) n n] 48)) (ext_al (Ext.refl _) (Obj.cells #[.slice none 0 0] 23))
  have bT := blk_new (w2.alloc (Obj.cells #[.slice (some ⟨w1.heap.size, 0, none⟩) n n] 48)) (Obj.cells #[.slice none 0 0] 23)
  have hsT : (w2.alloc (Obj.cells #[.slice (some ⟨w1.heap.size, 0, none⟩) n n] 48)).heap.size = w2.heap.size + 1 := by simp
  rw [hsT] at bT
  have hv0 : VMem (fun b => if b = w1.heap.size then 1 else 0) (w2.heap.size + 2) w2.heap.size (w2.heap.size + 1) w1.heap.size n ((w2.alloc (Obj.cells #[.slice (some ⟨w1.heap.size, 0, none⟩) n n] 48)).alloc (Obj.cells #[.slice none 0 0] 23)) (List.replicate n false) [] :=
    ⟨bS, ⟨none, 0, bT, OwnT.nil _ _ _ _ _ _⟩, ⟨own_ext HO2.out hW, fun b hb => by simp [Value.ownBlock] at hb; simp [hb]⟩, ⟨hs2, by omega, by omega⟩, (if_neg (by omega)), by simp⟩
  have HV0 := Lib.hid hv0
  have BA3 := Lib.hid (blk_ext BA2.out hW)
  have HE3 := Lib.hid ((HE1.out.trans HE2.out).trans hW)
  have hsk := seek_begin n next (fun s => s < init)
  have hc0 : (List.replicate n false).count true = 0 := by simp [List.count_replicate]
  have HSK := Lib.hid hsk
  clear hW bS bT hsT hv0 hsk BA2 BA HE1 HE2 cA1 HO2
  generalize hS : w2.heap.size = S at *
  generalize hD : w1.heap.size = D at *
  generalize (w2.alloc (Obj.cells #[.slice (some ⟨D, 0, none⟩) n n] 48)).alloc (Obj.cells #[.slice none 0 0] 23) = W3 at *
  clear hS hD
  go_loopg [24] init (fun m x wr => ∃ (i : Nat) (τ : Nat → Nat) (seen : List Bool) (todo : List Int), m + i = init ∧ x = .int .i64 (i : Int) ∧ VMem τ (S + 2) S (S + 1) D n wr seen todo ∧
    wr.heap[w.heap.size]? = some (.cells #[.slice asp n csp, .int .i64 (init : Int), .slice ax next.length cx, .slice at' sets.length ct, .int .i64 (M : Int)] 28 (0, 0)) ∧ Ext w wr ∧
    Seek n next (fun s => s < init) seen todo ∧ Closed next seen todo none ∧ todo.length ≤ seen.count true ∧ ∀ s, s < i → seen[s]? = some true)
  case atStart => exact ⟨0, _, _, [], by omega, by go_num, HV0.out, BA3.out, HE3.out, HSK.out.1, HSK.out.2, by simp, by omega⟩
  case round =>
    obtain ⟨i, τ, seen, todo, hm, rfl, hV, bA, hE, hsk, hcl, htc, hsi⟩ := hrel
    clear HV0 BA3 HE3 HSK hc0
    have hcn : todo.length ≤ n := by have := List.count_le_length (a := true) (l := seen); have := hsk.len; omega
    have HV := Lib.hid hV
    have BA := Lib.hid bA
    have HE := Lib.hid hE
    have HM := Lib.hid hm
    by_cases hi : i < init
    · have hvs := vis_seek (y := i) hsk hcl ⟨i, hi, Reach.refl _⟩ (by omega)
      have HVS := Lib.hid hvs
      have HSI := Lib.hid hsi
      have HTC := Lib.hid htc
      have hiI : (i : Int) < (init : Int) := by omega
      clear hV bA hE hsk hcl hsi htc hvs hm
      go_wp2_with fail
      refine (visit_any τ (S + 2) S (S + 1) D n wr seen todo i HV.out (by omega) (by omega)).mono ?_
      rintro e w4 ⟨rfl, ⟨τ', hV'⟩, hB⟩
      have HV' := Lib.hid hV'
      have HB := Lib.hid hB
      clear hV' hB
      go_wp2_with fail
      go_roundg (gk - 1)
      case measure => have := HM.out; omega
      case rel => exact ⟨i + 1, τ', _, _, by have := HM.out; omega, by go_num, HV'.out, blk_below BA.out HB.out (by omega), Below.trans HE.out (HB.out.mono (by omega)), HVS.out.1, HVS.out.2.1, HVS.out.2.2.2.2.2 HTC.out, fun s hs => by
        by_cases e : s = i
        · subst e; exact HVS.out.2.2.1
        · exact HVS.out.2.2.2.1 s (HSI.out s (by omega))⟩
    · have hsi' : ∀ s, s < init → seen[s]? = some true := fun s hs => hsi s (by omega)
      have HSK := Lib.hid hsk
      have HCL := Lib.hid hcl
      have HSI := Lib.hid hsi'
      have HTC := Lib.hid htc
      have hiI : ¬ (i : Int) < (init : Int) := by omega
      clear hV bA hE hsk hcl hsi hsi' htc hm
      go_wp2_with fail
      obtain ⟨wo, rfl⟩ : ∃ wo : World, wo = wr := ⟨_, rfl⟩
      go_loopg [] (2 * (n - seen.count true) + todo.length) (fun m wr => ∃ (τ : Nat → Nat) (seen : List Bool) (todo : List Int), m = 2 * (n - seen.count true) + todo.length ∧ VMem τ (S + 2) S (S + 1) D n wr seen todo ∧
        wr.heap[w.heap.size]? = some (.cells #[.slice asp n csp, .int .i64 (init : Int), .slice ax next.length cx, .slice at' sets.length ct, .int .i64 (M : Int)] 28 (0, 0)) ∧ Ext w wr ∧
        Seek n next (fun s => s < init) seen todo ∧ Closed next seen todo none ∧ todo.length ≤ seen.count true ∧ ∀ s, s < init → seen[s]? = some true)
      case atStart => exact ⟨τ, seen, todo, rfl, HV.out, BA.out, HE.out, HSK.out, HCL.out, HTC.out, HSI.out⟩
      case round =>
        obtain ⟨τ, seen, todo, hgk, hV, bA, hE, hsk, hcl, htc, hsi⟩ := hrel
        clear HV BA HE HM HSK HCL HSI HTC hcn hiI
        rcases List.eq_nil_or_concat todo with rfl | ⟨s, x, rfl⟩
        · obtain ⟨a, c, b1, _⟩ := hV.mt
          have cT := blk_cell b1 (i := 0) rfl
          have cS := blk_cell hV.ms (i := 0) rfl
          have HEND := Lib.hid (seek_end hsk hcl (fun s hs => hsi s hs))
          have HL := Lib.hid hV.len
          have HO := Lib.hid hV.os.own
          have HE := Lib.hid hE
          clear b1 hV bA hE hsk hcl htc hsi hgk
          go_wp2
          go_ret2
          exact ⟨_, rfl, seen, own_down HO.out (by omega), HL.out, HEND.out, HE.out⟩
        · rw [List.concat_eq_append] at hgk hV hsk hcl htc
          obtain ⟨c, rfl, hcs⟩ := hsk.pen x (by simp)
          have hcn : c < n := by have := (List.getElem?_eq_some_iff.1 hcs).1; rw [hsk.len] at this; exact this
          have hcx : c < next.length := by have := HN.out; omega
          obtain ⟨g, cap, b1, cg, hcap, hcm, hVp⟩ := hV.pop
          have cT := blk_cell b1 (i := 0) rfl
          have fT := blk_free b1 0
          obtain rfl := HA.out (by omega)
          obtain ⟨ai, ci, hx, hx2⟩ := HC.out c hcx
          obtain ⟨_, _, e, hri⟩ := hx2
          simp only [Value.slice.injEq] at e
          obtain ⟨rfl, _, rfl⟩ := e
          have hmi : next[c].length ≤ 9223372036854775807 := by have h1 := hri.max; have h2 := hri.le; unfold maxLen at h1; omega
          obtain ⟨bi, oi, hri1, hri2⟩ := ints_cells hri
          have HL := Lib.hid (show next[c]? = some next[c] from List.getElem?_eq_getElem hcx)
          have HLI := Lib.hid (HI.out next[c] (by simp))
          have HX := Lib.hid hx
          have HI1 := Lib.hid hri1
          have HI2 := Lib.hid hri2
          generalize next[c] = l at *
          have hD : w.heap.size < S + 1 := by have := hV.ord; omega
          have hcl' : Closed next seen s (some (c, 0)) := hcl.begin fun x hx => by
            rcases List.mem_append.1 hx with h | h
            · exact .inr h
            · exact .inl (by simpa using h)
          have HSK := Lib.hid (show Seek n next (fun s => s < init) seen s from ⟨hsk.len, hsk.rch, fun x hx => hsk.pen x (by simp [hx])⟩)
          have HCL := Lib.hid hcl'
          have HSI := Lib.hid hsi
          have HTC := Lib.hid htc
          have HGK := Lib.hid hgk
          have HCS := Lib.hid hcs
          have HVP := Lib.hid hVp
          have HBA := Lib.hid (blk_far bA (p := ⟨S + 1, 0, none⟩) (by show S + 1 ≠ w.heap.size; omega) (.slice (some ⟨g, 0, none⟩) s.length cap))
          have cA2 := blk_cell HBA.out (i := 2) rfl
          have HEE := Lib.hid (ext_st hE (p := ⟨S + 1, 0, none⟩) (by show w.heap.size ≤ S + 1; omega) (.slice (some ⟨g, 0, none⟩) s.length cap))
          have cx2 := cell_later HEE.out hx
          have hsl : s.length ≤ 20000 := by
            have := List.count_le_length (a := true) (l := seen)
            have := hsk.len
            simp only [List.length_append, List.length_singleton] at htc
            omega
          have hcI : (c : Int) < (next.length : Int) := by omega
          clear hcl' hri hri1 hri2 hx b1 hV bA hE hsk hcl htc hsi hgk hcs hVp
          unfold maxLen at hcm
          go_wp2_with fail
          generalize wr.setCell ⟨S + 1, 0, none⟩ (.slice (some ⟨g, 0, none⟩) s.length cap) = W4 at *
          clear cT fT cg cA2 cx2
          obtain ⟨G0, rfl⟩ : ∃ G0 : Nat, G0 = gk := ⟨_, rfl⟩
          go_loopg [51] l.length (fun m x wi => ∃ (k : Nat) (τ : Nat → Nat) (seen : List Bool) (todo : List Int), m + k = l.length ∧ x = .int .i64 (k : Int) ∧ VMem τ (S + 2) S (S + 1) D n wi seen todo ∧
            wi.heap[w.heap.size]? = some (.cells #[.slice asp n csp, .int .i64 (init : Int), .slice (some ⟨bn, on, none⟩) next.length cx, .slice at' sets.length ct, .int .i64 (M : Int)] 28 (0, 0)) ∧ Ext w wi ∧
            Seek n next (fun s => s < init) seen todo ∧ Closed next seen todo (some (c, k)) ∧ todo.length ≤ seen.count true ∧ (∀ s, s < init → seen[s]? = some true) ∧ seen[c]? = some true ∧ 2 * (n - seen.count true) + todo.length < G0)
          case atStart => exact ⟨0, τ, seen, s, by omega, by go_num, HVP.out, HBA.out, HEE.out, HSK.out, HCL.out, by have := HTC.out; simp only [List.length_append, List.length_singleton] at this; omega, HSI.out, HCS.out, by have := HGK.out; simp only [List.length_append, List.length_singleton] at this; omega⟩
          case round =>
            clear HVP HBA HEE HSK HCL HTC HSI HCS HGK hsl
            obtain ⟨k, τ, seen, todo, hmk, rfl, hV, bA, hE, hsk, hcl, htc, hsi, hcs, hR⟩ := hrel
            have hcn2 : todo.length ≤ n := by have := List.count_le_length (a := true) (l := seen); have := hsk.len; omega
            have HV := Lib.hid hV
            have BA := Lib.hid bA
            have HE := Lib.hid hE
            have HM := Lib.hid hmk
            have hVo := hV.ord
            have HVO := Lib.hid hVo
            by_cases hk : k < l.length
            · obtain rfl := HI1.out (by omega)
              have ck := cell_later hE (HI2.out k hk)
              obtain ⟨hy0, hy1⟩ := HLI.out l[k] (by simp)
              obtain ⟨y, hy⟩ : ∃ y : Nat, l[k] = (y : Int) := ⟨l[k].toNat, by omega⟩
              rw [hy] at ck hy0 hy1
              have hyn : y < n := by omega
              have hlk : l[k]? = some (y : Int) := by rw [List.getElem?_eq_getElem hk, hy]
              have hed : Edge next c y := ⟨l, HL.out, List.mem_of_getElem? hlk⟩
              have hyr : ∃ s, s < init ∧ Reach next s y := by
                obtain ⟨s, h1, h2⟩ := hsk.rch c hcs
                exact ⟨s, h1, h2.step hed⟩
              have HVS := Lib.hid (vis_seek hsk hcl hyr hyn)
              have HLK := Lib.hid hlk
              have HSI := Lib.hid hsi
              have HTC := Lib.hid htc
              have HCS := Lib.hid hcs
              have HR := Lib.hid hR
              have hkI : (k : Int) < (l.length : Int) := by omega
              clear hV bA hE hsk hcl hsi htc hcs hR hmk hVo hed hyr hlk hy
              go_wp2_with fail
              refine (visit_any τ (S + 2) S (S + 1) D n wr seen todo y HV.out hyn (by omega)).mono ?_
              rintro e w5 ⟨rfl, ⟨τ', hV'⟩, hB⟩
              have HV' := Lib.hid hV'
              have HB := Lib.hid hB
              clear hV' hB
              go_wp2_with fail
              go_roundg (gk - 1)
              case measure => have := HM.out; omega
              case rel =>
                have hDw : w.heap.size < D ∧ D < S := ⟨by omega, HVO.out.1⟩
                exact ⟨k + 1, τ', _, _, by have := HM.out; omega, by go_num, HV'.out, blk_below BA.out HB.out (by omega), Below.trans HE.out (HB.out.mono (by omega)), HVS.out.1, HVS.out.2.1.next HL.out HLK.out HVS.out.2.2.1, HVS.out.2.2.2.2.2 HTC.out, fun s hs => HVS.out.2.2.2.1 s (HSI.out s hs), HVS.out.2.2.2.1 c HCS.out, Nat.lt_of_le_of_lt HVS.out.2.2.2.2.1 HR.out⟩
            · obtain rfl : k = l.length := by omega
              have HSK := Lib.hid hsk
              have HCL := Lib.hid (hcl.done HL.out)
              have HSI := Lib.hid hsi
              have HTC := Lib.hid htc
              have HR := Lib.hid hR
              clear hV bA hE hsk hcl hsi htc hcs hR hmk hVo
              go_wp2_with fail
              go_roundg (2 * (n - seen.count true) + todo.length)
              case measure => exact HR.out
              case rel => exact ⟨τ, seen, todo, rfl, HV.out, BA.out, HE.out, HSK.out, HCL.out, HTC.out, HSI.out⟩

end Go.Proofs.Ytbndjailimhbdaa
