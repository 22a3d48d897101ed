/- Several texts in one: Reached; Tarjan; SMem; Enter; Leave; TarjanM. No condition. -/
import Derived.Test.YtbmimdnpchldlaaGreatDoorKt1
import Derived.WalkSmall
import Derived.Deep.RegionWith
namespace Go.Proofs.YtbmimdnpchldlaaGreatDoor
open Go.RowKit

theorem vis_seek {n : Nat} {next : List (List Int)} {src : Nat → Prop} {seen : List Bool} {todo : List Int} {c : Option (Nat × Nat)} {y : Nat} (h : Seek n next src seen todo) (hc : Closed next seen todo c) (hy : ∃ s, src s ∧ Reach next s y) (hn : y < n) :
    Seek n next src (visL seen todo y).1 (visL seen todo y).2 ∧ Closed next (visL seen todo y).1 (visL seen todo y).2 c ∧ (visL seen todo y).1[y]? = some true ∧ (∀ a : Nat, seen[a]? = some true → (visL seen todo y).1[a]? = some true) ∧
      2 * (n - (visL seen todo y).1.count true) + (visL seen todo y).2.length ≤ 2 * (n - seen.count true) + todo.length ∧ (todo.length ≤ seen.count true → (visL seen todo y).2.length ≤ (visL seen todo y).1.count true) := by
  unfold visL
  split
  · rename_i hs
    exact ⟨h, hc, hs, fun _ h => h, Nat.le_refl _, fun h => h⟩
  · rename_i hs
    have hl : y < seen.length := by rw [h.len]; exact hn
    have hf : seen[y]? = some false := by
      rw [List.getElem?_eq_getElem hl] at hs ⊢
      cases hb : seen[y] with
      | true => exact absurd (by rw [hb]) hs
      | false => rfl
    have hcs := count_set seen y hf
    have hle := List.count_le_length (a := true) (l := seen.set y true)
    rw [List.length_set, h.len] at hle
    refine ⟨h.mark hy hn (by simp), hc.mark (by simp +contextual) (by simp), by rw [List.getElem?_set]; simp [hl], fun a ha => seen_set ha, ?_, fun ht => ?_⟩
    · simp only [hcs, List.length_append, List.length_singleton]; omega
    · simp only [hcs, List.length_append, List.length_singleton]; omega

theorem VMem.pop {τ : Nat → Nat} {B S T D n : Nat} {w : World} {seen : List Bool} {s : List Int} {x : Int} (h : VMem τ B S T D n w seen (s ++ [x])) :
    ∃ g cap, w.heap[T]? = some (.cells #[.slice (some ⟨g, 0, none⟩) (s.length + 1) cap] 27 (0, 0)) ∧ w.cell? ⟨g, s.length, none⟩ = some (.int .i64 x) ∧ s.length + 1 ≤ cap ∧ cap ≤ maxLen ∧
      VMem τ B S T D n (w.setCell ⟨T, 0, none⟩ (.slice (some ⟨g, 0, none⟩) s.length cap)) seen s := by
  obtain ⟨h1, h2, h3⟩ := h.ord
  obtain ⟨h4, h5⟩ := h.tag
  obtain ⟨a, c, b1, b2⟩ := h.mt
  simp only [List.length_append, List.length_singleton, List.map_append, List.map_cons, List.map_nil] at b1 b2
  have hr := b2.own.row
  obtain ⟨a', c', e, hrow⟩ := hr
  simp only [Value.slice.injEq] at e
  obtain ⟨rfl, _, rfl⟩ := e
  rcases b2.own.2 with ⟨hn, _⟩ | ⟨g, cap, cur, hv, hb, hgg, hnc, hcm, hcs, ht⟩
  · cases hn
  · simp only [Value.slice.injEq] at hv
    obtain ⟨rfl, _, rfl⟩ := hv
    refine ⟨g, c, b1, ?_, hnc, hcm, blk_far h.ms (p := ⟨T, 0, none⟩) (by show T ≠ S; omega) _, ⟨some ⟨g, 0, none⟩, c, ?_, ?_⟩, h.os.set (p := ⟨T, 0, none⟩) (by rw [h4]; omega) _, h.ord, h4, by simpa using h5⟩
    · have := b2.own.cells (g := g) rfl s.length (.int .i64 x) (by simp)
      simpa [Addr.add_lit] using this
    · have := blk_set b1 (i := 0) (.slice (some ⟨g, 0, none⟩) s.length c)
      simpa using this
    · exact OwnT.low ⟨ownsRow_pop (size := 1) (by simp) b2.own, fun b hb => b2.tag b hb⟩ (p := ⟨T, 0, none⟩) (by show T < B; omega) _

set_option maxRecDepth 100000 in
set_option maxHeartbeats 4000000 in
theorem reached_any (sp nx st : Value) (init : Nat) (M : Nat) (S : List Sp2) (next : List (List Int)) (sets : List Int) (w : World) (hS : Spots w sp S) (hN : Lists w nx next) (hT : Ints w st sets) (hk : GOk S.length next sets init M) :
    Calls Tryz.prog 62 #[.agg #[sp, .int .i64 (init : Int), nx, st, .int .i64 (M : Int)]] w fun e w' => ∃ v, e = .returned (.tuple #[v, .int .i64 0]) ∧ MarkPost w S.length next (fun s => s < init) v w' := by
  have HCK := Lib.hid fun wx (hx : Ext w wx) => gcheck_ok sp nx st init M S next sets wx (hS.ext hx) (hN.ext hx) (hT.ext hx) hk
  obtain ⟨asp, csp, rfl, _⟩ := hS
  obtain ⟨ax, cx, rfl⟩ : ∃ a c, nx = .slice a next.length c := by
    obtain ⟨vs, he, a, c, rfl, _⟩ := hN
    exact ⟨a, c, rfl⟩
  obtain ⟨at', ct, rfl, hrt⟩ := hT
  obtain ⟨_, _, _, bn, on, han, hcn⟩ := hN.cells
  have hmf : ∀ (fn : Fn) (first cap : Array Value) (w : World), (Instr.makeFunc fn first cap).run Tryz.prog w = .ok (.func fn first cap) w := fun _ _ _ _ => rfl
  have HC := Lib.hid hcn
  have HA := Lib.hid han
  have HI := Lib.hid hk.ins
  have HN := Lib.hid hk.nx
  have h20 := hk.max
  have hin := hk.i1
  generalize S.length = n at *
  clear hN hcn han hk hrt
  go_enter Tryz.func62, Tryz.ntmps62
  go_wp2_with fail
  refine (HCK.out _ (ext_al (Ext.refl w) _)).mono ?_
  rintro e w1 ⟨rfl, hE1⟩
  have hA : Ext w (w.alloc (Obj.cells #[.slice asp n csp, .int .i64 (init : Int), .slice ax next.length cx, .slice at' sets.length ct, .int .i64 (M : Int)] 44)) := ext_al (Ext.refl w) _
  have bA := blk_ext (blk_new w (Obj.cells #[.slice asp n csp, .int .i64 (init : Int), .slice ax next.length cx, .slice at' sets.length ct, .int .i64 (M : Int)] 44)) hE1
  have cA0 := blk_cell bA (i := 0) rfl
  have HE1 := Lib.hid (hA.trans hE1)
  have BA := Lib.hid bA
  have hs1 : w.heap.size < w1.heap.size := blk_lt bA
  clear hA bA hE1 HCK
  go_wp2_with (at_make; go_must (refine wpList_make_full _ rfl _ _ 53 rfl w1.heap.size 4 (Tryz.slBoolsG.inf.choose) (.bool false) 1 Tryz.underlying53 Tryz.slBoolsG.inf.choose_spec.1 Tryz.slBoolsG.inf.choose_spec.2.1 Tryz.slBoolsG.inf.choose_spec.2.2.1 .i64 .i64 n n n rfl rfl rfl rfl (by rw [Tryz.slBoolsG.inf.choose_spec.2.2.2]; omega) (by unfold maxLen; omega) (Nat.le_refl _) ?_))
  intro w2 hown2 hg2
  rw [made_false] at hown2
  have HO2 := Lib.hid hown2
  have HE2 := Lib.hid ((Ext.refl w1).grown hg2 (Nat.le_refl _) (by simp))
  have hs2 : w1.heap.size < w2.heap.size := (hown2.lt _ rfl).2
  clear hown2 hg2 cA0
  have BA2 := Lib.hid (blk_ext BA.out HE2.out)
  have cA1 := blk_cell BA2.out (i := 1) rfl
  have cA2 : ((w2.alloc (Obj.cells #[.slice (some ⟨w1.heap.size, 0, none⟩) n n] 53)).alloc (Obj.cells #[.slice none 0 0] 27)).cell? ⟨w.heap.size, 1, none⟩ = some (.int .i64 (init : Int)) := cell_later (ext_al (ext_al (Ext.refl _) _) _) cA1
  go_wp2_with fail
  clear cA2
  have hW : Ext w2 ((w2.alloc (Obj.cells #[.slice (some ⟨w1.heap.size, 0, none⟩) n n] 53)).alloc (Obj.cells #[.slice none 0 0] 27)) := ext_al (ext_al (Ext.refl _) _) _
  have bS := blk_ext (blk_new w2 (Obj.cells #[.slice (some ⟨w1.heap.size, 0, none⟩) n n] 53)) (ext_al (Ext.refl _) (Obj.cells #[.slice none 0 0] 27))
  have bT := blk_new (w2.alloc (Obj.cells #[.slice (some ⟨w1.heap.size, 0, none⟩) n n] 53)) (Obj.cells #[.slice none 0 0] 27)
  have hsT : (w2.alloc (Obj.cells #[.slice (some ⟨w1.heap.size, 0, none⟩) n n] 53)).heap.size = w2.heap.size + 1 := by simp
  rw [hsT] at bT
  have hv0 : VMem (fun b => if b = w1.heap.size then 1 else 0) (w2.heap.size + 2) w2.heap.size (w2.heap.size + 1) w1.heap.size n ((w2.alloc (Obj.cells #[.slice (some ⟨w1.heap.size, 0, none⟩) n n] 53)).alloc (Obj.cells #[.slice none 0 0] 27)) (List.replicate n false) [] :=
    ⟨bS, ⟨none, 0, bT, OwnT.nil _ _ _ _ _ _⟩, ⟨own_ext HO2.out hW, fun b hb => by simp [Value.ownBlock] at hb; simp [hb]⟩, ⟨hs2, by omega, by omega⟩, (if_neg (by omega)), by simp⟩
  have HV0 := Lib.hid hv0
  have BA3 := Lib.hid (blk_ext BA2.out hW)
  have HE3 := Lib.hid ((HE1.out.trans HE2.out).trans hW)
  have hsk := seek_begin n next (fun s => s < init)
  have hc0 : (List.replicate n false).count true = 0 := by simp [List.count_replicate]
  have HSK := Lib.hid hsk
  clear hW bS bT hsT hv0 hsk BA2 BA HE1 HE2 cA1 HO2
  generalize hS : w2.heap.size = S at *
  generalize hD : w1.heap.size = D at *
  generalize (w2.alloc (Obj.cells #[.slice (some ⟨D, 0, none⟩) n n] 53)).alloc (Obj.cells #[.slice none 0 0] 27) = W3 at *
  clear hS hD
  go_loopg [24] init (fun m x wr => ∃ (i : Nat) (τ : Nat → Nat) (seen : List Bool) (todo : List Int), m + i = init ∧ x = .int .i64 (i : Int) ∧ VMem τ (S + 2) S (S + 1) D n wr seen todo ∧
    wr.heap[w.heap.size]? = some (.cells #[.slice asp n csp, .int .i64 (init : Int), .slice ax next.length cx, .slice at' sets.length ct, .int .i64 (M : Int)] 44 (0, 0)) ∧ Ext w wr ∧
    Seek n next (fun s => s < init) seen todo ∧ Closed next seen todo none ∧ todo.length ≤ seen.count true ∧ ∀ s, s < i → seen[s]? = some true)
  case atStart => exact ⟨0, _, _, [], by omega, by go_num, HV0.out, BA3.out, HE3.out, HSK.out.1, HSK.out.2, by simp, by omega⟩
  case round =>
    obtain ⟨i, τ, seen, todo, hm, rfl, hV, bA, hE, hsk, hcl, htc, hsi⟩ := hrel
    clear HV0 BA3 HE3 HSK hc0
    have hcn : todo.length ≤ n := by have := List.count_le_length (a := true) (l := seen); have := hsk.len; omega
    have HV := Lib.hid hV
    have BA := Lib.hid bA
    have HE := Lib.hid hE
    have HM := Lib.hid hm
    by_cases hi : i < init
    · have hvs := vis_seek (y := i) hsk hcl ⟨i, hi, Reach.refl _⟩ (by omega)
      have HVS := Lib.hid hvs
      have HSI := Lib.hid hsi
      have HTC := Lib.hid htc
      have hiI : (i : Int) < (init : Int) := by omega
      clear hV bA hE hsk hcl hsi htc hvs hm
      go_wp2_with fail
      refine (visit_any τ (S + 2) S (S + 1) D n wr seen todo i HV.out (by omega) (by omega)).mono ?_
      rintro e w4 ⟨rfl, ⟨τ', hV'⟩, hB⟩
      have HV' := Lib.hid hV'
      have HB := Lib.hid hB
      clear hV' hB
      go_wp2_with fail
      go_roundg (gk - 1)
      case measure => have := HM.out; omega
      case rel => exact ⟨i + 1, τ', _, _, by have := HM.out; omega, by go_num, HV'.out, blk_below BA.out HB.out (by omega), Below.trans HE.out (HB.out.mono (by omega)), HVS.out.1, HVS.out.2.1, HVS.out.2.2.2.2.2 HTC.out, fun s hs => by
        by_cases e : s = i
        · subst e; exact HVS.out.2.2.1
        · exact HVS.out.2.2.2.1 s (HSI.out s (by omega))⟩
    · have hsi' : ∀ s, s < init → seen[s]? = some true := fun s hs => hsi s (by omega)
      have HSK := Lib.hid hsk
      have HCL := Lib.hid hcl
      have HSI := Lib.hid hsi'
      have HTC := Lib.hid htc
      have hiI : ¬ (i : Int) < (init : Int) := by omega
      clear hV bA hE hsk hcl hsi hsi' htc hm
      go_wp2_with fail
      obtain ⟨wo, rfl⟩ : ∃ wo : World, wo = wr := ⟨_, rfl⟩
      go_loopg [] (2 * (n - seen.count true) + todo.length) (fun m wr => ∃ (τ : Nat → Nat) (seen : List Bool) (todo : List Int), m = 2 * (n - seen.count true) + todo.length ∧ VMem τ (S + 2) S (S + 1) D n wr seen todo ∧
        wr.heap[w.heap.size]? = some (.cells #[.slice asp n csp, .int .i64 (init : Int), .slice ax next.length cx, .slice at' sets.length ct, .int .i64 (M : Int)] 44 (0, 0)) ∧ Ext w wr ∧
        Seek n next (fun s => s < init) seen todo ∧ Closed next seen todo none ∧ todo.length ≤ seen.count true ∧ ∀ s, s < init → seen[s]? = some true)
      case atStart => exact ⟨τ, seen, todo, rfl, HV.out, BA.out, HE.out, HSK.out, HCL.out, HTC.out, HSI.out⟩
      case round =>
        obtain ⟨τ, seen, todo, hgk, hV, bA, hE, hsk, hcl, htc, hsi⟩ := hrel
        clear HV BA HE HM HSK HCL HSI HTC hcn hiI
        rcases List.eq_nil_or_concat todo with rfl | ⟨s, x, rfl⟩
        · obtain ⟨a, c, b1, _⟩ := hV.mt
          have cT := blk_cell b1 (i := 0) rfl
          have cS := blk_cell hV.ms (i := 0) rfl
          have HEND := Lib.hid (seek_end hsk hcl (fun s hs => hsi s hs))
          have HL := Lib.hid hV.len
          have HO := Lib.hid hV.os.own
          have HE := Lib.hid hE
          clear b1 hV bA hE hsk hcl htc hsi hgk
          go_wp2
          go_ret2
          exact ⟨_, rfl, seen, own_down HO.out (by omega), HL.out, HEND.out, HE.out⟩
        · rw [List.concat_eq_append] at hgk hV hsk hcl htc
          obtain ⟨c, rfl, hcs⟩ := hsk.pen x (by simp)
          have hcn : c < n := by have := (List.getElem?_eq_some_iff.1 hcs).1; rw [hsk.len] at this; exact this
          have hcx : c < next.length := by have := HN.out; omega
          obtain ⟨g, cap, b1, cg, hcap, hcm, hVp⟩ := hV.pop
          have cT := blk_cell b1 (i := 0) rfl
          have fT := blk_free b1 0
          obtain rfl := HA.out (by omega)
          obtain ⟨ai, ci, hx, hx2⟩ := HC.out c hcx
          obtain ⟨_, _, e, hri⟩ := hx2
          simp only [Value.slice.injEq] at e
          obtain ⟨rfl, _, rfl⟩ := e
          have hmi : next[c].length ≤ 9223372036854775807 := by have h1 := hri.max; have h2 := hri.le; unfold maxLen at h1; omega
          obtain ⟨bi, oi, hri1, hri2⟩ := ints_cells hri
          have HL := Lib.hid (show next[c]? = some next[c] from List.getElem?_eq_getElem hcx)
          have HLI := Lib.hid (HI.out next[c] (by simp))
          have HX := Lib.hid hx
          have HI1 := Lib.hid hri1
          have HI2 := Lib.hid hri2
          generalize next[c] = l at *
          have hD : w.heap.size < S + 1 := by have := hV.ord; omega
          have hcl' : Closed next seen s (some (c, 0)) := hcl.begin fun x hx => by
            rcases List.mem_append.1 hx with h | h
            · exact .inr h
            · exact .inl (by simpa using h)
          have HSK := Lib.hid (show Seek n next (fun s => s < init) seen s from ⟨hsk.len, hsk.rch, fun x hx => hsk.pen x (by simp [hx])⟩)
          have HCL := Lib.hid hcl'
          have HSI := Lib.hid hsi
          have HTC := Lib.hid htc
          have HGK := Lib.hid hgk
          have HCS := Lib.hid hcs
          have HVP := Lib.hid hVp
          have HBA := Lib.hid (blk_far bA (p := ⟨S + 1, 0, none⟩) (by show S + 1 ≠ w.heap.size; omega) (.slice (some ⟨g, 0, none⟩) s.length cap))
          have cA2 := blk_cell HBA.out (i := 2) rfl
          have HEE := Lib.hid (ext_st hE (p := ⟨S + 1, 0, none⟩) (by show w.heap.size ≤ S + 1; omega) (.slice (some ⟨g, 0, none⟩) s.length cap))
          have cx2 := cell_later HEE.out hx
          have hsl : s.length ≤ 20000 := by
            have := List.count_le_length (a := true) (l := seen)
            have := hsk.len
            simp only [List.length_append, List.length_singleton] at htc
            omega
          have hcI : (c : Int) < (next.length : Int) := by omega
          clear hcl' hri hri1 hri2 hx b1 hV bA hE hsk hcl htc hsi hgk hcs hVp
          unfold maxLen at hcm
          go_wp2_with fail
          generalize wr.setCell ⟨S + 1, 0, none⟩ (.slice (some ⟨g, 0, none⟩) s.length cap) = W4 at *
          clear cT fT cg cA2 cx2
          obtain ⟨G0, rfl⟩ : ∃ G0 : Nat, G0 = gk := ⟨_, rfl⟩
          go_loopg [51] l.length (fun m x wi => ∃ (k : Nat) (τ : Nat → Nat) (seen : List Bool) (todo : List Int), m + k = l.length ∧ x = .int .i64 (k : Int) ∧ VMem τ (S + 2) S (S + 1) D n wi seen todo ∧
            wi.heap[w.heap.size]? = some (.cells #[.slice asp n csp, .int .i64 (init : Int), .slice (some ⟨bn, on, none⟩) next.length cx, .slice at' sets.length ct, .int .i64 (M : Int)] 44 (0, 0)) ∧ Ext w wi ∧
            Seek n next (fun s => s < init) seen todo ∧ Closed next seen todo (some (c, k)) ∧ todo.length ≤ seen.count true ∧ (∀ s, s < init → seen[s]? = some true) ∧ seen[c]? = some true ∧ 2 * (n - seen.count true) + todo.length < G0)
          case atStart => exact ⟨0, τ, seen, s, by omega, by go_num, HVP.out, HBA.out, HEE.out, HSK.out, HCL.out, by have := HTC.out; simp only [List.length_append, List.length_singleton] at this; omega, HSI.out, HCS.out, by have := HGK.out; simp only [List.length_append, List.length_singleton] at this; omega⟩
          case round =>
            clear HVP HBA HEE HSK HCL HTC HSI HCS HGK hsl
            obtain ⟨k, τ, seen, todo, hmk, rfl, hV, bA, hE, hsk, hcl, htc, hsi, hcs, hR⟩ := hrel
            have hcn2 : todo.length ≤ n := by have := List.count_le_length (a := true) (l := seen); have := hsk.len; omega
            have HV := Lib.hid hV
            have BA := Lib.hid bA
            have HE := Lib.hid hE
            have HM := Lib.hid hmk
            have hVo := hV.ord
            have HVO := Lib.hid hVo
            by_cases hk : k < l.length
            · obtain rfl := HI1.out (by omega)
              have ck := cell_later hE (HI2.out k hk)
              obtain ⟨hy0, hy1⟩ := HLI.out l[k] (by simp)
              obtain ⟨y, hy⟩ : ∃ y : Nat, l[k] = (y : Int) := ⟨l[k].toNat, by omega⟩
              rw [hy] at ck hy0 hy1
              have hyn : y < n := by omega
              have hlk : l[k]? = some (y : Int) := by rw [List.getElem?_eq_getElem hk, hy]
              have hed : Edge next c y := ⟨l, HL.out, List.mem_of_getElem? hlk⟩
              have hyr : ∃ s, s < init ∧ Reach next s y := by
                obtain ⟨s, h1, h2⟩ := hsk.rch c hcs
                exact ⟨s, h1, h2.step hed⟩
              have HVS := Lib.hid (vis_seek hsk hcl hyr hyn)
              have HLK := Lib.hid hlk
              have HSI := Lib.hid hsi
              have HTC := Lib.hid htc
              have HCS := Lib.hid hcs
              have HR := Lib.hid hR
              have hkI : (k : Int) < (l.length : Int) := by omega
              clear hV bA hE hsk hcl hsi htc hcs hR hmk hVo hed hyr hlk hy
              go_wp2_with fail
              refine (visit_any τ (S + 2) S (S + 1) D n wr seen todo y HV.out hyn (by omega)).mono ?_
              rintro e w5 ⟨rfl, ⟨τ', hV'⟩, hB⟩
              have HV' := Lib.hid hV'
              have HB := Lib.hid hB
              clear hV' hB
              go_wp2_with fail
              go_roundg (gk - 1)
              case measure => have := HM.out; omega
              case rel =>
                have hDw : w.heap.size < D ∧ D < S := ⟨by omega, HVO.out.1⟩
                exact ⟨k + 1, τ', _, _, by have := HM.out; omega, by go_num, HV'.out, blk_below BA.out HB.out (by omega), Below.trans HE.out (HB.out.mono (by omega)), HVS.out.1, HVS.out.2.1.next HL.out HLK.out HVS.out.2.2.1, HVS.out.2.2.2.2.2 HTC.out, fun s hs => HVS.out.2.2.2.1 s (HSI.out s hs), HVS.out.2.2.2.1 c HCS.out, Nat.lt_of_le_of_lt HVS.out.2.2.2.2.1 HR.out⟩
            · obtain rfl : k = l.length := by omega
              have HSK := Lib.hid hsk
              have HCL := Lib.hid (hcl.done HL.out)
              have HSI := Lib.hid hsi
              have HTC := Lib.hid htc
              have HR := Lib.hid hR
              clear hV bA hE hsk hcl hsi htc hcs hR hmk hVo
              go_wp2_with fail
              go_roundg (2 * (n - seen.count true) + todo.length)
              case measure => exact HR.out
              case rel => exact ⟨τ, seen, todo, rfl, HV.out, BA.out, HE.out, HSK.out, HCL.out, HTC.out, HSI.out⟩

end Go.Proofs.YtbmimdnpchldlaaGreatDoor

namespace Go.Proofs.YtbmimdnpchldlaaGreatDoor

def nbs (next : List (List Int)) (a : Nat) : List Int := next.getD a []

theorem edge_iff {next : List (List Int)} {a b : Nat} : Edge next a b ↔ (b : Int) ∈ nbs next a := by
  unfold Edge nbs
  constructor
  · rintro ⟨l, h1, h2⟩
    simpa [List.getD, h1] using h2
  · intro h
    cases hl : next[a]? with
    | none => simp [List.getD, hl] at h
    | some l => exact ⟨l, rfl, by simpa [List.getD, hl] using h⟩

/-- A search: when a spot was met (0: not yet), how low it reaches, its part (-1: not known), what is open and what is under way (the last one first). -/
structure TS where
  ord : Nat → Nat
  low : Nat → Nat
  part : Nat → Int
  os : List Nat
  cs : List (Nat × Nat)
  met : Nat

def upd {α : Type} (f : Nat → α) (a : Nat) (v : α) : Nat → α := fun x => if x = a then v else f x
theorem upd_at {α : Type} (f : Nat → α) (a : Nat) (v : α) : upd f a v a = v := if_pos rfl
theorem upd_ne {α : Type} (f : Nat → α) {a x : Nat} (v : α) (h : x ≠ a) : upd f a v x = f x := if_neg h

/-- An edge that was looked at. -/
def Expl (next : List (List Int)) (cs : List (Nat × Nat)) (y z : Nat) : Prop :=
  (∃ k, (y, k) ∈ cs ∧ (z : Int) ∈ (nbs next y).take k) ∨ ((∀ q ∈ cs, q.1 ≠ y) ∧ Edge next y z)

/-- A spot's part is the least spot that it reaches and that reaches it. -/
def PartOk (next : List (List Int)) (part : Nat → Int) (a : Nat) : Prop :=
  ∃ m : Nat, part a = m ∧ Reach next a m ∧ Reach next m a ∧ ∀ b, Reach next a b → Reach next b a → m ≤ b

/-- What holds of a search; Z: a spot that is about to be met. -/
structure TInv (n : Nat) (next : List (List Int)) (s : TS) (Z : Option Nat) : Prop where
  bnd : ∀ a ∈ s.os, a < n
  met : ∀ a, s.ord a ≤ s.met
  oso : s.os.Pairwise fun a b => s.ord b < s.ord a
  osm : ∀ a, a ∈ s.os ↔ s.ord a ≠ 0 ∧ s.part a = -1
  pz : ∀ a, s.ord a = 0 → s.part a = -1
  cso : s.cs.Pairwise fun a b => s.ord b.1 < s.ord a.1
  csm : ∀ p ∈ s.cs, p.1 ∈ s.os ∧ p.2 ≤ (nbs next p.1).length
  exq : ∀ y z, s.ord y ≠ 0 → Expl next s.cs y z → s.ord z ≠ 0 ∨ Z = some z
  clo : ∀ a b, s.part a ≠ -1 → Edge next a b → s.part b ≠ -1
  A : ∀ p ∈ s.cs, ∀ y ∈ s.os, s.ord p.1 ≤ s.ord y → Reach next p.1 y
  B : ∀ y ∈ s.os, (∀ p ∈ s.cs, p.1 ≠ y) → ∃ z ∈ s.os, s.ord z < s.ord y ∧ Reach next y z
  C : ∀ y ∈ s.os, ∃ p ∈ s.cs, s.ord p.1 ≤ s.ord y
  L : ∀ p ∈ s.cs, ∀ y ∈ s.os, s.ord p.1 ≤ s.ord y → (∀ q ∈ s.cs, s.ord q.1 ≤ s.ord y → s.ord q.1 ≤ s.ord p.1) → ∀ z ∈ s.os, Expl next s.cs y z → s.low p.1 ≤ s.ord z
  W : ∀ p ∈ s.cs, s.low p.1 ≤ s.ord p.1 ∧ ∃ z ∈ s.os, s.ord z = s.low p.1 ∧ Reach next p.1 z
  P : ∀ a, s.part a ≠ -1 → PartOk next s.part a

section
variable {n : Nat} {next : List (List Int)} {s : TS} {Z : Option Nat}

theorem TInv.init (n : Nat) (next : List (List Int)) : TInv n next ⟨fun _ => 0, fun _ => 0, fun _ => -1, [], [], 0⟩ none := by
  refine ⟨by simp, by simp, by simp, by simp, by simp, by simp, by simp, by simp, by simp, by simp, by simp, by simp, by simp, by simp, by simp⟩

/-- What is open is told by when it was met. -/
theorem TInv.inj (h : TInv n next s Z) {a b : Nat} (ha : a ∈ s.os) (hb : b ∈ s.os) (e : s.ord a = s.ord b) : a = b := by
  by_cases hab : a = b
  · exact hab
  · have : ∀ (l : List Nat), l.Pairwise (fun a b => s.ord b < s.ord a) → a ∈ l → b ∈ l → False := by
      intro l
      induction l with
      | nil => intro _ h; simp at h
      | cons x l ih =>
        intro hp ha hb
        rw [List.pairwise_cons] at hp
        rcases List.mem_cons.1 ha with rfl | ha'
        · rcases List.mem_cons.1 hb with rfl | hb'
          · exact hab rfl
          · have := hp.1 b hb'; omega
        · rcases List.mem_cons.1 hb with rfl | hb'
          · have := hp.1 a ha'; omega
          · exact ih hp.2 ha' hb'
    exact (this s.os h.oso ha hb).elim

/-- The last one is the highest. -/
theorem TInv.top (h : TInv n next s Z) {c : Nat × Nat} {rest : List (Nat × Nat)} (hc : s.cs = c :: rest) : (∀ q ∈ rest, s.ord q.1 < s.ord c.1) ∧ (∀ q ∈ s.cs, s.ord q.1 ≤ s.ord c.1) := by
  have := h.cso
  rw [hc, List.pairwise_cons] at this
  refine ⟨this.1, fun q hq => ?_⟩
  rw [hc] at hq
  rcases List.mem_cons.1 hq with rfl | hq
  · exact Nat.le_refl _
  · exact Nat.le_of_lt (this.1 q hq)

theorem TInv.enter {z : Nat} (h : TInv n next s (some z)) (hz : s.ord z = 0) (hn : z < n) (hr : ∀ p ∈ s.cs, Reach next p.1 z) :
    TInv n next ⟨upd s.ord z (s.met + 1), upd s.low z (s.met + 1), s.part, z :: s.os, (z, 0) :: s.cs, s.met + 1⟩ none := by
  have hne : ∀ a ∈ s.os, a ≠ z := fun a ha e => by subst e; exact ((h.osm a).1 ha).1 hz
  have ho : ∀ a ∈ s.os, upd s.ord z (s.met + 1) a = s.ord a := fun a ha => upd_ne _ _ (hne a ha)
  have hoc : ∀ p ∈ s.cs, upd s.ord z (s.met + 1) p.1 = s.ord p.1 := fun p hp => ho _ (h.csm p hp).1
  have hlc : ∀ p ∈ s.cs, upd s.low z (s.met + 1) p.1 = s.low p.1 := fun p hp => upd_ne _ _ (hne _ (h.csm p hp).1)
  have hex : ∀ y x, y ≠ z → Expl next ((z, 0) :: s.cs) y x → Expl next s.cs y x := by
    rintro y x hy (⟨k, h1, h2⟩ | ⟨h1, h2⟩)
    · rcases List.mem_cons.1 h1 with e | h1
      · simp only [Prod.mk.injEq] at e; exact absurd e.1 hy
      · exact .inl ⟨k, h1, h2⟩
    · exact .inr ⟨fun q hq => h1 q (List.mem_cons_of_mem _ hq), h2⟩
  have hexz : ∀ x, ¬ Expl next ((z, 0) :: s.cs) z x := by
    rintro x (⟨k, h1, h2⟩ | ⟨h1, h2⟩)
    · rcases List.mem_cons.1 h1 with e | h1
      · simp only [Prod.mk.injEq] at e; rw [e.2] at h2; simp at h2
      · exact hne z (h.csm _ h1).1 rfl
    · exact h1 (z, 0) (by simp) rfl
  refine ⟨?_, ?_, ?_, ?_, ?_, ?_, ?_, ?_, h.clo, ?_, ?_, ?_, ?_, ?_, h.P⟩
  · intro a ha
    rcases List.mem_cons.1 ha with rfl | ha
    · exact hn
    · exact h.bnd a ha
  · intro a
    by_cases e : a = z
    · subst e; simp [upd_at]
    · show upd s.ord z (s.met + 1) a ≤ s.met + 1; rw [upd_ne _ _ e]; have := h.met a; omega
  · show List.Pairwise (fun a b => upd s.ord z (s.met + 1) b < upd s.ord z (s.met + 1) a) (z :: s.os)
    rw [List.pairwise_cons]
    refine ⟨fun a ha => by rw [ho a ha, upd_at]; have := h.met a; omega, ?_⟩
    exact h.oso.imp_of_mem fun ha hb hab => by rw [ho _ ha, ho _ hb]; exact hab
  · intro a
    show a ∈ z :: s.os ↔ upd s.ord z (s.met + 1) a ≠ 0 ∧ s.part a = -1
    by_cases e : a = z
    · subst e; simp [upd_at, h.pz _ hz]
    · rw [List.mem_cons, upd_ne _ _ e, h.osm a]; simp [e]
  · intro a ha
    have ha' : upd s.ord z (s.met + 1) a = 0 := ha
    by_cases e : a = z
    · subst e; rw [upd_at] at ha'; omega
    · rw [upd_ne _ _ e] at ha'; exact h.pz a ha'
  · show List.Pairwise (fun a b => upd s.ord z (s.met + 1) b.1 < upd s.ord z (s.met + 1) a.1) ((z, 0) :: s.cs)
    rw [List.pairwise_cons]
    refine ⟨fun p hp => by rw [hoc p hp]; show _ < upd s.ord z (s.met + 1) z; rw [upd_at]; have := h.met p.1; omega, ?_⟩
    exact h.cso.imp_of_mem fun ha hb hab => by rw [hoc _ ha, hoc _ hb]; exact hab
  · intro p hp
    rcases List.mem_cons.1 hp with rfl | hp
    · exact ⟨by simp, Nat.zero_le _⟩
    · exact ⟨List.mem_cons_of_mem _ (h.csm p hp).1, (h.csm p hp).2⟩
  · intro y x hy hx
    have hy' : upd s.ord z (s.met + 1) y ≠ 0 := hy
    left
    show upd s.ord z (s.met + 1) x ≠ 0
    by_cases e : y = z
    · subst e; exact absurd hx (hexz x)
    · rw [upd_ne _ _ e] at hy'
      by_cases ex : x = z
      · subst ex; rw [upd_at]; omega
      · rw [upd_ne _ _ ex]
        rcases h.exq y x hy' (hex y x e hx) with h | h
        · exact h
        · injection h with h; exact absurd h.symm ex
  · intro p hp y hy hle
    have hle' : upd s.ord z (s.met + 1) p.1 ≤ upd s.ord z (s.met + 1) y := hle
    rcases List.mem_cons.1 hp with rfl | hp2
    · rcases List.mem_cons.1 hy with rfl | hy
      · exact Reach.refl _
      · rw [ho y hy] at hle'
        have : upd s.ord z (s.met + 1) z = s.met + 1 := upd_at _ _ _
        have h2 := h.met y
        simp only [this] at hle'
        omega
    · rcases List.mem_cons.1 hy with rfl | hy
      · exact hr p hp2
      · rw [ho y hy, hoc p hp2] at hle'; exact h.A p hp2 y hy hle'
  · intro y hy hp
    rcases List.mem_cons.1 hy with rfl | hy
    · exact absurd rfl (hp (y, 0) (by simp))
    · obtain ⟨x, hx, h1, h2⟩ := h.B y hy fun p hp' => hp p (List.mem_cons_of_mem _ hp')
      exact ⟨x, List.mem_cons_of_mem _ hx, by show upd _ _ _ _ < upd _ _ _ _; rw [ho x hx, ho y hy]; exact h1, h2⟩
  · intro y hy
    rcases List.mem_cons.1 hy with rfl | hy
    · exact ⟨(y, 0), by simp, Nat.le_refl _⟩
    · obtain ⟨p, hp, h1⟩ := h.C y hy
      exact ⟨p, List.mem_cons_of_mem _ hp, by show upd _ _ _ _ ≤ upd _ _ _ _; rw [hoc p hp, ho y hy]; exact h1⟩
  · intro p hp y hy hle hq x hx hxp
    have hle' : upd s.ord z (s.met + 1) p.1 ≤ upd s.ord z (s.met + 1) y := hle
    show upd s.low z (s.met + 1) p.1 ≤ upd s.ord z (s.met + 1) x
    rcases List.mem_cons.1 hy with rfl | hy
    · exact absurd hxp (hexz x)
    · have hyz := hne y hy
      rcases List.mem_cons.1 hp with rfl | hp2
      · rw [ho y hy] at hle'
        have : upd s.ord z (s.met + 1) z = s.met + 1 := upd_at _ _ _
        have h2 := h.met y
        simp only [this] at hle'
        omega
      · rw [hlc p hp2]
        rcases List.mem_cons.1 hx with rfl | hx
        · rw [upd_at]; have h1 := (h.W p hp2).1; have h2 := h.met p.1; omega
        · rw [ho x hx]
          rw [ho y hy, hoc p hp2] at hle'
          refine h.L p hp2 y hy hle' (fun q hq' hqy => ?_) x hx (hex y x hyz hxp)
          have h3 := hq q (List.mem_cons_of_mem _ hq')
          have h4 : upd s.ord z (s.met + 1) q.1 ≤ upd s.ord z (s.met + 1) y → upd s.ord z (s.met + 1) q.1 ≤ upd s.ord z (s.met + 1) p.1 := h3
          rw [hoc q hq', hoc p hp2, ho y hy] at h4
          exact h4 hqy
  · intro p hp
    show upd s.low z (s.met + 1) p.1 ≤ upd s.ord z (s.met + 1) p.1 ∧ ∃ x ∈ z :: s.os, upd s.ord z (s.met + 1) x = upd s.low z (s.met + 1) p.1 ∧ Reach next p.1 x
    rcases List.mem_cons.1 hp with rfl | hp
    · refine ⟨by simp [upd_at], z, by simp, by simp [upd_at], Reach.refl _⟩
    · rw [hlc p hp, hoc p hp]
      obtain ⟨h1, x, hx, h2, h3⟩ := h.W p hp
      exact ⟨h1, x, List.mem_cons_of_mem _ hx, by rw [ho x hx]; exact h2, h3⟩

/-- One more edge of the last one is looked at. -/
theorem TInv.look {Z' : Option Nat} {c k z : Nat} {rest : List (Nat × Nat)} {low' : Nat → Nat} (h : TInv n next s none) (hc : s.cs = (c, k) :: rest) (hk : (nbs next c)[k]? = some (z : Int)) (hz : s.ord z ≠ 0 ∨ Z' = some z)
    (hl : low' = s.low ∨ (z ∈ s.os ∧ low' = upd s.low c (min (s.low c) (s.ord z)))) (hzo : z ∈ s.os → low' c ≤ s.ord z) : TInv n next { s with cs := (c, k + 1) :: rest, low := low' } Z' := by
  have hkl := (List.getElem?_eq_some_iff.1 hk).1
  have hcc : (c, k) ∈ s.cs := by rw [hc]; simp
  have hco := (h.csm _ hcc).1
  have hed : Edge next c z := edge_iff.2 (List.mem_of_getElem? hk)
  have htop := h.top hc
  have hrne : ∀ p ∈ rest, p.1 ≠ c := fun p hp e => by have := htop.1 p hp; simp only [e] at this; omega
  have hrest : ∀ p, p ∈ rest → p ∈ s.cs := fun p hp => by rw [hc]; exact List.mem_cons_of_mem _ hp
  -- each frame of the new search has one of the old search at the same spot
  have hback : ∀ p ∈ (c, k + 1) :: rest, ∃ p' ∈ s.cs, p'.1 = p.1 := fun p hp => by
    rcases List.mem_cons.1 hp with rfl | hp2
    · exact ⟨(c, k), hcc, rfl⟩
    · exact ⟨p, hrest p hp2, rfl⟩
  have hforth : ∀ p ∈ s.cs, ∃ p' ∈ (c, k + 1) :: rest, p'.1 = p.1 := fun p hp => by
    rw [hc] at hp
    rcases List.mem_cons.1 hp with rfl | hp2
    · exact ⟨(c, k + 1), by simp, rfl⟩
    · exact ⟨p, List.mem_cons_of_mem _ hp2, rfl⟩
  have hex : ∀ y x, Expl next ((c, k + 1) :: rest) y x → Expl next s.cs y x ∨ (y = c ∧ x = z) := by
    rintro y x (⟨j, h1, h2⟩ | ⟨h1, h2⟩)
    · rcases List.mem_cons.1 h1 with e | h1
      · simp only [Prod.mk.injEq] at e
        obtain ⟨rfl, rfl⟩ := e
        rw [List.take_add_one, hk] at h2
        rcases List.mem_append.1 h2 with h2 | h2
        · exact .inl (.inl ⟨k, hcc, h2⟩)
        · right
          simp only [Option.toList_some, List.mem_singleton] at h2
          exact ⟨rfl, by omega⟩
      · exact .inl (.inl ⟨j, hrest _ h1, h2⟩)
    · refine .inl (.inr ⟨fun q hq => ?_, h2⟩)
      obtain ⟨q', hq', e⟩ := hforth q hq
      rw [← e]; exact h1 q' hq'
  have hlow : ∀ a, low' a ≤ s.low a := fun a => by
    rcases hl with rfl | ⟨_, rfl⟩
    · exact Nat.le_refl _
    · by_cases e : a = c
      · subst e; rw [upd_at]; exact Nat.min_le_left _ _
      · rw [upd_ne _ _ e]; exact Nat.le_refl _
  refine ⟨h.bnd, h.met, h.oso, h.osm, h.pz, ?_, ?_, ?_, h.clo, ?_, ?_, ?_, ?_, ?_, h.P⟩
  · show List.Pairwise _ ((c, k + 1) :: rest)
    have := h.cso
    rw [hc, List.pairwise_cons] at this
    rw [List.pairwise_cons]
    exact this
  · intro p hp
    rcases List.mem_cons.1 hp with rfl | hp2
    · exact ⟨hco, Nat.succ_le_of_lt hkl⟩
    · exact h.csm p (hrest p hp2)
  · intro y x hy hx
    rcases hex y x hx with hx | ⟨rfl, rfl⟩
    · rcases h.exq y x hy hx with h | h
      · exact .inl h
      · cases h
    · exact hz
  · intro p hp y hy hle
    obtain ⟨p', hp', e⟩ := hback p hp
    rw [← e] at hle ⊢
    exact h.A p' hp' y hy hle
  · intro y hy hp
    refine h.B y hy fun p hp' => ?_
    obtain ⟨p', hp'', e⟩ := hforth p hp'
    rw [← e]; exact hp p' hp''
  · intro y hy
    obtain ⟨p, hp, h1⟩ := h.C y hy
    obtain ⟨p', hp', e⟩ := hforth p hp
    exact ⟨p', hp', by show s.ord p'.1 ≤ _; rw [e]; exact h1⟩
  · intro p hp y hy hle hq x hx hxp
    show low' p.1 ≤ s.ord x
    rcases hex y x hxp with hxp | ⟨rfl, rfl⟩
    · obtain ⟨p', hp', e⟩ := hback p hp
      have := h.L p' hp' y hy (by rw [e]; exact hle) (fun q hq' hqy => by
        obtain ⟨q', hq'', e'⟩ := hforth q hq'
        have := hq q' hq'' (by show s.ord q'.1 ≤ _; rw [e']; exact hqy)
        rw [e, ← e']; exact this) x hx hxp
      rw [e] at this
      exact Nat.le_trans (hlow _) this
    · -- the frame must be that of the last one
      have h1 := hq (y, k + 1) (by simp) (Nat.le_refl _)
      have h2 : s.ord y ≤ s.ord p.1 := h1
      rcases List.mem_cons.1 hp with rfl | hp2
      · exact hzo hx
      · have := htop.1 p hp2
        simp only at this
        omega
  · intro p hp
    show low' p.1 ≤ s.ord p.1 ∧ ∃ x ∈ s.os, s.ord x = low' p.1 ∧ Reach next p.1 x
    obtain ⟨p', hp', e⟩ := hback p hp
    have hW := h.W p' hp'
    rw [e] at hW
    refine ⟨Nat.le_trans (hlow _) hW.1, ?_⟩
    rcases hl with rfl | ⟨hzos, rfl⟩
    · exact hW.2
    · by_cases e2 : p.1 = c
      · rw [e2, upd_at]
        rw [e2] at hW
        rcases Nat.le_total (s.low c) (s.ord z) with hm | hm
        · rw [Nat.min_eq_left hm]; exact hW.2
        · rw [Nat.min_eq_right hm]; exact ⟨z, hzos, rfl, Reach.edge hed⟩
      · rw [upd_ne _ _ e2]; exact hW.2

/-- What is known of the last one, when all of its edges were looked at. -/
theorem TInv.full {c k : Nat} {rest : List (Nat × Nat)} (h : TInv n next s none) (hc : s.cs = (c, k) :: rest) (hk : k = (nbs next c).length) :
    (∀ p ∈ rest, p ∈ s.cs ∧ s.ord p.1 < s.ord c) ∧ c ∈ s.os ∧ (∀ y x, (∀ p ∈ rest, p.1 ≠ y) → s.ord y ≠ 0 → Edge next y x → (s.ord c ≤ s.ord y → y ∈ s.os) → Expl next s.cs y x) ∧
      (∀ y x, Expl next rest y x → Expl next s.cs y x) ∧ (∀ y ∈ s.os, s.ord c ≤ s.ord y → ∀ p ∈ rest, p.1 ≠ y) := by
  have htop := h.top hc
  have hcc : (c, k) ∈ s.cs := by rw [hc]; simp
  have hrest : ∀ p, p ∈ rest → p ∈ s.cs := fun p hp => by rw [hc]; exact List.mem_cons_of_mem _ hp
  refine ⟨fun p hp => ⟨hrest p hp, htop.1 p hp⟩, (h.csm _ hcc).1, fun y x hy _ he _ => ?_, fun y x hx => ?_, fun y _ hle p hp e => ?_⟩
  · by_cases e : y = c
    · subst e
      exact .inl ⟨k, hcc, by rw [hk, List.take_length]; exact edge_iff.1 he⟩
    · refine .inr ⟨fun q hq => ?_, he⟩
      rw [hc] at hq
      rcases List.mem_cons.1 hq with rfl | hq
      · exact fun e' => e e'.symm
      · exact hy q hq
  · rcases hx with ⟨j, h1, h2⟩ | ⟨h1, h2⟩
    · exact .inl ⟨j, hrest _ h1, h2⟩
    · by_cases e : y = c
      · subst e
        exact .inl ⟨k, hcc, by rw [hk, List.take_length]; exact edge_iff.1 h2⟩
      · refine .inr ⟨fun q hq => ?_, h2⟩
        rw [hc] at hq
        rcases List.mem_cons.1 hq with rfl | hq
        · exact fun e' => e e'.symm
        · exact h1 q hq
  · have := htop.1 p hp
    rw [e] at this
    simp only at this
    omega

/-- The last one is left, and stays open. -/
theorem TInv.pop {c k u ku : Nat} {rest : List (Nat × Nat)} (h : TInv n next s none) (hc : s.cs = (c, k) :: (u, ku) :: rest) (hk : k = (nbs next c).length) (hne : s.low c ≠ s.ord c) :
    TInv n next { s with cs := (u, ku) :: rest, low := upd s.low u (min (s.low u) (s.low c)) } none := by
  obtain ⟨hr, hco, hfull, hex, hfar⟩ := h.full hc hk
  have hcc : (c, k) ∈ s.cs := by rw [hc]; simp
  have huu : (u, ku) ∈ s.cs := by rw [hc]; simp
  obtain ⟨hW1, z0, hz0, hz1, hz2⟩ := h.W _ hcc
  have hlt : s.low c < s.ord c := by simp only at hW1; omega
  have hlow : ∀ a, upd s.low u (min (s.low u) (s.low c)) a ≤ s.low a := fun a => by
    by_cases e : a = u
    · subst e; rw [upd_at]; exact Nat.min_le_left _ _
    · rw [upd_ne _ _ e]; exact Nat.le_refl _
  have htop2 : ∀ q ∈ (u, ku) :: rest, s.ord q.1 ≤ s.ord u := fun q hq => by
    have := h.cso
    rw [hc, List.pairwise_cons, List.pairwise_cons] at this
    rcases List.mem_cons.1 hq with rfl | hq
    · exact Nat.le_refl _
    · exact Nat.le_of_lt (this.2.1 q hq)
  refine ⟨h.bnd, h.met, h.oso, h.osm, h.pz, ?_, ?_, ?_, h.clo, ?_, ?_, ?_, ?_, ?_, h.P⟩
  · show List.Pairwise _ ((u, ku) :: rest)
    have := h.cso
    rw [hc, List.pairwise_cons] at this
    exact this.2
  · exact fun p hp => h.csm p (hr p hp).1
  · exact fun y x hy hx => h.exq y x hy (hex y x hx)
  · exact fun p hp y hy hle => h.A p (hr p hp).1 y hy hle
  · intro y hy hp
    by_cases e : y = c
    · subst e; exact ⟨z0, hz0, by show s.ord z0 < s.ord y; rw [hz1]; exact hlt, hz2⟩
    · refine h.B y hy fun p hp' => ?_
      rw [hc] at hp'
      rcases List.mem_cons.1 hp' with rfl | hp'
      · exact fun e' => e e'.symm
      · exact hp p hp'
  · intro y hy
    obtain ⟨p, hp, h1⟩ := h.C y hy
    rw [hc] at hp
    rcases List.mem_cons.1 hp with rfl | hp
    · exact ⟨(u, ku), by simp, Nat.le_trans (Nat.le_of_lt (hr (u, ku) (by simp)).2) h1⟩
    · exact ⟨p, hp, h1⟩
  · intro p hp y hy hle hq x hx hxp
    show upd s.low u (min (s.low u) (s.low c)) p.1 ≤ s.ord x
    by_cases hcy : s.ord c ≤ s.ord y
    · -- what lay behind the one that is left
      have h1 : s.ord u ≤ s.ord p.1 := hq (u, ku) (by simp) (Nat.le_trans (Nat.le_of_lt (hr (u, ku) (by simp)).2) hcy)
      have h2 := htop2 p hp
      have e : p.1 = u := h.inj (h.csm p (hr p hp).1).1 (h.csm _ huu).1 (Nat.le_antisymm h2 h1)
      rw [e, upd_at]
      have := h.L _ hcc y hy hcy (fun q hq' _ => (h.top hc).2 q hq') x hx (hex y x hxp)
      simp only at this
      exact Nat.le_trans (Nat.min_le_right _ _) this
    · refine Nat.le_trans (hlow _) (h.L p (hr p hp).1 y hy hle (fun q hq' hqy => ?_) x hx (hex y x hxp))
      rw [hc] at hq'
      rcases List.mem_cons.1 hq' with rfl | hq'
      · exact absurd hqy hcy
      · exact hq q hq' hqy
  · intro p hp
    show upd s.low u (min (s.low u) (s.low c)) p.1 ≤ s.ord p.1 ∧ ∃ x ∈ s.os, s.ord x = upd s.low u (min (s.low u) (s.low c)) p.1 ∧ Reach next p.1 x
    have hW := h.W p (hr p hp).1
    refine ⟨Nat.le_trans (hlow _) hW.1, ?_⟩
    by_cases e : p.1 = u
    · rw [e, upd_at]
      rw [e] at hW
      rcases Nat.le_total (s.low u) (s.low c) with hm | hm
      · rw [Nat.min_eq_left hm]; exact hW.2
      · rw [Nat.min_eq_right hm]
        have hA := h.A (u, ku) huu c hco (Nat.le_of_lt (hr (u, ku) (by simp)).2)
        exact ⟨z0, hz0, hz1, hA.trans hz2⟩
    · rw [upd_ne _ _ e]; exact hW.2

/-- Where only one is under way it cannot stay open. -/
theorem TInv.root {c k : Nat} (h : TInv n next s none) (hc : s.cs = [(c, k)]) : s.low c = s.ord c := by
  have hcc : (c, k) ∈ s.cs := by rw [hc]; simp
  obtain ⟨h1, z, hz, h2, _⟩ := h.W _ hcc
  obtain ⟨p, hp, h3⟩ := h.C z hz
  rw [hc] at hp
  simp only [List.mem_singleton] at hp
  subst hp
  simp only at *
  omega

/-- The last one is left, and its part is whole. -/
theorem TInv.close {c k m : Nat} {rest : List (Nat × Nat)} {D os' : List Nat} {low' : Nat → Nat} (h : TInv n next s none) (hc : s.cs = (c, k) :: rest) (hk : k = (nbs next c).length) (heq : s.low c = s.ord c)
    (hl : ∀ p ∈ rest, low' p.1 = s.low p.1) (hos : s.os = D ++ os') (hD : ∀ y ∈ D, s.ord c ≤ s.ord y) (hO : ∀ y ∈ os', s.ord y < s.ord c) (hm : m ∈ D) (hmin : ∀ y ∈ D, m ≤ y) :
    TInv n next { s with cs := rest, low := low', os := os', part := fun a => if a ∈ D then (m : Int) else s.part a } none := by
  obtain ⟨hr, hco, hfull, hex, hfar⟩ := h.full hc hk
  have hcc : (c, k) ∈ s.cs := by rw [hc]; simp
  have hDo : ∀ y, y ∈ D → y ∈ s.os := fun y hy => by rw [hos]; exact List.mem_append_left _ hy
  have hOo : ∀ y, y ∈ os' → y ∈ s.os := fun y hy => by rw [hos]; exact List.mem_append_right _ hy
  have hDi : ∀ y ∈ s.os, s.ord c ≤ s.ord y → y ∈ D := fun y hy hle => by
    rw [hos] at hy
    rcases List.mem_append.1 hy with h | h
    · exact h
    · have := hO y h; omega
  have hOi : ∀ y ∈ s.os, s.ord y < s.ord c → y ∈ os' := fun y hy hlt => by
    rw [hos] at hy
    rcases List.mem_append.1 hy with h | h
    · have := hD y h; omega
    · exact h
  have hDp : ∀ y ∈ D, s.part y = -1 := fun y hy => ((h.osm y).1 (hDo y hy)).2
  have hOD : ∀ y ∈ os', y ∉ D := fun y hy hd => by have := hO y hy; have := hD y hd; omega
  have hcD : c ∈ D := hDi c hco (Nat.le_refl _)
  -- what is closed leads to what is closed
  have hstep : ∀ y z, y ∈ D → Edge next y z → z ∈ D ∨ s.part z ≠ -1 := fun y z hy he => by
    have hyo := hDo y hy
    have hyr := hfar y hyo (hD y hy)
    have hxp := hfull y z hyr ((h.osm y).1 hyo).1 he (fun _ => hyo)
    have hz0 : s.ord z ≠ 0 := by
      rcases h.exq y z ((h.osm y).1 hyo).1 hxp with h | h
      · exact h
      · cases h
    by_cases hp : s.part z = -1
    · have hzo := (h.osm z).2 ⟨hz0, hp⟩
      have := h.L _ hcc y hyo (hD y hy) (fun q hq _ => (h.top hc).2 q hq) z hzo hxp
      simp only [heq] at this
      exact .inl (hDi z hzo this)
    · exact .inr hp
  have hclo2 : ∀ y z, (y ∈ D ∨ s.part y ≠ -1) → Reach next y z → (z ∈ D ∨ s.part z ≠ -1) := fun y z hy hyz => by
    induction hyz with
    | refl => exact hy
    | step _ e ih =>
      rcases ih with h1 | h1
      · exact hstep _ _ h1 e
      · exact .inr (h.clo _ _ h1 e)
  have holdclo : ∀ y z, s.part y ≠ -1 → Reach next y z → s.part z ≠ -1 := fun y z hy hyz => by
    induction hyz with
    | refl => exact hy
    | step _ e ih => exact h.clo _ _ ih e
  -- all of it reaches the one that is left
  have hto : ∀ (b : Nat) (y : Nat), s.ord y ≤ b → y ∈ D → Reach next y c := by
    intro b
    induction b with
    | zero => intro y hb hy; have := ((h.osm y).1 (hDo y hy)).1; omega
    | succ b ih =>
      intro y hb hy
      by_cases e : y = c
      · subst e; exact Reach.refl _
      · have hyc : ∀ p ∈ s.cs, p.1 ≠ y := fun p hp => by
          rw [hc] at hp
          rcases List.mem_cons.1 hp with rfl | hp
          · exact fun e' => e e'.symm
          · exact hfar y (hDo y hy) (hD y hy) p hp
        obtain ⟨z, hz, h1, h2⟩ := h.B y (hDo y hy) hyc
        have hzD : z ∈ D := by
          rcases hclo2 y z (.inl hy) h2 with h3 | h3
          · exact h3
          · exact absurd ((h.osm z).1 hz).2 h3
        exact h2.trans (ih z (by omega) hzD)
  have hfrom : ∀ y ∈ D, Reach next c y := fun y hy => h.A _ hcc y (hDo y hy) (hD y hy)
  have hpart : ∀ a, (if a ∈ D then (m : Int) else s.part a) ≠ -1 → a ∈ D ∨ s.part a ≠ -1 := fun a ha => by
    by_cases e : a ∈ D
    · exact .inl e
    · rw [if_neg e] at ha; exact .inr ha
  have hpart2 : ∀ a, (a ∈ D ∨ s.part a ≠ -1) → (if a ∈ D then (m : Int) else s.part a) ≠ -1 := fun a ha => by
    by_cases e : a ∈ D
    · rw [if_pos e]; omega
    · rw [if_neg e]; exact ha.resolve_left e
  refine ⟨fun a ha => h.bnd a (hOo a ha), h.met, ?_, ?_, ?_, ?_, ?_, ?_, ?_, ?_, ?_, ?_, ?_, ?_, ?_⟩
  · have := h.oso; rw [hos, List.pairwise_append] at this; exact this.2.1
  · intro a
    show a ∈ os' ↔ s.ord a ≠ 0 ∧ (if a ∈ D then (m : Int) else s.part a) = -1
    constructor
    · intro ha
      rw [if_neg (hOD a ha)]
      exact (h.osm a).1 (hOo a ha)
    · rintro ⟨h1, h2⟩
      by_cases e : a ∈ D
      · rw [if_pos e] at h2; omega
      · rw [if_neg e] at h2
        have := (h.osm a).2 ⟨h1, h2⟩
        rw [hos] at this
        exact (List.mem_append.1 this).resolve_left e
  · intro a ha
    show (if a ∈ D then (m : Int) else s.part a) = -1
    rw [if_neg (fun hd => ((h.osm a).1 (hDo a hd)).1 ha)]
    exact h.pz a ha
  · have := h.cso; rw [hc, List.pairwise_cons] at this; exact this.2
  · exact fun p hp => ⟨hOi _ (h.csm p (hr p hp).1).1 (hr p hp).2, (h.csm p (hr p hp).1).2⟩
  · exact fun y x hy hx => h.exq y x hy (hex y x hx)
  · intro a b ha he
    exact hpart2 b (hclo2 a b (hpart a ha) (Reach.edge he))
  · exact fun p hp y hy hle => h.A p (hr p hp).1 y (hOo y hy) hle
  · intro y hy hp
    have hyo := hOo y hy
    have hyc : y ≠ c := fun e => by subst e; exact Nat.lt_irrefl _ (hO y hy)
    obtain ⟨z, hz, h1, h2⟩ := h.B y hyo fun p hp' => by
      rw [hc] at hp'
      rcases List.mem_cons.1 hp' with rfl | hp'
      · exact fun e => hyc e.symm
      · exact hp p hp'
    exact ⟨z, hOi z hz (by have := hO y hy; omega), h1, h2⟩
  · intro y hy
    obtain ⟨p, hp, h1⟩ := h.C y (hOo y hy)
    rw [hc] at hp
    rcases List.mem_cons.1 hp with rfl | hp
    · have := hO y hy; simp only at h1; omega
    · exact ⟨p, hp, h1⟩
  · intro p hp y hy hle hq x hx hxp
    show low' p.1 ≤ s.ord x
    rw [hl p hp]
    refine h.L p (hr p hp).1 y (hOo y hy) hle (fun q hq' hqy => ?_) x (hOo x hx) (hex y x hxp)
    rw [hc] at hq'
    rcases List.mem_cons.1 hq' with rfl | hq'
    · have := hO y hy; simp only at hqy; omega
    · exact hq q hq' hqy
  · intro p hp
    show low' p.1 ≤ s.ord p.1 ∧ ∃ x ∈ os', s.ord x = low' p.1 ∧ Reach next p.1 x
    rw [hl p hp]
    obtain ⟨h1, z, hz, h2, h3⟩ := h.W p (hr p hp).1
    exact ⟨h1, z, hOi z hz (by have := (hr p hp).2; omega), h2, h3⟩
  · intro a ha
    show PartOk next (fun a => if a ∈ D then (m : Int) else s.part a) a
    by_cases e : a ∈ D
    · have hac := hto _ a (Nat.le_refl _) e
      refine ⟨m, if_pos e, hac.trans (hfrom m hm), (hto _ m (Nat.le_refl _) hm).trans (hfrom a e), fun b hab hba => ?_⟩
      rcases hclo2 a b (.inl e) hab with hb | hb
      · exact hmin b hb
      · exact absurd (hDp a e) (holdclo b a hb hba)
    · have ha' : s.part a ≠ -1 := (hpart a ha).resolve_left e
      obtain ⟨m', h1, h2, h3, h4⟩ := h.P a ha'
      exact ⟨m', by show (if a ∈ D then (m : Int) else s.part a) = _; rw [if_neg e]; exact h1, h2, h3, h4⟩

end

end Go.Proofs.YtbmimdnpchldlaaGreatDoor

namespace Go.Proofs.YtbmimdnpchldlaaGreatDoor
open Go.RowKit

theorem Tryz.slFrames : SlTy Tryz.prog 168 199 (.agg #[.int .i64 0, .int .i64 0]) 2 16 := SlTy.mk' Tryz.underlying168 (by kernel_rfl) (by rfl) (by omega)

theorem Row.newOpAt (w : World) (t : TypeId) (k v : Int) (b : Nat) (hb : b = w.heap.size) : Row (w.alloc (.cells #[.int .i64 k, .int .i64 v] t)) 2 (some ⟨b, 0, none⟩) 1 1 (spc (k, v)) := by subst hb; exact Row.newSp w t k v

/-- The search's block P (its graph's five cells, then order, low, part, open, calls, met), and the rows behind it. -/
structure SM (τ : Nat → Nat) (B P n : Nat) (Do Dl Dp : Nat) (g0 g1 g2 g3 g4 : Value) (w : World) (vo vc : Value) (ow lw pw : List Int) (ol : List Int) (cl : List Sp2) (met : Int) : Prop where
  blk : w.heap[P]? = some (.cells #[g0, g1, g2, g3, g4, .slice (some ⟨Do, 0, none⟩) n n, .slice (some ⟨Dl, 0, none⟩) n n, .slice (some ⟨Dp, 0, none⟩) n n, vo, vc, .int .i64 met] 170 (0, 0))
  ord : OwnT τ 1 w B 3 1 (.slice (some ⟨Do, 0, none⟩) n n) n (ow.map (.int .i64))
  low : OwnT τ 2 w B 3 1 (.slice (some ⟨Dl, 0, none⟩) n n) n (lw.map (.int .i64))
  prt : OwnT τ 3 w B 3 1 (.slice (some ⟨Dp, 0, none⟩) n n) n (pw.map (.int .i64))
  opn : OwnT τ 4 w B 3 1 vo ol.length (ol.map (.int .i64))
  cls : OwnT τ 5 w B 199 2 vc cl.length (cl.flatMap spc)
  tag : τ P = 0
  new : B ≤ P

section
variable {τ : Nat → Nat} {B P n Do Dl Dp : Nat} {g0 g1 g2 g3 g4 : Value} {w w' : World} {vo vc : Value} {ow lw pw : List Int} {ol : List Int} {cl : List Sp2} {met : Int}
theorem SM.ext (h : SM τ B P n Do Dl Dp g0 g1 g2 g3 g4 w vo vc ow lw pw ol cl met) (hE : Ext w w') : SM τ B P n Do Dl Dp g0 g1 g2 g3 g4 w' vo vc ow lw pw ol cl met :=
  ⟨blk_ext h.blk hE, h.ord.ext hE, h.low.ext hE, h.prt.ext hE, h.opn.ext hE, h.cls.ext hE, h.tag, h.new⟩
theorem SM.lens (h : SM τ B P n Do Dl Dp g0 g1 g2 g3 g4 w vo vc ow lw pw ol cl met) : ow.length = n ∧ lw.length = n ∧ pw.length = n := ⟨by simpa using h.ord.own.1, by simpa using h.low.own.1, by simpa using h.prt.own.1⟩
theorem SM.tags (h : SM τ B P n Do Dl Dp g0 g1 g2 g3 g4 w vo vc ow lw pw ol cl met) : τ Do = 1 ∧ τ Dl = 2 ∧ τ Dp = 3 := ⟨h.ord.tag Do rfl, h.low.tag Dl rfl, h.prt.tag Dp rfl⟩
theorem SM.nes (h : SM τ B P n Do Dl Dp g0 g1 g2 g3 g4 w vo vc ow lw pw ol cl met) : P ≠ Do ∧ P ≠ Dl ∧ P ≠ Dp ∧ Do ≠ Dl ∧ Do ≠ Dp ∧ Dl ≠ Dp := by
  obtain ⟨h1, h2, h3⟩ := h.tags
  have h0 := h.tag
  exact ⟨fun e => by rw [e] at h0; omega, fun e => by rw [e] at h0; omega, fun e => by rw [e] at h0; omega, fun e => by rw [e] at h1; omega, fun e => by rw [e] at h1; omega, fun e => by rw [e] at h2; omega⟩
theorem SM.bases (h : SM τ B P n Do Dl Dp g0 g1 g2 g3 g4 w vo vc ow lw pw ol cl met) : B ≤ Do ∧ B ≤ Dl ∧ B ≤ Dp := ⟨(h.ord.own.lt Do rfl).1, (h.low.own.lt Dl rfl).1, (h.prt.own.lt Dp rfl).1⟩

theorem set_map_int (l : List Int) (i : Nat) (x : Int) : (l.map (Value.int .i64)).set i (.int .i64 x) = (l.set i x).map (.int .i64) := by rw [List.map_set]

theorem SM.setOrd (h : SM τ B P n Do Dl Dp g0 g1 g2 g3 g4 w vo vc ow lw pw ol cl met) (i : Nat) (x : Int) : SM τ B P n Do Dl Dp g0 g1 g2 g3 g4 (w.setCell ⟨Do, i, none⟩ (.int .i64 x)) vo vc (ow.set i x) lw pw ol cl met := by
  obtain ⟨t1, t2, t3⟩ := h.tags
  obtain ⟨n1, n2, n3, n4, n5, n6⟩ := h.nes
  exact ⟨blk_far h.blk (p := ⟨Do, i, none⟩) (Ne.symm n1) _, by rw [← set_map_int]; exact h.ord.setAt _, h.low.set (p := ⟨Do, i, none⟩) (by show τ Do ≠ 2; omega) _, h.prt.set (p := ⟨Do, i, none⟩) (by show τ Do ≠ 3; omega) _, h.opn.set (p := ⟨Do, i, none⟩) (by show τ Do ≠ 4; omega) _, h.cls.set (p := ⟨Do, i, none⟩) (by show τ Do ≠ 5; omega) _, h.tag, h.new⟩
theorem SM.setLow (h : SM τ B P n Do Dl Dp g0 g1 g2 g3 g4 w vo vc ow lw pw ol cl met) (i : Nat) (x : Int) : SM τ B P n Do Dl Dp g0 g1 g2 g3 g4 (w.setCell ⟨Dl, i, none⟩ (.int .i64 x)) vo vc ow (lw.set i x) pw ol cl met := by
  obtain ⟨t1, t2, t3⟩ := h.tags
  obtain ⟨n1, n2, n3, n4, n5, n6⟩ := h.nes
  exact ⟨blk_far h.blk (p := ⟨Dl, i, none⟩) (Ne.symm n2) _, h.ord.set (p := ⟨Dl, i, none⟩) (by show τ Dl ≠ 1; omega) _, by rw [← set_map_int]; exact h.low.setAt _, h.prt.set (p := ⟨Dl, i, none⟩) (by show τ Dl ≠ 3; omega) _, h.opn.set (p := ⟨Dl, i, none⟩) (by show τ Dl ≠ 4; omega) _, h.cls.set (p := ⟨Dl, i, none⟩) (by show τ Dl ≠ 5; omega) _, h.tag, h.new⟩
theorem SM.setPrt (h : SM τ B P n Do Dl Dp g0 g1 g2 g3 g4 w vo vc ow lw pw ol cl met) (i : Nat) (x : Int) : SM τ B P n Do Dl Dp g0 g1 g2 g3 g4 (w.setCell ⟨Dp, i, none⟩ (.int .i64 x)) vo vc ow lw (pw.set i x) ol cl met := by
  obtain ⟨t1, t2, t3⟩ := h.tags
  obtain ⟨n1, n2, n3, n4, n5, n6⟩ := h.nes
  exact ⟨blk_far h.blk (p := ⟨Dp, i, none⟩) (Ne.symm n3) _, h.ord.set (p := ⟨Dp, i, none⟩) (by show τ Dp ≠ 1; omega) _, h.low.set (p := ⟨Dp, i, none⟩) (by show τ Dp ≠ 2; omega) _, by rw [← set_map_int]; exact h.prt.setAt _, h.opn.set (p := ⟨Dp, i, none⟩) (by show τ Dp ≠ 4; omega) _, h.cls.set (p := ⟨Dp, i, none⟩) (by show τ Dp ≠ 5; omega) _, h.tag, h.new⟩
theorem SM.setMet (h : SM τ B P n Do Dl Dp g0 g1 g2 g3 g4 w vo vc ow lw pw ol cl met) (x : Int) : SM τ B P n Do Dl Dp g0 g1 g2 g3 g4 (w.setCell ⟨P, 10, none⟩ (.int .i64 x)) vo vc ow lw pw ol cl x := by
  have t0 := h.tag
  exact ⟨blk_set h.blk (i := 10) _, h.ord.set (p := ⟨P, 10, none⟩) (by show τ P ≠ 1; omega) _, h.low.set (p := ⟨P, 10, none⟩) (by show τ P ≠ 2; omega) _, h.prt.set (p := ⟨P, 10, none⟩) (by show τ P ≠ 3; omega) _, h.opn.set (p := ⟨P, 10, none⟩) (by show τ P ≠ 4; omega) _, h.cls.set (p := ⟨P, 10, none⟩) (by show τ P ≠ 5; omega) _, h.tag, h.new⟩
/-- Open is stored anew. -/
theorem SM.setOpn (h : SM τ B P n Do Dl Dp g0 g1 g2 g3 g4 w vo vc ow lw pw ol cl met) {vo' : Value} {ol' : List Int} (ho : OwnT τ 4 w B 3 1 vo' ol'.length (ol'.map (.int .i64))) : SM τ B P n Do Dl Dp g0 g1 g2 g3 g4 (w.setCell ⟨P, 8, none⟩ vo') vo' vc ow lw pw ol' cl met := by
  have t0 := h.tag
  exact ⟨blk_set h.blk (i := 8) _, h.ord.set (p := ⟨P, 8, none⟩) (by show τ P ≠ 1; omega) _, h.low.set (p := ⟨P, 8, none⟩) (by show τ P ≠ 2; omega) _, h.prt.set (p := ⟨P, 8, none⟩) (by show τ P ≠ 3; omega) _, ho.set (p := ⟨P, 8, none⟩) (by show τ P ≠ 4; omega) _, h.cls.set (p := ⟨P, 8, none⟩) (by show τ P ≠ 5; omega) _, h.tag, h.new⟩
theorem SM.setCls (h : SM τ B P n Do Dl Dp g0 g1 g2 g3 g4 w vo vc ow lw pw ol cl met) {vc' : Value} {cl' : List Sp2} (ho : OwnT τ 5 w B 199 2 vc' cl'.length (cl'.flatMap spc)) : SM τ B P n Do Dl Dp g0 g1 g2 g3 g4 (w.setCell ⟨P, 9, none⟩ vc') vo vc' ow lw pw ol cl' met := by
  have t0 := h.tag
  exact ⟨blk_set h.blk (i := 9) _, h.ord.set (p := ⟨P, 9, none⟩) (by show τ P ≠ 1; omega) _, h.low.set (p := ⟨P, 9, none⟩) (by show τ P ≠ 2; omega) _, h.prt.set (p := ⟨P, 9, none⟩) (by show τ P ≠ 3; omega) _, h.opn.set (p := ⟨P, 9, none⟩) (by show τ P ≠ 4; omega) _, ho.set (p := ⟨P, 9, none⟩) (by show τ P ≠ 5; omega) _, h.tag, h.new⟩
/-- Behind an append onto open's row (not yet stored). -/
theorem SM.appOpn (h : SM τ B P n Do Dl Dp g0 g1 g2 g3 g4 w vo vc ow lw pw ol cl met) {v' : Value} {m : Nat} {xs : List Value} (x : Int) (ho : w'.ownsRow B 3 1 v' m xs) (hm : m = ol.length + 1) (hx : xs = ol.map (.int .i64) ++ [.int .i64 x])
    (hg : w.grownBy w' vo.ownBlock) (hb : v'.ownBlock = vo.ownBlock ∨ v'.ownBlock = some w.heap.size) :
    ∃ τ', (∀ b, b < w.heap.size → τ' b = τ b) ∧ OwnT τ' 4 w' B 3 1 v' (ol ++ [x]).length ((ol ++ [x]).map (.int .i64)) ∧ w'.heap[P]? = w.heap[P]? ∧ τ' P = 0 ∧
      OwnT τ' 1 w' B 3 1 (.slice (some ⟨Do, 0, none⟩) n n) n (ow.map (.int .i64)) ∧ OwnT τ' 2 w' B 3 1 (.slice (some ⟨Dl, 0, none⟩) n n) n (lw.map (.int .i64)) ∧ OwnT τ' 3 w' B 3 1 (.slice (some ⟨Dp, 0, none⟩) n n) n (pw.map (.int .i64)) ∧ OwnT τ' 5 w' B 199 2 vc cl.length (cl.flatMap spc) ∧ Below B w w' := by
  subst hm; subst hx
  have hP := blk_lt h.blk
  have hne : some P ≠ vo.ownBlock := fun e => by have := h.opn.tag P e.symm; have := h.tag; omega
  have o4 := h.opn.app ho hb
  have hB : B ≤ w.heap.size := by have := h.new; omega
  refine ⟨tagAt τ w.heap.size 4, fun b hb => tagAt_lt hb, by simpa using o4, hg.block P hP hne, by rw [tagAt_lt hP]; exact h.tag, h.ord.other h.opn hg (by omega), h.low.other h.opn hg (by omega), h.prt.other h.opn hg (by omega), h.cls.other h.opn hg (by omega), (Below.refl B w).grown hg hB (fun b hb => (h.opn.own.lt b hb).1)⟩
theorem SM.appCls (h : SM τ B P n Do Dl Dp g0 g1 g2 g3 g4 w vo vc ow lw pw ol cl met) {v' : Value} {m : Nat} {xs : List Value} (x : Sp2) (ho : w'.ownsRow B 199 2 v' m xs) (hm : m = cl.length + 1) (hx : xs = cl.flatMap spc ++ spc x)
    (hg : w.grownBy w' vc.ownBlock) (hb : v'.ownBlock = vc.ownBlock ∨ v'.ownBlock = some w.heap.size) :
    ∃ τ', (∀ b, b < w.heap.size → τ' b = τ b) ∧ OwnT τ' 5 w' B 199 2 v' (cl ++ [x]).length ((cl ++ [x]).flatMap spc) ∧ w'.heap[P]? = w.heap[P]? ∧ τ' P = 0 ∧
      OwnT τ' 1 w' B 3 1 (.slice (some ⟨Do, 0, none⟩) n n) n (ow.map (.int .i64)) ∧ OwnT τ' 2 w' B 3 1 (.slice (some ⟨Dl, 0, none⟩) n n) n (lw.map (.int .i64)) ∧ OwnT τ' 3 w' B 3 1 (.slice (some ⟨Dp, 0, none⟩) n n) n (pw.map (.int .i64)) ∧ OwnT τ' 4 w' B 3 1 vo ol.length (ol.map (.int .i64)) ∧ Below B w w' := by
  subst hm; subst hx
  have hP := blk_lt h.blk
  have hne : some P ≠ vc.ownBlock := fun e => by have := h.cls.tag P e.symm; have := h.tag; omega
  have o5 := h.cls.app ho hb
  have hB : B ≤ w.heap.size := by have := h.new; omega
  refine ⟨tagAt τ w.heap.size 5, fun b hb => tagAt_lt hb, by simpa using o5, hg.block P hP hne, by rw [tagAt_lt hP]; exact h.tag, h.ord.other h.cls hg (by omega), h.low.other h.cls hg (by omega), h.prt.other h.cls hg (by omega), h.opn.other h.cls hg (by omega), (Below.refl B w).grown hg hB (fun b hb => (h.cls.own.lt b hb).1)⟩
end

end Go.Proofs.YtbmimdnpchldlaaGreatDoor

namespace Go.Proofs.YtbmimdnpchldlaaGreatDoor
open Go.RowKit

section
variable {τ : Nat → Nat} {B P n Do Dl Dp : Nat} {g0 g1 g2 g3 g4 : Value} {w w' : World} {vo vc : Value} {ow lw pw : List Int} {ol : List Int} {cl : List Sp2} {met : Int}
theorem SM.pushOpn (h : SM τ B P n Do Dl Dp g0 g1 g2 g3 g4 w vo vc ow lw pw ol cl met) {v' : Value} {m : Nat} {xs : List Value} (x : Int) (ho : w'.ownsRow B 3 1 v' m xs) (hm : m = ol.length + 1) (hx : xs = ol.map (.int .i64) ++ [.int .i64 x])
    (hg : w.grownBy w' vo.ownBlock) (hb : v'.ownBlock = vo.ownBlock ∨ v'.ownBlock = some w.heap.size) :
    w'.heap[P]? = w.heap[P]? ∧ ∃ τ', SM τ' B P n Do Dl Dp g0 g1 g2 g3 g4 (w'.setCell ⟨P, 8, none⟩ v') v' vc ow lw pw (ol ++ [x]) cl met ∧ Below B w (w'.setCell ⟨P, 8, none⟩ v') := by
  obtain ⟨τ', _, o4, hP, hP0, o1, o2, o3, o5, hB⟩ := h.appOpn x ho hm hx hg hb
  have b := blk_set (hP.trans h.blk) (i := 8) v'
  refine ⟨hP, τ', ⟨b, o1.set (p := ⟨P, 8, none⟩) (by show τ' P ≠ 1; omega) _, o2.set (p := ⟨P, 8, none⟩) (by show τ' P ≠ 2; omega) _, o3.set (p := ⟨P, 8, none⟩) (by show τ' P ≠ 3; omega) _, o4.set (p := ⟨P, 8, none⟩) (by show τ' P ≠ 4; omega) _, o5.set (p := ⟨P, 8, none⟩) (by show τ' P ≠ 5; omega) _, hP0, h.new⟩, hB.setCell (p := ⟨P, 8, none⟩) h.new _⟩
theorem SM.pushCls (h : SM τ B P n Do Dl Dp g0 g1 g2 g3 g4 w vo vc ow lw pw ol cl met) {v' : Value} {m : Nat} {xs : List Value} (x : Sp2) (ho : w'.ownsRow B 199 2 v' m xs) (hm : m = cl.length + 1) (hx : xs = cl.flatMap spc ++ spc x)
    (hg : w.grownBy w' vc.ownBlock) (hb : v'.ownBlock = vc.ownBlock ∨ v'.ownBlock = some w.heap.size) :
    w'.heap[P]? = w.heap[P]? ∧ ∃ τ', SM τ' B P n Do Dl Dp g0 g1 g2 g3 g4 (w'.setCell ⟨P, 9, none⟩ v') vo v' ow lw pw ol (cl ++ [x]) met ∧ Below B w (w'.setCell ⟨P, 9, none⟩ v') := by
  obtain ⟨τ', _, o5, hP, hP0, o1, o2, o3, o4, hB⟩ := h.appCls x ho hm hx hg hb
  have b := blk_set (hP.trans h.blk) (i := 9) v'
  refine ⟨hP, τ', ⟨b, o1.set (p := ⟨P, 9, none⟩) (by show τ' P ≠ 1; omega) _, o2.set (p := ⟨P, 9, none⟩) (by show τ' P ≠ 2; omega) _, o3.set (p := ⟨P, 9, none⟩) (by show τ' P ≠ 3; omega) _, o4.set (p := ⟨P, 9, none⟩) (by show τ' P ≠ 4; omega) _, o5.set (p := ⟨P, 9, none⟩) (by show τ' P ≠ 5; omega) _, hP0, h.new⟩, hB.setCell (p := ⟨P, 9, none⟩) h.new _⟩
end

set_option maxRecDepth 100000 in
set_option maxHeartbeats 4000000 in
theorem enter_any (τ : Nat → Nat) (B P n Do Dl Dp : Nat) (g0 g1 g2 g3 g4 : Value) (w : World) (vo vc : Value) (ow lw pw : List Int) (ol : List Int) (cl : List Sp2) (met : Int) (h : SM τ B P n Do Dl Dp g0 g1 g2 g3 g4 w vo vc ow lw pw ol cl met)
    (a : Nat) (ha : a < n) (h1 : ol.length ≤ 20000) (h2 : cl.length ≤ 20000) (h3 : 0 ≤ met) (h4 : met ≤ 20000) :
    Calls Tryz.prog 98 #[.pointer (some ⟨P, 0, none⟩), .int .i64 (a : Int)] w fun e w' => e = .returned (.tuple #[]) ∧ (∃ τ' vo' vc', SM τ' B P n Do Dl Dp g0 g1 g2 g3 g4 w' vo' vc' (ow.set a (met + 1)) (lw.set a (met + 1)) pw (ol ++ [(a : Int)]) (cl ++ [((a : Int), 0)]) (met + 1)) ∧ Below B w w' := by
  obtain ⟨ao, co, rfl, _⟩ := h.opn.own.row
  obtain ⟨ac, cc, rfl, _⟩ := h.cls.own.row
  have hnew := h.new
  have hP := blk_lt h.blk
  have c10 := blk_cell h.blk (i := 10) rfl
  have f10 := blk_free h.blk 10
  have hm := h.setMet (met + 1)
  have c5 := blk_cell hm.blk (i := 5) rfl
  have c6 := blk_cell hm.blk (i := 6) rfl
  have c10' := blk_cell hm.blk (i := 10) rfl
  obtain ⟨l1, l2, l3⟩ := h.lens
  obtain ⟨y1, co0⟩ : ∃ y, (w.setCell ⟨P, 10, none⟩ (.int .i64 (met + 1))).cell? ⟨Do, a, none⟩ = some (.int .i64 y) := ⟨_, (own_cellAt hm.ord.own (i := a) (by simpa using (by omega : a < ow.length))).trans (by rw [List.getElem_map])⟩
  obtain ⟨y2, cl0⟩ : ∃ y, (w.setCell ⟨P, 10, none⟩ (.int .i64 (met + 1))).cell? ⟨Dl, a, none⟩ = some (.int .i64 y) := ⟨_, (own_cellAt hm.low.own (i := a) (by simpa using (by omega : a < lw.length))).trans (by rw [List.getElem_map])⟩
  have fo0 := own_freeAt hm.ord.own a
  have fl0 := own_freeAt hm.low.own a
  obtain ⟨n1, n2, n3, n4, n5, n6⟩ := h.nes
  have n1' := Ne.symm n1
  have n2' := Ne.symm n2
  have n4' := Ne.symm n4
  have haI : (a : Int) < (n : Int) := by omega
  have haI0 : (0 : Int) ≤ (a : Int) := by omega
  have hb1 : Below B w (w.setCell ⟨P, 10, none⟩ (.int .i64 (met + 1))) := (Below.refl B w).setCell (p := ⟨P, 10, none⟩) hnew _
  have HM := Lib.hid hm
  have HB1 := Lib.hid hb1
  have hbs := h.bases
  have HBS := Lib.hid hbs
  clear h hm hb1 hbs l1 l2 l3
  go_enter Tryz.func98, Tryz.ntmps98
  go_wp2_with fail
  generalize w.setCell ⟨P, 10, none⟩ (.int .i64 (met + 1)) = W1 at *
  clear c10 f10
  go_region
  all_goals
    have hE : Ext ((W1.setCell ⟨Do, a, none⟩ (.int .i64 (met + 1))).setCell ⟨Dl, a, none⟩ (.int .i64 (met + 1))) ((W1.setCell ⟨Do, a, none⟩ (.int .i64 (met + 1))).setCell ⟨Dl, a, none⟩ (.int .i64 (met + 1))).drew := Below.drew (Ext.refl _)
    have hm2 := ((HM.out.setOrd a (met + 1)).setLow a (met + 1)).ext hE
    have hb2 : Below B w ((W1.setCell ⟨Do, a, none⟩ (.int .i64 (met + 1))).setCell ⟨Dl, a, none⟩ (.int .i64 (met + 1))).drew := Below.drew ((HB1.out.setCell (p := ⟨Do, a, none⟩) HBS.out.1 _).setCell (p := ⟨Dl, a, none⟩) HBS.out.2.1 _)
    clear hE c5 c6 c10' co0 cl0 fo0 fl0 HM HB1
    generalize ((W1.setCell ⟨Do, a, none⟩ (.int .i64 (met + 1))).setCell ⟨Dl, a, none⟩ (.int .i64 (met + 1))).drew = W2 at *
    have c8 := blk_cell hm2.blk (i := 8) rfl
    have ho2 := hm2.opn.own.alloc (Obj.cells #[.int .i64 (a : Int)] 3)
    have hs2 : P < W2.heap.size := blk_lt hm2.blk
    have HM2 := Lib.hid (hm2.ext (ext_al (Ext.refl _) (Obj.cells #[.int .i64 (a : Int)] 3)))
    have HB2 := Lib.hid (Below.alloc hb2 (by omega) (Obj.cells #[.int .i64 (a : Int)] 3))
    clear hm2 hb2
    go_wp2_with (at_builtin; go_must (refine wpl_append rfl rfl Tryz.slIntsG B rfl ho2 rfl (Row.oneG _ _ _ _ (by simp)) (one_int _) (by unfold maxLen; omega) (by omega) (by simp; omega) ?_))
    intro v3 w3 hown3 hg3 hb3 _
    obtain ⟨hP3, τ3, hm3, hB3⟩ := HM2.out.pushOpn (a : Int) hown3 rfl rfl hg3 (by rcases hb3 with h | h; exact .inl h; right; rw [h]; simp)
    obtain ⟨a3, c3, rfl, _⟩ := hown3.row
    have c8 := blk_cell (hP3.trans HM2.out.blk) (i := 8) rfl
    have f8 := blk_free (hP3.trans HM2.out.blk) 8
    have c9 := blk_cell (hP3.trans HM2.out.blk) (i := 9) rfl
    have hb4 : Below B w (w3.setCell ⟨P, 8, none⟩ (.slice a3 (ol.length + 1) c3)) := HB2.out.trans hB3
    have ho3 := hm3.cls.own.alloc (Obj.cells #[.int .i64 (a : Int), .int .i64 0] 199)
    have hs3 : P < w3.heap.size := by have := blk_lt hm3.blk; simpa using this
    have HM3 := Lib.hid (hm3.ext (ext_al (Ext.refl _) (Obj.cells #[.int .i64 (a : Int), .int .i64 0] 199)))
    have HB3 := Lib.hid (Below.alloc hb4 (by simp; omega) (Obj.cells #[.int .i64 (a : Int), .int .i64 0] 199))
    clear hown3 hg3 hb3 hP3 hm3 hB3 hb4 ho2 HM2 HB2
    go_wp2_with (at_builtin; go_must (refine wpl_append rfl rfl Tryz.slFrames B rfl ho3 rfl (Row.newOpAt _ _ _ _ _ (by simp)) (by simp [spc, Value.oneCell']) (by unfold maxLen; omega) (by omega) (by simp; omega) ?_))
    intro v4 w4 hown4 hg4 hb4 _
    obtain ⟨hP4, τ4, hm4, hB4⟩ := HM3.out.pushCls ((a : Int), 0) hown4 rfl rfl hg4 (by rcases hb4 with h | h; exact .inl h; right; rw [h]; simp)
    obtain ⟨a4, c4, rfl, _⟩ := hown4.row
    have c9 := blk_cell (hP4.trans HM3.out.blk) (i := 9) rfl
    have f9 := blk_free (hP4.trans HM3.out.blk) 9
    have hb5 := HB3.out.trans hB4
    have HM4 := Lib.hid hm4
    have HB4 := Lib.hid hb5
    clear hown4 hg4 hb4 hP4 hm4 hB4 hb5 ho3 HM3 HB3 c8 f8
    go_wp2
    go_end0
    exact ⟨rfl, ⟨τ4, _, _, HM4.out⟩, HB4.out⟩

end Go.Proofs.YtbmimdnpchldlaaGreatDoor

namespace Go.Proofs.YtbmimdnpchldlaaGreatDoor
open Go.RowKit

theorem flat_opc_len (l : List Sp2) : (l.flatMap spc).length = l.length * 2 := by
  induction l with
  | nil => rfl
  | cons o l ih => rw [List.flatMap_cons, List.length_append, ih]; simp [spc]; omega

/-- The last frame's cells, and what is left of the row without it. -/
theorem frames_pop {w : World} {B : Nat} {a : Option Addr} {cc : Nat} {cl : List Sp2} {x : Sp2} (h : w.ownsRow B 199 2 (.slice a (cl.length + 1) cc) (cl.length + 1) (cl.flatMap spc ++ spc x)) :
    ∃ g, a = some ⟨g, 0, none⟩ ∧ cl.length + 1 ≤ cc ∧ cc ≤ maxLen ∧ w.cell? ⟨g, cl.length * 2, none⟩ = some (.int .i64 x.1) ∧ w.cell? ⟨g, cl.length * 2 + 1, none⟩ = some (.int .i64 x.2) ∧ w.frozen? ⟨g, cl.length * 2 + 1, none⟩ = false ∧
      w.ownsRow B 199 2 (.slice (some ⟨g, 0, none⟩) cl.length cc) cl.length (cl.flatMap spc) := by
  rcases h.2 with ⟨hn, _⟩ | ⟨g, cap, cur, hv, hb, hgg, hnc, hcm, hcs, ht⟩
  · cases hn
  · simp only [Value.slice.injEq] at hv
    obtain ⟨rfl, _, rfl⟩ := hv
    have hl := flat_opc_len cl
    refine ⟨g, rfl, hnc, hcm, ?_, ?_, ?_, ownsRow_pop (size := 2) hl h⟩
    · have := h.cells (g := g) rfl (cl.length * 2) (.int .i64 x.1) (by rw [List.getElem?_append_right (by omega), hl]; simp [spc])
      simpa [Addr.add_lit] using this
    · have := h.cells (g := g) rfl (cl.length * 2 + 1) (.int .i64 x.2) (by rw [List.getElem?_append_right (by omega), hl]; simp [spc])
      simpa [Addr.add_lit] using this
    · exact blk_free hgg _

theorem SM.popCls {τ : Nat → Nat} {B P n Do Dl Dp : Nat} {g0 g1 g2 g3 g4 : Value} {w : World} {vo : Value} {ow lw pw : List Int} {ol : List Int} {cl : List Sp2} {x : Sp2} {met : Int} {a : Option Addr} {cc : Nat}
    (h : SM τ B P n Do Dl Dp g0 g1 g2 g3 g4 w vo (.slice a (cl.length + 1) cc) ow lw pw ol (cl ++ [x]) met) :
    ∃ g, a = some ⟨g, 0, none⟩ ∧ cl.length + 1 ≤ cc ∧ cc ≤ maxLen ∧ w.cell? ⟨g, cl.length * 2, none⟩ = some (.int .i64 x.1) ∧ w.cell? ⟨g, cl.length * 2 + 1, none⟩ = some (.int .i64 x.2) ∧ w.frozen? ⟨g, cl.length * 2 + 1, none⟩ = false ∧
      SM τ B P n Do Dl Dp g0 g1 g2 g3 g4 (w.setCell ⟨P, 9, none⟩ (.slice (some ⟨g, 0, none⟩) cl.length cc)) vo (.slice (some ⟨g, 0, none⟩) cl.length cc) ow lw pw ol cl met := by
  have hc := h.cls.own
  simp only [List.length_append, List.length_singleton, List.flatMap_append, List.flatMap_cons, List.flatMap_nil, List.append_nil] at hc
  obtain ⟨g, rfl, h1, h2, h3, h4, h5, h6⟩ := frames_pop hc
  exact ⟨g, rfl, h1, h2, h3, h4, h5, h.setCls ⟨h6, fun b hb => h.cls.tag b hb⟩⟩

/-- How low the one that comes next reaches. -/
def lowL (lw : List Int) (cl : List Sp2) (c : Nat) : List Int :=
  match cl.getLast? with
  | none => lw
  | some x => lw.set x.1.toNat (min (lw.getD x.1.toNat 0) (lw.getD c 0))
theorem min_if (a b : Int) : (if b < a then b else a) = min a b := by split <;> omega
theorem Ext.below {w w' : World} {B : Nat} (h : Ext w w') (hb : B ≤ w.heap.size) : Below B w w' := Below.mono h hb
def setAll (pw : List Int) (D : List Int) (m : Int) : List Int := D.foldl (fun p d => p.set d.toNat m) pw
def leastOf' (c : Int) (D : List Int) : Int := D.foldl min c

def LeavePost (B P n Do Dl Dp : Nat) (g0 g1 g2 g3 g4 : Value) (w : World) (ow lw pw pre post : List Int) (cl : List Sp2) (met : Int) (c : Nat) (e : Ending) (w' : World) : Prop :=
  e = .returned (.tuple #[]) ∧ Below B w w' ∧ ∃ τ' vo' vc' pw' ol', SM τ' B P n Do Dl Dp g0 g1 g2 g3 g4 w' vo' vc' ow (lowL lw cl c) pw' ol' cl met ∧
    (((lowL lw cl c).getD c 0 ≠ ow.getD c 0 ∧ pw' = pw ∧ ol' = pre ++ (c : Int) :: post) ∨ ((lowL lw cl c).getD c 0 = ow.getD c 0 ∧ pw' = setAll pw ((c : Int) :: post) (leastOf' c ((c : Int) :: post)) ∧ ol' = pre))

theorem own_take1 {w : World} {base : Nat} {e : TypeId} {a : Option Addr} {n c k : Nat} {xs : List Value} (h : w.ownsRow base e 1 (.slice a n c) n xs) (hk : k ≤ n) : w.ownsRow base e 1 (.slice a k c) k (xs.take k) := by
  have hl := h.1
  rw [Nat.mul_one] at hl
  refine ⟨by rw [List.length_take]; omega, ?_⟩
  rcases h.2 with ⟨hv, hx⟩ | ⟨g, cap, cur, hv, h1, h2, h3, h4, h5, h6⟩
  · simp only [Value.slice.injEq] at hv
    obtain ⟨rfl, rfl, rfl⟩ := hv
    obtain rfl : k = 0 := by omega
    exact .inl ⟨rfl, rfl⟩
  · simp only [Value.slice.injEq] at hv
    obtain ⟨rfl, _, rfl⟩ := hv
    refine .inr ⟨g, c, cur, rfl, h1, h2, by omega, h4, h5, ?_⟩
    rw [← h6, List.take_take]
    congr 1
    omega
theorem own_ints_at {w : World} {base : Nat} {e : TypeId} {b o n c : Nat} {l : List Int} (h : w.ownsRow base e 1 (.slice (some ⟨b, o, none⟩) n c) n (l.map (.int .i64))) (i : Nat) (hi : i < l.length) : w.cell? ⟨b, o + i, none⟩ = some (.int .i64 l[i]) := by
  obtain ⟨a', c', e, hr⟩ := h.row
  simp only [Value.slice.injEq] at e
  obtain ⟨rfl, _, rfl⟩ := e
  exact hr.cells i _ (by rw [List.getElem?_map, List.getElem?_eq_getElem hi]; rfl)
theorem fold_min_succ (c : Int) (D : List Int) (k : Nat) (h : k < D.length) : (D.take (k + 1)).foldl min c = min ((D.take k).foldl min c) D[k] := by
  rw [List.take_succ_eq_append_getElem h, List.foldl_append]; rfl
theorem setAll_succ (pw : List Int) (D : List Int) (m : Int) (k : Nat) (h : k < D.length) : setAll pw (D.take (k + 1)) m = (setAll pw (D.take k) m).set D[k].toNat m := by
  unfold setAll
  rw [List.take_succ_eq_append_getElem h, List.foldl_append]; rfl

theorem getD_get {l : List Int} {i : Nat} (h : i < l.length) : l.getD i 0 = l[i] := by simp [List.getD, h]

set_option maxRecDepth 100000 in
set_option maxHeartbeats 8000000 in
theorem leave_any (τ : Nat → Nat) (B P n Do Dl Dp : Nat) (g0 g1 g2 g3 g4 : Value) (w : World) (vo vc : Value) (ow lw pw : List Int) (pre post : List Int) (cl : List Sp2) (met : Int) (c : Nat) (k : Int)
    (h : SM τ B P n Do Dl Dp g0 g1 g2 g3 g4 w vo vc ow lw pw (pre ++ (c : Int) :: post) (cl ++ [((c : Int), k)]) met) (hc : c < n) (h1 : (pre ++ (c : Int) :: post).length ≤ 20000) (h2 : cl.length ≤ 20000) (hpost : (c : Int) ∉ post)
    (hD : ∀ x ∈ (c : Int) :: post, ∃ a : Nat, x = a ∧ a < n) (hcl : ∀ p ∈ cl, ∃ a : Nat, p.1 = a ∧ a < n) :
    Calls Tryz.prog 134 #[.pointer (some ⟨P, 0, none⟩), .int .i64 (c : Int)] w (LeavePost B P n Do Dl Dp g0 g1 g2 g3 g4 w ow lw pw pre post cl met c) := by
  obtain ⟨ao, co, rfl, _⟩ := h.opn.own.row
  obtain ⟨ac, cc, e, _⟩ := h.cls.own.row
  rw [List.length_append, List.length_singleton] at e
  subst e
  obtain ⟨g, rfl, hcc, hcm, _, _, _, hm⟩ := h.popCls
  have hnew := h.new
  have c9 := blk_cell h.blk (i := 9) rfl
  have f9 := blk_free h.blk 9
  have hb1 : Below B w (w.setCell ⟨P, 9, none⟩ (.slice (some ⟨g, 0, none⟩) cl.length cc)) := (Below.refl B w).setCell (p := ⟨P, 9, none⟩) hnew _
  have HM := Lib.hid (hm.ext (Below.drew (Ext.refl _)))
  have HB1 := Lib.hid (Below.drew hb1)
  have HD := Lib.hid hD
  have HCL := Lib.hid hcl
  have HPOST := Lib.hid hpost
  unfold maxLen at hcm
  have hccI : (cl.length : Int) + 1 ≤ (cc : Int) := by omega
  have hcl0 : (0 : Int) ≤ (cl.length : Int) := by omega
  have hcI : (c : Int) < (n : Int) := by omega
  have hcI0 : (0 : Int) ≤ (c : Int) := by omega
  obtain ⟨n1, n2, n3, n4, n5, n6⟩ := h.nes
  have n1' := Ne.symm n1
  have n2' := Ne.symm n2
  have n4' := Ne.symm n4
  clear h hm hb1 hD hcl hpost
  go_enter Tryz.func134, Tryz.ntmps134
  go_wp2_with fail
  go_region
  generalize (w.setCell ⟨P, 9, none⟩ (.slice (some ⟨g, 0, none⟩) cl.length cc)).drew = W1 at *
  clear c9 f9
  have c9 := blk_cell HM.out.blk (i := 9) rfl
  rcases List.eq_nil_or_concat cl with hcle | ⟨cl1, x, hcle⟩
  case' inl =>
    subst hcle
    have HLW := Lib.hid (show lowL lw [] c = lw from rfl)
    go_wp2_with fail
    obtain ⟨lwx, hlwx⟩ : ∃ l, l = lw := ⟨_, rfl⟩
    have HLX := Lib.hid (hlwx.trans HLW.out.symm)
    rw [← hlwx] at HM
    have HM2 := HM
    have HB2 := HB1
    obtain ⟨W2, rfl⟩ : ∃ W2 : World, W2 = W1 := ⟨_, rfl⟩
    clear hlwx HLW HM HB1
  case' inr =>
    rw [List.concat_eq_append] at hcle
    subst hcle
    obtain ⟨u, hu, hun⟩ := HCL.out x (by simp)
    obtain ⟨xu, ku⟩ := x
    simp only at hu
    subst hu
    obtain ⟨y1, hy1, cc1⟩ : ∃ y, lw.getD u 0 = y ∧ W1.cell? ⟨Dl, u, none⟩ = some (.int .i64 y) := by
      have hl := HM.out.lens.2.1
      refine ⟨_, rfl, (own_cellAt HM.out.low.own (i := u) (by simpa using (by omega : u < lw.length))).trans ?_⟩
      rw [List.getElem_map, getD_get (by omega)]
    obtain ⟨y2, hy2, cc2⟩ : ∃ y, lw.getD c 0 = y ∧ W1.cell? ⟨Dl, c, none⟩ = some (.int .i64 y) := by
      have hl := HM.out.lens.2.1
      refine ⟨_, rfl, (own_cellAt HM.out.low.own (i := c) (by simpa using (by omega : c < lw.length))).trans ?_⟩
      rw [List.getElem_map, getD_get (by omega)]
    have ff1 := own_freeAt HM.out.low.own u
    have hco := HM.out.cls.own
    simp only [List.length_append, List.length_singleton, List.flatMap_append, List.flatMap_cons, List.flatMap_nil, List.append_nil] at hco c9 hccI hcl0 h2
    obtain ⟨g', hg', hcc', _, cu1, _, _, _⟩ := frames_pop hco
    injection hg' with hg'
    injection hg' with hg' _ _
    subst hg'
    have c6 := blk_cell HM.out.blk (i := 6) rfl
    have HLW := Lib.hid (show lowL lw (cl1 ++ [((u : Int), ku)]) c = lw.set u (min y1 y2) by rw [← hy1, ← hy2]; simp [lowL])
    have huI : (u : Int) < (n : Int) := by omega
    have huI0 : (0 : Int) ≤ (u : Int) := by omega
    clear hy1 hy2 hco
    go_wp2_with fail
    go_quiet (fail)
    go_wp2_with fail
    clear cu1 c9
    obtain ⟨W1', hW1'⟩ : ∃ W, W = W1.drewN nq := ⟨_, rfl⟩
    have hEq : Ext W1 W1' := by rw [hW1']; exact below_drewN (Ext.refl W1) nq
    have HM1 := Lib.hid (HM.out.ext hEq)
    have HBq := Lib.hid (HB1.out.trans (Ext.below hEq (by have := blk_lt HM.out.blk; omega)))
    replace cc1 := cell_later hEq cc1
    replace cc2 := cell_later hEq cc2
    replace c6 := cell_later hEq c6
    replace ff1 : W1'.frozen? ⟨Dl, u, none⟩ = false := own_freeAt HM1.out.low.own u
    rw [← hW1']
    clear hW1' hEq HM HB1
    go_region
    have HM2 := Lib.hid ((HM1.out.setLow u (if y2 < y1 then y2 else y1)).ext (Below.drew (Ext.refl _)))
    have HB2 := Lib.hid (Below.drew (HBq.out.setCell (p := ⟨Dl, u, none⟩) (HM1.out.bases.2.1) (.int .i64 (if y2 < y1 then y2 else y1))))
    obtain ⟨lwx, hlwx⟩ : ∃ l, l = lw.set u (if y2 < y1 then y2 else y1) := ⟨_, rfl⟩
    have HLX := Lib.hid (hlwx.trans ((by rw [min_if]) : lw.set u (if y2 < y1 then y2 else y1) = lw.set u (min y1 y2)) |>.trans HLW.out.symm)
    rw [← hlwx] at HM2
    clear HM1 HBq cc1 cc2 c6 ff1 hlwx HLW
    generalize (W1'.setCell ⟨Dl, u, none⟩ (.int .i64 (if y2 < y1 then y2 else y1))).drew = W2 at *
    generalize (if y2 < y1 then y2 else y1) = ym at *
    generalize cl1 ++ [((u : Int), ku)] = cl at *
  all_goals
    have hl2 := HM2.out.lens
    obtain ⟨xl, hxl, cl2⟩ : ∃ y, lwx.getD c 0 = y ∧ W2.cell? ⟨Dl, c, none⟩ = some (.int .i64 y) := by
      refine ⟨_, rfl, (own_cellAt HM2.out.low.own (i := c) (by simpa using (by omega : c < lwx.length))).trans ?_⟩
      rw [List.getElem_map, getD_get (by omega)]
    obtain ⟨xo, hxo, co2⟩ : ∃ y, ow.getD c 0 = y ∧ W2.cell? ⟨Do, c, none⟩ = some (.int .i64 y) := by
      refine ⟨_, rfl, (own_cellAt HM2.out.ord.own (i := c) (by simpa using (by omega : c < ow.length))).trans ?_⟩
      rw [List.getElem_map, getD_get (by omega)]
    have c6 := blk_cell HM2.out.blk (i := 6) rfl
    have c5 := blk_cell HM2.out.blk (i := 5) rfl
    have HXL := Lib.hid hxl
    have HXO := Lib.hid hxo
    clear hl2 hxl hxo
    by_cases hne : xl = xo
    · have hneb : ((xl : Int) != xo) = false := by simp [hne]
      have HNE := Lib.hid hne
      have hfl : (pre ++ (c : Int) :: post).length = pre.length + 1 + post.length := by simp; omega
      have HFL := Lib.hid hfl
      obtain ⟨ao', co', e, hro⟩ := HM2.out.opn.own.row
      simp only [Value.slice.injEq] at e
      obtain ⟨rfl, _, rfl⟩ := e
      have hcoL := hro.le
      have hcoM := hro.max
      unfold maxLen at hcoM
      obtain ⟨bo, oo, ho1, ho2⟩ := ints_cells hro
      obtain rfl := ho1 (by omega)
      have HO2 := Lib.hid ho2
      have HRO := Lib.hid hro
      have c8 := blk_cell HM2.out.blk (i := 8) rfl
      generalize hfle : pre ++ (c : Int) :: post = full at *
      have HFLE := Lib.hid hfle
      have hp1 : pre.length < full.length := by omega
      clear hne hro ho1 ho2 hfl hfle
      go_wp2_with fail
      go_quiet (fail)
      go_wp2_with fail
      have hflI : (full.length : Int) ≤ 20000 := by omega
      have HMq := Lib.hid (HM2.out.ext (below_drewN (Ext.refl W2) nq))
      have HBq := Lib.hid (show Below B w (W2.drewN nq) from below_drewN HB2.out nq)
      have HOq := Lib.hid (fun i hi => cell_later (below_drewN (Ext.refl W2) nq) (HO2.out i hi))
      clear HM2 HB2 HO2 HRO c5 c6 cl2 co2
      replace c8 := blk_cell HMq.out.blk (i := 8) rfl
      generalize W2.drewN nq = W3 at *
      go_loopg [5] (full.length - 1) (fun m x wr => ∃ i : Nat, m = i ∧ x = .int .i64 (i : Int) ∧ pre.length ≤ i ∧ i < full.length ∧ wr = W3)
      case atStart => exact ⟨full.length - 1, rfl, by congr 1; omega, by omega, by omega, rfl⟩
      case round =>
        obtain ⟨i, hgi, rfl, hi1, hi2, rfl⟩ := hrel
        have ci := HOq.out i hi2
        have hiI : (i : Int) < (full.length : Int) := by omega
        have hiI0 : (0 : Int) ≤ (i : Int) := by omega
        have HGI := Lib.hid hgi
        clear hgi
        by_cases hie : i = pre.length
        · have hfi : full[i] = (c : Int) := by have := HFLE.out; subst this; subst hie; simp
          rw [hfi] at ci
          subst hie
          have hco9 : ¬ co = pre.length := by omega
          have hcoI : (pre.length : Int) ≤ (co : Int) := by omega
          go_wp2_with fail
          have hql : full.length - pre.length = post.length + 1 := by have := HFL.out; omega
          generalize hqe : full.length - pre.length = q at *
          have HQ := Lib.hid hqe
          generalize co - pre.length = coq at *
          have HDq := Lib.hid (show ∀ k (hk : k < ((c : Int) :: post).length), ∃ h : pre.length + k < full.length, full[pre.length + k] = ((c : Int) :: post)[k] from fun k hk => by
            have := HFLE.out
            subst this
            have hk' : k < ((c : Int) :: post).length := hk
            refine ⟨by rw [List.length_append]; omega, ?_⟩
            rw [List.getElem_append_right (by omega)]
            congr 1
            omega)
          have HDL := Lib.hid (show ((c : Int) :: post).length = q by rw [List.length_cons]; omega)
          clear hqe hql
          generalize hDe : (c : Int) :: post = D at *
          have HDE := Lib.hid hDe
          clear hDe
          obtain ⟨wo, rfl⟩ : ∃ wo : World, wo = wr := ⟨_, rfl⟩
          go_loopg [6, 105] q (fun m x y wi => ∃ j : Nat, m + j = q ∧ y = .int .i64 (j : Int) ∧ x = .int .i64 ((D.take j).foldl min (c : Int)) ∧ wi = wo)
          case atStart => exact ⟨0, by omega, by go_num, rfl, rfl⟩
          case round =>
            obtain ⟨j, hmj, rfl, rfl, rfl⟩ := hrel
            have HMJ := Lib.hid hmj
            clear hmj
            by_cases hj : j < q
            · have hjD : j < D.length := by have := HDL.out; omega
              obtain ⟨hk1, hk2⟩ := HDq.out j hjD
              have cj := HOq.out (pre.length + j) hk1
              rw [hk2, ← Nat.add_assoc] at cj
              have HFS := Lib.hid (fold_min_succ (c : Int) D j hjD)
              have hjI : (j : Int) < (q : Int) := by omega
              generalize D[j] = y at *
              generalize (D.take j).foldl min (c : Int) = acc at *
              clear hk2
              by_cases hya : y < acc
              all_goals
                go_wp2_with fail
                go_roundg (gk - 1)
                case measure => have := HMJ.out; omega
                case rel => exact ⟨j + 1, by have := HMJ.out; omega, by go_num, by rw [HFS.out]; congr 1; omega, rfl⟩
            · have hjI : ¬ (j : Int) < (q : Int) := by omega
              have hfold : (D.take j).foldl min (c : Int) = leastOf' c D := by rw [List.take_of_length_le (by have := HDL.out; omega)]; rfl
              rw [hfold]
              clear hfold hj
              generalize hMe : leastOf' c D = M at *
              have HME := Lib.hid hMe
              clear hMe
              clear c8 ci
              have c8 := blk_cell HMq.out.blk (i := 8) rfl
              have hq3 := HQ.out
              go_wp2_with fail
              clear hq3
              go_loopg [120] q (fun m x wi => ∃ j : Nat, m + j = q ∧ x = .int .i64 (j : Int) ∧ SM τ B P n Do Dl Dp g0 g1 g2 g3 g4 wi (.slice (some ⟨bo, oo, none⟩) full.length co) (.slice (some ⟨g, 0, none⟩) _ cc) ow lwx (setAll pw (D.take j) M) full _ met ∧ Below B w wi)
              case atStart => exact ⟨0, by omega, by go_num, HMq.out, HBq.out⟩
              case round =>
                clear c8
                obtain ⟨j, hmj, rfl, hM, hB⟩ := hrel
                have HMJ := Lib.hid hmj
                have HM5 := Lib.hid hM
                have HB5 := Lib.hid hB
                by_cases hj : j < q
                · have hjD : j < D.length := by have := HDL.out; omega
                  obtain ⟨hk1, hk2⟩ := HDq.out j hjD
                  have cj := own_ints_at hM.opn.own (pre.length + j) hk1
                  rw [hk2, ← Nat.add_assoc] at cj
                  obtain ⟨d, hd, hdn⟩ := HD.out D[j] (by simp)
                  have HSS := Lib.hid (setAll_succ pw D M j hjD)
                  rw [hd] at cj HSS
                  have hlp := hM.lens.2.2
                  obtain ⟨y, cd⟩ : ∃ y, wr.cell? ⟨Dp, d, none⟩ = some (.int .i64 y) := ⟨_, (own_cellAt hM.prt.own (i := d) (by simpa using (by omega : d < (setAll pw (D.take j) M).length))).trans (by rw [List.getElem_map])⟩
                  have fd := own_freeAt hM.prt.own d
                  have c7 := blk_cell hM.blk (i := 7) rfl
                  have hjI : (j : Int) < (q : Int) := by omega
                  have hdI : (d : Int) < (n : Int) := by omega
                  clear hk2 hlp hM hB hmj hd
                  go_wp2_with fail
                  go_roundg (gk - 1)
                  case measure => have := HMJ.out; omega
                  case rel => exact ⟨j + 1, by have := HMJ.out; omega, by go_num, by rw [HSS.out]; exact HM5.out.setPrt d M, HB5.out.setCell (p := ⟨Dp, d, none⟩) HM5.out.bases.2.2 _⟩
                · have hjI : ¬ (j : Int) < (q : Int) := by omega
                  have hall : setAll pw (D.take j) M = setAll pw D M := by rw [List.take_of_length_le (by have := HDL.out; omega)]
                  rw [hall] at HM5
                  have c8 := blk_cell HM5.out.blk (i := 8) rfl
                  have f8 := blk_free HM5.out.blk 8
                  have hot := own_take1 HM5.out.opn.own (k := pre.length) (by omega)
                  have hpl : (full.map (Value.int .i64)).take pre.length = pre.map (.int .i64) := by
                    rw [← List.map_take, ← HFLE.out, List.take_left']
                    rfl
                  rw [hpl] at hot
                  have HSO := Lib.hid (HM5.out.setOpn (vo' := .slice (some ⟨bo, oo, none⟩) pre.length co) (ol' := pre) ⟨hot, fun b hb => HM5.out.opn.tag b hb⟩)
                  have HSB := Lib.hid (HB5.out.setCell (p := ⟨P, 8, none⟩) hnew (.slice (some ⟨bo, oo, none⟩) pre.length co))
                  clear hall hpl hot hM hB hmj hj
                  go_wp2
                  go_end0
                  have h := HSO.out
                  have hx := HLX.out
                  rw [hx] at h
                  refine ⟨rfl, HSB.out, τ, _, _, _, _, h, .inr ⟨?_, ?_, rfl⟩⟩
                  · rw [← hx, HXL.out, HXO.out]; exact HNE.out
                  · rw [HDE.out, HME.out]
        · have hfi : full[i] ≠ (c : Int) := by
            intro e
            have h := HFLE.out
            subst h
            rw [List.getElem_append_right (by omega)] at e
            have h2 : i - pre.length = (i - pre.length - 1) + 1 := by omega
            rw [List.getElem_cons] at e
            rw [dif_neg (by omega)] at e
            exact HPOST.out (e ▸ List.getElem_mem _)
          have hb : ((full[i] : Int) != (c : Int)) = true := by simp [hfi]
          generalize full[i] = y at *
          have hi1I : (1 : Int) ≤ (i : Int) := by omega
          clear hfi
          go_wp2_with fail
          go_roundg (i - 1)
          case measure => have := HGI.out; omega
          case rel => exact ⟨i - 1, rfl, by congr 1; omega, by omega, by omega, rfl⟩
    · have hneb : ((xl : Int) != xo) = true := by simp [hne]
      have HNE := Lib.hid hne
      clear hne
      go_wp2_with fail
      go_quiet (fail)
      go_wp2_with fail
      go_end0
      have h := HM2.out.ext (below_drewN (Ext.refl W2) nq)
      rw [HLX.out] at h
      have hx := HLX.out
      refine ⟨rfl, below_drewN HB2.out _, τ, _, _, _, _, h, .inl ⟨?_, rfl, rfl⟩⟩
      rw [← hx, HXL.out, HXO.out]
      exact HNE.out

end Go.Proofs.YtbmimdnpchldlaaGreatDoor

namespace Go.Proofs.YtbmimdnpchldlaaGreatDoor

def restU (n : Nat) (next : List (List Int)) (ord : Nat → Nat) : Nat := ((List.range n).map fun a => if ord a = 0 then (nbs next a).length + 2 else 0).sum
def restC (next : List (List Int)) (cs : List (Nat × Nat)) : Nat := (cs.map fun p => (nbs next p.1).length - p.2 + 1).sum
/-- So many steps are still to come at most. -/
def mu (n : Nat) (next : List (List Int)) (s : TS) : Nat := restU n next s.ord + restC next s.cs

theorem sum_range_upd (f g : Nat → Nat) (z : Nat) (h : ∀ a, a ≠ z → f a = g a) : ∀ n, z < n → ((List.range n).map f).sum + g z = ((List.range n).map g).sum + f z
  | 0, hz => by omega
  | n + 1, hz => by
    rw [List.range_succ, List.map_append, List.map_append, List.sum_append, List.sum_append]
    simp only [List.map_cons, List.map_nil, List.sum_cons, List.sum_nil, Nat.add_zero]
    by_cases e : z = n
    · subst e
      have : (List.range z).map f = (List.range z).map g := List.map_congr_left fun a ha => h a (by have := List.mem_range.1 ha; omega)
      rw [this]; omega
    · have := sum_range_upd f g z h n (by omega)
      have := h n (by omega)
      omega

theorem restU_enter {n : Nat} {next : List (List Int)} {ord : Nat → Nat} {z m : Nat} (hz : ord z = 0) (hn : z < n) : restU n next (upd ord z (m + 1)) + ((nbs next z).length + 2) = restU n next ord := by
  have := sum_range_upd (fun a => if upd ord z (m + 1) a = 0 then (nbs next a).length + 2 else 0) (fun a => if ord a = 0 then (nbs next a).length + 2 else 0) z (fun a ha => by simp only [upd_ne _ _ ha]) n hn
  simp only [upd_at, hz, if_true] at this
  simp only [restU]
  simpa using this

/-- So many spots were not met yet. -/
def unm (n : Nat) (ord : Nat → Nat) : Nat := ((List.range n).map fun a => if ord a = 0 then 1 else 0).sum
theorem unm_enter {n : Nat} {ord : Nat → Nat} {z m : Nat} (hz : ord z = 0) (hn : z < n) : unm n (upd ord z (m + 1)) + 1 = unm n ord := by
  have := sum_range_upd (fun a => if upd ord z (m + 1) a = 0 then 1 else 0) (fun a => if ord a = 0 then 1 else 0) z (fun a ha => by simp only [upd_ne _ _ ha]) n hn
  simp only [upd_at, hz, if_true] at this
  simp only [unm]
  simpa using this
theorem unm_init : ∀ n : Nat, unm n (fun _ => 0) = n
  | 0 => rfl
  | n + 1 => by
    have := unm_init n
    unfold unm at *
    rw [List.range_succ, List.map_append, List.sum_append, this]
    simp

/-- At the end: each spot that was met has its part, if nothing is under way. -/
theorem TInv.whole {n : Nat} {next : List (List Int)} {s : TS} (h : TInv n next s none) (hc : s.cs = []) : s.os = [] ∧ ∀ a, s.ord a ≠ 0 → PartOk next s.part a := by
  have ho : s.os = [] := by
    cases e : s.os with
    | nil => rfl
    | cons y l =>
      obtain ⟨p, hp, _⟩ := h.C y (by rw [e]; simp)
      rw [hc] at hp; simp at hp
  refine ⟨ho, fun a ha => h.P a fun hp => ?_⟩
  have := (h.osm a).2 ⟨ha, hp⟩
  rw [ho] at this; simp at this

theorem TInv.weak {n : Nat} {next : List (List Int)} {s : TS} {Z : Option Nat} (h : TInv n next s none) : TInv n next s Z :=
  { h with exq := fun y z a b => .inl ((h.exq y z a b).resolve_right (by simp)) }

/-- Two spots are of one part just if each reaches the other; a part is named by its least. -/
theorem part_iff {next : List (List Int)} {part : Nat → Int} {x y : Nat} (hx : PartOk next part x) (hy : PartOk next part y) : part x = part y ↔ Reach next x y ∧ Reach next y x := by
  obtain ⟨m, h1, h2, h3, h4⟩ := hx
  obtain ⟨k, g1, g2, g3, g4⟩ := hy
  constructor
  · intro e
    obtain rfl : m = k := by omega
    exact ⟨h2.trans g3, g2.trans h3⟩
  · rintro ⟨r1, r2⟩
    have a1 := h4 k (r1.trans g2) (g3.trans r2)
    have a2 := g4 m (r2.trans h2) (h3.trans r1)
    omega

end Go.Proofs.YtbmimdnpchldlaaGreatDoor
