/- The contract of scc's (*search).goOn. -/
import Derived.Test.YtbndjailimhbdaaGoOnP
import Derived.Outline
namespace Go.Proofs.Ytbndjailimhbdaa
open Go.RowKit

/-- What a step of the search leaves. -/
def GoPost (B P n Do Dl Dp : Nat) (g0 g1 g2 g3 g4 : Value) (next : List (List Int)) (w : World) (s : TS) (e : Ending) (w' : World) : Prop :=
  e = .returned (.tuple #[]) ∧ Below B w w' ∧ ∃ τ' s', TSM τ' B P n Do Dl Dp g0 g1 g2 g3 g4 w' s' ∧ TInv n next s' none ∧ mu n next s' < mu n next s ∧ s'.met + unm n s'.ord = s.met + unm n s.ord ∧ ∀ a, s.ord a ≠ 0 → s'.ord a ≠ 0

set_option maxRecDepth 100000 in
set_option maxHeartbeats 8000000 in
theorem goOn_any (τ : Nat → Nat) (B P n Do Dl Dp : Nat) (g0 g1 g3 g4 : Value) (ax : Option Addr) (cx : Nat) (next : List (List Int)) (w : World) (s : TS) (h : TSM τ B P n Do Dl Dp g0 g1 (.slice ax next.length cx) g3 g4 w s) (hi : TInv n next s none) (hne : s.cs ≠ [])
    (hL : Lists w (.slice ax next.length cx) next) (hn : next.length = n) (hI : Inside n next) (h20 : n ≤ 20000) (hmet : s.met ≤ n) :
    Calls Try.prog 21 #[.pointer (some ⟨P, 0, none⟩)] w (GoPost B P n Do Dl Dp g0 g1 (.slice ax next.length cx) g3 g4 next w s) := by
  obtain ⟨vo, vc, hm⟩ := h.mem
  obtain ⟨⟨c, k⟩, rest, hcs⟩ : ∃ p rest, s.cs = p :: rest := by
    cases e : s.cs with
    | nil => exact absurd e hne
    | cons p rest => exact ⟨p, rest, rfl⟩
  have hcc := hi.csm (c, k) (by rw [hcs]; simp)
  have hcn : c < n := hi.bnd c hcc.1
  obtain ⟨ac, cc, rfl, _⟩ := hm.cls.own.row
  have hco := hm.cls.own
  have hcsl : csL s.cs = csL rest ++ [((c : Int), (k : Int))] := by rw [hcs, csL_cons]
  rw [hcsl] at hco hm
  simp only [List.length_append, List.length_singleton, List.flatMap_append, List.flatMap_cons, List.flatMap_nil, List.append_nil] at hco
  obtain ⟨g, rfl, hcc1, hcc2, cc1, cc2, fc2, _⟩ := frames_pop hco
  have c9 := blk_cell hm.blk (i := 9) rfl
  have c2 := blk_cell hm.blk (i := 2) rfl
  simp only [List.length_append, List.length_singleton] at c9
  obtain ⟨_, _, _, bn, on, han, hcn2⟩ := hL.cells
  obtain rfl := han (by omega)
  obtain ⟨ai, ci, hx, hx2⟩ := hcn2 c (by omega)
  have hnb : nbs next c = next[c]'(by omega) := by simp [nbs, List.getD, List.getElem?_eq_getElem (show c < next.length by omega)]
  obtain ⟨_, _, e, hri⟩ := hx2
  simp only [Value.slice.injEq] at e
  obtain ⟨rfl, _, rfl⟩ := e
  have hmi : (next[c]'(by omega)).length ≤ 9223372036854775807 := by have h1 := hri.max; have h2 := hri.le; unfold maxLen at h1; omega
  unfold maxLen at hcc2
  have hrl : (csL rest).length ≤ 9223372036854775806 := by omega
  have hcI : (c : Int) < (next.length : Int) := by omega
  have hcI0 : (0 : Int) ≤ (c : Int) := by omega
  have HM := Lib.hid hm
  have HI := Lib.hid hi
  have HCS := Lib.hid hcs
  have HRI := Lib.hid hri
  have HNB := Lib.hid hnb
  have HLI := Lib.hid (hI (next[c]'(by omega)) (by simp))
  clear h hm hi hcs hri hnb hco hcsl hne hL hcn2 han
  generalize hre : csL rest = rl at *
  have HRE := Lib.hid hre
  generalize hle : next[c]'(by omega) = l at *
  clear hre hle
  go_enter Try.func21, Try.ntmps21
  go_wp2_with fail
  go_quiet (fail)
  obtain ⟨n0, rfl⟩ : ∃ n0 : Nat, n0 = nq := ⟨_, rfl⟩
  go_wp2_with fail
  go_quiet (fail)
  have hW : ∀ m, Ext w (w.drewN m) := fun m => below_drewN (Ext.refl w) m
  by_cases hk : k = l.length
  · have hkb : ((k : Int) == (l.length : Int)) = true := by simp [hk]
    have hcs := HCS.out
    obtain ⟨dd, oo, hos⟩ := List.append_of_mem (HI.out.csm (c, k) (by rw [hcs]; simp)).1
    have hos2 : osL s.os = osL oo ++ (c : Int) :: osL dd := by rw [hos]; simp [osL]
    have hpost : (c : Int) ∉ osL dd := fun h => by
      simp only [osL, List.mem_map, List.mem_reverse] at h
      obtain ⟨a, ha, e⟩ := h
      have e' : a = c := by omega
      subst e'
      exact Nat.lt_irrefl _ ((os_parts HI.out hos).1 a ha)
    have hDn : ∀ x ∈ (c : Int) :: osL dd, ∃ a : Nat, x = a ∧ a < n := fun x hx => by
      rcases List.mem_cons.1 hx with rfl | hx
      · exact ⟨c, rfl, hcn⟩
      · simp only [osL, List.mem_map, List.mem_reverse] at hx
        obtain ⟨a, ha, e⟩ := hx
        exact ⟨a, e.symm, HI.out.bnd a (by rw [hos]; simp [ha])⟩
    have hCn : ∀ p ∈ rl, ∃ a : Nat, p.1 = a ∧ a < n := fun p hp => by
      rw [← HRE.out] at hp
      simp only [csL, List.mem_map, List.mem_reverse] at hp
      obtain ⟨q, hq, e⟩ := hp
      exact ⟨q.1, by rw [← e], HI.out.bnd q.1 (HI.out.csm q (by rw [hcs]; simp [hq])).1⟩
    have hlen : (osL s.os).length ≤ 20000 := by
      rw [osL_len]
      have := pairwise_len HI.out.bnd HI.out.oso
      omega
    have hrlen : rl.length ≤ 20000 := by
      rw [← HRE.out, csL_len]
      have h1 : (rest.map (·.1)).length ≤ n := pairwise_len (f := s.ord) (fun a ha => by
        obtain ⟨q, hq, rfl⟩ := List.mem_map.1 ha
        exact HI.out.bnd q.1 (HI.out.csm q (by rw [hcs]; simp [hq])).1) (by
        have := HI.out.cso
        rw [hcs, List.pairwise_cons] at this
        exact List.pairwise_map.2 this.2)
      simp only [List.length_map] at h1
      omega
    have hm := HM.out
    rw [hos2] at hm hlen
    have HLV := Lib.hid fun m => leave_any τ B P n Do Dl Dp g0 g1 _ g3 g4 (w.drewN m) vo _ _ _ _ (osL oo) (osL dd) rl _ c k (hm.ext (hW m)) hcn hlen hrlen hpost hDn hCn
    have HOS := Lib.hid hos
    clear hm hlen hpost hDn hCn hos hos2 hcs
    go_wp2_with fail
    refine (HLV.out _).mono ?_
    rintro e w' ⟨rfl, hB, τ', vo', vc', pw', ol', hS, hcase⟩
    have HB := Lib.hid hB
    have HS := Lib.hid hS
    have HCA := Lib.hid hcase
    clear hB hS hcase
    go_wp2
    go_end0
    have hS := HS.out
    have hcs := HCS.out
    have hk2 : k = (nbs next c).length := by rw [HNB.out]; exact hk
    rw [← HRE.out, lowL_lst HI.out hcs] at hS
    have hca := HCA.out
    rw [← HRE.out, lowL_lst HI.out hcs, lst_getD n _ hcn, lst_getD n _ hcn, low1_c HI.out hcs] at hca
    have hmu : restC next rest < restC next s.cs := by rw [hcs]; simp only [restC, List.map_cons, List.sum_cons]; omega
    have hBw : Below B w w' := Below.trans (Ext.below (hW _) (by have := HM.out.new; have := blk_lt HM.out.blk; omega)) HB.out
    rcases hca with ⟨h1, rfl, rfl⟩ | ⟨h1, rfl, rfl⟩
    · refine ⟨rfl, hBw, τ', { s with cs := rest, low := low1 s c rest }, ⟨vo', vc', ?_⟩, leave_open HI.out hcs hk2 (fun e => h1 (by rw [e])), (by show restU n next s.ord + restC next rest < mu n next s; unfold mu; omega), rfl, fun a h => h⟩
      have hos2 : osL s.os = osL oo ++ (c : Int) :: osL dd := by rw [HOS.out]; simp [osL]
      rw [← hos2] at hS
      exact hS
    · obtain ⟨part', g1', g2'⟩ := leave_close HI.out hcs hk2 (by omega) HOS.out
      rw [g1'] at hS
      exact ⟨rfl, hBw, τ', { s with cs := rest, low := low1 s c rest, os := oo, part := part' }, ⟨vo', vc', hS⟩, g2', (by show restU n next s.ord + restC next rest < mu n next s; unfold mu; omega), rfl, fun a h => h⟩
  · have hkb : ((k : Int) == (l.length : Int)) = false := by rw [beq_eq_false_iff_ne]; omega
    have hkl : k < l.length := by
      have := (HI.out.csm (c, k) (by rw [HCS.out]; simp)).2
      rw [HNB.out] at this
      simp only at this
      omega
    obtain ⟨bi, oi, hri1, hri2⟩ := ints_cells HRI.out
    obtain rfl := hri1 (by omega)
    have ck := hri2 k hkl
    obtain ⟨hz0, hz1⟩ := HLI.out l[k] (by simp)
    obtain ⟨z, hz⟩ : ∃ z : Nat, l[k] = (z : Int) := ⟨l[k].toNat, by omega⟩
    rw [hz] at ck hz0 hz1
    have HLK := Lib.hid (show (nbs next c)[k]? = some (z : Int) by rw [HNB.out, List.getElem?_eq_getElem hkl, hz])
    have hzn : z < n := by omega
    have hkI : (k : Int) < (l.length : Int) := by omega
    have hkI0 : (0 : Int) ≤ (k : Int) := by omega
    have HRI1 := Lib.hid hri1
    clear hri1 hri2 hz
    obtain ⟨n1, rfl⟩ : ∃ n1 : Nat, n1 = nq := ⟨_, rfl⟩
    go_wp2_with fail
    go_quiet (fail)
    have hW2 : Ext w ((w.drewN (n0 + n1)).drewN nq) := below_drewN (below_drewN (Ext.refl w) _) _
    have hm2 := HM.out.ext hW2
    rw [show (rl ++ [((c : Int), (k : Int))]).length = rl.length + 1 by simp] at hm2
    replace fc2 : ((w.drewN (n0 + n1)).drewN nq).frozen? ⟨g, rl.length * 2 + 1, none⟩ = false := (World.frozen?_of_block (hW2.block g (World.block_lt_of_cell? _ _ cc2))).trans fc2
    replace cc2 := cell_later hW2 cc2
    replace cc1 := cell_later hW2 cc1
    have hBw := Ext.below hW2 (B := B) (by have := HM.out.new; have := blk_lt HM.out.blk; omega)
    obtain ⟨hm3, hBg⟩ := hm2.setFrame ((k : Int) + 1)
    have hzl : z < (lst n s.ord).length := by rw [lst_len]; exact hzn
    have co : ((w.drewN (n0 + n1)).drewN nq).cell? ⟨Do, z, none⟩ = some (.int .i64 (s.ord z : Int)) := (own_cellAt hm2.ord.own (i := z) (by simpa using hzl)).trans (by
      have e := lst_get n s.ord hzn
      rw [List.getElem?_eq_getElem hzl] at e
      rw [List.getElem_map, Option.some.inj e])
    have hzl2 : z < (lstI n s.part).length := by rw [lstI_len]; exact hzn
    have cp : ((w.drewN (n0 + n1)).drewN nq).cell? ⟨Dp, z, none⟩ = some (.int .i64 (s.part z)) := (own_cellAt hm2.prt.own (i := z) (by simpa using hzl2)).trans (by
      have e := lstI_get n s.part hzn
      rw [List.getElem?_eq_getElem hzl2] at e
      rw [List.getElem_map, Option.some.inj e])
    have hcl3 : c < (lst n s.low).length := by rw [lst_len]; exact hcn
    have clo : ((w.drewN (n0 + n1)).drewN nq).cell? ⟨Dl, c, none⟩ = some (.int .i64 (s.low c : Int)) := (own_cellAt hm2.low.own (i := c) (by simpa using hcl3)).trans (by
      have e := lst_get n s.low hcn
      rw [List.getElem?_eq_getElem hcl3] at e
      rw [List.getElem_map, Option.some.inj e])
    have flc := own_freeAt hm2.low.own c
    have c5 := blk_cell hm2.blk (i := 5) rfl
    have c6 := blk_cell hm2.blk (i := 6) rfl
    have c7 := blk_cell hm2.blk (i := 7) rfl
    have tg : τ g = 5 := hm2.cls.tag g rfl
    obtain ⟨t1, t2, t3⟩ := hm2.tags
    have t0 := hm2.tag
    have q1 : ¬ g = Do := fun e => by rw [e] at tg; omega
    have q2 : ¬ Do = g := fun e => q1 e.symm
    have q3 : ¬ g = P := fun e => by rw [e] at tg; omega
    have q4 : ¬ P = g := fun e => q3 e.symm
    have q5 : ¬ g = Dp := fun e => by rw [e] at tg; omega
    have q6 : ¬ Dp = g := fun e => q5 e.symm
    have q7 : ¬ g = Dl := fun e => by rw [e] at tg; omega
    have q8 : ¬ Dl = g := fun e => q7 e.symm
    have hzI : (z : Int) < (n : Int) := by omega
    have hB3 := hBw.setCell (p := ⟨g, rl.length * 2 + 1, none⟩) hBg (.int .i64 ((k : Int) + 1))
    have HM3 := Lib.hid hm3
    have HB3 := Lib.hid hB3
    clear hW2 hm2 hBw hm3 hB3 c2 c9 hx ck tg t1 t2 t3 t0
    generalize (w.drewN (n0 + n1)).drewN nq = W2 at *
    by_cases hz0' : s.ord z = 0
    · have hob : ((s.ord z : Int) == 0) = true := by simp [hz0']
      have HZ0 := Lib.hid hz0'
      clear hz0'
      have hlen : (osL s.os).length ≤ 20000 := by
        rw [osL_len]
        have := pairwise_len HI.out.bnd HI.out.oso
        omega
      have hrlen : (rl ++ [((c : Int), (k : Int) + 1)]).length ≤ 20000 := by
        rw [← HRE.out, List.length_append, csL_len]
        have h1 : (s.cs.map (·.1)).length ≤ n := pairwise_len (f := s.ord) (fun a ha => by
          obtain ⟨q, hq, rfl⟩ := List.mem_map.1 ha
          exact HI.out.bnd q.1 (HI.out.csm q hq).1) (List.pairwise_map.2 HI.out.cso)
        rw [HCS.out] at h1
        simp only [List.length_map, List.length_cons] at h1
        simp only [List.length_singleton]
        omega
      have HEN := Lib.hid (enter_any τ B P n Do Dl Dp g0 g1 _ g3 g4 _ vo _ _ _ _ _ _ _ HM3.out z hzn hlen hrlen (by omega) (by omega))
      clear hlen hrlen
      go_wp2_with fail
      refine HEN.out.mono ?_
      rintro e w' ⟨rfl, ⟨τ', vo', vc', hS⟩, hB⟩
      have HS := Lib.hid hS
      have HB := Lib.hid hB
      clear hS hB
      go_wp2
      go_end0
      have hcs := HCS.out
      have hz0' := HZ0.out
      have hed : Edge next c z := edge_iff.2 (List.mem_of_getElem? HLK.out)
      have hlook := HI.out.look (Z' := some z) hcs HLK.out (.inr rfl) (.inl rfl) (fun ho => absurd hz0' ((HI.out.osm z).1 ho).1)
      have hent := hlook.enter hz0' hzn (fun p hp => by
        rcases List.mem_cons.1 hp with rfl | hp2
        · exact Reach.edge hed
        · have hpc : p ∈ s.cs := by rw [hcs]; exact List.mem_cons_of_mem _ hp2
          exact (HI.out.A p hpc c (HI.out.csm (c, k) (by rw [hcs]; simp)).1 ((HI.out.top hcs).2 p hpc)).step hed)
      refine ⟨rfl, HB3.out.trans HB.out, τ', _, ⟨vo', vc', ?_⟩, hent, ?_, (by show s.met + 1 + unm n (upd s.ord z (s.met + 1)) = s.met + unm n s.ord; have := unm_enter (m := s.met) hz0' hzn; omega), fun a ha => ?_⟩
      · have h := HS.out
        rw [show ((s.met : Int) + 1) = ((s.met + 1 : Nat) : Int) by omega, lst_upd n s.ord _ hzn, lst_upd n s.low _ hzn, ← osL_cons, ← HRE.out] at h
        have e : csL ((z, 0) :: (c, k + 1) :: rest) = csL rest ++ [((c : Int), (k : Int) + 1)] ++ [((z : Int), 0)] := by rw [csL_cons, csL_cons]; simp
        rw [← e] at h
        exact h
      · show restU n next (upd s.ord z (s.met + 1)) + restC next ((z, 0) :: (c, k + 1) :: rest) < mu n next s
        have := restU_enter (next := next) (m := s.met) hz0' hzn
        have hkd : k < (nbs next c).length := by rw [HNB.out]; exact hkl
        unfold mu
        rw [hcs]
        simp only [restC, List.map_cons, List.sum_cons]
        omega
      · show upd s.ord z (s.met + 1) a ≠ 0
        by_cases e : a = z
        · subst e; rw [upd_at]; omega
        · rw [upd_ne _ _ e]; exact ha
    · have hob : ((s.ord z : Int) == 0) = false := by simp [hz0']
      have HZ0 := Lib.hid hz0'
      clear hz0'
      by_cases hp : s.part z = -1
      · have hzo : z ∈ s.os := (HI.out.osm z).2 ⟨HZ0.out, hp⟩
        have hpn : s.part z < 0 := by omega
        have HZO := Lib.hid hzo
        clear hzo hp
        go_wp2_with fail
        go_region
        generalize hv : (if s.ord z < s.low c then (s.ord z : Int) else (s.low c : Int)) = v at *
        have HV := Lib.hid hv
        clear hv
        have HM4 := Lib.hid ((HM3.out.setLow c v).ext (Below.drew (Ext.refl _)))
        have HB4 := Lib.hid (Below.drew (HB3.out.setCell (p := ⟨Dl, c, none⟩) HM3.out.bases.2.1 (.int .i64 v)))
        go_wp2
        go_end0
        have hcs := HCS.out
        have hmin : min (s.low c) (s.ord z) ≤ s.ord z := Nat.min_le_right _ _
        refine ⟨rfl, HB4.out, τ, { s with cs := (c, k + 1) :: rest, low := upd s.low c (min (s.low c) (s.ord z)) }, ⟨vo, .slice (some ⟨g, 0, none⟩) (rl.length + 1) cc, ?_⟩, HI.out.look hcs HLK.out (.inl HZ0.out) (.inr ⟨HZO.out, rfl⟩) (fun _ => by rw [upd_at]; exact hmin), ?_, rfl, fun a ha => ha⟩
        · have e : csL ((c, k + 1) :: rest) = rl ++ [((c : Int), (k : Int) + 1)] := by rw [csL_cons, HRE.out]; simp
          have e2 : v = ((min (s.low c) (s.ord z) : Nat) : Int) := by rw [← HV.out]; split <;> omega
          show SM τ B P n Do Dl Dp g0 g1 _ g3 g4 _ vo _ (lst n s.ord) (lst n (upd s.low c (min (s.low c) (s.ord z)))) (lstI n s.part) (osL s.os) (csL ((c, k + 1) :: rest)) (s.met : Int)
          have h := HM4.out
          rw [hn] at h
          rw [e, ← lst_upd n s.low _ hcn, ← e2]
          exact h
        · show restU n next s.ord + restC next ((c, k + 1) :: rest) < mu n next s
          have hkd : k < (nbs next c).length := by rw [HNB.out]; exact hkl
          unfold mu
          rw [hcs]
          simp only [restC, List.map_cons, List.sum_cons]
          omega
      · have hp0 : ¬ s.part z < 0 := by
          obtain ⟨m, h1, _⟩ := HI.out.P z hp
          omega
        have HP := Lib.hid hp
        clear hp
        go_wp2
        go_end0
        have hcs := HCS.out
        refine ⟨rfl, HB3.out, τ, { s with cs := (c, k + 1) :: rest }, ⟨vo, .slice (some ⟨g, 0, none⟩) (rl.length + 1) cc, ?_⟩, HI.out.look hcs HLK.out (.inl HZ0.out) (.inl rfl) (fun ho => absurd ((HI.out.osm z).1 ho).2 HP.out), ?_, rfl, fun a ha => ha⟩
        · have e : csL ((c, k + 1) :: rest) = rl ++ [((c : Int), (k : Int) + 1)] := by rw [csL_cons, HRE.out]; simp
          show SM τ B P n Do Dl Dp g0 g1 _ g3 g4 _ vo _ (lst n s.ord) (lst n s.low) (lstI n s.part) (osL s.os) (csL ((c, k + 1) :: rest)) (s.met : Int)
          rw [e]
          have h := HM3.out
          rw [hn] at h
          exact h
        · show restU n next s.ord + restC next ((c, k + 1) :: rest) < mu n next s
          have hkd : k < (nbs next c).length := by rw [HNB.out]; exact hkl
          unfold mu
          rw [hcs]
          simp only [restC, List.map_cons, List.sum_cons]
          omega

end Go.Proofs.Ytbndjailimhbdaa
