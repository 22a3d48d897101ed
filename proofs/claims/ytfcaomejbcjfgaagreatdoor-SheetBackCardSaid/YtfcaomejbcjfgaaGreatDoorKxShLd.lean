/- ShLd: what is needed of it. No condition. -/
import Derived.Test.YtfcaomejbcjfgaaGreatDoorKx14
import Derived.LaidMore
import Derived.OpenShut
import Derived.Stop.Joined
import Derived.Test.YtfcaomejbcjfgaaGreatDoorCards
import Derived.Test.YtfcaomejbcjfgaaGreatDoorTie
import Derived.SevenTiedAt
import Derived.HandedShaped
import Derived.Stop.LaidErr
import Derived.Lib.LaidTab
import Derived.Lay
namespace Go.Proofs.YtfcaomejbcjfgaaGreatDoor
open Go.ChangeShapes Go.WideShapes Go.ChangeAt Go.WideMaps Go.WideElems Go.RowKit
abbrev laidL : List (String × DataW Unit) := [("math/bits.deBruijn32tab", Rows.laid_math_bits_deBruijn32tab), ("math/bits.deBruijn64tab", Rows.laid_math_bits_deBruijn64tab), ("internal/strconv.uint64pow10", Rows.laid_internal_strconv_uint64pow10), ("unicode/utf8.acceptRanges", Rows.laid_unicode_utf8_acceptRanges), ("strconv.ErrRange", Rows.laid_strconv_ErrRange), ("strconv.ErrSyntax", Rows.laid_strconv_ErrSyntax), ("foretell/polish.parts", Rows.laid_foretell_polish_parts), ("foretell/sheet.marks", Rows.laid_foretell_sheet_marks), ("unicode/utf8.first", Rows.laid_unicode_utf8_first)]
theorem laidMet_one {P : Program} {x : String × DataW Unit} {r : List (String × DataW Unit)} {w : World} (h : laidMet P (x :: r) w) : laidMet P [x] w := by
  obtain ⟨ps, hv, hnd, hrows⟩ := h
  obtain ⟨n, d⟩ := x
  obtain ⟨g, t, cs, fuel, p, q, h1, h2, h3, h4, hq, rfl⟩ := hv
  exact ⟨MemPlace.row ⟨g, 0, none⟩ cs.size ++ p ++ [], ⟨g, t, cs, fuel, p, [], h1, h2, h3, h4, rfl, rfl⟩, by
    rw [List.append_nil]; exact List.Nodup.sublist (List.sublist_append_left _ _) hnd, fun b off hm => hrows b off (List.mem_append_left _ (by simpa using hm))⟩
theorem laidMet_mem {P : Program} {w : World} : ∀ {l : List (String × DataW Unit)}, laidMet P l w → ∀ x ∈ l, laidMet P [x] w
  | [], _, _, hx => by cases hx
  | y :: r, h, x, hx => by
    rcases List.mem_cons.1 hx with rfl | hx
    · exact laidMet_one h
    · exact laidMet_mem (laidMet.tail h) x hx
theorem gParts : Tryz.prog.globalNamed "foretell/polish.parts" = some 5 := by kernel_rfl
theorem tParts : (Tryz.prog.globals[5]?).map (·.type) = some 162 := by kernel_rfl
theorem tab_of_laid9 {W : World} (h : laidMet Tryz.prog [("foretell/polish.parts", Rows.laid_foretell_polish_parts)] W) : Tab W := by
  obtain ⟨ps, ⟨g0, t0, cs0, f0, p0, q0, hg0, ht0, hv0, hd0, _, _⟩, _, _⟩ := h
  obtain rfl := Option.some.inj (gParts.symm.trans hg0)
  obtain rfl := Option.some.inj (tParts.symm.trans ht0)
  obtain ⟨xs, m, rfl, hx1, hlen, hn3, hel⟩ := DataW.trod_array Tryz.underlying162 hd0
  have c3 : Tryz.prog.cellsOf 3 = 1 := by kernel_rfl
  have c24 : Tryz.prog.cellsOf 162 = 19 := by kernel_rfl
  rw [c24] at hlen
  simp only [Prod.mk.injEq] at hx1
  have key : ∀ (k : Nat) (n : Int), k < 19 → xs[k]?.map (·.1) = some (.lit (.int .i64 n)) → W.cell? ⟨5, k, none⟩ = some (.int .i64 n) := by
    intro k n hk hxn
    have h0 := hel k hk
    obtain ⟨x0, hx0, hx0'⟩ := Option.map_eq_some_iff.1 hxn
    rw [hx0] at h0
    obtain ⟨n', e1, e2, _⟩ := DataW.trod_int Tryz.underlying3 h0
    rw [e2] at hx0'
    simp only [DataW.lit.injEq, Lit.int.injEq, true_and] at hx0'
    subst hx0'
    have hc := World.var?_cell hg0 hv0 k
    rw [c3, Nat.mul_one] at e1
    have e3 : cs0[k]? = some (.int .i64 n') := by
      have := congrArg (fun l => l[0]?) e1
      simp only [List.getElem?_take, List.getElem?_drop] at this
      simpa using this
    rw [e3] at hc
    simpa using hc
  intro k h1 h2
  have h9 := hx1.1
  unfold Rows.laid_foretell_polish_parts at h9
  simp only [DataW.agg.injEq] at h9
  refine key k _ (by omega) ?_
  rw [show xs[k]?.map (·.1) = (xs.map (·.1))[k]? by simp, ← h9]
  have : k = 1 ∨ k = 2 ∨ k = 3 ∨ k = 4 ∨ k = 5 ∨ k = 6 ∨ k = 7 ∨ k = 8 ∨ k = 9 ∨ k = 10 ∨ k = 11 ∨ k = 12 ∨ k = 13 ∨ k = 14 ∨ k = 15 ∨ k = 16 ∨ k = 17 ∨ k = 18 := by omega
  rcases this with rfl | rfl | rfl | rfl | rfl | rfl | rfl | rfl | rfl | rfl | rfl | rfl | rfl | rfl | rfl | rfl | rfl | rfl <;> rfl
theorem gMarks : Tryz.prog.globalNamed "foretell/sheet.marks" = some 0 := by kernel_rfl
theorem tMarks : (Tryz.prog.globals[0]?).map (·.type) = some 91 := by kernel_rfl
theorem tPow : (Tryz.prog.globals[1]?).map (·.type) = some 151 := by kernel_rfl
theorem gSyn : Tryz.prog.globalNamed "strconv.ErrSyntax" = some 3 := by kernel_rfl
theorem tSyn : (Tryz.prog.globals[3]?).map (·.type) = some 60 := by kernel_rfl
theorem gRng : Tryz.prog.globalNamed "strconv.ErrRange" = some 4 := by kernel_rfl
theorem tRng : (Tryz.prog.globals[4]?).map (·.type) = some 60 := by kernel_rfl
theorem starE : "*" ++ "errors.errorString" = "*errors.errorString" := by decide
theorem rowE (u : TypeId) (h : Tryz.prog.typeName? 3 u = some "*errors.errorString") : u = 165 :=
  typeName_ptr_named (nm := "errors.errorString") (by rw [starE]; kernel_rfl) (by kernel_rfl) (by decide) u (by rw [starE]; exact h)
theorem cE : Tryz.prog.cellsOf 167 = 1 := by kernel_rfl
theorem cStr : Tryz.prog.cellsOf 9 = 1 := by kernel_rfl
theorem sentinel_cell {n : String} {g : Nat} {text : List UInt8} {W : World} (h : laidMet Tryz.prog [(n, .iface "*errors.errorString" (.ptr (.agg [.lit (.string text)])))] W) (hg : Tryz.prog.globalNamed n = some g) (ht : (Tryz.prog.globals[g]?).map (·.type) = some 60) :
    ∃ te pe, W.cell? ⟨g, 0, none⟩ = some (.iface te pe) := by
  obtain ⟨a, s, hv, _⟩ := laid_sentinel h hg ht Tryz.underlying60 rowE Tryz.underlying165 Tryz.underlying167 rfl rfl Tryz.underlying9 cE cStr
  exact ⟨_, _, by simpa using World.var?_cell hg hv 0⟩
theorem marks_of_laid {W : World} (h : laidMet Tryz.prog [("foretell/sheet.marks", Rows.laid_foretell_sheet_marks)] W) : ∀ k : Nat, k < 19 → W.cell? ⟨0, k, none⟩ = some (.string ⟨(marksL.getD k []).toArray⟩) := by
  obtain ⟨ps, ⟨g0, t0, cs0, f0, p0, q0, hg0, ht0, hv0, hd0, _, _⟩, _, _⟩ := h
  obtain rfl := Option.some.inj (gMarks.symm.trans hg0)
  obtain rfl := Option.some.inj (tMarks.symm.trans ht0)
  obtain ⟨xs, m, rfl, hx1, hlen, hn3, hel⟩ := DataW.trod_array Tryz.underlying91 hd0
  have c24 : Tryz.prog.cellsOf 91 = 19 := by kernel_rfl
  rw [c24] at hlen
  simp only [Prod.mk.injEq] at hx1
  intro k hk
  have h0 := hel k hk
  have h9 := hx1.1
  unfold Rows.laid_foretell_sheet_marks at h9
  simp only [DataW.agg.injEq] at h9
  have hxn : xs[k]?.map (·.1) = some (.lit (.string (marksL.getD k []))) := by
    rw [show xs[k]?.map (·.1) = (xs.map (·.1))[k]? by simp, ← h9]
    have : k = 0 ∨ k = 1 ∨ k = 2 ∨ k = 3 ∨ k = 4 ∨ k = 5 ∨ k = 6 ∨ k = 7 ∨ k = 8 ∨ k = 9 ∨ k = 10 ∨ k = 11 ∨ k = 12 ∨ k = 13 ∨ k = 14 ∨ k = 15 ∨ k = 16 ∨ k = 17 ∨ k = 18 := by omega
    rcases this with rfl | rfl | rfl | rfl | rfl | rfl | rfl | rfl | rfl | rfl | rfl | rfl | rfl | rfl | rfl | rfl | rfl | rfl | rfl <;> rfl
  obtain ⟨x0, hx0, hx0'⟩ := Option.map_eq_some_iff.1 hxn
  rw [hx0] at h0
  obtain ⟨s, e1, e2, _⟩ := DataW.trod_string Tryz.underlying9 h0
  rw [e2] at hx0'
  simp only [DataW.lit.injEq, Lit.string.injEq] at hx0'
  rw [← hx0', Lib.mk_data]
  have hc := World.var?_cell hg0 hv0 k
  rw [cStr, Nat.mul_one] at e1
  have e3 : cs0[k]? = some (.string s) := by
    have := congrArg (fun l => l[0]?) e1
    simp only [List.getElem?_take, List.getElem?_drop] at this
    simpa using this
  rw [e3] at hc
  simpa using hc
theorem door_met9 (os : Os) (args : Array Value) : laidMetH Tryz.prog laidL ((World.laidAll Tryz.prog os laidL).forCall (fun _ _ => 0) ⟨#[], args, []⟩).memory := by
  rw [MakeChecks.laidMetH_plain _ _ _ (by kernel_rfl)]; exact laidMet_laidAll _ (by kernel_rfl) (by kernel_rfl)
theorem gl_of_laid {W : World} (h : laidMetH Tryz.prog laidL W) (hs : W.ShapedOpen Tryz.prog) : Gl W := by
  rw [MakeChecks.laidMetH_plain _ _ _ (by kernel_rfl)] at h
  have one : ∀ (i : Nat) x, laidL[i]? = some x → laidMet Tryz.prog [x] W := fun i x hx => laidMet_mem h x (List.mem_of_getElem? hx)
  exact ⟨tab_of_laid9 (one 6 _ rfl), marks_of_laid (one 7 _ rfl),
    Lib.tabIs_of_head gPow tPow Tryz.underlying151 Tryz.underlying127 (by kernel_rfl) (by kernel_rfl) (one 2 _ rfl),
    Tryz.laysM146.s1_3 W hs, sentinel_cell (one 5 _ rfl) gSyn tSyn, sentinel_cell (one 4 _ rfl) gRng tRng⟩
theorem returns_laid {H : Type} {enc : TypeId × Value → H} {a : Assume} {C : Checked} {os : Os} {f : FuncId} {fn : Func} {s : ChangeSpec} {conds : List PathCond} {apart fresh handsOn again : Bool} {X : World → Array Value → Prop}
    (hX : ∀ (w w' : World) (args : Array Value), w.heap = w'.heap → X w args → X w' args)
    (own : ownKnob C.prog.godebug = none) (started : os.Started) (noInit : C.prog.inits.idxOf? f = none) (hfn : C.prog.funcs[f]? = some fn)
    (witness : ∃ (w : World) (tape : Tape) (i : Input), w.os = os ∧ (w.forCall tape i).Shaped C.prog ∧ i.vars = [] ∧ Input.okWide C.prog (w.forCall tape i) .any w.heap.size f i ∧
      ((s.pre enc C.prog fn conds apart (w.forCall tape i).memory i.args ∧ X (w.forCall tape i).memory i.args) ∧ sizedMet enc C.prog fn (OpenSpec.ofChange s) apart (w.forCall tape i).memory i.args) ∧ a.holds C.prog (lone (Frame.enter C.prog f i.args .normal) [] (w.forCall tape i)))
    (contract : ∀ (W : World) (base : Nat) (args : Array Value) (ds gs : List (DataW H)) (before : List MemPlace),
      (∀ (j : Nat) t v, fn.params[j]? = some t → args[j]? = some v → Value.okWide C.prog W .any base t v) →
      DataW.Whole enc C.prog fn.params.toList s.vars apart W args.toList ds gs before →
      conds.all (PathCond.test C.prog ⟨fn.params.toList, ds, s.plain.varTypes C.prog, gs⟩) = true →
      X W args → W.ShapedOpen C.prog →
      Calls C.prog f args W fun e W' => ∃ v, e = .returned v ∧ s.post enc C.prog fn apart fresh handsOn again W args v W') :
    ReturnsInHanded a C os f .any (fun w args => (s.pre enc C.prog fn conds apart w args ∧ X w args) ∧ sizedMet enc C.prog fn (OpenSpec.ofChange s) apart w args) (s.post enc C.prog fn apart fresh handsOn again) := by
  refine returnsInHanded_of_calls own started noInit witness ?_
  intro w tape i _ hsh _ hok hpre _
  obtain ⟨_, _, _, fn', hfn', _, _, _, _, hval⟩ := hok
  have e : fn' = fn := Option.some.inj (hfn'.symm.trans hfn)
  subst e
  obtain ⟨⟨⟨ds, gs, before, hw, hc⟩, hx⟩, hz⟩ := hpre
  have hw' := DataW.Whole.of_heap (w' := w.forCall tape i) (by rfl) hw
  refine (contract (w.forCall tape i) w.heap.size i.args ds gs before hval hw' hc (hX _ _ _ (by rfl) hx) hsh).mono fun e W' ⟨v, he, hp⟩ => ?_
  subst he
  exact ChangeSpec.post_blind hp
end Go.Proofs.YtfcaomejbcjfgaaGreatDoor
