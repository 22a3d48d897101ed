/- The contract of scc.Fair. -/
import Derived.Test.YtbndjailimhbdaaFair
import Derived.Test.YtbndjailimhbdaaFairD
import Derived.Test.YtbndjailimhbdaaReached
import Derived.Test.YtbndjailimhbdaaRowC
namespace Go.Proofs.Ytbndjailimhbdaa
open Go.RowKit

def FairPost (n : Nat) (next : List (List Int)) (sets : List Int) (M init : Nat) (w : World) (e : Ending) (w' : World) : Prop :=
  ((∃ m : Nat, e = .returned (.tuple #[.int .i64 (m : Int), .int .i64 0]) ∧ FairR next (bitsN sets) M n init m ∧ ∀ j, j < m → ¬ FairR next (bitsN sets) M n init j) ∨
    (e = .returned (.tuple #[.int .i64 0, .int .i64 11]) ∧ ∀ j, ¬ FairR next (bitsN sets) M n init j)) ∧ Ext w w'

set_option maxRecDepth 100000 in
set_option maxHeartbeats 8000000 in
theorem fairR_any (sp nx st : Value) (init : Nat) (M : Nat) (S : List Sp2) (next : List (List Int)) (sets : List Int) (w : World) (hS : Spots w sp S) (hN : Lists w nx next) (hT : Ints w st sets) (hk : GOk S.length next sets init M) :
    Calls Try.prog 6 #[.agg #[sp, .int .i64 (init : Int), nx, st, .int .i64 (M : Int)]] w (FairPost S.length next sets M init w) := by
  have HPA := Lib.hid fun wx (hx : Ext w wx) => parts_any sp nx st init M S next sets wx (hS.ext hx) (hN.ext hx) (hT.ext hx) hk
  have HRE := Lib.hid fun wx (hx : Ext w wx) => reached_any sp nx st init M S next sets wx (hS.ext hx) (hN.ext hx) (hT.ext hx) hk
  have HFA := Lib.hid fun wx (hx : Ext w wx) vp pn hP hpn => fair_any sp nx st init M S next sets wx (hS.ext hx) (hN.ext hx) (hT.ext hx) hk vp pn hP hpn
  have HK := Lib.hid hk
  have h20 := hk.max
  obtain ⟨asp, csp, rfl, _⟩ := hS
  obtain ⟨ax, cx, rfl⟩ : ∃ a c, nx = .slice a next.length c := by
    obtain ⟨vs, he, a, c, rfl, _⟩ := hN
    exact ⟨a, c, rfl⟩
  obtain ⟨at', ct, rfl, _⟩ := hT
  generalize S.length = n at *
  clear hk hN
  go_enter Try.func6, Try.ntmps6
  have BA := Lib.hid (blk_new w (Obj.cells #[.slice asp n csp, .int .i64 (init : Int), .slice ax next.length cx, .slice at' sets.length ct, .int .i64 (M : Int)] 28))
  have HA := Lib.hid (ext_al (Ext.refl w) (Obj.cells #[.slice asp n csp, .int .i64 (init : Int), .slice ax next.length cx, .slice at' sets.length ct, .int .i64 (M : Int)] 28))
  go_wp2_with fail
  generalize w.alloc (Obj.cells #[.slice asp n csp, .int .i64 (init : Int), .slice ax next.length cx, .slice at' sets.length ct, .int .i64 (M : Int)] 28) = W1 at *
  refine (HPA.out _ HA.out).mono ?_
  rintro e w2 ⟨D, part, rfl, hop, hpk, hE2⟩
  have bA := blk_ext BA.out hE2
  have cG0 := blk_cell bA (i := 0) rfl
  have cG1 := blk_cell bA (i := 1) rfl
  have cG2 := blk_cell bA (i := 2) rfl
  have cG3 := blk_cell bA (i := 3) rfl
  have cG4 := blk_cell bA (i := 4) rfl
  have BA2 := Lib.hid bA
  have HA2 := Lib.hid (HA.out.trans hE2)
  obtain ⟨pn, hpl, hpe, hpb⟩ := part_nat HK.out.ins HK.out.nx hpk
  rw [hpl] at hop
  have HOP := Lib.hid hop
  have HPK := Lib.hid hpk
  have HPE := Lib.hid hpe
  have HPB := Lib.hid hpb
  clear bA hop hpk hE2 hpl hpe hpb HPA BA HA
  go_wp2_with fail
  refine (HRE.out _ HA2.out).mono ?_
  rintro e w3 ⟨v, rfl, seen, hos, hsl, hsr, hE3⟩
  obtain ⟨asn, csn, rfl, hrs⟩ := hos.row
  have bA := blk_ext BA2.out hE3
  have cG0 := blk_cell bA (i := 0) rfl
  have cG1 := blk_cell bA (i := 1) rfl
  have cG2 := blk_cell bA (i := 2) rfl
  have cG3 := blk_cell bA (i := 3) rfl
  have cG4 := blk_cell bA (i := 4) rfl
  have HA3 := Lib.hid (HA2.out.trans hE3)
  have HRS := Lib.hid hrs
  have HSL := Lib.hid hsl
  have HSR := Lib.hid hsr
  have hop3 := own_ext HOP.out hE3
  obtain ⟨_, _, e, hrp⟩ := hop3.row
  simp only [Value.slice.injEq] at e
  obtain ⟨rfl, _, rfl⟩ := e
  have HFB := Lib.hid (HFA.out _ HA3.out (.slice (some ⟨D, 0, none⟩) n n) pn ⟨_, _, by rw [lst_len], by rw [lst_len]; exact hrp⟩ HPB.out)
  clear bA hos hrs hsl hsr hE3 hop3 hrp HRE BA2 HFA
  go_wp2_with fail
  refine HFB.out.mono ?_
  rintro e w4 ⟨v4, rfl, hof, hE4⟩
  obtain ⟨af, cf, rfl, hrf⟩ := hof.row
  obtain ⟨bf, of, hf1, hf2⟩ := row_cells hrf
  obtain ⟨bs, os, hs1, hs2⟩ := row_cells (HRS.out.ext hE4)
  have HF1 := Lib.hid hf1
  have HF2 := Lib.hid hf2
  have HS1 := Lib.hid hs1
  have HS2 := Lib.hid hs2
  have HE4 := Lib.hid (HA3.out.trans hE4)
  have HIFF := Lib.hid fun m (hm : m < n) => fairB_iff HPK.out HPE.out HK.out.ins HK.out.nx (bitsN_lt HK.out.bits) hm
  clear hof hrf hf1 hf2 hs1 hs2 hE4 HFB HRS cG0 cG1 cG2 cG3 cG4
  go_wp2_with fail
  go_loopg [27] n (fun m x wr => ∃ i : Nat, m + i = n ∧ x = .int .i64 (i : Int) ∧ wr = w4 ∧ ∀ j, j < i → ¬ FairR next (bitsN sets) M n init j)
  case atStart => exact ⟨0, by omega, by go_num, rfl, fun j hj => by omega⟩
  case round =>
    obtain ⟨i, hmi, rfl, rfl, hno⟩ := hrel
    have HNO := Lib.hid hno
    have HMI := Lib.hid hmi
    clear hno hmi
    by_cases hi : i < n
    · have hil : i < seen.length := by have := HSL.out; omega
      obtain rfl := HF1.out (by rw [lsB_len]; omega)
      obtain rfl := HS1.out (by omega)
      have cf := HF2.out i (by rw [lsB_len]; exact hi)
      have e := lsB_get n (fairB pn next (bitsN sets) M n) hi
      rw [List.getElem?_eq_getElem (by rw [lsB_len]; exact hi)] at e
      rw [Option.some.inj e] at cf
      have cs := HS2.out i hil
      have hiI : (i : Int) < (n : Int) := by omega
      have hi0 : (0 : Int) ≤ (i : Int) := by omega
      have HIF := Lib.hid (HIFF.out i hi)
      have HSI := Lib.hid (show seen[i] = true ↔ ∃ s, s < init ∧ Reach next s i by
        have := HSR.out i
        rw [List.getElem?_eq_getElem hil] at this
        simpa using this)
      clear e
      generalize fairB pn next (bitsN sets) M n i = bF at *
      generalize seen[i] = bS at *
      cases bF
      · go_wp2_with fail
        go_roundg (gk - 1)
        case measure => have := HMI.out; omega
        case rel => exact ⟨i + 1, by have := HMI.out; omega, by go_num, rfl, fun j hj h => by
          by_cases e : j = i
          · subst e; exact absurd (HIF.out.2 h.2.1) (by simp)
          · exact HNO.out j (by omega) h⟩
      · cases bS
        · go_wp2_with fail
          go_roundg (gk - 1)
          case measure => have := HMI.out; omega
          case rel => exact ⟨i + 1, by have := HMI.out; omega, by go_num, rfl, fun j hj h => by
            by_cases e : j = i
            · subst e; exact absurd (HSI.out.2 h.2.2) (by simp)
            · exact HNO.out j (by omega) h⟩
        · go_wp2_with fail
          go_ret2
          exact ⟨.inl ⟨i, rfl, ⟨hi, HIF.out.1 (by simp), HSI.out.1 (by simp)⟩, HNO.out⟩, HE4.out⟩
    · have hiI : ¬ (i : Int) < (n : Int) := by omega
      go_wp2
      go_ret2
      exact ⟨.inr ⟨rfl, fun j h => HNO.out j (by have := h.1; omega) h⟩, HE4.out⟩

end Go.Proofs.Ytbndjailimhbdaa
