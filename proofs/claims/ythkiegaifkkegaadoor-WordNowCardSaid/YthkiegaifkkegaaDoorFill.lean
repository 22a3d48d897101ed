/- Fill: what is needed of it. No condition. -/
import Derived.Test.YthkiegaifkkegaaDoorFill0
import Derived.Test.YthkiegaifkkegaaDoorFill1
import Derived.Test.YthkiegaifkkegaaDoorFill2
namespace Go.Proofs.YthkiegaifkkegaaDoor
open Go.RowKit
theorem fill_any (W2 w : World) (T RB p : Nat) (l : List Op2) (es : List Int) (S : List Tm) (W : Wd) (af ae aL : Option Addr) (cf ce cL : Nat) (vs : List Value) (props : Nat) (s : Tm)
    (hI : FIn W2 l es S W af ae cf ce vs props) (hM : TMem W2 w T RB l.length (.slice af l.length cf) (.slice ae es.length ce) aL cL vs W S (p + 1)) (hS : SubAt l es S p s) (hf : FitOp props (s.kd, s.vl)) :
    Calls Tryd.prog 22 #[.pointer (some ⟨T, 0, none⟩), .int .i64 (p : Int)] w fun e w' => e = .returned (.tuple #[]) ∧ TMem W2 w' T RB l.length (.slice af l.length cf) (.slice ae es.length ce) aL cL vs W S p := by
  rcases tm_cases hS.ok hf with ⟨v, rfl, h1, h2⟩ | rfl | rfl | ⟨a, rfl⟩ | ⟨a, rfl⟩ | ⟨a, rfl⟩ | ⟨a, rfl⟩ | ⟨a, b, rfl⟩ | ⟨a, b, rfl⟩ | ⟨a, b, rfl⟩ | ⟨a, b, rfl⟩
  · exact fill_prop W2 w T RB p l es S W af ae aL cf ce cL vs props v hI hM hS v.toNat (by omega) (by omega)
  · exact fill_yes W2 w T RB p l es S W af ae aL cf ce cL vs props hI hM hS
  · exact fill_no W2 w T RB p l es S W af ae aL cf ce cL vs props hI hM hS
  · exact fill_not W2 w T RB p l es S W af ae aL cf ce cL vs props a hI hM hS
  · exact fill_next W2 w T RB p l es S W af ae aL cf ce cL vs props a hI hM hS
  · exact fill_fin W2 w T RB p l es S W af ae aL cf ce cL vs props a hI hM hS
  · exact fill_glo W2 w T RB p l es S W af ae aL cf ce cL vs props a hI hM hS
  · exact fill_and W2 w T RB p l es S W af ae aL cf ce cL vs props a b hI hM hS
  · exact fill_or W2 w T RB p l es S W af ae aL cf ce cL vs props a b hI hM hS
  · exact fill_unt W2 w T RB p l es S W af ae aL cf ce cL vs props a b hI hM hS
  · exact fill_rel W2 w T RB p l es S W af ae aL cf ce cL vs props a b hI hM hS
end Go.Proofs.YthkiegaifkkegaaDoor
