/- The region of WordNow in which each law is looked at. No condition. -/
import Derived.Test.YthkiegaifkkegaaDoorQEnv
namespace Go.Proofs.YthkiegaifkkegaaDoor
open Go Go.RowKit
set_option linter.unusedVariables false

/-- The operations of the region. -/
def nowR : Nat → Code → Option (Array Oper)
  | n, .region id ops _ => if id = n then some ops else none
  | n, .seq a b => (nowR n a).orElse fun _ => nowR n b
  | n, .cond _ a b => (nowR n a).orElse fun _ => nowR n b
  | n, .block _ a => nowR n a
  | n, .loop a => nowR n a
  | n, .scope a => nowR n a
  | _, _ => none
/-- The region's operations, as the program has them. -/
noncomputable def nowL : List Oper := match Tryd.f3.body with
  | some c => ((nowR 20 c).getD #[]).toList
  | none => []
set_option maxRecDepth 100000 in
theorem nowL_lex : Region.lexB .any (List.toArray nowL) = true := lexB_of (by kernel_rfl) rfl (by kernel_rfl)

set_option maxRecDepth 100000 in
set_option maxHeartbeats 4000000 in
theorem now20_tt {id : Nat} {Q : Exit → Act → World → Prop} {A : Act} {w : World} {n i k Ba Bb Bu Br Bo Bl Bt : Nat} {xu xr xo xl xa2 : Bool}
    (hk : Kn A 272 [(11, .slice (some ⟨Ba, 0, none⟩) n n), (13, .slice (some ⟨Bb, 0, none⟩) n n), (15, .slice (some ⟨Bu, 0, none⟩) n n), (17, .slice (some ⟨Br, 0, none⟩) n n), (19, .slice (some ⟨Bo, 0, none⟩) n n), (21, .slice (some ⟨Bl, 0, none⟩) n n), (23, .slice (some ⟨Bt, 0, none⟩) n n), (25, .int .i64 (i : Int)), (26, .int .i64 (k : Int))])
    (hiI : (i : Int) < (n : Int)) (hi0 : (0 : Int) ≤ (i : Int)) (hkI : (k : Int) < (n : Int)) (hk0 : (0 : Int) ≤ (k : Int))
    (cBai : w.cell? ⟨Ba, i, none⟩ = some (.bool true))
    (cBbi : w.cell? ⟨Bb, i, none⟩ = some (.bool true))
    (cBui : w.cell? ⟨Bu, i, none⟩ = some (.bool true))
    (cBri : w.cell? ⟨Br, i, none⟩ = some (.bool true))
    (cBoi : w.cell? ⟨Bo, i, none⟩ = some (.bool true))
    (cBli : w.cell? ⟨Bl, i, none⟩ = some (.bool xl))
    (cBti : w.cell? ⟨Bt, i, none⟩ = some (.bool xa2))
    (cBuk : w.cell? ⟨Bu, k, none⟩ = some (.bool xu))
    (cBrk : w.cell? ⟨Br, k, none⟩ = some (.bool xr))
    (cBok : w.cell? ⟨Bo, k, none⟩ = some (.bool xo))
    (cBlk : w.cell? ⟨Bl, k, none⟩ = some (.bool xl))
    (cBak : w.cell? ⟨Ba, k, none⟩ = some (.bool xa2))
    (hQ : ∀ f q, (allL f nowL 0 A).tmps[233]? = some (.bool false) → Q .normal (allL f nowL 0 A) (w.drewN q)) : (Code.region id (List.toArray nowL) true).wp Tryd.prog Q A w := by
  refine quiet_region (by kernel_rfl) nowL_lex (fun b => b.tmps[233]? = some (.bool false)) ?_ hQ
  clear hQ
  refine q_more hk rfl rfl (w_none rfl) (v := .slice (some ⟨Bu, 0, none⟩) n n) (by have e0 := hk.at' 15 _ rfl; clear hk; rintro _ ⟨q, rfl⟩; simp only [Oper.quietAt]; go_simp) ?_
  clear hk; intro A hk
  refine q_more hk rfl rfl (w_none rfl) (v := .int .i64 (i : Int)) (by have e0 := hk.at' 25 _ rfl; clear hk; rintro _ ⟨q, rfl⟩; simp only [Oper.quietAt]; go_simp) ?_
  clear hk A; intro A hk
  refine q_more hk rfl rfl (w_none rfl) (v := .pointer (some ⟨Bu, i, none⟩)) (by have e0 := hk.at' 145 _ rfl; have e1 := hk.at' 146 _ rfl; clear hk; rintro _ ⟨q, rfl⟩; simp only [Oper.quietAt]; go_simp) ?_
  clear hk A; intro A hk
  refine q_more hk rfl rfl (w_none rfl) (v := .bool true) (by have e0 := hk.at' 147 _ rfl; clear hk; rintro _ ⟨q, rfl⟩; simp only [Oper.quietAt]; go_simp) ?_
  clear hk A; intro A hk
  refine q_more hk rfl rfl (w_none rfl) (v := .slice (some ⟨Bb, 0, none⟩) n n) (by have e0 := hk.at' 13 _ rfl; clear hk; rintro _ ⟨q, rfl⟩; simp only [Oper.quietAt]; go_simp) ?_
  clear hk A; intro A hk
  refine q_more hk rfl rfl (w_none rfl) (v := .int .i64 (i : Int)) (by have e0 := hk.at' 25 _ rfl; clear hk; rintro _ ⟨q, rfl⟩; simp only [Oper.quietAt]; go_simp) ?_
  clear hk A; intro A hk
  refine q_more hk rfl rfl (w_none rfl) (v := .pointer (some ⟨Bb, i, none⟩)) (by have e0 := hk.at' 149 _ rfl; have e1 := hk.at' 150 _ rfl; clear hk; rintro _ ⟨q, rfl⟩; simp only [Oper.quietAt]; go_simp) ?_
  clear hk A; intro A hk
  refine q_more hk rfl rfl (w_none rfl) (v := .bool true) (by have e0 := hk.at' 151 _ rfl; clear hk; rintro _ ⟨q, rfl⟩; simp only [Oper.quietAt]; go_simp) ?_
  clear hk A; intro A hk
  refine q_more hk rfl rfl (w_none rfl) (v := .bool true) (by have e0 := hk.at' 152 _ rfl; clear hk; rintro _ ⟨q, rfl⟩; simp only [Oper.quietAt]; go_simp) ?_
  clear hk A; intro A hk
  refine q_skip hk rfl rfl (by rw [w_some (t := 153) (b := true) rfl (by kernel_rfl) hk rfl]; rfl) ?_
  clear hk A; intro A hk
  refine q_skip hk rfl rfl (by rw [w_some (t := 153) (b := true) rfl (by kernel_rfl) hk rfl]; rfl) ?_
  clear hk A; intro A hk
  refine q_skip hk rfl rfl (by rw [w_some (t := 153) (b := true) rfl (by kernel_rfl) hk rfl]; rfl) ?_
  clear hk A; intro A hk
  refine q_skip hk rfl rfl (by rw [w_some (t := 153) (b := true) rfl (by kernel_rfl) hk rfl]; rfl) ?_
  clear hk A; intro A hk
  refine q_skip hk rfl rfl (by rw [w_some (t := 153) (b := true) rfl (by kernel_rfl) hk rfl]; rfl) ?_
  clear hk A; intro A hk
  refine q_skip hk rfl rfl (w_undef (t := 158) rfl (by kernel_rfl) hk rfl) ?_
  clear hk A; intro A hk
  refine q_skip hk rfl rfl (w_undef (t := 158) rfl (by kernel_rfl) hk rfl) ?_
  clear hk A; intro A hk
  refine q_skip hk rfl rfl (w_undef (t := 158) rfl (by kernel_rfl) hk rfl) ?_
  clear hk A; intro A hk
  refine q_skip hk rfl rfl (w_undef (t := 158) rfl (by kernel_rfl) hk rfl) ?_
  clear hk A; intro A hk
  refine q_skip hk rfl rfl (by rw [w_some (t := 153) (b := true) rfl (by kernel_rfl) hk rfl]; rfl) ?_
  clear hk A; intro A hk
  refine q_more hk rfl rfl (w_none rfl) (v := .bool true) (by have e0 := hk.at' 153 _ rfl; have e1 := hk.at' 163 _ rfl; clear hk; rintro _ ⟨q, rfl⟩; simp only [Oper.quietAt]; go_simp) ?_
  clear hk A; intro A hk
  refine q_more hk rfl rfl (w_none rfl) (v := .bool false) (by have e0 := hk.at' 148 _ rfl; have e1 := hk.at' 164 _ rfl; clear hk; rintro _ ⟨q, rfl⟩; simp only [Oper.quietAt]; go_simp) ?_
  clear hk A; intro A hk
  refine q_more hk rfl rfl (w_none rfl) (v := .bool false) (by have e0 := hk.at' 165 _ rfl; clear hk; rintro _ ⟨q, rfl⟩; simp only [Oper.quietAt]; go_simp) ?_
  clear hk A; intro A hk
  refine q_more hk rfl rfl (by rw [w_some (t := 166) (b := false) rfl (by kernel_rfl) hk rfl]; rfl) (v := .slice (some ⟨Br, 0, none⟩) n n) (by have e0 := hk.at' 17 _ rfl; clear hk; rintro _ ⟨q, rfl⟩; simp only [Oper.quietAt]; go_simp) ?_
  clear hk A; intro A hk
  refine q_more hk rfl rfl (by rw [w_some (t := 166) (b := false) rfl (by kernel_rfl) hk rfl]; rfl) (v := .int .i64 (i : Int)) (by have e0 := hk.at' 25 _ rfl; clear hk; rintro _ ⟨q, rfl⟩; simp only [Oper.quietAt]; go_simp) ?_
  clear hk A; intro A hk
  refine q_more hk rfl rfl (by rw [w_some (t := 166) (b := false) rfl (by kernel_rfl) hk rfl]; rfl) (v := .pointer (some ⟨Br, i, none⟩)) (by have e0 := hk.at' 167 _ rfl; have e1 := hk.at' 168 _ rfl; clear hk; rintro _ ⟨q, rfl⟩; simp only [Oper.quietAt]; go_simp) ?_
  clear hk A; intro A hk
  refine q_more hk rfl rfl (by rw [w_some (t := 166) (b := false) rfl (by kernel_rfl) hk rfl]; rfl) (v := .bool true) (by have e0 := hk.at' 169 _ rfl; clear hk; rintro _ ⟨q, rfl⟩; simp only [Oper.quietAt]; go_simp) ?_
  clear hk A; intro A hk
  refine q_more hk rfl rfl (by rw [w_some (t := 166) (b := false) rfl (by kernel_rfl) hk rfl]; rfl) (v := .slice (some ⟨Bb, 0, none⟩) n n) (by have e0 := hk.at' 13 _ rfl; clear hk; rintro _ ⟨q, rfl⟩; simp only [Oper.quietAt]; go_simp) ?_
  clear hk A; intro A hk
  refine q_more hk rfl rfl (by rw [w_some (t := 166) (b := false) rfl (by kernel_rfl) hk rfl]; rfl) (v := .int .i64 (i : Int)) (by have e0 := hk.at' 25 _ rfl; clear hk; rintro _ ⟨q, rfl⟩; simp only [Oper.quietAt]; go_simp) ?_
  clear hk A; intro A hk
  refine q_more hk rfl rfl (by rw [w_some (t := 166) (b := false) rfl (by kernel_rfl) hk rfl]; rfl) (v := .pointer (some ⟨Bb, i, none⟩)) (by have e0 := hk.at' 171 _ rfl; have e1 := hk.at' 172 _ rfl; clear hk; rintro _ ⟨q, rfl⟩; simp only [Oper.quietAt]; go_simp) ?_
  clear hk A; intro A hk
  refine q_more hk rfl rfl (by rw [w_some (t := 166) (b := false) rfl (by kernel_rfl) hk rfl]; rfl) (v := .bool true) (by have e0 := hk.at' 173 _ rfl; clear hk; rintro _ ⟨q, rfl⟩; simp only [Oper.quietAt]; go_simp) ?_
  clear hk A; intro A hk
  refine q_more hk rfl rfl (by rw [w_some (t := 166) (b := false) rfl (by kernel_rfl) hk rfl]; rfl) (v := .bool true) (by have e0 := hk.at' 174 _ rfl; clear hk; rintro _ ⟨q, rfl⟩; simp only [Oper.quietAt]; go_simp) ?_
  clear hk A; intro A hk
  refine q_more hk rfl rfl (by rw [w_some (t := 175) (b := true) rfl (by kernel_rfl) hk rfl]; rfl) (v := .slice (some ⟨Ba, 0, none⟩) n n) (by have e0 := hk.at' 11 _ rfl; clear hk; rintro _ ⟨q, rfl⟩; simp only [Oper.quietAt]; go_simp) ?_
  clear hk A; intro A hk
  refine q_more hk rfl rfl (by rw [w_some (t := 175) (b := true) rfl (by kernel_rfl) hk rfl]; rfl) (v := .int .i64 (i : Int)) (by have e0 := hk.at' 25 _ rfl; clear hk; rintro _ ⟨q, rfl⟩; simp only [Oper.quietAt]; go_simp) ?_
  clear hk A; intro A hk
  refine q_more hk rfl rfl (by rw [w_some (t := 175) (b := true) rfl (by kernel_rfl) hk rfl]; rfl) (v := .pointer (some ⟨Ba, i, none⟩)) (by have e0 := hk.at' 176 _ rfl; have e1 := hk.at' 177 _ rfl; clear hk; rintro _ ⟨q, rfl⟩; simp only [Oper.quietAt]; go_simp) ?_
  clear hk A; intro A hk
  refine q_more hk rfl rfl (by rw [w_some (t := 175) (b := true) rfl (by kernel_rfl) hk rfl]; rfl) (v := .bool true) (by have e0 := hk.at' 178 _ rfl; clear hk; rintro _ ⟨q, rfl⟩; simp only [Oper.quietAt]; go_simp) ?_
  clear hk A; intro A hk
  refine q_more hk rfl rfl (by rw [w_some (t := 175) (b := true) rfl (by kernel_rfl) hk rfl]; rfl) (v := .bool true) (by have e0 := hk.at' 179 _ rfl; clear hk; rintro _ ⟨q, rfl⟩; simp only [Oper.quietAt]; go_simp) ?_
  clear hk A; intro A hk
  refine q_skip hk rfl rfl (by rw [w_some (t := 180) (b := true) rfl (by kernel_rfl) hk rfl]; rfl) ?_
  clear hk A; intro A hk
  refine q_skip hk rfl rfl (by rw [w_some (t := 180) (b := true) rfl (by kernel_rfl) hk rfl]; rfl) ?_
  clear hk A; intro A hk
  refine q_skip hk rfl rfl (by rw [w_some (t := 180) (b := true) rfl (by kernel_rfl) hk rfl]; rfl) ?_
  clear hk A; intro A hk
  refine q_skip hk rfl rfl (by rw [w_some (t := 180) (b := true) rfl (by kernel_rfl) hk rfl]; rfl) ?_
  clear hk A; intro A hk
  refine q_more hk rfl rfl (by rw [w_some (t := 175) (b := true) rfl (by kernel_rfl) hk rfl]; rfl) (v := .bool true) (by have e0 := hk.at' 180 _ rfl; have e1 := hk.at' 184 _ rfl; clear hk; rintro _ ⟨q, rfl⟩; simp only [Oper.quietAt]; go_simp) ?_
  clear hk A; intro A hk
  refine q_more hk rfl rfl (by rw [w_some (t := 166) (b := false) rfl (by kernel_rfl) hk rfl]; rfl) (v := .bool true) (by have e0 := hk.at' 175 _ rfl; have e1 := hk.at' 185 _ rfl; clear hk; rintro _ ⟨q, rfl⟩; simp only [Oper.quietAt]; go_simp) ?_
  clear hk A; intro A hk
  refine q_more hk rfl rfl (by rw [w_some (t := 166) (b := false) rfl (by kernel_rfl) hk rfl]; rfl) (v := .bool false) (by have e0 := hk.at' 170 _ rfl; have e1 := hk.at' 186 _ rfl; clear hk; rintro _ ⟨q, rfl⟩; simp only [Oper.quietAt]; go_simp) ?_
  clear hk A; intro A hk
  refine q_more hk rfl rfl (w_none rfl) (v := .bool false) (by have e0 := hk.at' 166 _ rfl; have e1 := hk.at' 187 _ rfl; clear hk; rintro _ ⟨q, rfl⟩; simp only [Oper.quietAt]; go_simp) ?_
  clear hk A; intro A hk
  refine q_more hk rfl rfl (w_none rfl) (v := .bool false) (by have e0 := hk.at' 188 _ rfl; clear hk; rintro _ ⟨q, rfl⟩; simp only [Oper.quietAt]; go_simp) ?_
  clear hk A; intro A hk
  refine q_more hk rfl rfl (by rw [w_some (t := 189) (b := false) rfl (by kernel_rfl) hk rfl]; rfl) (v := .slice (some ⟨Bo, 0, none⟩) n n) (by have e0 := hk.at' 19 _ rfl; clear hk; rintro _ ⟨q, rfl⟩; simp only [Oper.quietAt]; go_simp) ?_
  clear hk A; intro A hk
  refine q_more hk rfl rfl (by rw [w_some (t := 189) (b := false) rfl (by kernel_rfl) hk rfl]; rfl) (v := .int .i64 (i : Int)) (by have e0 := hk.at' 25 _ rfl; clear hk; rintro _ ⟨q, rfl⟩; simp only [Oper.quietAt]; go_simp) ?_
  clear hk A; intro A hk
  refine q_more hk rfl rfl (by rw [w_some (t := 189) (b := false) rfl (by kernel_rfl) hk rfl]; rfl) (v := .pointer (some ⟨Bo, i, none⟩)) (by have e0 := hk.at' 190 _ rfl; have e1 := hk.at' 191 _ rfl; clear hk; rintro _ ⟨q, rfl⟩; simp only [Oper.quietAt]; go_simp) ?_
  clear hk A; intro A hk
  refine q_more hk rfl rfl (by rw [w_some (t := 189) (b := false) rfl (by kernel_rfl) hk rfl]; rfl) (v := .bool true) (by have e0 := hk.at' 192 _ rfl; clear hk; rintro _ ⟨q, rfl⟩; simp only [Oper.quietAt]; go_simp) ?_
  clear hk A; intro A hk
  refine q_more hk rfl rfl (by rw [w_some (t := 189) (b := false) rfl (by kernel_rfl) hk rfl]; rfl) (v := .slice (some ⟨Ba, 0, none⟩) n n) (by have e0 := hk.at' 11 _ rfl; clear hk; rintro _ ⟨q, rfl⟩; simp only [Oper.quietAt]; go_simp) ?_
  clear hk A; intro A hk
  refine q_more hk rfl rfl (by rw [w_some (t := 189) (b := false) rfl (by kernel_rfl) hk rfl]; rfl) (v := .int .i64 (i : Int)) (by have e0 := hk.at' 25 _ rfl; clear hk; rintro _ ⟨q, rfl⟩; simp only [Oper.quietAt]; go_simp) ?_
  clear hk A; intro A hk
  refine q_more hk rfl rfl (by rw [w_some (t := 189) (b := false) rfl (by kernel_rfl) hk rfl]; rfl) (v := .pointer (some ⟨Ba, i, none⟩)) (by have e0 := hk.at' 194 _ rfl; have e1 := hk.at' 195 _ rfl; clear hk; rintro _ ⟨q, rfl⟩; simp only [Oper.quietAt]; go_simp) ?_
  clear hk A; intro A hk
  refine q_more hk rfl rfl (by rw [w_some (t := 189) (b := false) rfl (by kernel_rfl) hk rfl]; rfl) (v := .bool true) (by have e0 := hk.at' 196 _ rfl; clear hk; rintro _ ⟨q, rfl⟩; simp only [Oper.quietAt]; go_simp) ?_
  clear hk A; intro A hk
  refine q_more hk rfl rfl (by rw [w_some (t := 189) (b := false) rfl (by kernel_rfl) hk rfl]; rfl) (v := .bool true) (by have e0 := hk.at' 197 _ rfl; clear hk; rintro _ ⟨q, rfl⟩; simp only [Oper.quietAt]; go_simp) ?_
  clear hk A; intro A hk
  refine q_skip hk rfl rfl (by rw [w_some (t := 198) (b := true) rfl (by kernel_rfl) hk rfl]; rfl) ?_
  clear hk A; intro A hk
  refine q_skip hk rfl rfl (by rw [w_some (t := 198) (b := true) rfl (by kernel_rfl) hk rfl]; rfl) ?_
  clear hk A; intro A hk
  refine q_skip hk rfl rfl (by rw [w_some (t := 198) (b := true) rfl (by kernel_rfl) hk rfl]; rfl) ?_
  clear hk A; intro A hk
  refine q_skip hk rfl rfl (by rw [w_some (t := 198) (b := true) rfl (by kernel_rfl) hk rfl]; rfl) ?_
  clear hk A; intro A hk
  refine q_more hk rfl rfl (by rw [w_some (t := 189) (b := false) rfl (by kernel_rfl) hk rfl]; rfl) (v := .bool true) (by have e0 := hk.at' 198 _ rfl; have e1 := hk.at' 202 _ rfl; clear hk; rintro _ ⟨q, rfl⟩; simp only [Oper.quietAt]; go_simp) ?_
  clear hk A; intro A hk
  refine q_more hk rfl rfl (by rw [w_some (t := 189) (b := false) rfl (by kernel_rfl) hk rfl]; rfl) (v := .bool false) (by have e0 := hk.at' 193 _ rfl; have e1 := hk.at' 203 _ rfl; clear hk; rintro _ ⟨q, rfl⟩; simp only [Oper.quietAt]; go_simp) ?_
  clear hk A; intro A hk
  refine q_more hk rfl rfl (w_none rfl) (v := .bool false) (by have e0 := hk.at' 189 _ rfl; have e1 := hk.at' 204 _ rfl; clear hk; rintro _ ⟨q, rfl⟩; simp only [Oper.quietAt]; go_simp) ?_
  clear hk A; intro A hk
  refine q_more hk rfl rfl (w_none rfl) (v := .bool false) (by have e0 := hk.at' 205 _ rfl; clear hk; rintro _ ⟨q, rfl⟩; simp only [Oper.quietAt]; go_simp) ?_
  clear hk A; intro A hk
  refine q_more hk rfl rfl (by rw [w_some (t := 206) (b := false) rfl (by kernel_rfl) hk rfl]; rfl) (v := .slice (some ⟨Bl, 0, none⟩) n n) (by have e0 := hk.at' 21 _ rfl; clear hk; rintro _ ⟨q, rfl⟩; simp only [Oper.quietAt]; go_simp) ?_
  clear hk A; intro A hk
  refine q_more hk rfl rfl (by rw [w_some (t := 206) (b := false) rfl (by kernel_rfl) hk rfl]; rfl) (v := .int .i64 (i : Int)) (by have e0 := hk.at' 25 _ rfl; clear hk; rintro _ ⟨q, rfl⟩; simp only [Oper.quietAt]; go_simp) ?_
  clear hk A; intro A hk
  refine q_more hk rfl rfl (by rw [w_some (t := 206) (b := false) rfl (by kernel_rfl) hk rfl]; rfl) (v := .pointer (some ⟨Bl, i, none⟩)) (by have e0 := hk.at' 207 _ rfl; have e1 := hk.at' 208 _ rfl; clear hk; rintro _ ⟨q, rfl⟩; simp only [Oper.quietAt]; go_simp) ?_
  clear hk A; intro A hk
  refine q_more hk rfl rfl (by rw [w_some (t := 206) (b := false) rfl (by kernel_rfl) hk rfl]; rfl) (v := .bool xl) (by have e0 := hk.at' 209 _ rfl; clear hk; rintro _ ⟨q, rfl⟩; simp only [Oper.quietAt]; go_simp) ?_
  clear hk A; intro A hk
  refine q_more hk rfl rfl (by rw [w_some (t := 206) (b := false) rfl (by kernel_rfl) hk rfl]; rfl) (v := .slice (some ⟨Ba, 0, none⟩) n n) (by have e0 := hk.at' 11 _ rfl; clear hk; rintro _ ⟨q, rfl⟩; simp only [Oper.quietAt]; go_simp) ?_
  clear hk A; intro A hk
  refine q_more hk rfl rfl (by rw [w_some (t := 206) (b := false) rfl (by kernel_rfl) hk rfl]; rfl) (v := .int .i64 (i : Int)) (by have e0 := hk.at' 25 _ rfl; clear hk; rintro _ ⟨q, rfl⟩; simp only [Oper.quietAt]; go_simp) ?_
  clear hk A; intro A hk
  refine q_more hk rfl rfl (by rw [w_some (t := 206) (b := false) rfl (by kernel_rfl) hk rfl]; rfl) (v := .pointer (some ⟨Ba, i, none⟩)) (by have e0 := hk.at' 211 _ rfl; have e1 := hk.at' 212 _ rfl; clear hk; rintro _ ⟨q, rfl⟩; simp only [Oper.quietAt]; go_simp) ?_
  clear hk A; intro A hk
  refine q_more hk rfl rfl (by rw [w_some (t := 206) (b := false) rfl (by kernel_rfl) hk rfl]; rfl) (v := .bool true) (by have e0 := hk.at' 213 _ rfl; clear hk; rintro _ ⟨q, rfl⟩; simp only [Oper.quietAt]; go_simp) ?_
  clear hk A; intro A hk
  refine q_more hk rfl rfl (by rw [w_some (t := 206) (b := false) rfl (by kernel_rfl) hk rfl]; rfl) (v := .bool true) (by have e0 := hk.at' 214 _ rfl; clear hk; rintro _ ⟨q, rfl⟩; simp only [Oper.quietAt]; go_simp) ?_
  clear hk A; intro A hk
  refine q_more hk rfl rfl (by rw [w_some (t := 215) (b := true) rfl (by kernel_rfl) hk rfl]; rfl) (v := .slice (some ⟨Bl, 0, none⟩) n n) (by have e0 := hk.at' 21 _ rfl; clear hk; rintro _ ⟨q, rfl⟩; simp only [Oper.quietAt]; go_simp) ?_
  clear hk A; intro A hk
  refine q_more hk rfl rfl (by rw [w_some (t := 215) (b := true) rfl (by kernel_rfl) hk rfl]; rfl) (v := .int .i64 (k : Int)) (by have e0 := hk.at' 26 _ rfl; clear hk; rintro _ ⟨q, rfl⟩; simp only [Oper.quietAt]; go_simp) ?_
  clear hk A; intro A hk
  refine q_more hk rfl rfl (by rw [w_some (t := 215) (b := true) rfl (by kernel_rfl) hk rfl]; rfl) (v := .pointer (some ⟨Bl, k, none⟩)) (by have e0 := hk.at' 216 _ rfl; have e1 := hk.at' 217 _ rfl; clear hk; rintro _ ⟨q, rfl⟩; simp only [Oper.quietAt]; go_simp) ?_
  clear hk A; intro A hk
  refine q_more hk rfl rfl (by rw [w_some (t := 215) (b := true) rfl (by kernel_rfl) hk rfl]; rfl) (v := .bool xl) (by have e0 := hk.at' 218 _ rfl; clear hk; rintro _ ⟨q, rfl⟩; simp only [Oper.quietAt]; go_simp) ?_
  clear hk A; intro A hk
  refine q_more hk rfl rfl (by rw [w_some (t := 206) (b := false) rfl (by kernel_rfl) hk rfl]; rfl) (v := .bool xl) (by have e0 := hk.at' 215 _ rfl; have e1 := hk.at' 219 _ rfl; clear hk; rintro _ ⟨q, rfl⟩; simp only [Oper.quietAt]; go_simp) ?_
  clear hk A; intro A hk
  refine q_more hk rfl rfl (by rw [w_some (t := 206) (b := false) rfl (by kernel_rfl) hk rfl]; rfl) (v := .bool false) (by have e0 := hk.at' 210 _ rfl; have e1 := hk.at' 220 _ rfl; clear hk; rintro _ ⟨q, rfl⟩; simp only [Oper.quietAt]; go_simp) ?_
  clear hk A; intro A hk
  refine q_more hk rfl rfl (w_none rfl) (v := .bool false) (by have e0 := hk.at' 206 _ rfl; have e1 := hk.at' 221 _ rfl; clear hk; rintro _ ⟨q, rfl⟩; simp only [Oper.quietAt]; go_simp) ?_
  clear hk A; intro A hk
  refine q_more hk rfl rfl (w_none rfl) (v := .bool false) (by have e0 := hk.at' 222 _ rfl; clear hk; rintro _ ⟨q, rfl⟩; simp only [Oper.quietAt]; go_simp) ?_
  clear hk A; intro A hk
  refine q_more hk rfl rfl (by rw [w_some (t := 223) (b := false) rfl (by kernel_rfl) hk rfl]; rfl) (v := .slice (some ⟨Bt, 0, none⟩) n n) (by have e0 := hk.at' 23 _ rfl; clear hk; rintro _ ⟨q, rfl⟩; simp only [Oper.quietAt]; go_simp) ?_
  clear hk A; intro A hk
  refine q_more hk rfl rfl (by rw [w_some (t := 223) (b := false) rfl (by kernel_rfl) hk rfl]; rfl) (v := .int .i64 (i : Int)) (by have e0 := hk.at' 25 _ rfl; clear hk; rintro _ ⟨q, rfl⟩; simp only [Oper.quietAt]; go_simp) ?_
  clear hk A; intro A hk
  refine q_more hk rfl rfl (by rw [w_some (t := 223) (b := false) rfl (by kernel_rfl) hk rfl]; rfl) (v := .pointer (some ⟨Bt, i, none⟩)) (by have e0 := hk.at' 224 _ rfl; have e1 := hk.at' 225 _ rfl; clear hk; rintro _ ⟨q, rfl⟩; simp only [Oper.quietAt]; go_simp) ?_
  clear hk A; intro A hk
  refine q_more hk rfl rfl (by rw [w_some (t := 223) (b := false) rfl (by kernel_rfl) hk rfl]; rfl) (v := .bool xa2) (by have e0 := hk.at' 226 _ rfl; clear hk; rintro _ ⟨q, rfl⟩; simp only [Oper.quietAt]; go_simp) ?_
  clear hk A; intro A hk
  refine q_more hk rfl rfl (by rw [w_some (t := 223) (b := false) rfl (by kernel_rfl) hk rfl]; rfl) (v := .slice (some ⟨Ba, 0, none⟩) n n) (by have e0 := hk.at' 11 _ rfl; clear hk; rintro _ ⟨q, rfl⟩; simp only [Oper.quietAt]; go_simp) ?_
  clear hk A; intro A hk
  refine q_more hk rfl rfl (by rw [w_some (t := 223) (b := false) rfl (by kernel_rfl) hk rfl]; rfl) (v := .int .i64 (k : Int)) (by have e0 := hk.at' 26 _ rfl; clear hk; rintro _ ⟨q, rfl⟩; simp only [Oper.quietAt]; go_simp) ?_
  clear hk A; intro A hk
  refine q_more hk rfl rfl (by rw [w_some (t := 223) (b := false) rfl (by kernel_rfl) hk rfl]; rfl) (v := .pointer (some ⟨Ba, k, none⟩)) (by have e0 := hk.at' 228 _ rfl; have e1 := hk.at' 229 _ rfl; clear hk; rintro _ ⟨q, rfl⟩; simp only [Oper.quietAt]; go_simp) ?_
  clear hk A; intro A hk
  refine q_more hk rfl rfl (by rw [w_some (t := 223) (b := false) rfl (by kernel_rfl) hk rfl]; rfl) (v := .bool xa2) (by have e0 := hk.at' 230 _ rfl; clear hk; rintro _ ⟨q, rfl⟩; simp only [Oper.quietAt]; go_simp) ?_
  clear hk A; intro A hk
  refine q_more hk rfl rfl (by rw [w_some (t := 223) (b := false) rfl (by kernel_rfl) hk rfl]; rfl) (v := .bool false) (by have e0 := hk.at' 227 _ rfl; have e1 := hk.at' 231 _ rfl; clear hk; rintro _ ⟨q, rfl⟩; simp only [Oper.quietAt]; go_simp) ?_
  clear hk A; intro A hk
  refine q_more hk rfl rfl (w_none rfl) (v := .bool false) (by have e0 := hk.at' 223 _ rfl; have e1 := hk.at' 232 _ rfl; clear hk; rintro _ ⟨q, rfl⟩; simp only [Oper.quietAt]; go_simp) ?_
  clear hk A; intro A hk
  exact hq_nil (hk.at' 233 _ rfl)

set_option maxRecDepth 100000 in
set_option maxHeartbeats 4000000 in
theorem now20_tf {id : Nat} {Q : Exit → Act → World → Prop} {A : Act} {w : World} {n i k Ba Bb Bu Br Bo Bl Bt : Nat} {xu xr xo xl xa2 : Bool}
    (hk : Kn A 272 [(11, .slice (some ⟨Ba, 0, none⟩) n n), (13, .slice (some ⟨Bb, 0, none⟩) n n), (15, .slice (some ⟨Bu, 0, none⟩) n n), (17, .slice (some ⟨Br, 0, none⟩) n n), (19, .slice (some ⟨Bo, 0, none⟩) n n), (21, .slice (some ⟨Bl, 0, none⟩) n n), (23, .slice (some ⟨Bt, 0, none⟩) n n), (25, .int .i64 (i : Int)), (26, .int .i64 (k : Int))])
    (hiI : (i : Int) < (n : Int)) (hi0 : (0 : Int) ≤ (i : Int)) (hkI : (k : Int) < (n : Int)) (hk0 : (0 : Int) ≤ (k : Int))
    (cBai : w.cell? ⟨Ba, i, none⟩ = some (.bool true))
    (cBbi : w.cell? ⟨Bb, i, none⟩ = some (.bool false))
    (cBui : w.cell? ⟨Bu, i, none⟩ = some (.bool xu))
    (cBri : w.cell? ⟨Br, i, none⟩ = some (.bool false))
    (cBoi : w.cell? ⟨Bo, i, none⟩ = some (.bool true))
    (cBli : w.cell? ⟨Bl, i, none⟩ = some (.bool xl))
    (cBti : w.cell? ⟨Bt, i, none⟩ = some (.bool xa2))
    (cBuk : w.cell? ⟨Bu, k, none⟩ = some (.bool xu))
    (cBrk : w.cell? ⟨Br, k, none⟩ = some (.bool xr))
    (cBok : w.cell? ⟨Bo, k, none⟩ = some (.bool xo))
    (cBlk : w.cell? ⟨Bl, k, none⟩ = some (.bool xl))
    (cBak : w.cell? ⟨Ba, k, none⟩ = some (.bool xa2))
    (hQ : ∀ f q, (allL f nowL 0 A).tmps[233]? = some (.bool false) → Q .normal (allL f nowL 0 A) (w.drewN q)) : (Code.region id (List.toArray nowL) true).wp Tryd.prog Q A w := by
  refine quiet_region (by kernel_rfl) nowL_lex (fun b => b.tmps[233]? = some (.bool false)) ?_ hQ
  clear hQ
  refine q_more hk rfl rfl (w_none rfl) (v := .slice (some ⟨Bu, 0, none⟩) n n) (by have e0 := hk.at' 15 _ rfl; clear hk; rintro _ ⟨q, rfl⟩; simp only [Oper.quietAt]; go_simp) ?_
  clear hk; intro A hk
  refine q_more hk rfl rfl (w_none rfl) (v := .int .i64 (i : Int)) (by have e0 := hk.at' 25 _ rfl; clear hk; rintro _ ⟨q, rfl⟩; simp only [Oper.quietAt]; go_simp) ?_
  clear hk A; intro A hk
  refine q_more hk rfl rfl (w_none rfl) (v := .pointer (some ⟨Bu, i, none⟩)) (by have e0 := hk.at' 145 _ rfl; have e1 := hk.at' 146 _ rfl; clear hk; rintro _ ⟨q, rfl⟩; simp only [Oper.quietAt]; go_simp) ?_
  clear hk A; intro A hk
  refine q_more hk rfl rfl (w_none rfl) (v := .bool xu) (by have e0 := hk.at' 147 _ rfl; clear hk; rintro _ ⟨q, rfl⟩; simp only [Oper.quietAt]; go_simp) ?_
  clear hk A; intro A hk
  refine q_more hk rfl rfl (w_none rfl) (v := .slice (some ⟨Bb, 0, none⟩) n n) (by have e0 := hk.at' 13 _ rfl; clear hk; rintro _ ⟨q, rfl⟩; simp only [Oper.quietAt]; go_simp) ?_
  clear hk A; intro A hk
  refine q_more hk rfl rfl (w_none rfl) (v := .int .i64 (i : Int)) (by have e0 := hk.at' 25 _ rfl; clear hk; rintro _ ⟨q, rfl⟩; simp only [Oper.quietAt]; go_simp) ?_
  clear hk A; intro A hk
  refine q_more hk rfl rfl (w_none rfl) (v := .pointer (some ⟨Bb, i, none⟩)) (by have e0 := hk.at' 149 _ rfl; have e1 := hk.at' 150 _ rfl; clear hk; rintro _ ⟨q, rfl⟩; simp only [Oper.quietAt]; go_simp) ?_
  clear hk A; intro A hk
  refine q_more hk rfl rfl (w_none rfl) (v := .bool false) (by have e0 := hk.at' 151 _ rfl; clear hk; rintro _ ⟨q, rfl⟩; simp only [Oper.quietAt]; go_simp) ?_
  clear hk A; intro A hk
  refine q_more hk rfl rfl (w_none rfl) (v := .bool false) (by have e0 := hk.at' 152 _ rfl; clear hk; rintro _ ⟨q, rfl⟩; simp only [Oper.quietAt]; go_simp) ?_
  clear hk A; intro A hk
  refine q_more hk rfl rfl (by rw [w_some (t := 153) (b := false) rfl (by kernel_rfl) hk rfl]; rfl) (v := .slice (some ⟨Ba, 0, none⟩) n n) (by have e0 := hk.at' 11 _ rfl; clear hk; rintro _ ⟨q, rfl⟩; simp only [Oper.quietAt]; go_simp) ?_
  clear hk A; intro A hk
  refine q_more hk rfl rfl (by rw [w_some (t := 153) (b := false) rfl (by kernel_rfl) hk rfl]; rfl) (v := .int .i64 (i : Int)) (by have e0 := hk.at' 25 _ rfl; clear hk; rintro _ ⟨q, rfl⟩; simp only [Oper.quietAt]; go_simp) ?_
  clear hk A; intro A hk
  refine q_more hk rfl rfl (by rw [w_some (t := 153) (b := false) rfl (by kernel_rfl) hk rfl]; rfl) (v := .pointer (some ⟨Ba, i, none⟩)) (by have e0 := hk.at' 154 _ rfl; have e1 := hk.at' 155 _ rfl; clear hk; rintro _ ⟨q, rfl⟩; simp only [Oper.quietAt]; go_simp) ?_
  clear hk A; intro A hk
  refine q_more hk rfl rfl (by rw [w_some (t := 153) (b := false) rfl (by kernel_rfl) hk rfl]; rfl) (v := .bool true) (by have e0 := hk.at' 156 _ rfl; clear hk; rintro _ ⟨q, rfl⟩; simp only [Oper.quietAt]; go_simp) ?_
  clear hk A; intro A hk
  refine q_more hk rfl rfl (by rw [w_some (t := 153) (b := false) rfl (by kernel_rfl) hk rfl]; rfl) (v := .bool true) (by have e0 := hk.at' 157 _ rfl; clear hk; rintro _ ⟨q, rfl⟩; simp only [Oper.quietAt]; go_simp) ?_
  clear hk A; intro A hk
  refine q_more hk rfl rfl (by rw [w_some (t := 158) (b := true) rfl (by kernel_rfl) hk rfl]; rfl) (v := .slice (some ⟨Bu, 0, none⟩) n n) (by have e0 := hk.at' 15 _ rfl; clear hk; rintro _ ⟨q, rfl⟩; simp only [Oper.quietAt]; go_simp) ?_
  clear hk A; intro A hk
  refine q_more hk rfl rfl (by rw [w_some (t := 158) (b := true) rfl (by kernel_rfl) hk rfl]; rfl) (v := .int .i64 (k : Int)) (by have e0 := hk.at' 26 _ rfl; clear hk; rintro _ ⟨q, rfl⟩; simp only [Oper.quietAt]; go_simp) ?_
  clear hk A; intro A hk
  refine q_more hk rfl rfl (by rw [w_some (t := 158) (b := true) rfl (by kernel_rfl) hk rfl]; rfl) (v := .pointer (some ⟨Bu, k, none⟩)) (by have e0 := hk.at' 159 _ rfl; have e1 := hk.at' 160 _ rfl; clear hk; rintro _ ⟨q, rfl⟩; simp only [Oper.quietAt]; go_simp) ?_
  clear hk A; intro A hk
  refine q_more hk rfl rfl (by rw [w_some (t := 158) (b := true) rfl (by kernel_rfl) hk rfl]; rfl) (v := .bool xu) (by have e0 := hk.at' 161 _ rfl; clear hk; rintro _ ⟨q, rfl⟩; simp only [Oper.quietAt]; go_simp) ?_
  clear hk A; intro A hk
  refine q_more hk rfl rfl (by rw [w_some (t := 153) (b := false) rfl (by kernel_rfl) hk rfl]; rfl) (v := .bool xu) (by have e0 := hk.at' 158 _ rfl; have e1 := hk.at' 162 _ rfl; clear hk; rintro _ ⟨q, rfl⟩; simp only [Oper.quietAt]; go_simp) ?_
  clear hk A; intro A hk
  refine q_more hk rfl rfl (w_none rfl) (v := .bool xu) (by have e0 := hk.at' 153 _ rfl; have e1 := hk.at' 163 _ rfl; clear hk; rintro _ ⟨q, rfl⟩; simp only [Oper.quietAt]; go_simp) ?_
  clear hk A; intro A hk
  refine q_more hk rfl rfl (w_none rfl) (v := .bool false) (by have e0 := hk.at' 148 _ rfl; have e1 := hk.at' 164 _ rfl; clear hk; rintro _ ⟨q, rfl⟩; simp only [Oper.quietAt]; go_simp) ?_
  clear hk A; intro A hk
  refine q_more hk rfl rfl (w_none rfl) (v := .bool false) (by have e0 := hk.at' 165 _ rfl; clear hk; rintro _ ⟨q, rfl⟩; simp only [Oper.quietAt]; go_simp) ?_
  clear hk A; intro A hk
  refine q_more hk rfl rfl (by rw [w_some (t := 166) (b := false) rfl (by kernel_rfl) hk rfl]; rfl) (v := .slice (some ⟨Br, 0, none⟩) n n) (by have e0 := hk.at' 17 _ rfl; clear hk; rintro _ ⟨q, rfl⟩; simp only [Oper.quietAt]; go_simp) ?_
  clear hk A; intro A hk
  refine q_more hk rfl rfl (by rw [w_some (t := 166) (b := false) rfl (by kernel_rfl) hk rfl]; rfl) (v := .int .i64 (i : Int)) (by have e0 := hk.at' 25 _ rfl; clear hk; rintro _ ⟨q, rfl⟩; simp only [Oper.quietAt]; go_simp) ?_
  clear hk A; intro A hk
  refine q_more hk rfl rfl (by rw [w_some (t := 166) (b := false) rfl (by kernel_rfl) hk rfl]; rfl) (v := .pointer (some ⟨Br, i, none⟩)) (by have e0 := hk.at' 167 _ rfl; have e1 := hk.at' 168 _ rfl; clear hk; rintro _ ⟨q, rfl⟩; simp only [Oper.quietAt]; go_simp) ?_
  clear hk A; intro A hk
  refine q_more hk rfl rfl (by rw [w_some (t := 166) (b := false) rfl (by kernel_rfl) hk rfl]; rfl) (v := .bool false) (by have e0 := hk.at' 169 _ rfl; clear hk; rintro _ ⟨q, rfl⟩; simp only [Oper.quietAt]; go_simp) ?_
  clear hk A; intro A hk
  refine q_more hk rfl rfl (by rw [w_some (t := 166) (b := false) rfl (by kernel_rfl) hk rfl]; rfl) (v := .slice (some ⟨Bb, 0, none⟩) n n) (by have e0 := hk.at' 13 _ rfl; clear hk; rintro _ ⟨q, rfl⟩; simp only [Oper.quietAt]; go_simp) ?_
  clear hk A; intro A hk
  refine q_more hk rfl rfl (by rw [w_some (t := 166) (b := false) rfl (by kernel_rfl) hk rfl]; rfl) (v := .int .i64 (i : Int)) (by have e0 := hk.at' 25 _ rfl; clear hk; rintro _ ⟨q, rfl⟩; simp only [Oper.quietAt]; go_simp) ?_
  clear hk A; intro A hk
  refine q_more hk rfl rfl (by rw [w_some (t := 166) (b := false) rfl (by kernel_rfl) hk rfl]; rfl) (v := .pointer (some ⟨Bb, i, none⟩)) (by have e0 := hk.at' 171 _ rfl; have e1 := hk.at' 172 _ rfl; clear hk; rintro _ ⟨q, rfl⟩; simp only [Oper.quietAt]; go_simp) ?_
  clear hk A; intro A hk
  refine q_more hk rfl rfl (by rw [w_some (t := 166) (b := false) rfl (by kernel_rfl) hk rfl]; rfl) (v := .bool false) (by have e0 := hk.at' 173 _ rfl; clear hk; rintro _ ⟨q, rfl⟩; simp only [Oper.quietAt]; go_simp) ?_
  clear hk A; intro A hk
  refine q_more hk rfl rfl (by rw [w_some (t := 166) (b := false) rfl (by kernel_rfl) hk rfl]; rfl) (v := .bool false) (by have e0 := hk.at' 174 _ rfl; clear hk; rintro _ ⟨q, rfl⟩; simp only [Oper.quietAt]; go_simp) ?_
  clear hk A; intro A hk
  refine q_skip hk rfl rfl (by rw [w_some (t := 175) (b := false) rfl (by kernel_rfl) hk rfl]; rfl) ?_
  clear hk A; intro A hk
  refine q_skip hk rfl rfl (by rw [w_some (t := 175) (b := false) rfl (by kernel_rfl) hk rfl]; rfl) ?_
  clear hk A; intro A hk
  refine q_skip hk rfl rfl (by rw [w_some (t := 175) (b := false) rfl (by kernel_rfl) hk rfl]; rfl) ?_
  clear hk A; intro A hk
  refine q_skip hk rfl rfl (by rw [w_some (t := 175) (b := false) rfl (by kernel_rfl) hk rfl]; rfl) ?_
  clear hk A; intro A hk
  refine q_skip hk rfl rfl (by rw [w_some (t := 175) (b := false) rfl (by kernel_rfl) hk rfl]; rfl) ?_
  clear hk A; intro A hk
  refine q_skip hk rfl rfl (w_undef (t := 180) rfl (by kernel_rfl) hk rfl) ?_
  clear hk A; intro A hk
  refine q_skip hk rfl rfl (w_undef (t := 180) rfl (by kernel_rfl) hk rfl) ?_
  clear hk A; intro A hk
  refine q_skip hk rfl rfl (w_undef (t := 180) rfl (by kernel_rfl) hk rfl) ?_
  clear hk A; intro A hk
  refine q_skip hk rfl rfl (w_undef (t := 180) rfl (by kernel_rfl) hk rfl) ?_
  clear hk A; intro A hk
  refine q_skip hk rfl rfl (by rw [w_some (t := 175) (b := false) rfl (by kernel_rfl) hk rfl]; rfl) ?_
  clear hk A; intro A hk
  refine q_more hk rfl rfl (by rw [w_some (t := 166) (b := false) rfl (by kernel_rfl) hk rfl]; rfl) (v := .bool false) (by have e0 := hk.at' 175 _ rfl; have e1 := hk.at' 185 _ rfl; clear hk; rintro _ ⟨q, rfl⟩; simp only [Oper.quietAt]; go_simp) ?_
  clear hk A; intro A hk
  refine q_more hk rfl rfl (by rw [w_some (t := 166) (b := false) rfl (by kernel_rfl) hk rfl]; rfl) (v := .bool false) (by have e0 := hk.at' 170 _ rfl; have e1 := hk.at' 186 _ rfl; clear hk; rintro _ ⟨q, rfl⟩; simp only [Oper.quietAt]; go_simp) ?_
  clear hk A; intro A hk
  refine q_more hk rfl rfl (w_none rfl) (v := .bool false) (by have e0 := hk.at' 166 _ rfl; have e1 := hk.at' 187 _ rfl; clear hk; rintro _ ⟨q, rfl⟩; simp only [Oper.quietAt]; go_simp) ?_
  clear hk A; intro A hk
  refine q_more hk rfl rfl (w_none rfl) (v := .bool false) (by have e0 := hk.at' 188 _ rfl; clear hk; rintro _ ⟨q, rfl⟩; simp only [Oper.quietAt]; go_simp) ?_
  clear hk A; intro A hk
  refine q_more hk rfl rfl (by rw [w_some (t := 189) (b := false) rfl (by kernel_rfl) hk rfl]; rfl) (v := .slice (some ⟨Bo, 0, none⟩) n n) (by have e0 := hk.at' 19 _ rfl; clear hk; rintro _ ⟨q, rfl⟩; simp only [Oper.quietAt]; go_simp) ?_
  clear hk A; intro A hk
  refine q_more hk rfl rfl (by rw [w_some (t := 189) (b := false) rfl (by kernel_rfl) hk rfl]; rfl) (v := .int .i64 (i : Int)) (by have e0 := hk.at' 25 _ rfl; clear hk; rintro _ ⟨q, rfl⟩; simp only [Oper.quietAt]; go_simp) ?_
  clear hk A; intro A hk
  refine q_more hk rfl rfl (by rw [w_some (t := 189) (b := false) rfl (by kernel_rfl) hk rfl]; rfl) (v := .pointer (some ⟨Bo, i, none⟩)) (by have e0 := hk.at' 190 _ rfl; have e1 := hk.at' 191 _ rfl; clear hk; rintro _ ⟨q, rfl⟩; simp only [Oper.quietAt]; go_simp) ?_
  clear hk A; intro A hk
  refine q_more hk rfl rfl (by rw [w_some (t := 189) (b := false) rfl (by kernel_rfl) hk rfl]; rfl) (v := .bool true) (by have e0 := hk.at' 192 _ rfl; clear hk; rintro _ ⟨q, rfl⟩; simp only [Oper.quietAt]; go_simp) ?_
  clear hk A; intro A hk
  refine q_more hk rfl rfl (by rw [w_some (t := 189) (b := false) rfl (by kernel_rfl) hk rfl]; rfl) (v := .slice (some ⟨Ba, 0, none⟩) n n) (by have e0 := hk.at' 11 _ rfl; clear hk; rintro _ ⟨q, rfl⟩; simp only [Oper.quietAt]; go_simp) ?_
  clear hk A; intro A hk
  refine q_more hk rfl rfl (by rw [w_some (t := 189) (b := false) rfl (by kernel_rfl) hk rfl]; rfl) (v := .int .i64 (i : Int)) (by have e0 := hk.at' 25 _ rfl; clear hk; rintro _ ⟨q, rfl⟩; simp only [Oper.quietAt]; go_simp) ?_
  clear hk A; intro A hk
  refine q_more hk rfl rfl (by rw [w_some (t := 189) (b := false) rfl (by kernel_rfl) hk rfl]; rfl) (v := .pointer (some ⟨Ba, i, none⟩)) (by have e0 := hk.at' 194 _ rfl; have e1 := hk.at' 195 _ rfl; clear hk; rintro _ ⟨q, rfl⟩; simp only [Oper.quietAt]; go_simp) ?_
  clear hk A; intro A hk
  refine q_more hk rfl rfl (by rw [w_some (t := 189) (b := false) rfl (by kernel_rfl) hk rfl]; rfl) (v := .bool true) (by have e0 := hk.at' 196 _ rfl; clear hk; rintro _ ⟨q, rfl⟩; simp only [Oper.quietAt]; go_simp) ?_
  clear hk A; intro A hk
  refine q_more hk rfl rfl (by rw [w_some (t := 189) (b := false) rfl (by kernel_rfl) hk rfl]; rfl) (v := .bool true) (by have e0 := hk.at' 197 _ rfl; clear hk; rintro _ ⟨q, rfl⟩; simp only [Oper.quietAt]; go_simp) ?_
  clear hk A; intro A hk
  refine q_skip hk rfl rfl (by rw [w_some (t := 198) (b := true) rfl (by kernel_rfl) hk rfl]; rfl) ?_
  clear hk A; intro A hk
  refine q_skip hk rfl rfl (by rw [w_some (t := 198) (b := true) rfl (by kernel_rfl) hk rfl]; rfl) ?_
  clear hk A; intro A hk
  refine q_skip hk rfl rfl (by rw [w_some (t := 198) (b := true) rfl (by kernel_rfl) hk rfl]; rfl) ?_
  clear hk A; intro A hk
  refine q_skip hk rfl rfl (by rw [w_some (t := 198) (b := true) rfl (by kernel_rfl) hk rfl]; rfl) ?_
  clear hk A; intro A hk
  refine q_more hk rfl rfl (by rw [w_some (t := 189) (b := false) rfl (by kernel_rfl) hk rfl]; rfl) (v := .bool true) (by have e0 := hk.at' 198 _ rfl; have e1 := hk.at' 202 _ rfl; clear hk; rintro _ ⟨q, rfl⟩; simp only [Oper.quietAt]; go_simp) ?_
  clear hk A; intro A hk
  refine q_more hk rfl rfl (by rw [w_some (t := 189) (b := false) rfl (by kernel_rfl) hk rfl]; rfl) (v := .bool false) (by have e0 := hk.at' 193 _ rfl; have e1 := hk.at' 203 _ rfl; clear hk; rintro _ ⟨q, rfl⟩; simp only [Oper.quietAt]; go_simp) ?_
  clear hk A; intro A hk
  refine q_more hk rfl rfl (w_none rfl) (v := .bool false) (by have e0 := hk.at' 189 _ rfl; have e1 := hk.at' 204 _ rfl; clear hk; rintro _ ⟨q, rfl⟩; simp only [Oper.quietAt]; go_simp) ?_
  clear hk A; intro A hk
  refine q_more hk rfl rfl (w_none rfl) (v := .bool false) (by have e0 := hk.at' 205 _ rfl; clear hk; rintro _ ⟨q, rfl⟩; simp only [Oper.quietAt]; go_simp) ?_
  clear hk A; intro A hk
  refine q_more hk rfl rfl (by rw [w_some (t := 206) (b := false) rfl (by kernel_rfl) hk rfl]; rfl) (v := .slice (some ⟨Bl, 0, none⟩) n n) (by have e0 := hk.at' 21 _ rfl; clear hk; rintro _ ⟨q, rfl⟩; simp only [Oper.quietAt]; go_simp) ?_
  clear hk A; intro A hk
  refine q_more hk rfl rfl (by rw [w_some (t := 206) (b := false) rfl (by kernel_rfl) hk rfl]; rfl) (v := .int .i64 (i : Int)) (by have e0 := hk.at' 25 _ rfl; clear hk; rintro _ ⟨q, rfl⟩; simp only [Oper.quietAt]; go_simp) ?_
  clear hk A; intro A hk
  refine q_more hk rfl rfl (by rw [w_some (t := 206) (b := false) rfl (by kernel_rfl) hk rfl]; rfl) (v := .pointer (some ⟨Bl, i, none⟩)) (by have e0 := hk.at' 207 _ rfl; have e1 := hk.at' 208 _ rfl; clear hk; rintro _ ⟨q, rfl⟩; simp only [Oper.quietAt]; go_simp) ?_
  clear hk A; intro A hk
  refine q_more hk rfl rfl (by rw [w_some (t := 206) (b := false) rfl (by kernel_rfl) hk rfl]; rfl) (v := .bool xl) (by have e0 := hk.at' 209 _ rfl; clear hk; rintro _ ⟨q, rfl⟩; simp only [Oper.quietAt]; go_simp) ?_
  clear hk A; intro A hk
  refine q_more hk rfl rfl (by rw [w_some (t := 206) (b := false) rfl (by kernel_rfl) hk rfl]; rfl) (v := .slice (some ⟨Ba, 0, none⟩) n n) (by have e0 := hk.at' 11 _ rfl; clear hk; rintro _ ⟨q, rfl⟩; simp only [Oper.quietAt]; go_simp) ?_
  clear hk A; intro A hk
  refine q_more hk rfl rfl (by rw [w_some (t := 206) (b := false) rfl (by kernel_rfl) hk rfl]; rfl) (v := .int .i64 (i : Int)) (by have e0 := hk.at' 25 _ rfl; clear hk; rintro _ ⟨q, rfl⟩; simp only [Oper.quietAt]; go_simp) ?_
  clear hk A; intro A hk
  refine q_more hk rfl rfl (by rw [w_some (t := 206) (b := false) rfl (by kernel_rfl) hk rfl]; rfl) (v := .pointer (some ⟨Ba, i, none⟩)) (by have e0 := hk.at' 211 _ rfl; have e1 := hk.at' 212 _ rfl; clear hk; rintro _ ⟨q, rfl⟩; simp only [Oper.quietAt]; go_simp) ?_
  clear hk A; intro A hk
  refine q_more hk rfl rfl (by rw [w_some (t := 206) (b := false) rfl (by kernel_rfl) hk rfl]; rfl) (v := .bool true) (by have e0 := hk.at' 213 _ rfl; clear hk; rintro _ ⟨q, rfl⟩; simp only [Oper.quietAt]; go_simp) ?_
  clear hk A; intro A hk
  refine q_more hk rfl rfl (by rw [w_some (t := 206) (b := false) rfl (by kernel_rfl) hk rfl]; rfl) (v := .bool true) (by have e0 := hk.at' 214 _ rfl; clear hk; rintro _ ⟨q, rfl⟩; simp only [Oper.quietAt]; go_simp) ?_
  clear hk A; intro A hk
  refine q_more hk rfl rfl (by rw [w_some (t := 215) (b := true) rfl (by kernel_rfl) hk rfl]; rfl) (v := .slice (some ⟨Bl, 0, none⟩) n n) (by have e0 := hk.at' 21 _ rfl; clear hk; rintro _ ⟨q, rfl⟩; simp only [Oper.quietAt]; go_simp) ?_
  clear hk A; intro A hk
  refine q_more hk rfl rfl (by rw [w_some (t := 215) (b := true) rfl (by kernel_rfl) hk rfl]; rfl) (v := .int .i64 (k : Int)) (by have e0 := hk.at' 26 _ rfl; clear hk; rintro _ ⟨q, rfl⟩; simp only [Oper.quietAt]; go_simp) ?_
  clear hk A; intro A hk
  refine q_more hk rfl rfl (by rw [w_some (t := 215) (b := true) rfl (by kernel_rfl) hk rfl]; rfl) (v := .pointer (some ⟨Bl, k, none⟩)) (by have e0 := hk.at' 216 _ rfl; have e1 := hk.at' 217 _ rfl; clear hk; rintro _ ⟨q, rfl⟩; simp only [Oper.quietAt]; go_simp) ?_
  clear hk A; intro A hk
  refine q_more hk rfl rfl (by rw [w_some (t := 215) (b := true) rfl (by kernel_rfl) hk rfl]; rfl) (v := .bool xl) (by have e0 := hk.at' 218 _ rfl; clear hk; rintro _ ⟨q, rfl⟩; simp only [Oper.quietAt]; go_simp) ?_
  clear hk A; intro A hk
  refine q_more hk rfl rfl (by rw [w_some (t := 206) (b := false) rfl (by kernel_rfl) hk rfl]; rfl) (v := .bool xl) (by have e0 := hk.at' 215 _ rfl; have e1 := hk.at' 219 _ rfl; clear hk; rintro _ ⟨q, rfl⟩; simp only [Oper.quietAt]; go_simp) ?_
  clear hk A; intro A hk
  refine q_more hk rfl rfl (by rw [w_some (t := 206) (b := false) rfl (by kernel_rfl) hk rfl]; rfl) (v := .bool false) (by have e0 := hk.at' 210 _ rfl; have e1 := hk.at' 220 _ rfl; clear hk; rintro _ ⟨q, rfl⟩; simp only [Oper.quietAt]; go_simp) ?_
  clear hk A; intro A hk
  refine q_more hk rfl rfl (w_none rfl) (v := .bool false) (by have e0 := hk.at' 206 _ rfl; have e1 := hk.at' 221 _ rfl; clear hk; rintro _ ⟨q, rfl⟩; simp only [Oper.quietAt]; go_simp) ?_
  clear hk A; intro A hk
  refine q_more hk rfl rfl (w_none rfl) (v := .bool false) (by have e0 := hk.at' 222 _ rfl; clear hk; rintro _ ⟨q, rfl⟩; simp only [Oper.quietAt]; go_simp) ?_
  clear hk A; intro A hk
  refine q_more hk rfl rfl (by rw [w_some (t := 223) (b := false) rfl (by kernel_rfl) hk rfl]; rfl) (v := .slice (some ⟨Bt, 0, none⟩) n n) (by have e0 := hk.at' 23 _ rfl; clear hk; rintro _ ⟨q, rfl⟩; simp only [Oper.quietAt]; go_simp) ?_
  clear hk A; intro A hk
  refine q_more hk rfl rfl (by rw [w_some (t := 223) (b := false) rfl (by kernel_rfl) hk rfl]; rfl) (v := .int .i64 (i : Int)) (by have e0 := hk.at' 25 _ rfl; clear hk; rintro _ ⟨q, rfl⟩; simp only [Oper.quietAt]; go_simp) ?_
  clear hk A; intro A hk
  refine q_more hk rfl rfl (by rw [w_some (t := 223) (b := false) rfl (by kernel_rfl) hk rfl]; rfl) (v := .pointer (some ⟨Bt, i, none⟩)) (by have e0 := hk.at' 224 _ rfl; have e1 := hk.at' 225 _ rfl; clear hk; rintro _ ⟨q, rfl⟩; simp only [Oper.quietAt]; go_simp) ?_
  clear hk A; intro A hk
  refine q_more hk rfl rfl (by rw [w_some (t := 223) (b := false) rfl (by kernel_rfl) hk rfl]; rfl) (v := .bool xa2) (by have e0 := hk.at' 226 _ rfl; clear hk; rintro _ ⟨q, rfl⟩; simp only [Oper.quietAt]; go_simp) ?_
  clear hk A; intro A hk
  refine q_more hk rfl rfl (by rw [w_some (t := 223) (b := false) rfl (by kernel_rfl) hk rfl]; rfl) (v := .slice (some ⟨Ba, 0, none⟩) n n) (by have e0 := hk.at' 11 _ rfl; clear hk; rintro _ ⟨q, rfl⟩; simp only [Oper.quietAt]; go_simp) ?_
  clear hk A; intro A hk
  refine q_more hk rfl rfl (by rw [w_some (t := 223) (b := false) rfl (by kernel_rfl) hk rfl]; rfl) (v := .int .i64 (k : Int)) (by have e0 := hk.at' 26 _ rfl; clear hk; rintro _ ⟨q, rfl⟩; simp only [Oper.quietAt]; go_simp) ?_
  clear hk A; intro A hk
  refine q_more hk rfl rfl (by rw [w_some (t := 223) (b := false) rfl (by kernel_rfl) hk rfl]; rfl) (v := .pointer (some ⟨Ba, k, none⟩)) (by have e0 := hk.at' 228 _ rfl; have e1 := hk.at' 229 _ rfl; clear hk; rintro _ ⟨q, rfl⟩; simp only [Oper.quietAt]; go_simp) ?_
  clear hk A; intro A hk
  refine q_more hk rfl rfl (by rw [w_some (t := 223) (b := false) rfl (by kernel_rfl) hk rfl]; rfl) (v := .bool xa2) (by have e0 := hk.at' 230 _ rfl; clear hk; rintro _ ⟨q, rfl⟩; simp only [Oper.quietAt]; go_simp) ?_
  clear hk A; intro A hk
  refine q_more hk rfl rfl (by rw [w_some (t := 223) (b := false) rfl (by kernel_rfl) hk rfl]; rfl) (v := .bool false) (by have e0 := hk.at' 227 _ rfl; have e1 := hk.at' 231 _ rfl; clear hk; rintro _ ⟨q, rfl⟩; simp only [Oper.quietAt]; go_simp) ?_
  clear hk A; intro A hk
  refine q_more hk rfl rfl (w_none rfl) (v := .bool false) (by have e0 := hk.at' 223 _ rfl; have e1 := hk.at' 232 _ rfl; clear hk; rintro _ ⟨q, rfl⟩; simp only [Oper.quietAt]; go_simp) ?_
  clear hk A; intro A hk
  exact hq_nil (hk.at' 233 _ rfl)

set_option maxRecDepth 100000 in
set_option maxHeartbeats 4000000 in
theorem now20_ft {id : Nat} {Q : Exit → Act → World → Prop} {A : Act} {w : World} {n i k Ba Bb Bu Br Bo Bl Bt : Nat} {xu xr xo xl xa2 : Bool}
    (hk : Kn A 272 [(11, .slice (some ⟨Ba, 0, none⟩) n n), (13, .slice (some ⟨Bb, 0, none⟩) n n), (15, .slice (some ⟨Bu, 0, none⟩) n n), (17, .slice (some ⟨Br, 0, none⟩) n n), (19, .slice (some ⟨Bo, 0, none⟩) n n), (21, .slice (some ⟨Bl, 0, none⟩) n n), (23, .slice (some ⟨Bt, 0, none⟩) n n), (25, .int .i64 (i : Int)), (26, .int .i64 (k : Int))])
    (hiI : (i : Int) < (n : Int)) (hi0 : (0 : Int) ≤ (i : Int)) (hkI : (k : Int) < (n : Int)) (hk0 : (0 : Int) ≤ (k : Int))
    (cBai : w.cell? ⟨Ba, i, none⟩ = some (.bool false))
    (cBbi : w.cell? ⟨Bb, i, none⟩ = some (.bool true))
    (cBui : w.cell? ⟨Bu, i, none⟩ = some (.bool true))
    (cBri : w.cell? ⟨Br, i, none⟩ = some (.bool xr))
    (cBoi : w.cell? ⟨Bo, i, none⟩ = some (.bool xo))
    (cBli : w.cell? ⟨Bl, i, none⟩ = some (.bool false))
    (cBti : w.cell? ⟨Bt, i, none⟩ = some (.bool xa2))
    (cBuk : w.cell? ⟨Bu, k, none⟩ = some (.bool xu))
    (cBrk : w.cell? ⟨Br, k, none⟩ = some (.bool xr))
    (cBok : w.cell? ⟨Bo, k, none⟩ = some (.bool xo))
    (cBlk : w.cell? ⟨Bl, k, none⟩ = some (.bool xl))
    (cBak : w.cell? ⟨Ba, k, none⟩ = some (.bool xa2))
    (hQ : ∀ f q, (allL f nowL 0 A).tmps[233]? = some (.bool false) → Q .normal (allL f nowL 0 A) (w.drewN q)) : (Code.region id (List.toArray nowL) true).wp Tryd.prog Q A w := by
  refine quiet_region (by kernel_rfl) nowL_lex (fun b => b.tmps[233]? = some (.bool false)) ?_ hQ
  clear hQ
  refine q_more hk rfl rfl (w_none rfl) (v := .slice (some ⟨Bu, 0, none⟩) n n) (by have e0 := hk.at' 15 _ rfl; clear hk; rintro _ ⟨q, rfl⟩; simp only [Oper.quietAt]; go_simp) ?_
  clear hk; intro A hk
  refine q_more hk rfl rfl (w_none rfl) (v := .int .i64 (i : Int)) (by have e0 := hk.at' 25 _ rfl; clear hk; rintro _ ⟨q, rfl⟩; simp only [Oper.quietAt]; go_simp) ?_
  clear hk A; intro A hk
  refine q_more hk rfl rfl (w_none rfl) (v := .pointer (some ⟨Bu, i, none⟩)) (by have e0 := hk.at' 145 _ rfl; have e1 := hk.at' 146 _ rfl; clear hk; rintro _ ⟨q, rfl⟩; simp only [Oper.quietAt]; go_simp) ?_
  clear hk A; intro A hk
  refine q_more hk rfl rfl (w_none rfl) (v := .bool true) (by have e0 := hk.at' 147 _ rfl; clear hk; rintro _ ⟨q, rfl⟩; simp only [Oper.quietAt]; go_simp) ?_
  clear hk A; intro A hk
  refine q_more hk rfl rfl (w_none rfl) (v := .slice (some ⟨Bb, 0, none⟩) n n) (by have e0 := hk.at' 13 _ rfl; clear hk; rintro _ ⟨q, rfl⟩; simp only [Oper.quietAt]; go_simp) ?_
  clear hk A; intro A hk
  refine q_more hk rfl rfl (w_none rfl) (v := .int .i64 (i : Int)) (by have e0 := hk.at' 25 _ rfl; clear hk; rintro _ ⟨q, rfl⟩; simp only [Oper.quietAt]; go_simp) ?_
  clear hk A; intro A hk
  refine q_more hk rfl rfl (w_none rfl) (v := .pointer (some ⟨Bb, i, none⟩)) (by have e0 := hk.at' 149 _ rfl; have e1 := hk.at' 150 _ rfl; clear hk; rintro _ ⟨q, rfl⟩; simp only [Oper.quietAt]; go_simp) ?_
  clear hk A; intro A hk
  refine q_more hk rfl rfl (w_none rfl) (v := .bool true) (by have e0 := hk.at' 151 _ rfl; clear hk; rintro _ ⟨q, rfl⟩; simp only [Oper.quietAt]; go_simp) ?_
  clear hk A; intro A hk
  refine q_more hk rfl rfl (w_none rfl) (v := .bool true) (by have e0 := hk.at' 152 _ rfl; clear hk; rintro _ ⟨q, rfl⟩; simp only [Oper.quietAt]; go_simp) ?_
  clear hk A; intro A hk
  refine q_skip hk rfl rfl (by rw [w_some (t := 153) (b := true) rfl (by kernel_rfl) hk rfl]; rfl) ?_
  clear hk A; intro A hk
  refine q_skip hk rfl rfl (by rw [w_some (t := 153) (b := true) rfl (by kernel_rfl) hk rfl]; rfl) ?_
  clear hk A; intro A hk
  refine q_skip hk rfl rfl (by rw [w_some (t := 153) (b := true) rfl (by kernel_rfl) hk rfl]; rfl) ?_
  clear hk A; intro A hk
  refine q_skip hk rfl rfl (by rw [w_some (t := 153) (b := true) rfl (by kernel_rfl) hk rfl]; rfl) ?_
  clear hk A; intro A hk
  refine q_skip hk rfl rfl (by rw [w_some (t := 153) (b := true) rfl (by kernel_rfl) hk rfl]; rfl) ?_
  clear hk A; intro A hk
  refine q_skip hk rfl rfl (w_undef (t := 158) rfl (by kernel_rfl) hk rfl) ?_
  clear hk A; intro A hk
  refine q_skip hk rfl rfl (w_undef (t := 158) rfl (by kernel_rfl) hk rfl) ?_
  clear hk A; intro A hk
  refine q_skip hk rfl rfl (w_undef (t := 158) rfl (by kernel_rfl) hk rfl) ?_
  clear hk A; intro A hk
  refine q_skip hk rfl rfl (w_undef (t := 158) rfl (by kernel_rfl) hk rfl) ?_
  clear hk A; intro A hk
  refine q_skip hk rfl rfl (by rw [w_some (t := 153) (b := true) rfl (by kernel_rfl) hk rfl]; rfl) ?_
  clear hk A; intro A hk
  refine q_more hk rfl rfl (w_none rfl) (v := .bool true) (by have e0 := hk.at' 153 _ rfl; have e1 := hk.at' 163 _ rfl; clear hk; rintro _ ⟨q, rfl⟩; simp only [Oper.quietAt]; go_simp) ?_
  clear hk A; intro A hk
  refine q_more hk rfl rfl (w_none rfl) (v := .bool false) (by have e0 := hk.at' 148 _ rfl; have e1 := hk.at' 164 _ rfl; clear hk; rintro _ ⟨q, rfl⟩; simp only [Oper.quietAt]; go_simp) ?_
  clear hk A; intro A hk
  refine q_more hk rfl rfl (w_none rfl) (v := .bool false) (by have e0 := hk.at' 165 _ rfl; clear hk; rintro _ ⟨q, rfl⟩; simp only [Oper.quietAt]; go_simp) ?_
  clear hk A; intro A hk
  refine q_more hk rfl rfl (by rw [w_some (t := 166) (b := false) rfl (by kernel_rfl) hk rfl]; rfl) (v := .slice (some ⟨Br, 0, none⟩) n n) (by have e0 := hk.at' 17 _ rfl; clear hk; rintro _ ⟨q, rfl⟩; simp only [Oper.quietAt]; go_simp) ?_
  clear hk A; intro A hk
  refine q_more hk rfl rfl (by rw [w_some (t := 166) (b := false) rfl (by kernel_rfl) hk rfl]; rfl) (v := .int .i64 (i : Int)) (by have e0 := hk.at' 25 _ rfl; clear hk; rintro _ ⟨q, rfl⟩; simp only [Oper.quietAt]; go_simp) ?_
  clear hk A; intro A hk
  refine q_more hk rfl rfl (by rw [w_some (t := 166) (b := false) rfl (by kernel_rfl) hk rfl]; rfl) (v := .pointer (some ⟨Br, i, none⟩)) (by have e0 := hk.at' 167 _ rfl; have e1 := hk.at' 168 _ rfl; clear hk; rintro _ ⟨q, rfl⟩; simp only [Oper.quietAt]; go_simp) ?_
  clear hk A; intro A hk
  refine q_more hk rfl rfl (by rw [w_some (t := 166) (b := false) rfl (by kernel_rfl) hk rfl]; rfl) (v := .bool xr) (by have e0 := hk.at' 169 _ rfl; clear hk; rintro _ ⟨q, rfl⟩; simp only [Oper.quietAt]; go_simp) ?_
  clear hk A; intro A hk
  refine q_more hk rfl rfl (by rw [w_some (t := 166) (b := false) rfl (by kernel_rfl) hk rfl]; rfl) (v := .slice (some ⟨Bb, 0, none⟩) n n) (by have e0 := hk.at' 13 _ rfl; clear hk; rintro _ ⟨q, rfl⟩; simp only [Oper.quietAt]; go_simp) ?_
  clear hk A; intro A hk
  refine q_more hk rfl rfl (by rw [w_some (t := 166) (b := false) rfl (by kernel_rfl) hk rfl]; rfl) (v := .int .i64 (i : Int)) (by have e0 := hk.at' 25 _ rfl; clear hk; rintro _ ⟨q, rfl⟩; simp only [Oper.quietAt]; go_simp) ?_
  clear hk A; intro A hk
  refine q_more hk rfl rfl (by rw [w_some (t := 166) (b := false) rfl (by kernel_rfl) hk rfl]; rfl) (v := .pointer (some ⟨Bb, i, none⟩)) (by have e0 := hk.at' 171 _ rfl; have e1 := hk.at' 172 _ rfl; clear hk; rintro _ ⟨q, rfl⟩; simp only [Oper.quietAt]; go_simp) ?_
  clear hk A; intro A hk
  refine q_more hk rfl rfl (by rw [w_some (t := 166) (b := false) rfl (by kernel_rfl) hk rfl]; rfl) (v := .bool true) (by have e0 := hk.at' 173 _ rfl; clear hk; rintro _ ⟨q, rfl⟩; simp only [Oper.quietAt]; go_simp) ?_
  clear hk A; intro A hk
  refine q_more hk rfl rfl (by rw [w_some (t := 166) (b := false) rfl (by kernel_rfl) hk rfl]; rfl) (v := .bool true) (by have e0 := hk.at' 174 _ rfl; clear hk; rintro _ ⟨q, rfl⟩; simp only [Oper.quietAt]; go_simp) ?_
  clear hk A; intro A hk
  refine q_more hk rfl rfl (by rw [w_some (t := 175) (b := true) rfl (by kernel_rfl) hk rfl]; rfl) (v := .slice (some ⟨Ba, 0, none⟩) n n) (by have e0 := hk.at' 11 _ rfl; clear hk; rintro _ ⟨q, rfl⟩; simp only [Oper.quietAt]; go_simp) ?_
  clear hk A; intro A hk
  refine q_more hk rfl rfl (by rw [w_some (t := 175) (b := true) rfl (by kernel_rfl) hk rfl]; rfl) (v := .int .i64 (i : Int)) (by have e0 := hk.at' 25 _ rfl; clear hk; rintro _ ⟨q, rfl⟩; simp only [Oper.quietAt]; go_simp) ?_
  clear hk A; intro A hk
  refine q_more hk rfl rfl (by rw [w_some (t := 175) (b := true) rfl (by kernel_rfl) hk rfl]; rfl) (v := .pointer (some ⟨Ba, i, none⟩)) (by have e0 := hk.at' 176 _ rfl; have e1 := hk.at' 177 _ rfl; clear hk; rintro _ ⟨q, rfl⟩; simp only [Oper.quietAt]; go_simp) ?_
  clear hk A; intro A hk
  refine q_more hk rfl rfl (by rw [w_some (t := 175) (b := true) rfl (by kernel_rfl) hk rfl]; rfl) (v := .bool false) (by have e0 := hk.at' 178 _ rfl; clear hk; rintro _ ⟨q, rfl⟩; simp only [Oper.quietAt]; go_simp) ?_
  clear hk A; intro A hk
  refine q_more hk rfl rfl (by rw [w_some (t := 175) (b := true) rfl (by kernel_rfl) hk rfl]; rfl) (v := .bool false) (by have e0 := hk.at' 179 _ rfl; clear hk; rintro _ ⟨q, rfl⟩; simp only [Oper.quietAt]; go_simp) ?_
  clear hk A; intro A hk
  refine q_more hk rfl rfl (by rw [w_some (t := 180) (b := false) rfl (by kernel_rfl) hk rfl]; rfl) (v := .slice (some ⟨Br, 0, none⟩) n n) (by have e0 := hk.at' 17 _ rfl; clear hk; rintro _ ⟨q, rfl⟩; simp only [Oper.quietAt]; go_simp) ?_
  clear hk A; intro A hk
  refine q_more hk rfl rfl (by rw [w_some (t := 180) (b := false) rfl (by kernel_rfl) hk rfl]; rfl) (v := .int .i64 (k : Int)) (by have e0 := hk.at' 26 _ rfl; clear hk; rintro _ ⟨q, rfl⟩; simp only [Oper.quietAt]; go_simp) ?_
  clear hk A; intro A hk
  refine q_more hk rfl rfl (by rw [w_some (t := 180) (b := false) rfl (by kernel_rfl) hk rfl]; rfl) (v := .pointer (some ⟨Br, k, none⟩)) (by have e0 := hk.at' 181 _ rfl; have e1 := hk.at' 182 _ rfl; clear hk; rintro _ ⟨q, rfl⟩; simp only [Oper.quietAt]; go_simp) ?_
  clear hk A; intro A hk
  refine q_more hk rfl rfl (by rw [w_some (t := 180) (b := false) rfl (by kernel_rfl) hk rfl]; rfl) (v := .bool xr) (by have e0 := hk.at' 183 _ rfl; clear hk; rintro _ ⟨q, rfl⟩; simp only [Oper.quietAt]; go_simp) ?_
  clear hk A; intro A hk
  refine q_more hk rfl rfl (by rw [w_some (t := 175) (b := true) rfl (by kernel_rfl) hk rfl]; rfl) (v := .bool xr) (by have e0 := hk.at' 180 _ rfl; have e1 := hk.at' 184 _ rfl; clear hk; rintro _ ⟨q, rfl⟩; simp only [Oper.quietAt]; go_simp) ?_
  clear hk A; intro A hk
  refine q_more hk rfl rfl (by rw [w_some (t := 166) (b := false) rfl (by kernel_rfl) hk rfl]; rfl) (v := .bool xr) (by have e0 := hk.at' 175 _ rfl; have e1 := hk.at' 185 _ rfl; clear hk; rintro _ ⟨q, rfl⟩; simp only [Oper.quietAt]; go_simp) ?_
  clear hk A; intro A hk
  refine q_more hk rfl rfl (by rw [w_some (t := 166) (b := false) rfl (by kernel_rfl) hk rfl]; rfl) (v := .bool false) (by have e0 := hk.at' 170 _ rfl; have e1 := hk.at' 186 _ rfl; clear hk; rintro _ ⟨q, rfl⟩; simp only [Oper.quietAt]; go_simp) ?_
  clear hk A; intro A hk
  refine q_more hk rfl rfl (w_none rfl) (v := .bool false) (by have e0 := hk.at' 166 _ rfl; have e1 := hk.at' 187 _ rfl; clear hk; rintro _ ⟨q, rfl⟩; simp only [Oper.quietAt]; go_simp) ?_
  clear hk A; intro A hk
  refine q_more hk rfl rfl (w_none rfl) (v := .bool false) (by have e0 := hk.at' 188 _ rfl; clear hk; rintro _ ⟨q, rfl⟩; simp only [Oper.quietAt]; go_simp) ?_
  clear hk A; intro A hk
  refine q_more hk rfl rfl (by rw [w_some (t := 189) (b := false) rfl (by kernel_rfl) hk rfl]; rfl) (v := .slice (some ⟨Bo, 0, none⟩) n n) (by have e0 := hk.at' 19 _ rfl; clear hk; rintro _ ⟨q, rfl⟩; simp only [Oper.quietAt]; go_simp) ?_
  clear hk A; intro A hk
  refine q_more hk rfl rfl (by rw [w_some (t := 189) (b := false) rfl (by kernel_rfl) hk rfl]; rfl) (v := .int .i64 (i : Int)) (by have e0 := hk.at' 25 _ rfl; clear hk; rintro _ ⟨q, rfl⟩; simp only [Oper.quietAt]; go_simp) ?_
  clear hk A; intro A hk
  refine q_more hk rfl rfl (by rw [w_some (t := 189) (b := false) rfl (by kernel_rfl) hk rfl]; rfl) (v := .pointer (some ⟨Bo, i, none⟩)) (by have e0 := hk.at' 190 _ rfl; have e1 := hk.at' 191 _ rfl; clear hk; rintro _ ⟨q, rfl⟩; simp only [Oper.quietAt]; go_simp) ?_
  clear hk A; intro A hk
  refine q_more hk rfl rfl (by rw [w_some (t := 189) (b := false) rfl (by kernel_rfl) hk rfl]; rfl) (v := .bool xo) (by have e0 := hk.at' 192 _ rfl; clear hk; rintro _ ⟨q, rfl⟩; simp only [Oper.quietAt]; go_simp) ?_
  clear hk A; intro A hk
  refine q_more hk rfl rfl (by rw [w_some (t := 189) (b := false) rfl (by kernel_rfl) hk rfl]; rfl) (v := .slice (some ⟨Ba, 0, none⟩) n n) (by have e0 := hk.at' 11 _ rfl; clear hk; rintro _ ⟨q, rfl⟩; simp only [Oper.quietAt]; go_simp) ?_
  clear hk A; intro A hk
  refine q_more hk rfl rfl (by rw [w_some (t := 189) (b := false) rfl (by kernel_rfl) hk rfl]; rfl) (v := .int .i64 (i : Int)) (by have e0 := hk.at' 25 _ rfl; clear hk; rintro _ ⟨q, rfl⟩; simp only [Oper.quietAt]; go_simp) ?_
  clear hk A; intro A hk
  refine q_more hk rfl rfl (by rw [w_some (t := 189) (b := false) rfl (by kernel_rfl) hk rfl]; rfl) (v := .pointer (some ⟨Ba, i, none⟩)) (by have e0 := hk.at' 194 _ rfl; have e1 := hk.at' 195 _ rfl; clear hk; rintro _ ⟨q, rfl⟩; simp only [Oper.quietAt]; go_simp) ?_
  clear hk A; intro A hk
  refine q_more hk rfl rfl (by rw [w_some (t := 189) (b := false) rfl (by kernel_rfl) hk rfl]; rfl) (v := .bool false) (by have e0 := hk.at' 196 _ rfl; clear hk; rintro _ ⟨q, rfl⟩; simp only [Oper.quietAt]; go_simp) ?_
  clear hk A; intro A hk
  refine q_more hk rfl rfl (by rw [w_some (t := 189) (b := false) rfl (by kernel_rfl) hk rfl]; rfl) (v := .bool false) (by have e0 := hk.at' 197 _ rfl; clear hk; rintro _ ⟨q, rfl⟩; simp only [Oper.quietAt]; go_simp) ?_
  clear hk A; intro A hk
  refine q_more hk rfl rfl (by rw [w_some (t := 198) (b := false) rfl (by kernel_rfl) hk rfl]; rfl) (v := .slice (some ⟨Bo, 0, none⟩) n n) (by have e0 := hk.at' 19 _ rfl; clear hk; rintro _ ⟨q, rfl⟩; simp only [Oper.quietAt]; go_simp) ?_
  clear hk A; intro A hk
  refine q_more hk rfl rfl (by rw [w_some (t := 198) (b := false) rfl (by kernel_rfl) hk rfl]; rfl) (v := .int .i64 (k : Int)) (by have e0 := hk.at' 26 _ rfl; clear hk; rintro _ ⟨q, rfl⟩; simp only [Oper.quietAt]; go_simp) ?_
  clear hk A; intro A hk
  refine q_more hk rfl rfl (by rw [w_some (t := 198) (b := false) rfl (by kernel_rfl) hk rfl]; rfl) (v := .pointer (some ⟨Bo, k, none⟩)) (by have e0 := hk.at' 199 _ rfl; have e1 := hk.at' 200 _ rfl; clear hk; rintro _ ⟨q, rfl⟩; simp only [Oper.quietAt]; go_simp) ?_
  clear hk A; intro A hk
  refine q_more hk rfl rfl (by rw [w_some (t := 198) (b := false) rfl (by kernel_rfl) hk rfl]; rfl) (v := .bool xo) (by have e0 := hk.at' 201 _ rfl; clear hk; rintro _ ⟨q, rfl⟩; simp only [Oper.quietAt]; go_simp) ?_
  clear hk A; intro A hk
  refine q_more hk rfl rfl (by rw [w_some (t := 189) (b := false) rfl (by kernel_rfl) hk rfl]; rfl) (v := .bool xo) (by have e0 := hk.at' 198 _ rfl; have e1 := hk.at' 202 _ rfl; clear hk; rintro _ ⟨q, rfl⟩; simp only [Oper.quietAt]; go_simp) ?_
  clear hk A; intro A hk
  refine q_more hk rfl rfl (by rw [w_some (t := 189) (b := false) rfl (by kernel_rfl) hk rfl]; rfl) (v := .bool false) (by have e0 := hk.at' 193 _ rfl; have e1 := hk.at' 203 _ rfl; clear hk; rintro _ ⟨q, rfl⟩; simp only [Oper.quietAt]; go_simp) ?_
  clear hk A; intro A hk
  refine q_more hk rfl rfl (w_none rfl) (v := .bool false) (by have e0 := hk.at' 189 _ rfl; have e1 := hk.at' 204 _ rfl; clear hk; rintro _ ⟨q, rfl⟩; simp only [Oper.quietAt]; go_simp) ?_
  clear hk A; intro A hk
  refine q_more hk rfl rfl (w_none rfl) (v := .bool false) (by have e0 := hk.at' 205 _ rfl; clear hk; rintro _ ⟨q, rfl⟩; simp only [Oper.quietAt]; go_simp) ?_
  clear hk A; intro A hk
  refine q_more hk rfl rfl (by rw [w_some (t := 206) (b := false) rfl (by kernel_rfl) hk rfl]; rfl) (v := .slice (some ⟨Bl, 0, none⟩) n n) (by have e0 := hk.at' 21 _ rfl; clear hk; rintro _ ⟨q, rfl⟩; simp only [Oper.quietAt]; go_simp) ?_
  clear hk A; intro A hk
  refine q_more hk rfl rfl (by rw [w_some (t := 206) (b := false) rfl (by kernel_rfl) hk rfl]; rfl) (v := .int .i64 (i : Int)) (by have e0 := hk.at' 25 _ rfl; clear hk; rintro _ ⟨q, rfl⟩; simp only [Oper.quietAt]; go_simp) ?_
  clear hk A; intro A hk
  refine q_more hk rfl rfl (by rw [w_some (t := 206) (b := false) rfl (by kernel_rfl) hk rfl]; rfl) (v := .pointer (some ⟨Bl, i, none⟩)) (by have e0 := hk.at' 207 _ rfl; have e1 := hk.at' 208 _ rfl; clear hk; rintro _ ⟨q, rfl⟩; simp only [Oper.quietAt]; go_simp) ?_
  clear hk A; intro A hk
  refine q_more hk rfl rfl (by rw [w_some (t := 206) (b := false) rfl (by kernel_rfl) hk rfl]; rfl) (v := .bool false) (by have e0 := hk.at' 209 _ rfl; clear hk; rintro _ ⟨q, rfl⟩; simp only [Oper.quietAt]; go_simp) ?_
  clear hk A; intro A hk
  refine q_more hk rfl rfl (by rw [w_some (t := 206) (b := false) rfl (by kernel_rfl) hk rfl]; rfl) (v := .slice (some ⟨Ba, 0, none⟩) n n) (by have e0 := hk.at' 11 _ rfl; clear hk; rintro _ ⟨q, rfl⟩; simp only [Oper.quietAt]; go_simp) ?_
  clear hk A; intro A hk
  refine q_more hk rfl rfl (by rw [w_some (t := 206) (b := false) rfl (by kernel_rfl) hk rfl]; rfl) (v := .int .i64 (i : Int)) (by have e0 := hk.at' 25 _ rfl; clear hk; rintro _ ⟨q, rfl⟩; simp only [Oper.quietAt]; go_simp) ?_
  clear hk A; intro A hk
  refine q_more hk rfl rfl (by rw [w_some (t := 206) (b := false) rfl (by kernel_rfl) hk rfl]; rfl) (v := .pointer (some ⟨Ba, i, none⟩)) (by have e0 := hk.at' 211 _ rfl; have e1 := hk.at' 212 _ rfl; clear hk; rintro _ ⟨q, rfl⟩; simp only [Oper.quietAt]; go_simp) ?_
  clear hk A; intro A hk
  refine q_more hk rfl rfl (by rw [w_some (t := 206) (b := false) rfl (by kernel_rfl) hk rfl]; rfl) (v := .bool false) (by have e0 := hk.at' 213 _ rfl; clear hk; rintro _ ⟨q, rfl⟩; simp only [Oper.quietAt]; go_simp) ?_
  clear hk A; intro A hk
  refine q_more hk rfl rfl (by rw [w_some (t := 206) (b := false) rfl (by kernel_rfl) hk rfl]; rfl) (v := .bool false) (by have e0 := hk.at' 214 _ rfl; clear hk; rintro _ ⟨q, rfl⟩; simp only [Oper.quietAt]; go_simp) ?_
  clear hk A; intro A hk
  refine q_skip hk rfl rfl (by rw [w_some (t := 215) (b := false) rfl (by kernel_rfl) hk rfl]; rfl) ?_
  clear hk A; intro A hk
  refine q_skip hk rfl rfl (by rw [w_some (t := 215) (b := false) rfl (by kernel_rfl) hk rfl]; rfl) ?_
  clear hk A; intro A hk
  refine q_skip hk rfl rfl (by rw [w_some (t := 215) (b := false) rfl (by kernel_rfl) hk rfl]; rfl) ?_
  clear hk A; intro A hk
  refine q_skip hk rfl rfl (by rw [w_some (t := 215) (b := false) rfl (by kernel_rfl) hk rfl]; rfl) ?_
  clear hk A; intro A hk
  refine q_more hk rfl rfl (by rw [w_some (t := 206) (b := false) rfl (by kernel_rfl) hk rfl]; rfl) (v := .bool false) (by have e0 := hk.at' 215 _ rfl; have e1 := hk.at' 219 _ rfl; clear hk; rintro _ ⟨q, rfl⟩; simp only [Oper.quietAt]; go_simp) ?_
  clear hk A; intro A hk
  refine q_more hk rfl rfl (by rw [w_some (t := 206) (b := false) rfl (by kernel_rfl) hk rfl]; rfl) (v := .bool false) (by have e0 := hk.at' 210 _ rfl; have e1 := hk.at' 220 _ rfl; clear hk; rintro _ ⟨q, rfl⟩; simp only [Oper.quietAt]; go_simp) ?_
  clear hk A; intro A hk
  refine q_more hk rfl rfl (w_none rfl) (v := .bool false) (by have e0 := hk.at' 206 _ rfl; have e1 := hk.at' 221 _ rfl; clear hk; rintro _ ⟨q, rfl⟩; simp only [Oper.quietAt]; go_simp) ?_
  clear hk A; intro A hk
  refine q_more hk rfl rfl (w_none rfl) (v := .bool false) (by have e0 := hk.at' 222 _ rfl; clear hk; rintro _ ⟨q, rfl⟩; simp only [Oper.quietAt]; go_simp) ?_
  clear hk A; intro A hk
  refine q_more hk rfl rfl (by rw [w_some (t := 223) (b := false) rfl (by kernel_rfl) hk rfl]; rfl) (v := .slice (some ⟨Bt, 0, none⟩) n n) (by have e0 := hk.at' 23 _ rfl; clear hk; rintro _ ⟨q, rfl⟩; simp only [Oper.quietAt]; go_simp) ?_
  clear hk A; intro A hk
  refine q_more hk rfl rfl (by rw [w_some (t := 223) (b := false) rfl (by kernel_rfl) hk rfl]; rfl) (v := .int .i64 (i : Int)) (by have e0 := hk.at' 25 _ rfl; clear hk; rintro _ ⟨q, rfl⟩; simp only [Oper.quietAt]; go_simp) ?_
  clear hk A; intro A hk
  refine q_more hk rfl rfl (by rw [w_some (t := 223) (b := false) rfl (by kernel_rfl) hk rfl]; rfl) (v := .pointer (some ⟨Bt, i, none⟩)) (by have e0 := hk.at' 224 _ rfl; have e1 := hk.at' 225 _ rfl; clear hk; rintro _ ⟨q, rfl⟩; simp only [Oper.quietAt]; go_simp) ?_
  clear hk A; intro A hk
  refine q_more hk rfl rfl (by rw [w_some (t := 223) (b := false) rfl (by kernel_rfl) hk rfl]; rfl) (v := .bool xa2) (by have e0 := hk.at' 226 _ rfl; clear hk; rintro _ ⟨q, rfl⟩; simp only [Oper.quietAt]; go_simp) ?_
  clear hk A; intro A hk
  refine q_more hk rfl rfl (by rw [w_some (t := 223) (b := false) rfl (by kernel_rfl) hk rfl]; rfl) (v := .slice (some ⟨Ba, 0, none⟩) n n) (by have e0 := hk.at' 11 _ rfl; clear hk; rintro _ ⟨q, rfl⟩; simp only [Oper.quietAt]; go_simp) ?_
  clear hk A; intro A hk
  refine q_more hk rfl rfl (by rw [w_some (t := 223) (b := false) rfl (by kernel_rfl) hk rfl]; rfl) (v := .int .i64 (k : Int)) (by have e0 := hk.at' 26 _ rfl; clear hk; rintro _ ⟨q, rfl⟩; simp only [Oper.quietAt]; go_simp) ?_
  clear hk A; intro A hk
  refine q_more hk rfl rfl (by rw [w_some (t := 223) (b := false) rfl (by kernel_rfl) hk rfl]; rfl) (v := .pointer (some ⟨Ba, k, none⟩)) (by have e0 := hk.at' 228 _ rfl; have e1 := hk.at' 229 _ rfl; clear hk; rintro _ ⟨q, rfl⟩; simp only [Oper.quietAt]; go_simp) ?_
  clear hk A; intro A hk
  refine q_more hk rfl rfl (by rw [w_some (t := 223) (b := false) rfl (by kernel_rfl) hk rfl]; rfl) (v := .bool xa2) (by have e0 := hk.at' 230 _ rfl; clear hk; rintro _ ⟨q, rfl⟩; simp only [Oper.quietAt]; go_simp) ?_
  clear hk A; intro A hk
  refine q_more hk rfl rfl (by rw [w_some (t := 223) (b := false) rfl (by kernel_rfl) hk rfl]; rfl) (v := .bool false) (by have e0 := hk.at' 227 _ rfl; have e1 := hk.at' 231 _ rfl; clear hk; rintro _ ⟨q, rfl⟩; simp only [Oper.quietAt]; go_simp) ?_
  clear hk A; intro A hk
  refine q_more hk rfl rfl (w_none rfl) (v := .bool false) (by have e0 := hk.at' 223 _ rfl; have e1 := hk.at' 232 _ rfl; clear hk; rintro _ ⟨q, rfl⟩; simp only [Oper.quietAt]; go_simp) ?_
  clear hk A; intro A hk
  exact hq_nil (hk.at' 233 _ rfl)

set_option maxRecDepth 100000 in
set_option maxHeartbeats 4000000 in
theorem now20_ff {id : Nat} {Q : Exit → Act → World → Prop} {A : Act} {w : World} {n i k Ba Bb Bu Br Bo Bl Bt : Nat} {xu xr xo xl xa2 : Bool}
    (hk : Kn A 272 [(11, .slice (some ⟨Ba, 0, none⟩) n n), (13, .slice (some ⟨Bb, 0, none⟩) n n), (15, .slice (some ⟨Bu, 0, none⟩) n n), (17, .slice (some ⟨Br, 0, none⟩) n n), (19, .slice (some ⟨Bo, 0, none⟩) n n), (21, .slice (some ⟨Bl, 0, none⟩) n n), (23, .slice (some ⟨Bt, 0, none⟩) n n), (25, .int .i64 (i : Int)), (26, .int .i64 (k : Int))])
    (hiI : (i : Int) < (n : Int)) (hi0 : (0 : Int) ≤ (i : Int)) (hkI : (k : Int) < (n : Int)) (hk0 : (0 : Int) ≤ (k : Int))
    (cBai : w.cell? ⟨Ba, i, none⟩ = some (.bool false))
    (cBbi : w.cell? ⟨Bb, i, none⟩ = some (.bool false))
    (cBui : w.cell? ⟨Bu, i, none⟩ = some (.bool false))
    (cBri : w.cell? ⟨Br, i, none⟩ = some (.bool false))
    (cBoi : w.cell? ⟨Bo, i, none⟩ = some (.bool xo))
    (cBli : w.cell? ⟨Bl, i, none⟩ = some (.bool false))
    (cBti : w.cell? ⟨Bt, i, none⟩ = some (.bool xa2))
    (cBuk : w.cell? ⟨Bu, k, none⟩ = some (.bool xu))
    (cBrk : w.cell? ⟨Br, k, none⟩ = some (.bool xr))
    (cBok : w.cell? ⟨Bo, k, none⟩ = some (.bool xo))
    (cBlk : w.cell? ⟨Bl, k, none⟩ = some (.bool xl))
    (cBak : w.cell? ⟨Ba, k, none⟩ = some (.bool xa2))
    (hQ : ∀ f q, (allL f nowL 0 A).tmps[233]? = some (.bool false) → Q .normal (allL f nowL 0 A) (w.drewN q)) : (Code.region id (List.toArray nowL) true).wp Tryd.prog Q A w := by
  refine quiet_region (by kernel_rfl) nowL_lex (fun b => b.tmps[233]? = some (.bool false)) ?_ hQ
  clear hQ
  refine q_more hk rfl rfl (w_none rfl) (v := .slice (some ⟨Bu, 0, none⟩) n n) (by have e0 := hk.at' 15 _ rfl; clear hk; rintro _ ⟨q, rfl⟩; simp only [Oper.quietAt]; go_simp) ?_
  clear hk; intro A hk
  refine q_more hk rfl rfl (w_none rfl) (v := .int .i64 (i : Int)) (by have e0 := hk.at' 25 _ rfl; clear hk; rintro _ ⟨q, rfl⟩; simp only [Oper.quietAt]; go_simp) ?_
  clear hk A; intro A hk
  refine q_more hk rfl rfl (w_none rfl) (v := .pointer (some ⟨Bu, i, none⟩)) (by have e0 := hk.at' 145 _ rfl; have e1 := hk.at' 146 _ rfl; clear hk; rintro _ ⟨q, rfl⟩; simp only [Oper.quietAt]; go_simp) ?_
  clear hk A; intro A hk
  refine q_more hk rfl rfl (w_none rfl) (v := .bool false) (by have e0 := hk.at' 147 _ rfl; clear hk; rintro _ ⟨q, rfl⟩; simp only [Oper.quietAt]; go_simp) ?_
  clear hk A; intro A hk
  refine q_more hk rfl rfl (w_none rfl) (v := .slice (some ⟨Bb, 0, none⟩) n n) (by have e0 := hk.at' 13 _ rfl; clear hk; rintro _ ⟨q, rfl⟩; simp only [Oper.quietAt]; go_simp) ?_
  clear hk A; intro A hk
  refine q_more hk rfl rfl (w_none rfl) (v := .int .i64 (i : Int)) (by have e0 := hk.at' 25 _ rfl; clear hk; rintro _ ⟨q, rfl⟩; simp only [Oper.quietAt]; go_simp) ?_
  clear hk A; intro A hk
  refine q_more hk rfl rfl (w_none rfl) (v := .pointer (some ⟨Bb, i, none⟩)) (by have e0 := hk.at' 149 _ rfl; have e1 := hk.at' 150 _ rfl; clear hk; rintro _ ⟨q, rfl⟩; simp only [Oper.quietAt]; go_simp) ?_
  clear hk A; intro A hk
  refine q_more hk rfl rfl (w_none rfl) (v := .bool false) (by have e0 := hk.at' 151 _ rfl; clear hk; rintro _ ⟨q, rfl⟩; simp only [Oper.quietAt]; go_simp) ?_
  clear hk A; intro A hk
  refine q_more hk rfl rfl (w_none rfl) (v := .bool false) (by have e0 := hk.at' 152 _ rfl; clear hk; rintro _ ⟨q, rfl⟩; simp only [Oper.quietAt]; go_simp) ?_
  clear hk A; intro A hk
  refine q_more hk rfl rfl (by rw [w_some (t := 153) (b := false) rfl (by kernel_rfl) hk rfl]; rfl) (v := .slice (some ⟨Ba, 0, none⟩) n n) (by have e0 := hk.at' 11 _ rfl; clear hk; rintro _ ⟨q, rfl⟩; simp only [Oper.quietAt]; go_simp) ?_
  clear hk A; intro A hk
  refine q_more hk rfl rfl (by rw [w_some (t := 153) (b := false) rfl (by kernel_rfl) hk rfl]; rfl) (v := .int .i64 (i : Int)) (by have e0 := hk.at' 25 _ rfl; clear hk; rintro _ ⟨q, rfl⟩; simp only [Oper.quietAt]; go_simp) ?_
  clear hk A; intro A hk
  refine q_more hk rfl rfl (by rw [w_some (t := 153) (b := false) rfl (by kernel_rfl) hk rfl]; rfl) (v := .pointer (some ⟨Ba, i, none⟩)) (by have e0 := hk.at' 154 _ rfl; have e1 := hk.at' 155 _ rfl; clear hk; rintro _ ⟨q, rfl⟩; simp only [Oper.quietAt]; go_simp) ?_
  clear hk A; intro A hk
  refine q_more hk rfl rfl (by rw [w_some (t := 153) (b := false) rfl (by kernel_rfl) hk rfl]; rfl) (v := .bool false) (by have e0 := hk.at' 156 _ rfl; clear hk; rintro _ ⟨q, rfl⟩; simp only [Oper.quietAt]; go_simp) ?_
  clear hk A; intro A hk
  refine q_more hk rfl rfl (by rw [w_some (t := 153) (b := false) rfl (by kernel_rfl) hk rfl]; rfl) (v := .bool false) (by have e0 := hk.at' 157 _ rfl; clear hk; rintro _ ⟨q, rfl⟩; simp only [Oper.quietAt]; go_simp) ?_
  clear hk A; intro A hk
  refine q_skip hk rfl rfl (by rw [w_some (t := 158) (b := false) rfl (by kernel_rfl) hk rfl]; rfl) ?_
  clear hk A; intro A hk
  refine q_skip hk rfl rfl (by rw [w_some (t := 158) (b := false) rfl (by kernel_rfl) hk rfl]; rfl) ?_
  clear hk A; intro A hk
  refine q_skip hk rfl rfl (by rw [w_some (t := 158) (b := false) rfl (by kernel_rfl) hk rfl]; rfl) ?_
  clear hk A; intro A hk
  refine q_skip hk rfl rfl (by rw [w_some (t := 158) (b := false) rfl (by kernel_rfl) hk rfl]; rfl) ?_
  clear hk A; intro A hk
  refine q_more hk rfl rfl (by rw [w_some (t := 153) (b := false) rfl (by kernel_rfl) hk rfl]; rfl) (v := .bool false) (by have e0 := hk.at' 158 _ rfl; have e1 := hk.at' 162 _ rfl; clear hk; rintro _ ⟨q, rfl⟩; simp only [Oper.quietAt]; go_simp) ?_
  clear hk A; intro A hk
  refine q_more hk rfl rfl (w_none rfl) (v := .bool false) (by have e0 := hk.at' 153 _ rfl; have e1 := hk.at' 163 _ rfl; clear hk; rintro _ ⟨q, rfl⟩; simp only [Oper.quietAt]; go_simp) ?_
  clear hk A; intro A hk
  refine q_more hk rfl rfl (w_none rfl) (v := .bool false) (by have e0 := hk.at' 148 _ rfl; have e1 := hk.at' 164 _ rfl; clear hk; rintro _ ⟨q, rfl⟩; simp only [Oper.quietAt]; go_simp) ?_
  clear hk A; intro A hk
  refine q_more hk rfl rfl (w_none rfl) (v := .bool false) (by have e0 := hk.at' 165 _ rfl; clear hk; rintro _ ⟨q, rfl⟩; simp only [Oper.quietAt]; go_simp) ?_
  clear hk A; intro A hk
  refine q_more hk rfl rfl (by rw [w_some (t := 166) (b := false) rfl (by kernel_rfl) hk rfl]; rfl) (v := .slice (some ⟨Br, 0, none⟩) n n) (by have e0 := hk.at' 17 _ rfl; clear hk; rintro _ ⟨q, rfl⟩; simp only [Oper.quietAt]; go_simp) ?_
  clear hk A; intro A hk
  refine q_more hk rfl rfl (by rw [w_some (t := 166) (b := false) rfl (by kernel_rfl) hk rfl]; rfl) (v := .int .i64 (i : Int)) (by have e0 := hk.at' 25 _ rfl; clear hk; rintro _ ⟨q, rfl⟩; simp only [Oper.quietAt]; go_simp) ?_
  clear hk A; intro A hk
  refine q_more hk rfl rfl (by rw [w_some (t := 166) (b := false) rfl (by kernel_rfl) hk rfl]; rfl) (v := .pointer (some ⟨Br, i, none⟩)) (by have e0 := hk.at' 167 _ rfl; have e1 := hk.at' 168 _ rfl; clear hk; rintro _ ⟨q, rfl⟩; simp only [Oper.quietAt]; go_simp) ?_
  clear hk A; intro A hk
  refine q_more hk rfl rfl (by rw [w_some (t := 166) (b := false) rfl (by kernel_rfl) hk rfl]; rfl) (v := .bool false) (by have e0 := hk.at' 169 _ rfl; clear hk; rintro _ ⟨q, rfl⟩; simp only [Oper.quietAt]; go_simp) ?_
  clear hk A; intro A hk
  refine q_more hk rfl rfl (by rw [w_some (t := 166) (b := false) rfl (by kernel_rfl) hk rfl]; rfl) (v := .slice (some ⟨Bb, 0, none⟩) n n) (by have e0 := hk.at' 13 _ rfl; clear hk; rintro _ ⟨q, rfl⟩; simp only [Oper.quietAt]; go_simp) ?_
  clear hk A; intro A hk
  refine q_more hk rfl rfl (by rw [w_some (t := 166) (b := false) rfl (by kernel_rfl) hk rfl]; rfl) (v := .int .i64 (i : Int)) (by have e0 := hk.at' 25 _ rfl; clear hk; rintro _ ⟨q, rfl⟩; simp only [Oper.quietAt]; go_simp) ?_
  clear hk A; intro A hk
  refine q_more hk rfl rfl (by rw [w_some (t := 166) (b := false) rfl (by kernel_rfl) hk rfl]; rfl) (v := .pointer (some ⟨Bb, i, none⟩)) (by have e0 := hk.at' 171 _ rfl; have e1 := hk.at' 172 _ rfl; clear hk; rintro _ ⟨q, rfl⟩; simp only [Oper.quietAt]; go_simp) ?_
  clear hk A; intro A hk
  refine q_more hk rfl rfl (by rw [w_some (t := 166) (b := false) rfl (by kernel_rfl) hk rfl]; rfl) (v := .bool false) (by have e0 := hk.at' 173 _ rfl; clear hk; rintro _ ⟨q, rfl⟩; simp only [Oper.quietAt]; go_simp) ?_
  clear hk A; intro A hk
  refine q_more hk rfl rfl (by rw [w_some (t := 166) (b := false) rfl (by kernel_rfl) hk rfl]; rfl) (v := .bool false) (by have e0 := hk.at' 174 _ rfl; clear hk; rintro _ ⟨q, rfl⟩; simp only [Oper.quietAt]; go_simp) ?_
  clear hk A; intro A hk
  refine q_skip hk rfl rfl (by rw [w_some (t := 175) (b := false) rfl (by kernel_rfl) hk rfl]; rfl) ?_
  clear hk A; intro A hk
  refine q_skip hk rfl rfl (by rw [w_some (t := 175) (b := false) rfl (by kernel_rfl) hk rfl]; rfl) ?_
  clear hk A; intro A hk
  refine q_skip hk rfl rfl (by rw [w_some (t := 175) (b := false) rfl (by kernel_rfl) hk rfl]; rfl) ?_
  clear hk A; intro A hk
  refine q_skip hk rfl rfl (by rw [w_some (t := 175) (b := false) rfl (by kernel_rfl) hk rfl]; rfl) ?_
  clear hk A; intro A hk
  refine q_skip hk rfl rfl (by rw [w_some (t := 175) (b := false) rfl (by kernel_rfl) hk rfl]; rfl) ?_
  clear hk A; intro A hk
  refine q_skip hk rfl rfl (w_undef (t := 180) rfl (by kernel_rfl) hk rfl) ?_
  clear hk A; intro A hk
  refine q_skip hk rfl rfl (w_undef (t := 180) rfl (by kernel_rfl) hk rfl) ?_
  clear hk A; intro A hk
  refine q_skip hk rfl rfl (w_undef (t := 180) rfl (by kernel_rfl) hk rfl) ?_
  clear hk A; intro A hk
  refine q_skip hk rfl rfl (w_undef (t := 180) rfl (by kernel_rfl) hk rfl) ?_
  clear hk A; intro A hk
  refine q_skip hk rfl rfl (by rw [w_some (t := 175) (b := false) rfl (by kernel_rfl) hk rfl]; rfl) ?_
  clear hk A; intro A hk
  refine q_more hk rfl rfl (by rw [w_some (t := 166) (b := false) rfl (by kernel_rfl) hk rfl]; rfl) (v := .bool false) (by have e0 := hk.at' 175 _ rfl; have e1 := hk.at' 185 _ rfl; clear hk; rintro _ ⟨q, rfl⟩; simp only [Oper.quietAt]; go_simp) ?_
  clear hk A; intro A hk
  refine q_more hk rfl rfl (by rw [w_some (t := 166) (b := false) rfl (by kernel_rfl) hk rfl]; rfl) (v := .bool false) (by have e0 := hk.at' 170 _ rfl; have e1 := hk.at' 186 _ rfl; clear hk; rintro _ ⟨q, rfl⟩; simp only [Oper.quietAt]; go_simp) ?_
  clear hk A; intro A hk
  refine q_more hk rfl rfl (w_none rfl) (v := .bool false) (by have e0 := hk.at' 166 _ rfl; have e1 := hk.at' 187 _ rfl; clear hk; rintro _ ⟨q, rfl⟩; simp only [Oper.quietAt]; go_simp) ?_
  clear hk A; intro A hk
  refine q_more hk rfl rfl (w_none rfl) (v := .bool false) (by have e0 := hk.at' 188 _ rfl; clear hk; rintro _ ⟨q, rfl⟩; simp only [Oper.quietAt]; go_simp) ?_
  clear hk A; intro A hk
  refine q_more hk rfl rfl (by rw [w_some (t := 189) (b := false) rfl (by kernel_rfl) hk rfl]; rfl) (v := .slice (some ⟨Bo, 0, none⟩) n n) (by have e0 := hk.at' 19 _ rfl; clear hk; rintro _ ⟨q, rfl⟩; simp only [Oper.quietAt]; go_simp) ?_
  clear hk A; intro A hk
  refine q_more hk rfl rfl (by rw [w_some (t := 189) (b := false) rfl (by kernel_rfl) hk rfl]; rfl) (v := .int .i64 (i : Int)) (by have e0 := hk.at' 25 _ rfl; clear hk; rintro _ ⟨q, rfl⟩; simp only [Oper.quietAt]; go_simp) ?_
  clear hk A; intro A hk
  refine q_more hk rfl rfl (by rw [w_some (t := 189) (b := false) rfl (by kernel_rfl) hk rfl]; rfl) (v := .pointer (some ⟨Bo, i, none⟩)) (by have e0 := hk.at' 190 _ rfl; have e1 := hk.at' 191 _ rfl; clear hk; rintro _ ⟨q, rfl⟩; simp only [Oper.quietAt]; go_simp) ?_
  clear hk A; intro A hk
  refine q_more hk rfl rfl (by rw [w_some (t := 189) (b := false) rfl (by kernel_rfl) hk rfl]; rfl) (v := .bool xo) (by have e0 := hk.at' 192 _ rfl; clear hk; rintro _ ⟨q, rfl⟩; simp only [Oper.quietAt]; go_simp) ?_
  clear hk A; intro A hk
  refine q_more hk rfl rfl (by rw [w_some (t := 189) (b := false) rfl (by kernel_rfl) hk rfl]; rfl) (v := .slice (some ⟨Ba, 0, none⟩) n n) (by have e0 := hk.at' 11 _ rfl; clear hk; rintro _ ⟨q, rfl⟩; simp only [Oper.quietAt]; go_simp) ?_
  clear hk A; intro A hk
  refine q_more hk rfl rfl (by rw [w_some (t := 189) (b := false) rfl (by kernel_rfl) hk rfl]; rfl) (v := .int .i64 (i : Int)) (by have e0 := hk.at' 25 _ rfl; clear hk; rintro _ ⟨q, rfl⟩; simp only [Oper.quietAt]; go_simp) ?_
  clear hk A; intro A hk
  refine q_more hk rfl rfl (by rw [w_some (t := 189) (b := false) rfl (by kernel_rfl) hk rfl]; rfl) (v := .pointer (some ⟨Ba, i, none⟩)) (by have e0 := hk.at' 194 _ rfl; have e1 := hk.at' 195 _ rfl; clear hk; rintro _ ⟨q, rfl⟩; simp only [Oper.quietAt]; go_simp) ?_
  clear hk A; intro A hk
  refine q_more hk rfl rfl (by rw [w_some (t := 189) (b := false) rfl (by kernel_rfl) hk rfl]; rfl) (v := .bool false) (by have e0 := hk.at' 196 _ rfl; clear hk; rintro _ ⟨q, rfl⟩; simp only [Oper.quietAt]; go_simp) ?_
  clear hk A; intro A hk
  refine q_more hk rfl rfl (by rw [w_some (t := 189) (b := false) rfl (by kernel_rfl) hk rfl]; rfl) (v := .bool false) (by have e0 := hk.at' 197 _ rfl; clear hk; rintro _ ⟨q, rfl⟩; simp only [Oper.quietAt]; go_simp) ?_
  clear hk A; intro A hk
  refine q_more hk rfl rfl (by rw [w_some (t := 198) (b := false) rfl (by kernel_rfl) hk rfl]; rfl) (v := .slice (some ⟨Bo, 0, none⟩) n n) (by have e0 := hk.at' 19 _ rfl; clear hk; rintro _ ⟨q, rfl⟩; simp only [Oper.quietAt]; go_simp) ?_
  clear hk A; intro A hk
  refine q_more hk rfl rfl (by rw [w_some (t := 198) (b := false) rfl (by kernel_rfl) hk rfl]; rfl) (v := .int .i64 (k : Int)) (by have e0 := hk.at' 26 _ rfl; clear hk; rintro _ ⟨q, rfl⟩; simp only [Oper.quietAt]; go_simp) ?_
  clear hk A; intro A hk
  refine q_more hk rfl rfl (by rw [w_some (t := 198) (b := false) rfl (by kernel_rfl) hk rfl]; rfl) (v := .pointer (some ⟨Bo, k, none⟩)) (by have e0 := hk.at' 199 _ rfl; have e1 := hk.at' 200 _ rfl; clear hk; rintro _ ⟨q, rfl⟩; simp only [Oper.quietAt]; go_simp) ?_
  clear hk A; intro A hk
  refine q_more hk rfl rfl (by rw [w_some (t := 198) (b := false) rfl (by kernel_rfl) hk rfl]; rfl) (v := .bool xo) (by have e0 := hk.at' 201 _ rfl; clear hk; rintro _ ⟨q, rfl⟩; simp only [Oper.quietAt]; go_simp) ?_
  clear hk A; intro A hk
  refine q_more hk rfl rfl (by rw [w_some (t := 189) (b := false) rfl (by kernel_rfl) hk rfl]; rfl) (v := .bool xo) (by have e0 := hk.at' 198 _ rfl; have e1 := hk.at' 202 _ rfl; clear hk; rintro _ ⟨q, rfl⟩; simp only [Oper.quietAt]; go_simp) ?_
  clear hk A; intro A hk
  refine q_more hk rfl rfl (by rw [w_some (t := 189) (b := false) rfl (by kernel_rfl) hk rfl]; rfl) (v := .bool false) (by have e0 := hk.at' 193 _ rfl; have e1 := hk.at' 203 _ rfl; clear hk; rintro _ ⟨q, rfl⟩; simp only [Oper.quietAt]; go_simp) ?_
  clear hk A; intro A hk
  refine q_more hk rfl rfl (w_none rfl) (v := .bool false) (by have e0 := hk.at' 189 _ rfl; have e1 := hk.at' 204 _ rfl; clear hk; rintro _ ⟨q, rfl⟩; simp only [Oper.quietAt]; go_simp) ?_
  clear hk A; intro A hk
  refine q_more hk rfl rfl (w_none rfl) (v := .bool false) (by have e0 := hk.at' 205 _ rfl; clear hk; rintro _ ⟨q, rfl⟩; simp only [Oper.quietAt]; go_simp) ?_
  clear hk A; intro A hk
  refine q_more hk rfl rfl (by rw [w_some (t := 206) (b := false) rfl (by kernel_rfl) hk rfl]; rfl) (v := .slice (some ⟨Bl, 0, none⟩) n n) (by have e0 := hk.at' 21 _ rfl; clear hk; rintro _ ⟨q, rfl⟩; simp only [Oper.quietAt]; go_simp) ?_
  clear hk A; intro A hk
  refine q_more hk rfl rfl (by rw [w_some (t := 206) (b := false) rfl (by kernel_rfl) hk rfl]; rfl) (v := .int .i64 (i : Int)) (by have e0 := hk.at' 25 _ rfl; clear hk; rintro _ ⟨q, rfl⟩; simp only [Oper.quietAt]; go_simp) ?_
  clear hk A; intro A hk
  refine q_more hk rfl rfl (by rw [w_some (t := 206) (b := false) rfl (by kernel_rfl) hk rfl]; rfl) (v := .pointer (some ⟨Bl, i, none⟩)) (by have e0 := hk.at' 207 _ rfl; have e1 := hk.at' 208 _ rfl; clear hk; rintro _ ⟨q, rfl⟩; simp only [Oper.quietAt]; go_simp) ?_
  clear hk A; intro A hk
  refine q_more hk rfl rfl (by rw [w_some (t := 206) (b := false) rfl (by kernel_rfl) hk rfl]; rfl) (v := .bool false) (by have e0 := hk.at' 209 _ rfl; clear hk; rintro _ ⟨q, rfl⟩; simp only [Oper.quietAt]; go_simp) ?_
  clear hk A; intro A hk
  refine q_more hk rfl rfl (by rw [w_some (t := 206) (b := false) rfl (by kernel_rfl) hk rfl]; rfl) (v := .slice (some ⟨Ba, 0, none⟩) n n) (by have e0 := hk.at' 11 _ rfl; clear hk; rintro _ ⟨q, rfl⟩; simp only [Oper.quietAt]; go_simp) ?_
  clear hk A; intro A hk
  refine q_more hk rfl rfl (by rw [w_some (t := 206) (b := false) rfl (by kernel_rfl) hk rfl]; rfl) (v := .int .i64 (i : Int)) (by have e0 := hk.at' 25 _ rfl; clear hk; rintro _ ⟨q, rfl⟩; simp only [Oper.quietAt]; go_simp) ?_
  clear hk A; intro A hk
  refine q_more hk rfl rfl (by rw [w_some (t := 206) (b := false) rfl (by kernel_rfl) hk rfl]; rfl) (v := .pointer (some ⟨Ba, i, none⟩)) (by have e0 := hk.at' 211 _ rfl; have e1 := hk.at' 212 _ rfl; clear hk; rintro _ ⟨q, rfl⟩; simp only [Oper.quietAt]; go_simp) ?_
  clear hk A; intro A hk
  refine q_more hk rfl rfl (by rw [w_some (t := 206) (b := false) rfl (by kernel_rfl) hk rfl]; rfl) (v := .bool false) (by have e0 := hk.at' 213 _ rfl; clear hk; rintro _ ⟨q, rfl⟩; simp only [Oper.quietAt]; go_simp) ?_
  clear hk A; intro A hk
  refine q_more hk rfl rfl (by rw [w_some (t := 206) (b := false) rfl (by kernel_rfl) hk rfl]; rfl) (v := .bool false) (by have e0 := hk.at' 214 _ rfl; clear hk; rintro _ ⟨q, rfl⟩; simp only [Oper.quietAt]; go_simp) ?_
  clear hk A; intro A hk
  refine q_skip hk rfl rfl (by rw [w_some (t := 215) (b := false) rfl (by kernel_rfl) hk rfl]; rfl) ?_
  clear hk A; intro A hk
  refine q_skip hk rfl rfl (by rw [w_some (t := 215) (b := false) rfl (by kernel_rfl) hk rfl]; rfl) ?_
  clear hk A; intro A hk
  refine q_skip hk rfl rfl (by rw [w_some (t := 215) (b := false) rfl (by kernel_rfl) hk rfl]; rfl) ?_
  clear hk A; intro A hk
  refine q_skip hk rfl rfl (by rw [w_some (t := 215) (b := false) rfl (by kernel_rfl) hk rfl]; rfl) ?_
  clear hk A; intro A hk
  refine q_more hk rfl rfl (by rw [w_some (t := 206) (b := false) rfl (by kernel_rfl) hk rfl]; rfl) (v := .bool false) (by have e0 := hk.at' 215 _ rfl; have e1 := hk.at' 219 _ rfl; clear hk; rintro _ ⟨q, rfl⟩; simp only [Oper.quietAt]; go_simp) ?_
  clear hk A; intro A hk
  refine q_more hk rfl rfl (by rw [w_some (t := 206) (b := false) rfl (by kernel_rfl) hk rfl]; rfl) (v := .bool false) (by have e0 := hk.at' 210 _ rfl; have e1 := hk.at' 220 _ rfl; clear hk; rintro _ ⟨q, rfl⟩; simp only [Oper.quietAt]; go_simp) ?_
  clear hk A; intro A hk
  refine q_more hk rfl rfl (w_none rfl) (v := .bool false) (by have e0 := hk.at' 206 _ rfl; have e1 := hk.at' 221 _ rfl; clear hk; rintro _ ⟨q, rfl⟩; simp only [Oper.quietAt]; go_simp) ?_
  clear hk A; intro A hk
  refine q_more hk rfl rfl (w_none rfl) (v := .bool false) (by have e0 := hk.at' 222 _ rfl; clear hk; rintro _ ⟨q, rfl⟩; simp only [Oper.quietAt]; go_simp) ?_
  clear hk A; intro A hk
  refine q_more hk rfl rfl (by rw [w_some (t := 223) (b := false) rfl (by kernel_rfl) hk rfl]; rfl) (v := .slice (some ⟨Bt, 0, none⟩) n n) (by have e0 := hk.at' 23 _ rfl; clear hk; rintro _ ⟨q, rfl⟩; simp only [Oper.quietAt]; go_simp) ?_
  clear hk A; intro A hk
  refine q_more hk rfl rfl (by rw [w_some (t := 223) (b := false) rfl (by kernel_rfl) hk rfl]; rfl) (v := .int .i64 (i : Int)) (by have e0 := hk.at' 25 _ rfl; clear hk; rintro _ ⟨q, rfl⟩; simp only [Oper.quietAt]; go_simp) ?_
  clear hk A; intro A hk
  refine q_more hk rfl rfl (by rw [w_some (t := 223) (b := false) rfl (by kernel_rfl) hk rfl]; rfl) (v := .pointer (some ⟨Bt, i, none⟩)) (by have e0 := hk.at' 224 _ rfl; have e1 := hk.at' 225 _ rfl; clear hk; rintro _ ⟨q, rfl⟩; simp only [Oper.quietAt]; go_simp) ?_
  clear hk A; intro A hk
  refine q_more hk rfl rfl (by rw [w_some (t := 223) (b := false) rfl (by kernel_rfl) hk rfl]; rfl) (v := .bool xa2) (by have e0 := hk.at' 226 _ rfl; clear hk; rintro _ ⟨q, rfl⟩; simp only [Oper.quietAt]; go_simp) ?_
  clear hk A; intro A hk
  refine q_more hk rfl rfl (by rw [w_some (t := 223) (b := false) rfl (by kernel_rfl) hk rfl]; rfl) (v := .slice (some ⟨Ba, 0, none⟩) n n) (by have e0 := hk.at' 11 _ rfl; clear hk; rintro _ ⟨q, rfl⟩; simp only [Oper.quietAt]; go_simp) ?_
  clear hk A; intro A hk
  refine q_more hk rfl rfl (by rw [w_some (t := 223) (b := false) rfl (by kernel_rfl) hk rfl]; rfl) (v := .int .i64 (k : Int)) (by have e0 := hk.at' 26 _ rfl; clear hk; rintro _ ⟨q, rfl⟩; simp only [Oper.quietAt]; go_simp) ?_
  clear hk A; intro A hk
  refine q_more hk rfl rfl (by rw [w_some (t := 223) (b := false) rfl (by kernel_rfl) hk rfl]; rfl) (v := .pointer (some ⟨Ba, k, none⟩)) (by have e0 := hk.at' 228 _ rfl; have e1 := hk.at' 229 _ rfl; clear hk; rintro _ ⟨q, rfl⟩; simp only [Oper.quietAt]; go_simp) ?_
  clear hk A; intro A hk
  refine q_more hk rfl rfl (by rw [w_some (t := 223) (b := false) rfl (by kernel_rfl) hk rfl]; rfl) (v := .bool xa2) (by have e0 := hk.at' 230 _ rfl; clear hk; rintro _ ⟨q, rfl⟩; simp only [Oper.quietAt]; go_simp) ?_
  clear hk A; intro A hk
  refine q_more hk rfl rfl (by rw [w_some (t := 223) (b := false) rfl (by kernel_rfl) hk rfl]; rfl) (v := .bool false) (by have e0 := hk.at' 227 _ rfl; have e1 := hk.at' 231 _ rfl; clear hk; rintro _ ⟨q, rfl⟩; simp only [Oper.quietAt]; go_simp) ?_
  clear hk A; intro A hk
  refine q_more hk rfl rfl (w_none rfl) (v := .bool false) (by have e0 := hk.at' 223 _ rfl; have e1 := hk.at' 232 _ rfl; clear hk; rintro _ ⟨q, rfl⟩; simp only [Oper.quietAt]; go_simp) ?_
  clear hk A; intro A hk
  exact hq_nil (hk.at' 233 _ rfl)

/-- All four, at a list that is the region's. -/
theorem now20 {id : Nat} {Q : Exit → Act → World → Prop} {A : Act} {w : World} {l : List Oper} {n i k Ba Bb Bu Br Bo Bl Bt : Nat} {xa xb xu xr xo xl xa2 : Bool} (hl : nowL = l)
    (hk : Kn A 272 [(11, .slice (some ⟨Ba, 0, none⟩) n n), (13, .slice (some ⟨Bb, 0, none⟩) n n), (15, .slice (some ⟨Bu, 0, none⟩) n n), (17, .slice (some ⟨Br, 0, none⟩) n n), (19, .slice (some ⟨Bo, 0, none⟩) n n), (21, .slice (some ⟨Bl, 0, none⟩) n n), (23, .slice (some ⟨Bt, 0, none⟩) n n), (25, .int .i64 (i : Int)), (26, .int .i64 (k : Int))])
    (hiI : (i : Int) < (n : Int)) (hi0 : (0 : Int) ≤ (i : Int)) (hkI : (k : Int) < (n : Int)) (hk0 : (0 : Int) ≤ (k : Int))
    (cBai : w.cell? ⟨Ba, i, none⟩ = some (.bool xa)) (cBbi : w.cell? ⟨Bb, i, none⟩ = some (.bool xb)) (cBui : w.cell? ⟨Bu, i, none⟩ = some (.bool (xb || (xa && xu)))) (cBri : w.cell? ⟨Br, i, none⟩ = some (.bool (xb && (xa || xr))))
    (cBoi : w.cell? ⟨Bo, i, none⟩ = some (.bool (xa || xo))) (cBli : w.cell? ⟨Bl, i, none⟩ = some (.bool (xa && xl))) (cBti : w.cell? ⟨Bt, i, none⟩ = some (.bool xa2)) (cBuk : w.cell? ⟨Bu, k, none⟩ = some (.bool xu))
    (cBrk : w.cell? ⟨Br, k, none⟩ = some (.bool xr)) (cBok : w.cell? ⟨Bo, k, none⟩ = some (.bool xo)) (cBlk : w.cell? ⟨Bl, k, none⟩ = some (.bool xl)) (cBak : w.cell? ⟨Ba, k, none⟩ = some (.bool xa2))
    (hQ : ∀ f q, f 88 = .bool false → Q .normal (allL f l 0 A) (w.drewN q)) : (Code.region id (List.toArray l) true).wp Tryd.prog Q A w := by
  subst hl
  have hQ' : ∀ f q, (allL f nowL 0 A).tmps[233]? = some (.bool false) → Q .normal (allL f nowL 0 A) (w.drewN q) := fun f q h => by
    refine hQ f q ?_
    have h1 := allL_eval (f := f) nowL 0 A 233 (by rw [hk.size]; decide)
    rw [show wrL nowL 0 233 = some 88 by kernel_rfl] at h1
    exact Eq.trans (Eq.symm h1) (ev_of h)
  cases xa
  all_goals cases xb
  all_goals simp only [Bool.false_and, Bool.true_and, Bool.false_or, Bool.true_or] at *
  · exact now20_ff hk hiI hi0 hkI hk0 cBai cBbi cBui cBri cBoi cBli cBti cBuk cBrk cBok cBlk cBak hQ'
  · exact now20_ft hk hiI hi0 hkI hk0 cBai cBbi cBui cBri cBoi cBli cBti cBuk cBrk cBok cBlk cBak hQ'
  · exact now20_tf hk hiI hi0 hkI hk0 cBai cBbi cBui cBri cBoi cBli cBti cBuk cBrk cBok cBlk cBak hQ'
  · exact now20_tt hk hiI hi0 hkI hk0 cBai cBbi cBui cBri cBoi cBli cBti cBuk cBrk cBok cBlk cBak hQ'

end Go.Proofs.YthkiegaifkkegaaDoor
