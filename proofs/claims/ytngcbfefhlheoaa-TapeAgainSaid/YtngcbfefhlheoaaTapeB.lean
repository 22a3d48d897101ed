/- Contracts: foretellkeep.record, tape.put, tape.get, slices.Clone of bytes. -/
import Derived.Test.YtngcbfefhlheoaaTapeA
import Derived.Test.YtngcbfefhlheoaaBits
namespace Go.Proofs.Ytngcbfefhlheoaa
open Go.RowKit

theorem Try.slInts : SlTy Try.prog 27 3 (.int .i64 0) 1 8 := SlTy.mk' Try.underlying27 (by kernel_rfl) (by rfl) (by omega)

def recL (l : List Int) : List Int := (l.take 12).map (pk · 2147483648)

theorem recL_len (l : List Int) : (recL l).length = min 12 l.length := by simp [recL]

theorem recL_bd (l : List Int) : ∀ x ∈ recL l, 0 ≤ x ∧ x ≤ 2147483647 := by
  intro x hx
  obtain ⟨y, _, rfl⟩ := List.mem_map.1 hx
  have := pk_bd y 2147483648 (by omega)
  omega

theorem recL_take_succ (l : List Int) (k : Nat) (h : k < l.length) (h2 : k < 12) : (recL l).take (k + 1) = (recL l).take k ++ [pk l[k] 2147483648] := by
  have hl : k < (recL l).length := by rw [recL_len]; omega
  rw [List.take_succ_eq_append_getElem hl]
  simp [recL]

set_option maxHeartbeats 1000000 in
theorem record_any (v : Value) (l : List Int) (w : World) (h : Ints w v l) (hI : ∀ n ∈ l, I64 n) :
    Calls Try.prog 12 #[v] w fun e w' => ∃ v', e = .returned v' ∧ w'.ownsRow w.heap.size 3 1 v' (recL l).length ((recL l).map (.int .i64)) ∧ Ext w w' := by
  obtain ⟨a, cap, rfl, hr⟩ := h
  obtain ⟨b, off, hnil, ha, hc⟩ := hr.lie
  have hm : l.length ≤ 9223372036854775807 := by have := hr.le; have := hr.max; unfold maxLen at this; omega
  go_enter Try.func12, Try.ntmps12
  go_wp2
  go_loopw [3, 4] (fun o i wr => ∃ k : Nat, k ≤ l.length ∧ k ≤ 12 ∧ i = .int .i64 k ∧ wr.ownsRow w.heap.size 3 1 o k (((recL l).take k).map (.int .i64)) ∧ Ext w wr) (fun _ i _ => l.length - (intOf i).toNat)
  case atStart => exact ⟨0, by omega, by omega, rfl, World.ownsRow_nil _ _ _ _, Ext.refl _⟩
  case round =>
    obtain ⟨k, hk, hk2, rfl, hown, hext⟩ := hrel
    have hhs : w.heap.size ≤ wr.heap.size := hext.size
    by_cases hlt : k < l.length
    · by_cases h12 : k < 12
      · have hcell : wr.cell? ⟨b, off + k, none⟩ = some (.int .i64 l[k]) := cell_later hext (hc k _ (by simp [hlt]))
        obtain rfl := ha (by simp; omega)
        have hI1 := (hI l[k] (by simp)).1
        have hI2 := (hI l[k] (by simp)).2
        have HC := Lib.hid hc
        have HT := Lib.hid (recL_take_succ l k hlt h12)
        clear hc ha hnil hr hI
        go_wp2_with (first
          | (go_at_call 11; refine (picked_any _ _ _ hI1 hI2 (by omega) (by omega)).mono ?_; rintro e w' ⟨rfl, rfl⟩)
          | (at_builtin; refine wpl_append rfl rfl Try.slInts w.heap.size rfl (hown.alloc _) rfl (Row.one _ _ _) (one_int _) (by unfold maxLen; omega) (by omega) (by simp; omega) ?_))
        intro o' w1 hown1 hg1 _ _
        go_wp2
        go_roundw
        case rel =>
          refine ⟨k + 1, by omega, by omega, by go_num, ?_, ?_⟩
          · rw [HT.out]; simpa using hown1
          · exact ((hext.alloc hhs _).grown hg1 (by simp; omega) (fun g hg => (hown.lt g hg).1))
        case measure => simp [intOf]; omega
      · obtain rfl : k = 12 := by omega
        go_wp2
        go_ret
        refine ⟨_, rfl, ?_, hext⟩
        have hl : (recL l).length = 12 := by rw [recL_len]; omega
        rw [hl]
        rwa [List.take_of_length_le (by omega)] at hown
    · obtain rfl : k = l.length := by omega
      go_wp2
      go_ret
      refine ⟨_, rfl, ?_, hext⟩
      have hl : (recL l).length = l.length := by rw [recL_len]; omega
      rw [hl]
      rwa [List.take_of_length_le (by omega)] at hown

def be4 (n : Int) : List UInt8 := [UInt8.ofNat (n / 16777216).toNat, UInt8.ofNat (n / 65536 % 256).toNat, UInt8.ofNat (n / 256 % 256).toNat, UInt8.ofNat (n % 256).toNat]

theorem be4_len (n : Int) : (be4 n).length = 4 := rfl

theorem bv_ofNat (x : Int) (h0 : 0 ≤ x) (h1 : x < 256) : bv (UInt8.ofNat x.toNat) = .int .u8 x := by
  unfold bv
  rw [UInt8.toNat_ofNat_of_lt' (by have : UInt8.size = 256 := rfl; omega)]
  congr 1
  omega

theorem be4_cells (n : Int) (h1 : 0 ≤ n) (h2 : n ≤ 2147483647) : [Value.int .u8 (n / 16777216), .int .u8 (n / 65536 % 256), .int .u8 (n / 256 % 256), .int .u8 (n % 256)] = (be4 n).map bv := by
  simp only [be4, List.map_cons, List.map_nil]
  rw [bv_ofNat _ (by omega) (by omega), bv_ofNat _ (by omega) (by omega), bv_ofNat _ (by omega) (by omega), bv_ofNat _ (by omega) (by omega)]

set_option maxHeartbeats 1000000 in
theorem put_any (base : Nat) (v : Value) (l : List UInt8) (n : Int) (w : World) (hown : w.ownsRow base 5 1 v l.length (l.map bv)) (hb : base ≤ w.heap.size) (hl : l.length ≤ 1000000) (h1 : 0 ≤ n) (h2 : n ≤ 2147483647) :
    Calls Try.prog 22 #[v, .int .i64 n] w fun e w' => ∃ v', e = .returned v' ∧ w'.ownsRow base 5 1 v' (l ++ be4 n).length ((l ++ be4 n).map bv) ∧ w.grownBy w' v.ownBlock := by
  go_enter Try.func22, Try.ntmps22
  have hle := hown.row
  go_wp2_with (at_builtin; refine wpl_append rfl rfl Try.slBytes base rfl (hown.alloc _) rfl (Row.new _ _ [_, _, _, _] (by simp [maxLen])) (by simp [Value.oneCell']) (by simp [maxLen]; omega) (by simp; omega) (by simp; omega) ?_)
  intro v' w1 hown1 hg1 _ _
  go_wp2
  go_ret
  refine ⟨_, rfl, ?_, (World.grownBy_alloc w _ _).trans' hg1⟩
  rw [be4_cells n h1 h2] at hown1
  simpa [be4_len] using hown1

/-- The number that four bytes are. -/
def get4 (l : List UInt8) : Int := match l with
  | a :: b :: c :: d :: _ => (a.toNat : Int) * 16777216 + (b.toNat : Int) * 65536 + (c.toNat : Int) * 256 + (d.toNat : Int)
  | _ => 0

theorem get4_bits (a b c d : UInt8) (l : List UInt8) :
    bits .or .i64 (bits .or .i64 (bits .or .i64 (wrap64 (wrap64 (a.toNat : Int) * 16777216)) (wrap64 (wrap64 (b.toNat : Int) * 65536))) (wrap64 (wrap64 (c.toNat : Int) * 256))) (wrap64 (d.toNat : Int)) = get4 (a :: b :: c :: d :: l) := by
  have ha := a.toNat_lt
  have hb := b.toNat_lt
  have hc := c.toNat_lt
  have hd := d.toNat_lt
  show _ = (a.toNat : Int) * 16777216 + (b.toNat : Int) * 65536 + (c.toNat : Int) * 256 + (d.toNat : Int)
  rw [IntWalk.wrap64_in (a.toNat : Int) (by omega), IntWalk.wrap64_in (b.toNat : Int) (by omega), IntWalk.wrap64_in (c.toNat : Int) (by omega), IntWalk.wrap64_in (d.toNat : Int) (by omega),
    IntWalk.wrap64_in ((a.toNat : Int) * 16777216) (by omega), IntWalk.wrap64_in ((b.toNat : Int) * 65536) (by omega), IntWalk.wrap64_in ((c.toNat : Int) * 256) (by omega)]
  have e1 : bits .or .i64 ((a.toNat : Int) * 16777216) ((b.toNat : Int) * 65536) = ((a.toNat * 16777216 + b.toNat * 65536 : Nat) : Int) := by
    have := i64_or_nat (a.toNat * 16777216) (b.toNat * 65536) (by omega) (by omega)
    rw [or_add a.toNat (b.toNat * 65536) 24 (by omega)] at this
    simpa using this
  rw [e1]
  have e2 : bits .or .i64 ((a.toNat * 16777216 + b.toNat * 65536 : Nat) : Int) ((c.toNat : Int) * 256) = ((a.toNat * 16777216 + b.toNat * 65536 + c.toNat * 256 : Nat) : Int) := by
    have := i64_or_nat ((a.toNat * 256 + b.toNat) * 65536) (c.toNat * 256) (by omega) (by omega)
    rw [or_add (a.toNat * 256 + b.toNat) (c.toNat * 256) 16 (by omega)] at this
    rw [show a.toNat * 16777216 + b.toNat * 65536 = (a.toNat * 256 + b.toNat) * 65536 by omega]
    simpa using this
  rw [e2]
  have := i64_or_nat ((a.toNat * 65536 + b.toNat * 256 + c.toNat) * 256) d.toNat (by omega) (by omega)
  rw [or_add (a.toNat * 65536 + b.toNat * 256 + c.toNat) d.toNat 8 (by omega)] at this
  rw [show a.toNat * 16777216 + b.toNat * 65536 + c.toNat * 256 = (a.toNat * 65536 + b.toNat * 256 + c.toNat) * 256 by omega, this]
  omega

theorem get_any (v : Value) (l : List UInt8) (w : World) (h : Bytes w v l) (h4 : 4 ≤ l.length) :
    Calls Try.prog 25 #[v] w fun e w' => e = .returned (.int .i64 (get4 l)) ∧ ∃ n, w' = w.drewN n := by
  obtain ⟨a, cap, rfl, hr⟩ := h
  match l, h4 with
  | b0 :: b1 :: b2 :: b3 :: l, _ =>
    obtain ⟨b, off, hnil, ha, hc⟩ := hr.lie
    obtain rfl := ha (by simp)
    have c0 : w.cell? ⟨b, off, none⟩ = some (.int .u8 b0.toNat) := hc 0 _ rfl
    have c1 : w.cell? ⟨b, off + 1, none⟩ = some (.int .u8 b1.toNat) := hc 1 _ rfl
    have c2 : w.cell? ⟨b, off + 2, none⟩ = some (.int .u8 b2.toNat) := hc 2 _ rfl
    have c3 : w.cell? ⟨b, off + 3, none⟩ = some (.int .u8 b3.toNat) := hc 3 _ rfl
    clear hc hnil ha hr
    go_enter Try.func25, Try.ntmps25
    go_wp2
    go_quiet (fail)
    go_wp2
    go_ret
    exact ⟨congrArg (fun x => Ending.returned (.int .i64 x)) (get4_bits b0 b1 b2 b3 l), _, rfl⟩

end Go.Proofs.Ytngcbfefhlheoaa
