/- calc.Sum adds the numbers of its list, and tells whether the sum is an int64; for every list of int64 numbers. -/
import Derived.Test.YtilgdojnbecglaaX0
import Derived.Shelf.Spec.BitsCarry
import Derived.Lib.Hide
namespace Go.Proofs.Ytilgdojnbecglaa.X
open Go.RowKit Go.Proofs.YtilgdojnbecglaaW.PrintWords Go.Proofs.YtilgdojnbecglaaW.PrintLast Go.Proofs.YtilgdojnbecglaaW.PrintMore
set_option linter.unusedVariables false
set_option linter.unusedSimpArgs false

def addLo (x y c : Nat) : Nat := (x + y + c) % 18446744073709551616
def addHi (x y c : Nat) : Nat := (x + y + c) / 18446744073709551616
theorem add64_run (x y c : Nat) (hc : c ≤ 1) (w : World) : (callFunc 36 #[.int .u64 x, .int .u64 y, .int .u64 c]).run Try.prog w = .ok (.value (.tuple #[.int .u64 (addLo x y c : Nat), .int .u64 (addHi x y c : Nat)])) w := by
  unfold addLo addHi
  rw [run_callFunc_extern Try.func36 (by kernel_rfl) (by kernel_rfl) (by kernel_rfl) (e := add64Entry) (by kernel_rfl), run_add64 x y c (by omega) (by omega) (by omega) (by omega)]
  simp only [Result.andThen]
  congr 5 <;> omega
theorem add64_run0 (x y : Nat) (w : World) : (callFunc 36 #[.int .u64 x, .int .u64 y, .int .u64 0]).run Try.prog w = .ok (.value (.tuple #[.int .u64 (addLo x y 0 : Nat), .int .u64 (addHi x y 0 : Nat)])) w :=
  add64_run x y 0 (by omega) w
def uw (x : Int) : Nat := (x % 18446744073709551616).toNat
def loN (s : Int) : Nat := (s % 18446744073709551616).toNat
def hiN (s : Int) : Nat := ((s / 18446744073709551616) % 18446744073709551616).toNat
def I64 (x : Int) : Prop := -9223372036854775808 ≤ x ∧ x ≤ 9223372036854775807
instance (x : Int) : Decidable (I64 x) := by unfold I64; infer_instance
theorem uw_eq (x : Int) : IntKind.u64.wrap x = ((uw x : Nat) : Int) := by
  unfold uw
  rw [Int.toNat_of_nonneg (Int.emod_nonneg _ (by decide))]
  rfl
theorem lo_step (s x : Int) : addLo (loN s) (uw x) 0 = loN (s + x) := by
  unfold addLo loN uw; omega
theorem hi_le (s x : Int) : addHi (loN s) (uw x) 0 ≤ 1 := by
  unfold addHi loN uw; omega
theorem hi_step (s x : Int) (hx : I64 x) : addLo (hiN s) (uw (x / 9223372036854775808)) (addHi (loN s) (uw x) 0) = hiN (s + x) := by
  unfold I64 at hx; unfold addLo addHi hiN loN uw; omega
/-- What the last test comes to, and what is handed back there. -/
theorem sum_yes (s : Int) (hs : I64 s) : IntKind.u64.wrap (wrap64 (loN s : Nat) / 9223372036854775808) = ((hiN s : Nat) : Int) ∧ wrap64 (loN s : Nat) = s := by
  unfold I64 at hs
  have h : wrap64 (loN s : Nat) = s := by unfold wrap64 loN; omega
  refine ⟨?_, h⟩
  rw [h, uw_eq]; unfold uw hiN; omega
theorem sum_no (s : Int) (hb : -85070591730234615865843651857942052864 ≤ s ∧ s ≤ 85070591730234615865843651857942052864) (hs : ¬ I64 s) : IntKind.u64.wrap (wrap64 (loN s : Nat) / 9223372036854775808) ≠ ((hiN s : Nat) : Int) := by
  rw [uw_eq]
  obtain ⟨q, r, h0, h1, rfl⟩ : ∃ q r : Int, 0 ≤ r ∧ r < 18446744073709551616 ∧ s = 18446744073709551616 * q + r := ⟨s / 18446744073709551616, s % 18446744073709551616, by omega, by omega, by omega⟩
  have e1 : ((loN (18446744073709551616 * q + r) : Nat) : Int) = r := by unfold loN; omega
  have e2 : ((hiN (18446744073709551616 * q + r) : Nat) : Int) = q % 18446744073709551616 := by unfold hiN; omega
  rw [e1, e2]
  unfold I64 at hs
  by_cases h : r < 9223372036854775808
  · have e3 : wrap64 r = r := by unfold wrap64; omega
    have e4 : r / 9223372036854775808 = 0 := by omega
    rw [e3, e4]; unfold uw; omega
  · have e3 : wrap64 r = r - 18446744073709551616 := by unfold wrap64; omega
    have e4 : (r - 18446744073709551616) / 9223372036854775808 = -1 := by omega
    rw [e3, e4]; unfold uw; omega
theorem sum_bound (l : List Int) (h : ∀ x ∈ l, I64 x) : -9223372036854775808 * (l.length : Int) ≤ l.sum ∧ l.sum ≤ 9223372036854775808 * (l.length : Int) := by
  induction l with
  | nil => simp
  | cons x l ih =>
    have h1 := h x (by simp)
    have h2 := ih fun y hy => h y (by simp [hy])
    unfold I64 at h1
    simp only [List.sum_cons, List.length_cons]
    omega
theorem take_sum (l : List Int) (i : Nat) (h : i < l.length) : (l.take (i + 1)).sum = (l.take i).sum + rd l i := by
  rw [List.take_succ_eq_append_getElem h, List.sum_append]
  simp [rd, List.getD_eq_getElem?_getD, h]
theorem rd_mem (l : List Int) (i : Nat) (h : i < l.length) : rd l i ∈ l := by
  simp [rd, List.getD_eq_getElem?_getD, h]

/-- What calc.Sum comes to. -/
def sumR (s : Int) : Int × Bool := if I64 s then (s, true) else (0, false)
def calc_Sum.f (l0 : List Int) : Option (Int × Bool) := if ∀ x ∈ l0, I64 x then some (sumR l0.sum) else none

set_option maxHeartbeats 1000000 in
theorem calc_Sum.calls (A0 : Option Addr) (c0 : Nat) (l0 : List Int) (r1 : Int) (r2 : Bool) (w : World) (hr0 : Kd.C (Kd.int .i64) w A0 l0.length l0) (hc0 : l0.length ≤ c0) (h : calc_Sum.f l0 = some (r1, r2)) :
    Calls Try.prog 21 #[.slice A0 l0.length c0] w fun e w' => e = .returned (.tuple #[.int .i64 r1, .bool r2]) ∧ Below w.heap.size w w' := by
  have HR0 := Aside0.mk hr0
  have hlen : l0.length ≤ 9223372036854775807 := hr0.2.1
  clear hr0
  unfold calc_Sum.f at h
  split at h
  case isFalse => simp at h
  rename_i hall0
  have hall := Aside0.mk hall0
  have hbd := Aside0.mk (sum_bound l0 hall0)
  simp only [Option.some.injEq] at h
  have H := Aside0.mk h
  clear h hall0
  have hadd0 := fun (x y : Nat) (w : World) => add64_run0 x y w
  go_enter Try.func21, Try.ntmps21
  go_wp2_with fail
  go_loopg [4, 5, 12] l0.length (fun gg v4 v5 v12 wr => ∃ (i hi lo : Nat), v4 = .int .u64 (hi : Int) ∧ v5 = .int .u64 (lo : Int) ∧ v12 = .int .i64 (i : Int) ∧ i ≤ l0.length ∧ l0.length - i ≤ gg ∧ wr = w ∧ Aside0 (lo = loN (l0.take i).sum ∧ hi = hiN (l0.take i).sum))
  case atStart => exact ⟨0, 0, 0, rfl, rfl, rfl, by omega, by omega, rfl, ⟨by simp [loN, hiN]⟩⟩
  case round =>
    obtain ⟨i, hi, lo, rfl, rfl, rfl, hi1, hi2, rfl, hS⟩ := hrel
    by_cases hlt : i < l0.length
    · obtain ⟨ad, e, hx⟩ := Kd.at_int HR0.out (i : Int) (by omega) (by omega)
      cases e
      simp only [Int.toNat_natCast] at hx
      have hxr := hall.out _ (rd_mem l0 i hlt)
      have hts := Aside0.mk (take_sum l0 i hlt)
      generalize rd l0 (i : Int) = x at hx hxr hts
      have HX := Aside0.mk hxr
      clear hxr
      have hw1 := uw_eq x
      have hw2 := uw_eq (x / 9223372036854775808)
      have hadd1 := fun (w : World) => add64_run hi (uw (x / 9223372036854775808)) (addHi lo (uw x) 0) (by rw [hS.out.1]; exact hi_le _ _) w
      go_wp2_with fail
      go_roundg (l0.length - (i + 1))
      case measure => omega
      case rel =>
        refine ⟨i + 1, _, _, rfl, rfl, by go_num, by omega, by omega, rfl, ⟨?_⟩⟩
        obtain ⟨rfl, rfl⟩ := hS.out
        rw [hts.out]
        exact ⟨lo_step _ _, hi_step _ _ HX.out⟩
    · obtain ⟨hlo, hhi⟩ := hS.out
      rw [List.take_of_length_le (by omega)] at hlo hhi
      by_cases hs : I64 l0.sum
      · have ht := (sum_yes _ hs).1
        have hv := Aside0.mk (sum_yes _ hs).2
        rw [← hlo, ← hhi] at ht
        have ht' : (IntKind.u64.wrap (wrap64 (lo : Int) / 9223372036854775808) == (hi : Int)) = true := by simpa using ht
        clear ht
        have HL := Aside0.mk hlo
        clear hlo hhi
        go_wp2_with fail
        go_ret2
        refine ⟨?_, Below.refl _ _⟩
        have := H.out
        rw [sumR, if_pos hs] at this
        simp only [Prod.mk.injEq] at this
        show Ending.returned (.tuple #[.int .i64 (wrap64 (lo : Int)), .bool true]) = _
        rw [HL.out, hv.out, ← this.1, ← this.2]
      · have ht := sum_no l0.sum (by have := hbd.out; omega) hs
        rw [← hlo, ← hhi] at ht
        have ht' : (IntKind.u64.wrap (wrap64 (lo : Int) / 9223372036854775808) == (hi : Int)) = false := by simpa using ht
        clear ht hlo hhi
        go_wp2_with fail
        go_ret2
        refine ⟨?_, Below.refl _ _⟩
        have := H.out
        rw [sumR, if_neg hs] at this
        simp only [Prod.mk.injEq] at this
        show Ending.returned (.tuple #[.int .i64 0, .bool false]) = _
        rw [← this.1, ← this.2]
end Go.Proofs.Ytilgdojnbecglaa.X
