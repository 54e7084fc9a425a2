/- The plain law of OpParts: what is added to a key and what is taken away are the document's; Same tells whether two lists are the same. -/
import Derived.Test.YtilgdojnbecglaaX9
import Derived.Test.YtilgdojnbecglaaLawA
namespace Go.Proofs.Ytilgdojnbecglaa.X.D
open Go.RowKit Go.Proofs.YtilgdojnbecglaaW.PrintWords Go.Proofs.YtilgdojnbecglaaW.PrintLast Go.Proofs.YtilgdojnbecglaaW.PrintMore
set_option linter.unusedVariables false
set_option linter.unusedSimpArgs false

/-! Sums in halves. -/
theorem halves_f (a : Int) (h : I64 a) (k : Nat) (hk : 2 ≤ k) : pledgeref01_halves.f k a = some (a / 4294967296, a % 4294967296) := by
  obtain ⟨k, rfl⟩ : ∃ k', k = k' + 1 + 1 := ⟨k - 2, by omega⟩
  unfold I64 at h
  have pos : ∀ (j : Nat) (b : Int), 0 ≤ b → b ≤ 9223372036854775807 → pledgeref01_halves.f (j + 1) b = some (b / 4294967296, b % 4294967296) := by
    intro j b h0 h1
    unfold pledgeref01_halves.f
    rw [if_neg (by omega)]
    have e1 : Int.tdiv b 4294967296 = b / 4294967296 := Int.tdiv_eq_ediv_of_nonneg h0
    have e2 : Int.tmod b 4294967296 = b % 4294967296 := Int.tmod_eq_emod_of_nonneg h0
    rw [e1, e2]
    have : wrap64 (b / 4294967296) = b / 4294967296 := by unfold wrap64; omega
    rw [this]
  by_cases hn : a < 0
  · unfold pledgeref01_halves.f
    rw [if_pos hn]
    have e : wrap64 (-(wrap64 (a + 1))) = -(a + 1) := by unfold wrap64; omega
    rw [e, pos k _ (by omega) (by omega)]
    simp only [Option.bind_some, Option.some.injEq, Prod.mk.injEq]
    unfold wrap64
    omega
  · exact pos (k + 1) a (by omega) (by omega)
theorem rd_nat (l : List Int) (i : Nat) (h : i < l.length) : rd l (i : Int) = l[i] := by
  simp [rd, List.getD_eq_getElem?_getD, h]
theorem sum_l (l : List Int) (hl : l.length ≤ 1000) (hI : ∀ x ∈ l, I64 x) : ∀ (n i k : Nat) (hi lo : Int), l.length - i = n → i ≤ l.length → n + 2 < k → 0 ≤ lo → lo < 4294967296 → -(2147483648 * (i : Int)) ≤ hi → hi ≤ 2147483648 * (i : Int) →
    pledgeref01_Sum.l0 k l (i : Int) hi lo = some (sumR (hi * 4294967296 + lo + (l.drop i).sum)) := by
  intro n
  induction n with
  | zero =>
    intro i k hi lo hn hil hk l0 l1 h0 h1
    obtain ⟨k, rfl⟩ : ∃ k', k = k' + 1 := ⟨k - 1, by omega⟩
    unfold pledgeref01_Sum.l0
    rw [if_neg (by omega), List.drop_eq_nil_of_le (by omega), List.sum_nil, Int.add_zero]
    unfold sumR
    by_cases g0 : hi < -2147483648
    · rw [if_pos g0, if_neg (by unfold I64; omega)]
    · rw [if_neg g0]
      by_cases g1 : hi > 2147483647
      · rw [if_pos g1, if_neg (by unfold I64; omega)]
      · rw [if_neg g1, if_pos (by unfold I64; omega)]
        have : wrap64 (wrap64 (hi * 4294967296) + lo) = hi * 4294967296 + lo := by unfold wrap64; omega
        rw [this]
  | succ n ih =>
    intro i k hi lo hn hil hk l0 l1 h0 h1
    obtain ⟨k, rfl⟩ : ∃ k', k = k' + 1 := ⟨k - 1, by omega⟩
    have hx : i < l.length := by omega
    unfold pledgeref01_Sum.l0
    have hxI := hI _ (List.getElem_mem hx)
    rw [if_pos (by omega), if_pos (by omega), rd_nat l i hx, halves_f _ hxI k (by omega)]
    simp only [Option.bind_some]
    rw [wrap_up i (by omega), List.drop_eq_getElem_cons hx, List.sum_cons]
    generalize l[i] = x at hxI
    unfold I64 at hxI
    have b0 : -2147483648 ≤ x / 4294967296 := by omega
    have b1 : x / 4294967296 ≤ 2147483647 := by omega
    have c0 : 0 ≤ x % 4294967296 := by omega
    have c1 : x % 4294967296 < 4294967296 := by omega
    have hxe : x = x / 4294967296 * 4294967296 + x % 4294967296 := by omega
    generalize x / 4294967296 = p at *
    generalize x % 4294967296 = q at *
    have e1 : wrap64 (lo + q) = lo + q := by unfold wrap64; omega
    have e2 : wrap64 (hi + p) = hi + p := by unfold wrap64; omega
    have e3 : wrap64 ((hi + p) + 1) = hi + p + 1 := by unfold wrap64; omega
    have e4 : wrap64 (lo + q - 4294967296) = lo + q - 4294967296 := by unfold wrap64; omega
    rw [e1, e2, e3, e4]
    by_cases hc : lo + q ≥ 4294967296
    · rw [if_pos hc, ih (i + 1) k _ _ (by omega) (by omega) (by omega) (by omega) (by omega) (by omega) (by omega)]
      congr 2
      omega
    · rw [if_neg hc, ih (i + 1) k _ _ (by omega) (by omega) (by omega) (by omega) (by omega) (by omega) (by omega)]
      congr 2
      omega
theorem sum_f (l : List Int) (hl : l.length ≤ 1000) (hI : ∀ x ∈ l, I64 x) (k : Nat) (hk : l.length + 2 < k) : pledgeref01_Sum.f k l = some (sumR l.sum) := by
  unfold pledgeref01_Sum.f
  have := sum_l l hl hI l.length 0 k 0 0 rfl (by omega) hk (by omega) (by omega) (by omega) (by omega)
  simpa using this


/-! Deltas at a key, of one sign. -/
theorem sel_cons (p : Int → Bool) (o : S26) (l : List S26) (a b c : Int) : sel p (o :: l) a b c = if (atKey o a b c && p o.f1) = true then o.f1 :: sel p l a b c else sel p l a b c := by
  unfold sel
  by_cases h : (atKey o a b c && p o.f1) = true
  · rw [List.filter_cons_of_pos (p := fun o => atKey o a b c && p o.f1) h, if_pos h, List.map_cons]
  · rw [List.filter_cons_of_neg (p := fun o => atKey o a b c && p o.f1) h, if_neg h]
theorem sel_len' (p : Int → Bool) (l : List S26) (a b c : Int) : (sel p l a b c).length ≤ l.length := by
  simp only [sel, List.length_map]
  exact List.length_filter_le _ _
theorem low_l (y : List S26) (hy : y.length ≤ 60) (a b c : Int) : ∀ (n i k : Nat) (acc : List Int), y.length - i = n → i ≤ y.length → acc.length ≤ i → n < k →
    pledgeref11_Deltas.l0 k y (-1) acc (i : Int) a b c = some (acc ++ sel (fun d => decide (d < 0)) (y.drop i) a b c) := by
  intro n
  induction n with
  | zero =>
    intro i k acc hn hi ha hk
    obtain ⟨k, rfl⟩ : ∃ k', k = k' + 1 := ⟨k - 1, by omega⟩
    unfold pledgeref11_Deltas.l0
    rw [if_neg (by omega), List.drop_eq_nil_of_le (by omega)]
    simp [sel]
  | succ n ih =>
    intro i k acc hn hi ha hk
    obtain ⟨k, rfl⟩ : ∃ k', k = k' + 1 := ⟨k - 1, by omega⟩
    have hil : i < y.length := by omega
    unfold pledgeref11_Deltas.l0
    rw [if_pos (by omega), if_pos (by omega), rd26_nat y i hil, wrap_up i (by omega), List.drop_eq_getElem_cons hil, sel_cons]
    unfold atKey
    by_cases h : (y[i].f0.f0 == a && (y[i].f0.f1 == b && y[i].f0.f2 == c)) = true
    · rw [if_pos h, if_neg (by omega), if_pos (by omega)]
      by_cases hd : y[i].f1 < 0
      · rw [if_pos hd, if_pos (by omega), ih (i + 1) k _ (by omega) (by omega) (by simp; omega) (by omega), if_pos (by rw [h]; simpa using hd), List.append_assoc]
        rfl
      · rw [if_neg hd, if_neg (by omega), ih (i + 1) k _ (by omega) (by omega) (by omega) (by omega), if_neg (by rw [h]; simpa using hd)]
    · rw [if_neg h, ih (i + 1) k _ (by omega) (by omega) (by omega) (by omega), if_neg (by rw [Bool.eq_false_iff.2 h]; simp)]
theorem high_l (y : List S26) (hy : y.length ≤ 60) (a b c : Int) : ∀ (n i k : Nat) (acc : List Int), y.length - i = n → i ≤ y.length → acc.length ≤ i → n < k →
    pledgeref11_Deltas.l0 k y 1 acc (i : Int) a b c = some (acc ++ sel (fun d => decide (0 < d)) (y.drop i) a b c) := by
  intro n
  induction n with
  | zero =>
    intro i k acc hn hi ha hk
    obtain ⟨k, rfl⟩ : ∃ k', k = k' + 1 := ⟨k - 1, by omega⟩
    unfold pledgeref11_Deltas.l0
    rw [if_neg (by omega), List.drop_eq_nil_of_le (by omega)]
    simp [sel]
  | succ n ih =>
    intro i k acc hn hi ha hk
    obtain ⟨k, rfl⟩ : ∃ k', k = k' + 1 := ⟨k - 1, by omega⟩
    have hil : i < y.length := by omega
    unfold pledgeref11_Deltas.l0
    rw [if_pos (by omega), if_pos (by omega), rd26_nat y i hil, wrap_up i (by omega), List.drop_eq_getElem_cons hil, sel_cons]
    unfold atKey
    by_cases h : (y[i].f0.f0 == a && (y[i].f0.f1 == b && y[i].f0.f2 == c)) = true
    · rw [if_pos h, if_neg (by omega), if_neg (by omega), if_pos (by omega)]
      by_cases hd : 0 < y[i].f1
      · rw [if_pos (show y[i].f1 > 0 from hd), if_pos (by omega), ih (i + 1) k _ (by omega) (by omega) (by simp; omega) (by omega), if_pos (by rw [h]; simpa using hd), List.append_assoc]
        rfl
      · rw [if_neg (show ¬ y[i].f1 > 0 from hd), ih (i + 1) k _ (by omega) (by omega) (by omega) (by omega), if_neg (by rw [h]; simpa using hd)]
    · rw [if_neg h, ih (i + 1) k _ (by omega) (by omega) (by omega) (by omega), if_neg (by rw [Bool.eq_false_iff.2 h]; simp)]
theorem cut60 (l : List S26) : mn (l.length : Int) 60 = ((min l.length 60 : Nat) : Int) := by unfold mn; split <;> omega
theorem parts_f (l m : List S26) (a b c : Int) (hl : l.length ≤ 9223372036854775807) (hm : m.length ≤ 9223372036854775807) (hI0 : ∀ o ∈ l, I64 o.f1) : pledgelaw11_OpParts.f 200 l m a b c = some true := by
  unfold pledgelaw11_OpParts.f
  rw [cut60, cut60, if_pos (by omega), if_pos (by omega)]
  simp only [Option.bind_some, Int.toNat_natCast]
  rw [if_pos (by omega), if_pos (by omega)]
  have hy : (l.take (min l.length 60)).length ≤ 60 := by rw [List.length_take]; omega
  have hz : (m.take (min m.length 60)).length ≤ 60 := by rw [List.length_take]; omega
  have hI : ∀ o ∈ l.take (min l.length 60), I64 o.f1 := fun o ho => hI0 o (List.mem_of_mem_take ho)
  generalize l.take (min l.length 60) = y at hy hI
  generalize m.take (min m.length 60) = z at hz
  have h1 : op_Low.f y a b c = some (sumR (sel (fun d => decide (d < 0)) y a b c).sum) := by unfold op_Low.f someR; rw [if_pos ⟨by omega, hI⟩]
  have h2 : op_High.f y a b c = some (sumR (sel (fun d => decide (0 < d)) y a b c).sum) := by unfold op_High.f someR; rw [if_pos ⟨by omega, hI⟩]
  have d1 : pledgeref11_Deltas.f 200 y a b c (-1) = some (sel (fun d => decide (d < 0)) y a b c) := by
    unfold pledgeref11_Deltas.f
    have := low_l y hy a b c y.length 0 200 [] rfl (by omega) (by simp) (by omega)
    simpa using this
  have d2 : pledgeref11_Deltas.f 200 y a b c 1 = some (sel (fun d => decide (0 < d)) y a b c) := by
    unfold pledgeref11_Deltas.f
    have := high_l y hy a b c y.length 0 200 [] rfl (by omega) (by simp) (by omega)
    simpa using this
  have l1 := sel_len' (fun d => decide (d < 0)) y a b c
  have l2 := sel_len' (fun d => decide (0 < d)) y a b c
  have s1 := sum_f _ (by omega) (sel_i64 (p := fun d => decide (d < 0)) (a := a) (b := b) (c := c) hI) 200 (by omega)
  have s2 := sum_f _ (by omega) (sel_i64 (p := fun d => decide (0 < d)) (a := a) (b := b) (c := c) hI) 200 (by omega)
  rw [h1, d1, h2, d2]
  simp only [Option.bind_some]
  rw [s1, s2]
  simp only [Option.bind_some, if_true, beq_self_eq_true]
  rw [opsame_f y z (by omega) 200 (by omega), same_f y z (by omega) 200 (by omega), opsame_f y y (by omega) 200 (by omega), works_f 200 (by omega)]
  simp only [Option.bind_some, if_true, beq_self_eq_true, decide_true]
end Go.Proofs.Ytilgdojnbecglaa.X.D
