/- The plain laws of OpUndoes and of OpNets. -/
import Derived.Test.YtilgdojnbecglaaX8
import Derived.Test.YtilgdojnbecglaaLawA
namespace Go.Proofs.Ytilgdojnbecglaa.X
open Go.RowKit Go.Proofs.YtilgdojnbecglaaW.PrintWords Go.Proofs.YtilgdojnbecglaaW.PrintLast Go.Proofs.YtilgdojnbecglaaW.PrintMore
set_option linter.unusedVariables false
set_option linter.unusedSimpArgs false

/-! Neg. -/
theorem wneg {d : Int} (h : I64 d) (hn : d ≠ -9223372036854775808) : wrap64 (-d) = -d := by
  unfold I64 at h
  unfold wrap64
  omega
theorem negOp_eq {o : S26} (h : I64 o.f1) (hn : isLeast o = false) : negOp o = ⟨o.f0, -o.f1⟩ := by
  unfold negOp
  rw [wneg h (by unfold isLeast at hn; simpa using hn)]
theorem negOp_i64 {o : S26} (h : I64 o.f1) (hn : isLeast o = false) : I64 (negOp o).f1 ∧ isLeast (negOp o) = false := by
  rw [negOp_eq h hn]
  have h' : o.f1 ≠ -9223372036854775808 := by unfold isLeast at hn; simpa using hn
  unfold I64 at h ⊢
  unfold isLeast
  simp only
  refine ⟨by omega, ?_⟩
  simp only [beq_eq_false_iff_ne, ne_eq]
  omega
theorem negOp_twice {o : S26} (h : I64 o.f1) (hn : isLeast o = false) : negOp (negOp o) = o := by
  rw [negOp_eq (negOp_i64 h hn).1 (negOp_i64 h hn).2, negOp_eq h hn]
  simp
theorem refneg1 {d : Int} (h : I64 d) : pledgeref01_Neg.f d = some (if d = -9223372036854775808 then (0, false) else (wrap64 (-d), true)) := by
  unfold pledgeref01_Neg.f
  unfold I64 at h
  by_cases h1 : d = -9223372036854775808
  · rw [if_pos (by omega), if_pos h1]
  · rw [if_neg (by omega), if_neg h1]
theorem any_take_succ (y : List S26) (i : Nat) (h : i < y.length) : (y.take (i + 1)).any isLeast = ((y.take i).any isLeast || isLeast y[i]) := by
  rw [List.take_succ_eq_append_getElem h, List.any_append]
  simp
theorem refneg_l (y : List S26) (hy : y.length ≤ 60) (hI : ∀ o ∈ y, I64 o.f1) : ∀ (i k : Nat) (acc : List S26), i ≤ y.length → acc.length + i ≤ 60 → i < k →
    pledgeref11_Neg.l0 k y acc ((i : Int) - 1) = some (if (y.take i).any isLeast then ([], false) else (acc ++ (y.take i).reverse.map negOp, true)) := by
  intro i
  induction i with
  | zero =>
    intro k acc hi ha hk
    obtain ⟨k, rfl⟩ : ∃ k', k = k' + 1 := ⟨k - 1, by omega⟩
    unfold pledgeref11_Neg.l0
    rw [if_neg (by omega)]
    simp
  | succ i ih =>
    intro k acc hi ha hk
    obtain ⟨k, rfl⟩ : ∃ k', k = k' + 1 := ⟨k - 1, by omega⟩
    unfold pledgeref11_Neg.l0
    have e : (((i + 1 : Nat) : Int) - 1) = (i : Int) := by omega
    have hw : wrap64 ((i : Int) - 1) = (i : Int) - 1 := by unfold wrap64; omega
    have hil : i < y.length := by omega
    rw [e, if_pos (by omega), if_pos (by omega), if_pos (by omega), rd26_nat y i hil, refneg1 (hI _ (List.getElem_mem hil)), hw, any_take_succ y i hil]
    simp only [Option.bind_some]
    by_cases h1 : y[i].f1 = -9223372036854775808
    · have hl : isLeast y[i] = true := by unfold isLeast; simpa using h1
      simp only [h1, if_true, Bool.false_eq_true, if_false, hl, Bool.or_true]
    · have hl : isLeast y[i] = false := by unfold isLeast; simpa using h1
      simp only [h1, if_false, if_true, hl, Bool.or_false]
      rw [if_pos (by omega), ih k _ (by omega) (by simp; omega) (by omega)]
      congr 1
      split
      · rfl
      · rw [List.take_succ_eq_append_getElem hil, List.reverse_append, List.map_append, List.append_assoc]
        rfl
theorem refneg_f (y : List S26) (hy : y.length ≤ 60) (hI : ∀ o ∈ y, I64 o.f1) (k : Nat) (hk : 62 ≤ k) : pledgeref11_Neg.f k y = some (negR y) := by
  unfold pledgeref11_Neg.f
  have hw : wrap64 ((y.length : Int) - 1) = (y.length : Int) - 1 := by unfold wrap64; omega
  rw [hw, refneg_l y hy hI y.length k [] (Nat.le_refl _) (by simpa using hy) (by omega), List.take_length]
  rfl

/-! OpUndoes. -/
theorem atOf_append (l m : List S26) (k : S24) : atOf (l ++ m) k = atOf l k ++ atOf m k := by
  unfold atOf
  rw [List.filter_append, List.map_append]
theorem atOf_neg (k : S24) : ∀ (l : List S26), (∀ o ∈ l, I64 o.f1 ∧ isLeast o = false) → (atOf (l.map negOp) k).sum = -(atOf l k).sum
  | [], _ => rfl
  | o :: l, h => by
    have ih := atOf_neg k l (fun x hx => h x (by simp [hx]))
    have ho := h o (by simp)
    rw [List.map_cons, negOp_eq ho.1 ho.2]
    unfold atOf at ih ⊢
    by_cases hk : o.f0 = k
    · simp only [List.filter_cons, hk, decide_true, if_true, List.map_cons, List.sum_cons]
      rw [ih]
      omega
    · simp only [List.filter_cons, hk, decide_false, Bool.false_eq_true, if_false]
      exact ih
theorem any_false {y : List S26} (h : y.any isLeast = false) : ∀ o ∈ y, isLeast o = false := by
  intro o ho
  have := List.any_eq_false.1 h o ho
  simpa using this
theorem undo_net (y : List S26) (hI : ∀ o ∈ y, I64 o.f1) (hn : y.any isLeast = false) : netR (y ++ y.reverse.map negOp) = ([], true) := by
  have hz : ∀ k, (atOf (y ++ y.reverse.map negOp) k).sum = 0 := by
    intro k
    rw [atOf_append, List.sum_append, atOf_neg k y.reverse (fun o ho => ⟨hI o (by simpa using ho), any_false hn o (by simpa using ho)⟩), atOf_sum_perm (List.reverse_perm y) k]
    omega
  rw [netR_eq, if_pos]
  · unfold netL
    rw [List.filter_eq_nil_iff.2 (fun k hk => by rw [hz k]; simp)]
    rfl
  · unfold netOk
    intro k _
    rw [hz k]
    unfold I64
    omega
theorem neg_back (y : List S26) (hI : ∀ o ∈ y, I64 o.f1) (hn : y.any isLeast = false) : negR (y.reverse.map negOp) = (y, true) := by
  unfold negR
  rw [if_neg]
  · congr 1
    rw [← List.map_reverse, List.reverse_reverse, List.map_map]
    conv => rhs; rw [← List.map_id y]
    exact List.map_congr_left (fun o ho => negOp_twice (hI o ho) (any_false hn o ho))
  · intro h
    obtain ⟨o, ho, hl⟩ := List.any_eq_true.1 h
    obtain ⟨p, hp, rfl⟩ := List.mem_map.1 ho
    have hp' : p ∈ y := by simpa using hp
    rw [(negOp_i64 (hI p hp') (any_false hn p hp')).2] at hl
    cases hl
theorem cut60 (l : List S26) : mn (l.length : Int) 60 = ((min l.length 60 : Nat) : Int) := by unfold mn; split <;> omega
theorem undoes_f (l : List S26) (hl : l.length ≤ 9223372036854775807) (hI0 : ∀ o ∈ l, I64 o.f1) : pledgelaw11_OpUndoes.f 200 l = some true := by
  unfold pledgelaw11_OpUndoes.f
  rw [cut60, if_pos (by omega), if_pos (by omega)]
  simp only [Option.bind_some, Int.toNat_natCast]
  have hy : (l.take (min l.length 60)).length ≤ 60 := by rw [List.length_take]; omega
  have hI : ∀ o ∈ l.take (min l.length 60), I64 o.f1 := fun o ho => hI0 o (List.mem_of_mem_take ho)
  generalize l.take (min l.length 60) = y at hy hI
  have h1 : op_Neg.f y = some (negR y) := by unfold op_Neg.f; rw [if_pos (by omega)]
  rw [h1]
  simp only [Option.bind_some]
  cases hn : y.any isLeast with
  | true =>
    have : negR y = ([], false) := by unfold negR; rw [if_pos hn]
    rw [this]
    simp only [Bool.false_eq_true, if_false]
    rw [if_pos (by simp), works_f 200 (by omega)]
    rfl
  | false =>
    have e1 : negR y = (y.reverse.map negOp, true) := by unfold negR; rw [if_neg (by rw [hn]; simp)]
    rw [e1]
    have h2 : op_Neg.f (y.reverse.map negOp) = some (y, true) := by
      unfold op_Neg.f
      rw [if_pos (by simp; omega), neg_back y hI hn]
    have h3 : op_Net.f (y ++ y.reverse.map negOp) = some ([], true) := by
      unfold op_Net.f
      rw [if_pos, undo_net y hI hn]
      refine ⟨by simp; omega, fun o ho => ?_⟩
      rcases List.mem_append.1 ho with ho | ho
      · exact hI o ho
      · obtain ⟨p, hp, rfl⟩ := List.mem_map.1 ho
        have hp' : p ∈ y := by simpa using hp
        exact (negOp_i64 (hI p hp') (any_false hn p hp')).1
    simp only [if_true]
    rw [h2]
    simp only [Option.bind_some, List.nil_append, List.length_nil, Nat.zero_add]
    rw [if_pos (by omega), if_pos (by simp; omega), h3]
    simp only [Option.bind_some, if_true]
    rw [same_f y y (by omega) 200 (by omega)]
    simp only [Option.bind_some, decide_true, if_true]
    rw [if_pos (by simp), works_f 200 (by omega)]
    rfl
end Go.Proofs.Ytilgdojnbecglaa.X
