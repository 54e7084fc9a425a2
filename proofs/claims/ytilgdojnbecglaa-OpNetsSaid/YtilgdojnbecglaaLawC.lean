/- The plain law of OpNets: the document's Net and Neg are the program's. -/
import Derived.Test.YtilgdojnbecglaaLawB
namespace Go.Proofs.Ytilgdojnbecglaa.X
open Go.RowKit Go.Proofs.YtilgdojnbecglaaW.PrintWords Go.Proofs.YtilgdojnbecglaaW.PrintLast Go.Proofs.YtilgdojnbecglaaW.PrintMore
set_option linter.unusedVariables false
set_option linter.unusedSimpArgs false

/-! Sums in halves. -/
theorem halves_f (a : Int) (h : I64 a) (k : Nat) (hk : 2 ≤ k) : pledgeref01_halves.f k a = some (a / 4294967296, a % 4294967296) := by
  obtain ⟨k, rfl⟩ : ∃ k', k = k' + 1 + 1 := ⟨k - 2, by omega⟩
  unfold I64 at h
  have pos : ∀ (j : Nat) (b : Int), 0 ≤ b → b ≤ 9223372036854775807 → pledgeref01_halves.f (j + 1) b = some (b / 4294967296, b % 4294967296) := by
    intro j b h0 h1
    unfold pledgeref01_halves.f
    rw [if_neg (by omega)]
    have e1 : Int.tdiv b 4294967296 = b / 4294967296 := Int.tdiv_eq_ediv_of_nonneg h0
    have e2 : Int.tmod b 4294967296 = b % 4294967296 := Int.tmod_eq_emod_of_nonneg h0
    rw [e1, e2]
    have : wrap64 (b / 4294967296) = b / 4294967296 := by unfold wrap64; omega
    rw [this]
  by_cases hn : a < 0
  · unfold pledgeref01_halves.f
    rw [if_pos hn]
    have e : wrap64 (-(wrap64 (a + 1))) = -(a + 1) := by unfold wrap64; omega
    rw [e, pos k _ (by omega) (by omega)]
    simp only [Option.bind_some, Option.some.injEq, Prod.mk.injEq]
    unfold wrap64
    omega
  · exact pos (k + 1) a (by omega) (by omega)
theorem rd_nat (l : List Int) (i : Nat) (h : i < l.length) : rd l (i : Int) = l[i] := by
  simp [rd, List.getD_eq_getElem?_getD, h]
theorem sum_l (l : List Int) (hl : l.length ≤ 1000) (hI : ∀ x ∈ l, I64 x) : ∀ (n i k : Nat) (hi lo : Int), l.length - i = n → i ≤ l.length → n + 2 < k → 0 ≤ lo → lo < 4294967296 → -(2147483648 * (i : Int)) ≤ hi → hi ≤ 2147483648 * (i : Int) →
    pledgeref01_Sum.l0 k l (i : Int) hi lo = some (sumR (hi * 4294967296 + lo + (l.drop i).sum)) := by
  intro n
  induction n with
  | zero =>
    intro i k hi lo hn hil hk l0 l1 h0 h1
    obtain ⟨k, rfl⟩ : ∃ k', k = k' + 1 := ⟨k - 1, by omega⟩
    unfold pledgeref01_Sum.l0
    rw [if_neg (by omega), List.drop_eq_nil_of_le (by omega), List.sum_nil, Int.add_zero]
    unfold sumR
    by_cases g0 : hi < -2147483648
    · rw [if_pos g0, if_neg (by unfold I64; omega)]
    · rw [if_neg g0]
      by_cases g1 : hi > 2147483647
      · rw [if_pos g1, if_neg (by unfold I64; omega)]
      · rw [if_neg g1, if_pos (by unfold I64; omega)]
        have : wrap64 (wrap64 (hi * 4294967296) + lo) = hi * 4294967296 + lo := by unfold wrap64; omega
        rw [this]
  | succ n ih =>
    intro i k hi lo hn hil hk l0 l1 h0 h1
    obtain ⟨k, rfl⟩ : ∃ k', k = k' + 1 := ⟨k - 1, by omega⟩
    have hx : i < l.length := by omega
    unfold pledgeref01_Sum.l0
    have hxI := hI _ (List.getElem_mem hx)
    rw [if_pos (by omega), if_pos (by omega), rd_nat l i hx, halves_f _ hxI k (by omega)]
    simp only [Option.bind_some]
    rw [wrap_up i (by omega), List.drop_eq_getElem_cons hx, List.sum_cons]
    generalize l[i] = x at hxI
    unfold I64 at hxI
    have b0 : -2147483648 ≤ x / 4294967296 := by omega
    have b1 : x / 4294967296 ≤ 2147483647 := by omega
    have c0 : 0 ≤ x % 4294967296 := by omega
    have c1 : x % 4294967296 < 4294967296 := by omega
    have hxe : x = x / 4294967296 * 4294967296 + x % 4294967296 := by omega
    generalize x / 4294967296 = p at *
    generalize x % 4294967296 = q at *
    have e1 : wrap64 (lo + q) = lo + q := by unfold wrap64; omega
    have e2 : wrap64 (hi + p) = hi + p := by unfold wrap64; omega
    have e3 : wrap64 ((hi + p) + 1) = hi + p + 1 := by unfold wrap64; omega
    have e4 : wrap64 (lo + q - 4294967296) = lo + q - 4294967296 := by unfold wrap64; omega
    rw [e1, e2, e3, e4]
    by_cases hc : lo + q ≥ 4294967296
    · rw [if_pos hc, ih (i + 1) k _ _ (by omega) (by omega) (by omega) (by omega) (by omega) (by omega) (by omega)]
      congr 2
      omega
    · rw [if_neg hc, ih (i + 1) k _ _ (by omega) (by omega) (by omega) (by omega) (by omega) (by omega) (by omega)]
      congr 2
      omega
theorem sum_f (l : List Int) (hl : l.length ≤ 1000) (hI : ∀ x ∈ l, I64 x) (k : Nat) (hk : l.length + 2 < k) : pledgeref01_Sum.f k l = some (sumR l.sum) := by
  unfold pledgeref01_Sum.f
  have := sum_l l hl hI l.length 0 k 0 0 rfl (by omega) hk (by omega) (by omega) (by omega) (by omega)
  simpa using this

/-! Deltas at a key. -/
theorem key_dec (a b : S24) : (a.f0 == b.f0 && (a.f1 == b.f1 && a.f2 == b.f2)) = decide (a = b) := by
  rw [Bool.eq_iff_iff]
  simp only [Bool.and_eq_true, beq_iff_eq, decide_eq_true_eq]
  exact ⟨fun h => S24.ext' h.1 h.2.1 h.2.2, fun h => by rw [h]; exact ⟨rfl, rfl, rfl⟩⟩
theorem atOf_cons (o : S26) (l : List S26) (x : S24) : atOf (o :: l) x = if o.f0 = x then o.f1 :: atOf l x else atOf l x := by
  unfold atOf
  by_cases h : o.f0 = x
  · rw [List.filter_cons_of_pos (by simpa using h), if_pos h, List.map_cons]
  · rw [List.filter_cons_of_neg (by simpa using h), if_neg h]
theorem deltas_l (y : List S26) (hy : y.length ≤ 60) (x : S24) : ∀ (n i k : Nat) (acc : List Int), y.length - i = n → i ≤ y.length → acc.length ≤ i → n < k →
    pledgeref11_Deltas.l0 k y 0 acc (i : Int) x.f0 x.f1 x.f2 = some (acc ++ atOf (y.drop i) x) := by
  intro n
  induction n with
  | zero =>
    intro i k acc hn hi ha hk
    obtain ⟨k, rfl⟩ : ∃ k', k = k' + 1 := ⟨k - 1, by omega⟩
    unfold pledgeref11_Deltas.l0
    rw [if_neg (by omega), List.drop_eq_nil_of_le (by omega)]
    simp [atOf]
  | succ n ih =>
    intro i k acc hn hi ha hk
    obtain ⟨k, rfl⟩ : ∃ k', k = k' + 1 := ⟨k - 1, by omega⟩
    have hil : i < y.length := by omega
    unfold pledgeref11_Deltas.l0
    rw [if_pos (by omega), if_pos (by omega), rd26_nat y i hil, key_dec, wrap_up i (by omega), List.drop_eq_getElem_cons hil]
    by_cases h : y[i].f0 = x
    · rw [if_pos (by simp [h]), if_pos rfl, if_pos (by omega), ih (i + 1) k _ (by omega) (by omega) (by simp; omega) (by omega), atOf_cons, if_pos h, List.append_assoc]
      rfl
    · rw [if_neg (by simp [h]), ih (i + 1) k _ (by omega) (by omega) (by omega) (by omega), atOf_cons, if_neg h]
theorem deltas_f (y : List S26) (hy : y.length ≤ 60) (x : S24) (k : Nat) (hk : y.length < k) : pledgeref11_Deltas.f k y x.f0 x.f1 x.f2 0 = some (atOf y x) := by
  unfold pledgeref11_Deltas.f
  have := deltas_l y hy x y.length 0 k [] rfl (by omega) (by simp) hk
  simpa using this

/-! A key put among keys. -/
theorem less_f (a b : S24) : pledgeref04_Less.f a.f0 a.f1 a.f2 b.f0 b.f1 b.f2 = some (ltK a b) := by
  unfold pledgeref04_Less.f ltK
  by_cases h0 : a.f0 = b.f0
  · rw [if_pos h0]
    by_cases h1 : a.f1 = b.f1
    · rw [if_pos h1]
      simp [h0, h1]
    · rw [if_neg h1]
      simp [h0, h1]
  · rw [if_neg h0]
    simp [h0]
theorem differ24 (a b : S24) : (!(a.f0 == b.f0) || (!(a.f1 == b.f1) || !(a.f2 == b.f2))) = !decide (a = b) := by
  rw [← key_dec]
  cases a.f0 == b.f0 <;> cases a.f1 == b.f1 <;> cases a.f2 == b.f2 <;> rfl
def withG (x : S24) : List S24 → Bool → List S24
  | [], d => if d then [] else [x]
  | y :: ys, d => if !d && !(ltK y x) then (if y = x then x :: withG x ys true else x :: y :: withG x ys true) else (if y = x then withG x ys d else y :: withG x ys d)
theorem rd24_nat (l : List S24) (i : Nat) (h : i < l.length) : rd_T24 l (i : Int) = l[i] := by
  simp [rd_T24, List.getD_eq_getElem?_getD, h]
theorem with_l (ks : List S24) (hks : ks.length ≤ 1000) (x : S24) : ∀ (n i k : Nat) (acc : List S24) (d : Bool), ks.length - i = n → i ≤ ks.length → acc.length ≤ 2 * i → 2 * n < k →
    pledgeref04_With.l0 k ks acc d (i : Int) x.f0 x.f1 x.f2 = some (acc ++ withG x (ks.drop i) d) := by
  intro n
  induction n with
  | zero =>
    intro i k acc d hn hi ha hk
    obtain ⟨k, rfl⟩ : ∃ k', k = k' + 1 := ⟨k - 1, by omega⟩
    unfold pledgeref04_With.l0
    rw [if_neg (by omega), List.drop_eq_nil_of_le (by omega)]
    unfold withG
    cases d with
    | true => simp
    | false => simp; omega
  | succ n ih =>
    intro i k acc d hn hi ha hk
    obtain ⟨k, rfl⟩ : ∃ k', k = k' + 1 + 1 := ⟨k - 2, by omega⟩
    have hil : i < ks.length := by omega
    have hj : ∀ (c : Bool), pledgeref04_With.j1 (k + 1) ks acc d (i : Int) c x.f0 x.f1 x.f2 = some (acc ++ (if c then (if ks[i] = x then x :: withG x (ks.drop (i + 1)) true else x :: ks[i] :: withG x (ks.drop (i + 1)) true) else (if ks[i] = x then withG x (ks.drop (i + 1)) d else ks[i] :: withG x (ks.drop (i + 1)) d))) := by
      intro c
      unfold pledgeref04_With.j1
      cases c with
      | true =>
        simp only [if_true, Option.bind_some]
        rw [if_pos (by omega), if_pos (by omega), if_pos (by omega), rd24_nat ks i hil, differ24, wrap_up i (by omega)]
        by_cases h : ks[i] = x
        · rw [if_neg (by simp [h]), if_pos h, ih (i + 1) k _ true (by omega) (by omega) (by simp; omega) (by omega)]
          simp
        · rw [if_pos (by simp [h]), if_neg h, if_pos (by simp; omega), ih (i + 1) k _ true (by omega) (by omega) (by simp; omega) (by omega)]
          simp
      | false =>
        simp only [Bool.false_eq_true, if_false]
        rw [if_pos (by omega), if_pos (by omega), rd24_nat ks i hil, differ24, wrap_up i (by omega)]
        by_cases h : ks[i] = x
        · rw [if_neg (by simp [h]), if_pos h, ih (i + 1) k _ d (by omega) (by omega) (by omega) (by omega)]
        · rw [if_pos (by simp [h]), if_neg h, if_pos (by omega), ih (i + 1) k _ d (by omega) (by omega) (by simp; omega) (by omega)]
          simp
    unfold pledgeref04_With.l0
    rw [if_pos (by omega), List.drop_eq_getElem_cons hil]
    cases d with
    | true =>
      rw [if_pos rfl, hj]
      simp [withG]
    | false =>
      rw [if_neg (by simp), if_pos (by omega), rd24_nat ks i hil, less_f]
      simp only [Option.bind_some]
      rw [hj]
      simp only [withG, Bool.not_false, Bool.true_and]
theorem with_f (ks : List S24) (hks : ks.length ≤ 1000) (x : S24) (k : Nat) (hk : 2 * ks.length < k) : pledgeref04_With.f k ks x.f0 x.f1 x.f2 = some (withG x ks false) := by
  unfold pledgeref04_With.f
  have := with_l ks hks x ks.length 0 k [] false rfl (by omega) (by simp) hk
  simpa using this
theorem ltK_irr (x : S24) : ltK x x = false := by simp [ltK]
theorem ltK_trans {a b c : S24} (h1 : ltK a b = true) (h2 : ltK b c = true) : ltK a c = true := by
  simp only [ltK, decide_eq_true_eq] at *
  omega
theorem ltK_or {a b : S24} (h1 : ltK a b = false) (h2 : a ≠ b) : ltK b a = true := by
  cases h : ltK b a with
  | true => rfl
  | false => exact absurd (totK a b (by rw [lt_cmpK]; exact h1) (by rw [lt_cmpK]; exact h)) h2
theorem withG_true (x : S24) : ∀ ks : List S24, (∀ y ∈ ks, y ≠ x) → withG x ks true = ks
  | [], _ => rfl
  | y :: ys, h => by
    unfold withG
    simp only [Bool.not_true, Bool.false_and, Bool.false_eq_true, if_false]
    rw [if_neg (h y (by simp)), withG_true x ys (fun z hz => h z (by simp [hz]))]
theorem withG_spec (x : S24) : ∀ ks : List S24, ks.Pairwise (fun a b => ltK a b = true) → (withG x ks false).Pairwise (fun a b => ltK a b = true) ∧ ∀ z, z ∈ withG x ks false ↔ z = x ∨ z ∈ ks
  | [], _ => by simp [withG]
  | y :: ys, h => by
    rw [List.pairwise_cons] at h
    unfold withG
    simp only [Bool.not_false, Bool.true_and]
    cases hl : ltK y x with
    | true =>
      obtain ⟨i1, i2⟩ := withG_spec x ys h.2
      have hne : y ≠ x := by rintro rfl; rw [ltK_irr] at hl; cases hl
      simp only [Bool.not_true, Bool.false_eq_true, if_false, if_neg hne]
      refine ⟨List.pairwise_cons.2 ⟨fun z hz => ?_, i1⟩, fun z => ?_⟩
      · rcases (i2 z).1 hz with rfl | hz
        · exact hl
        · exact h.1 z hz
      · rw [List.mem_cons, i2, List.mem_cons]
        constructor
        · rintro (h | h | h)
          · exact .inr (.inl h)
          · exact .inl h
          · exact .inr (.inr h)
        · rintro (h | h | h)
          · exact .inr (.inl h)
          · exact .inl h
          · exact .inr (.inr h)
    | false =>
      simp only [Bool.not_false, if_true]
      by_cases hxy : y = x
      · subst hxy
        have hys : ∀ z ∈ ys, z ≠ y := fun z hz e => by
          subst e
          have := h.1 z hz
          rw [ltK_irr] at this
          cases this
        rw [if_pos rfl, withG_true y ys hys]
        exact ⟨List.pairwise_cons.2 h, fun z => by simp⟩
      · have hxl : ltK x y = true := ltK_or hl hxy
        have hys : ∀ z ∈ ys, z ≠ x := fun z hz e => by
          subst e
          have h2 := ltK_trans hxl (h.1 z hz)
          rw [ltK_irr] at h2
          cases h2
        rw [if_neg hxy, withG_true x ys hys]
        refine ⟨List.pairwise_cons.2 ⟨fun z hz => ?_, List.pairwise_cons.2 h⟩, fun z => by simp⟩
        rcases List.mem_cons.1 hz with rfl | hz
        · exact hxl
        · exact ltK_trans hxl (h.1 z hz)
theorem strict_keys (y : List S26) (ks : List S24) (hs : ks.Pairwise (fun a b => ltK a b = true)) (hm : ∀ z, z ∈ ks ↔ z ∈ keysOf y) : ks = sortK (keysOf y) := by
  have hn : ks.Nodup := hs.imp (fun {a b} h e => by subst e; rw [ltK_irr] at h; cases h)
  refine (sortK_eq ((List.perm_ext_iff_of_nodup (keysOf_nodup y) hn).2 (fun z => (hm z).symm)) (hs.imp (fun {a b} h => ?_))).symm
  simp only [leK, Bool.not_eq_true']
  rw [lt_cmpK]
  cases h2 : ltK b a with
  | false => rfl
  | true => have := ltK_trans h h2; rw [ltK_irr] at this; cases this

/-! Net. -/
theorem net_l1 (y : List S26) (hy : y.length ≤ 60) (hI : ∀ o ∈ y, I64 o.f1) (ks : List S24) (hks : ks.length ≤ 60) : ∀ (n i k : Nat) (acc : List S26), ks.length - i = n → i ≤ ks.length → acc.length ≤ i → n + 100 < k →
    pledgeref11_Net.l1 k y ks acc (i : Int) = some (netGo y (ks.drop i) acc) := by
  intro n
  induction n with
  | zero =>
    intro i k acc hn hi ha hk
    obtain ⟨k, rfl⟩ : ∃ k', k = k' + 1 := ⟨k - 1, by omega⟩
    unfold pledgeref11_Net.l1
    rw [if_neg (by omega), List.drop_eq_nil_of_le (by omega)]
    rfl
  | succ n ih =>
    intro i k acc hn hi ha hk
    obtain ⟨k, rfl⟩ : ∃ k', k = k' + 1 := ⟨k - 1, by omega⟩
    have hil : i < ks.length := by omega
    unfold pledgeref11_Net.l1
    have hal := atOf_len y ks[i]
    rw [if_pos (by omega), if_pos (by omega), rd24_nat ks i hil, deltas_f y hy _ k (by omega), List.drop_eq_getElem_cons hil]
    simp only [Option.bind_some]
    rw [sum_f _ (by omega) (atOf_i64 hI _) k (by omega), wrap_up i (by omega)]
    simp only [Option.bind_some]
    unfold netGo sumR
    by_cases h : I64 (atOf y ks[i]).sum
    · rw [if_pos h, if_pos h]
      simp only [if_true]
      by_cases h0 : (atOf y ks[i]).sum = 0
      · rw [if_pos h0, if_pos h0, ih (i + 1) k acc (by omega) (by omega) (by omega) (by omega)]
      · rw [if_neg h0, if_neg h0, if_pos (by omega), ih (i + 1) k _ (by omega) (by omega) (by simp; omega) (by omega)]
    · rw [if_neg h, if_neg h]
      rfl
theorem net_l0 (y : List S26) (hy : y.length ≤ 60) (hI : ∀ o ∈ y, I64 o.f1) : ∀ (n i k : Nat) (ks : List S24), y.length - i = n → i ≤ y.length → ks.Pairwise (fun a b => ltK a b = true) → (∀ z, z ∈ ks ↔ z ∈ keysOf (y.take i)) → n + 200 < k →
    pledgeref11_Net.l0 k y ks (i : Int) = some (netR y) := by
  intro n
  induction n with
  | zero =>
    intro i k ks hn hi hs hm hk
    obtain ⟨k, rfl⟩ : ∃ k', k = k' + 1 := ⟨k - 1, by omega⟩
    unfold pledgeref11_Net.l0
    rw [List.take_of_length_le (by omega)] at hm
    have hkl : ks.length ≤ 60 := by rw [strict_keys y ks hs hm, sortK_len]; exact Nat.le_trans (keysOf_len y) hy
    rw [if_neg (by omega)]
    have h1 := net_l1 y hy hI ks hkl ks.length 0 k [] rfl (by omega) (by simp) (by omega)
    rw [List.drop_zero] at h1
    have h2 : ((0 : Nat) : Int) = 0 := rfl
    rw [h2] at h1
    rw [h1, strict_keys y ks hs hm]
    rfl
  | succ n ih =>
    intro i k ks hn hi hs hm hk
    obtain ⟨k, rfl⟩ : ∃ k', k = k' + 1 := ⟨k - 1, by omega⟩
    have hil : i < y.length := by omega
    have hkl : ks.length ≤ 60 := by
      rw [strict_keys (y.take i) ks hs hm, sortK_len]
      exact Nat.le_trans (keysOf_len _) (by rw [List.length_take]; omega)
    unfold pledgeref11_Net.l0
    rw [if_pos (by omega), if_pos (by omega), rd26_nat y i hil, with_f ks (by omega) _ k (by omega), wrap_up i (by omega)]
    simp only [Option.bind_some]
    obtain ⟨s1, s2⟩ := withG_spec y[i].f0 ks hs
    refine ih (i + 1) k _ (by omega) (by omega) s1 (fun z => ?_) (by omega)
    rw [s2, List.take_succ_eq_append_getElem hil, hm, mem_keysOf, mem_keysOf]
    constructor
    · rintro (rfl | ⟨o, ho, e⟩)
      · exact ⟨y[i], List.mem_append_right _ (List.mem_singleton.2 rfl), rfl⟩
      · exact ⟨o, List.mem_append_left _ ho, e⟩
    · rintro ⟨o, ho, e⟩
      rcases List.mem_append.1 ho with ho | ho
      · exact .inr ⟨o, ho, e⟩
      · rw [List.mem_singleton.1 ho] at e
        exact .inl e.symm
theorem refnet_f (y : List S26) (hy : y.length ≤ 60) (hI : ∀ o ∈ y, I64 o.f1) (k : Nat) (hk : 300 ≤ k) : pledgeref11_Net.f k y = some (netR y) := by
  unfold pledgeref11_Net.f
  exact net_l0 y hy hI y.length 0 k [] rfl (by omega) List.Pairwise.nil (by simp [keysOf]) (by omega)
theorem negR_len (y : List S26) : (negR y).1.length ≤ y.length := by
  unfold negR
  split
  · exact Nat.zero_le _
  · simp
theorem nets_f (l : List S26) (hl : l.length ≤ 9223372036854775807) (hI0 : ∀ o ∈ l, I64 o.f1) : pledgelaw11_OpNets.f 400 l = some true := by
  unfold pledgelaw11_OpNets.f
  rw [cut60, if_pos (by omega), if_pos (by omega)]
  simp only [Option.bind_some, Int.toNat_natCast]
  have hy : (l.take (min l.length 60)).length ≤ 60 := by rw [List.length_take]; omega
  have hI : ∀ o ∈ l.take (min l.length 60), I64 o.f1 := fun o ho => hI0 o (List.mem_of_mem_take ho)
  generalize l.take (min l.length 60) = y at hy hI
  have h1 : op_Net.f y = some (netR y) := by unfold op_Net.f; rw [if_pos ⟨by omega, hI⟩]
  have h2 : op_Neg.f y = some (negR y) := by unfold op_Neg.f; rw [if_pos (by omega)]
  have b1 := netR_len y
  have b2 := negR_len y
  rw [h1]
  simp only [Option.bind_some]
  rw [refnet_f y hy hI 400 (by omega)]
  simp only [Option.bind_some]
  rw [h2]
  simp only [Option.bind_some]
  rw [refneg_f y hy hI 400 (by omega)]
  simp only [Option.bind_some]
  rw [same_f _ _ (by omega) 400 (by omega)]
  simp only [Option.bind_some, decide_true, if_true, beq_self_eq_true]
  rw [same_f _ _ (by omega) 400 (by omega)]
  simp only [Option.bind_some, decide_true, if_true, beq_self_eq_true]
  rw [works_f 400 (by omega)]
  rfl
end Go.Proofs.Ytilgdojnbecglaa.X
