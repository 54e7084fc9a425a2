/- The plain law of OpTurns: what Net comes to does not hang on the order, and comes to itself. -/
import Derived.Test.YtilgdojnbecglaaX7
namespace Go.Proofs.Ytilgdojnbecglaa.X
open Go.RowKit Go.Proofs.YtilgdojnbecglaaW.PrintWords Go.Proofs.YtilgdojnbecglaaW.PrintLast Go.Proofs.YtilgdojnbecglaaW.PrintMore
set_option linter.unusedVariables false
set_option linter.unusedSimpArgs false

theorem S26.ext' {a b : S26} (h0 : a.f0 = b.f0) (h1 : a.f1 = b.f1) : a = b := by
  cases a; cases b; simp_all
instance : DecidableEq S26 := fun a b => if h : a.f0 = b.f0 ∧ a.f1 = b.f1 then .isTrue (S26.ext' h.1 h.2) else .isFalse fun e => h ⟨by rw [e], by rw [e]⟩
theorem rd26_nat (l : List S26) (i : Nat) (h : i < l.length) : rd_T26 l (i : Int) = l[i] := by
  simp [rd_T26, List.getD_eq_getElem?_getD, h]
theorem wrap_up (i : Nat) (h : i < 4611686018427387904) : wrap64 ((i : Int) + 1) = ((i + 1 : Nat) : Int) := by unfold wrap64; omega
theorem wrap_down (i : Nat) (h : i < 4611686018427387904) : wrap64 (((i + 1 : Nat) : Int) - 1) = (i : Int) := by unfold wrap64; omega
theorem differ26 (a b : S26) : ((!(a.f0.f0 == b.f0.f0) || (!(a.f0.f1 == b.f0.f1) || !(a.f0.f2 == b.f0.f2))) || !(a.f1 == b.f1)) = !decide (a = b) := by
  by_cases h : a = b
  · subst h; simp
  · rw [decide_eq_false h]
    simp only [Bool.not_false, Bool.or_eq_true, Bool.not_eq_true', beq_eq_false_iff_ne, ne_eq]
    by_cases h0 : a.f0.f0 = b.f0.f0
    · by_cases h1 : a.f0.f1 = b.f0.f1
      · by_cases h2 : a.f0.f2 = b.f0.f2
        · by_cases h3 : a.f1 = b.f1
          · exact absurd (S26.ext' (S24.ext' h0 h1 h2) h3) h
          · exact .inr h3
        · exact .inl (.inr (.inr h2))
      · exact .inl (.inr (.inl h1))
    · exact .inl (.inl h0)
theorem same_l (a b : List S26) (hl : a.length = b.length) (hb : a.length < 4611686018427387904) : ∀ (n i k : Nat), a.length - i = n → i ≤ a.length → n < k → pledgeref11_Same.l0 k a b (i : Int) = some (decide (a.drop i = b.drop i)) := by
  intro n
  induction n with
  | zero =>
    intro i k hn hi hk
    obtain ⟨k, rfl⟩ : ∃ k', k = k' + 1 := ⟨k - 1, by omega⟩
    unfold pledgeref11_Same.l0
    rw [if_neg (by omega), List.drop_eq_nil_of_le (by omega), List.drop_eq_nil_of_le (by omega)]
    rfl
  | succ n ih =>
    intro i k hn hi hk
    obtain ⟨k, rfl⟩ : ∃ k', k = k' + 1 := ⟨k - 1, by omega⟩
    unfold pledgeref11_Same.l0
    have h1 : i < a.length := by omega
    have h2 : i < b.length := by omega
    rw [if_pos (by omega), if_pos (by omega), if_pos (by omega), rd26_nat a i h1, rd26_nat b i h2, differ26, wrap_up i (by omega), ih (i + 1) k (by omega) (by omega) (by omega)]
    rw [List.drop_eq_getElem_cons h1, List.drop_eq_getElem_cons h2]
    by_cases h : a[i] = b[i]
    · simp only [h, decide_true, Bool.not_true, Bool.false_eq_true, if_false, List.cons.injEq, true_and]
    · simp only [h, decide_false, Bool.not_false, if_true, List.cons.injEq, false_and]
theorem same_f (a b : List S26) (hb : a.length < 4611686018427387904) (k : Nat) (hk : a.length < k) : pledgeref11_Same.f k a b = some (decide (a = b)) := by
  unfold pledgeref11_Same.f
  by_cases h : a.length = b.length
  · rw [if_pos (by omega)]
    have := same_l a b h hb a.length 0 k rfl (by omega) hk
    simpa using this
  · rw [if_neg (by omega), decide_eq_false (fun e => h (by rw [e]))]
theorem opsame_l (a b : List S26) (hl : a.length = b.length) (hb : a.length < 4611686018427387904) : ∀ (n i k : Nat), a.length - i = n → i ≤ a.length → n < k → api_Op.l0 k a b (a.length : Int) (i : Int) = some (decide (a.drop i = b.drop i)) := by
  intro n
  induction n with
  | zero =>
    intro i k hn hi hk
    obtain ⟨k, rfl⟩ : ∃ k', k = k' + 1 := ⟨k - 1, by omega⟩
    unfold api_Op.l0
    rw [if_neg (by omega), List.drop_eq_nil_of_le (by omega), List.drop_eq_nil_of_le (by omega)]
    rfl
  | succ n ih =>
    intro i k hn hi hk
    obtain ⟨k, rfl⟩ : ∃ k', k = k' + 1 := ⟨k - 1, by omega⟩
    unfold api_Op.l0
    have h1 : i < a.length := by omega
    have h2 : i < b.length := by omega
    rw [if_pos (by omega), if_pos (by omega), if_pos (by omega), if_pos (by omega), rd26_nat a i h1, rd26_nat b i h2, differ26, wrap_up i (by omega), ih (i + 1) k (by omega) (by omega) (by omega)]
    rw [List.drop_eq_getElem_cons h1, List.drop_eq_getElem_cons h2]
    by_cases h : a[i] = b[i]
    · simp only [h, decide_true, Bool.not_true, Bool.false_eq_true, if_false, List.cons.injEq, true_and]
    · simp only [h, decide_false, Bool.not_false, if_true, List.cons.injEq, false_and]
theorem opsame_f (a b : List S26) (hb : a.length < 4611686018427387904) (k : Nat) (hk : a.length < k) : op_Same.f k a b = some (decide (a = b)) := by
  unfold op_Same.f api_Op.f
  by_cases h : a.length = b.length
  · rw [if_pos (by omega)]
    have := opsame_l a b h hb a.length 0 k rfl (by omega) hk
    rw [show ((0 : Nat) : Int) = 0 from rfl] at this
    rw [this]
    simp
  · rw [if_neg (by omega), decide_eq_false (fun e => h (by rw [e]))]
    rfl

/-! The sort. -/
def leK (x y : S24) : Bool := !(Go.Proofs.ltOf cmpK) y x
theorem leK_trans (a b c : S24) (h1 : leK a b = true) (h2 : leK b c = true) : leK a c = true := by
  simp only [leK, Bool.not_eq_true'] at *
  exact swoK.ntrans c b a h2 h1
theorem leK_anti (a b : S24) (h1 : leK a b = true) (h2 : leK b a = true) : a = b := ltK_anti a b ⟨h1, h2⟩
theorem leK_total (a b : S24) : (leK a b || leK b a) = true := by
  simp only [leK]
  rw [lt_cmpK, lt_cmpK]
  simp only [ltK, Bool.or_eq_true, Bool.not_eq_true', decide_eq_false_iff_not]
  omega
theorem sortK_sorted (l : List S24) : (sortK l).Pairwise (fun a b => leK a b = true) := List.pairwise_mergeSort (le := leK) leK_trans leK_total l
theorem sortK_isPerm (l : List S24) : (sortK l).Perm l := List.mergeSort_perm l _
theorem sortK_eq {l l' : List S24} (h : l.Perm l') (hs : l'.Pairwise (fun a b => leK a b = true)) : sortK l = l' :=
  List.Perm.eq_of_pairwise (fun a b _ _ h1 h2 => leK_anti a b h1 h2) (sortK_sorted l) hs ((sortK_isPerm l).trans h)

/-! Keys. -/
theorem mem_keysOf (l : List S26) (k : S24) : k ∈ keysOf l ↔ ∃ o ∈ l, o.f0 = k := by
  refine snocInd (p := fun l => k ∈ keysOf l ↔ ∃ o ∈ l, o.f0 = k) (by simp [keysOf]) (fun l o ih => ?_) l
  rw [keysOf_snoc]
  by_cases h : o.f0 ∈ keysOf l
  · rw [if_pos h, ih]
    constructor
    · rintro ⟨p, hp, e⟩; exact ⟨p, List.mem_append_left _ hp, e⟩
    · rintro ⟨p, hp, e⟩
      rcases List.mem_append.1 hp with hp | hp
      · exact ⟨p, hp, e⟩
      · rw [List.mem_singleton.1 hp] at e
        rw [← ih, ← e]; exact h
  · rw [if_neg h, List.mem_append, ih, List.mem_singleton]
    constructor
    · rintro (⟨p, hp, e⟩ | e)
      · exact ⟨p, List.mem_append_left _ hp, e⟩
      · exact ⟨o, by simp, e.symm⟩
    · rintro ⟨p, hp, e⟩
      rcases List.mem_append.1 hp with hp | hp
      · exact .inl ⟨p, hp, e⟩
      · rw [List.mem_singleton.1 hp] at e
        exact .inr e.symm
theorem keysOf_nodup (l : List S26) : (keysOf l).Nodup := by
  refine snocInd (p := fun l => (keysOf l).Nodup) (by simp [keysOf]) (fun l o ih => ?_) l
  rw [keysOf_snoc]
  split
  · exact ih
  · rename_i h
    exact List.nodup_append.2 ⟨ih, by simp, fun a ha c hc e => by simp at hc; subst hc; exact h (e ▸ ha)⟩
theorem keysOf_perm {l l' : List S26} (h : l.Perm l') : sortK (keysOf l) = sortK (keysOf l') := by
  apply sortK_perm
  rw [List.perm_ext_iff_of_nodup (keysOf_nodup l) (keysOf_nodup l')]
  intro k
  rw [mem_keysOf, mem_keysOf]
  exact ⟨fun ⟨o, ho, e⟩ => ⟨o, h.mem_iff.1 ho, e⟩, fun ⟨o, ho, e⟩ => ⟨o, h.mem_iff.2 ho, e⟩⟩
theorem sum_perm {a b : List Int} (h : a.Perm b) : a.sum = b.sum := by
  induction h with
  | nil => rfl
  | cons x _ ih => simp [ih]
  | swap x y l => simp; omega
  | trans _ _ ih1 ih2 => exact ih1.trans ih2
theorem atOf_sum_perm {l l' : List S26} (h : l.Perm l') (k : S24) : (atOf l k).sum = (atOf l' k).sum := sum_perm ((h.filter _).map _)
theorem netGo_congr (l l' : List S26) : ∀ (ks : List S24) (acc : List S26), (∀ k ∈ ks, (atOf l k).sum = (atOf l' k).sum) → netGo l ks acc = netGo l' ks acc
  | [], acc, _ => rfl
  | k :: ks, acc, h => by
    unfold netGo
    rw [h k (by simp), netGo_congr l l' ks acc (fun x hx => h x (by simp [hx])), netGo_congr l l' ks _ (fun x hx => h x (by simp [hx]))]
theorem netR_perm {l l' : List S26} (h : l.Perm l') : netR l = netR l' := by
  unfold netR
  rw [keysOf_perm h]
  exact netGo_congr l l' _ _ (fun k _ => atOf_sum_perm h k)
/-- What Net comes to, in one word. -/
def netOk (l : List S26) : Prop := ∀ k ∈ sortK (keysOf l), I64 (atOf l k).sum
instance (l : List S26) : Decidable (netOk l) := by unfold netOk; infer_instance
def netL (l : List S26) : List S26 := ((sortK (keysOf l)).filter fun k => decide ((atOf l k).sum ≠ 0)).map fun k => ⟨k, (atOf l k).sum⟩
theorem netGo_eq (l : List S26) : ∀ (ks : List S24) (acc : List S26), netGo l ks acc = if ∀ k ∈ ks, I64 (atOf l k).sum then (acc ++ (ks.filter fun k => decide ((atOf l k).sum ≠ 0)).map fun k => ⟨k, (atOf l k).sum⟩, true) else ([], false)
  | [], acc => by simp [netGo]
  | k :: ks, acc => by
    unfold netGo
    by_cases h : I64 (atOf l k).sum
    · rw [if_pos h, netGo_eq l ks, netGo_eq l ks]
      simp only [List.forall_mem_cons, h, true_and]
      by_cases h0 : (atOf l k).sum = 0
      · rw [if_pos h0, List.filter_cons_of_neg (by simp [h0])]
      · rw [if_neg h0, List.filter_cons_of_pos (by simp [h0])]
        simp
    · rw [if_neg h, if_neg (fun h' => h (h' k (by simp)))]
theorem netR_eq (l : List S26) : netR l = if netOk l then (netL l, true) else ([], false) := by
  unfold netR
  rw [netGo_eq]
  rfl
theorem keysOf_map (ks : List S24) (hn : ks.Nodup) (s : S24 → Int) : keysOf (ks.map fun k => (⟨k, s k⟩ : S26)) = ks := by
  revert hn
  refine snocInd (p := fun ks => ks.Nodup → keysOf (ks.map fun k => (⟨k, s k⟩ : S26)) = ks) (fun _ => rfl) (fun ks k ih hn => ?_) ks
  rw [List.nodup_append] at hn
  rw [List.map_append, List.map_singleton, keysOf_snoc, ih hn.1, if_neg]
  exact fun hk => hn.2.2 k hk k (by simp) rfl
theorem atOf_map (s : S24 → Int) (k : S24) : ∀ (ks : List S24), ks.Nodup → k ∈ ks → atOf (ks.map fun k => (⟨k, s k⟩ : S26)) k = [s k]
  | [], _, h => by simp at h
  | x :: ks, hn, h => by
    rw [List.nodup_cons] at hn
    by_cases e : x = k
    · subst e
      have : (ks.map fun k => (⟨k, s k⟩ : S26)).filter (fun o => decide (o.f0 = x)) = [] := by
        rw [List.filter_eq_nil_iff]
        intro o ho
        obtain ⟨y, hy, rfl⟩ := List.mem_map.1 ho
        simp only [decide_eq_true_eq]
        rintro rfl
        exact hn.1 hy
      simp [atOf, this]
    · have hk : k ∈ ks := by
        rcases List.mem_cons.1 h with h | h
        · exact absurd h.symm e
        · exact h
      rw [← atOf_map s k ks hn.2 hk]
      simp [atOf, e]
theorem netR_map (ks : List S24) (hn : ks.Nodup) (hs : ks.Pairwise (fun a b => leK a b = true)) (s : S24 → Int) (h : ∀ k ∈ ks, I64 (s k) ∧ s k ≠ 0) : netR (ks.map fun k => (⟨k, s k⟩ : S26)) = (ks.map fun k => (⟨k, s k⟩ : S26), true) := by
  have hk : sortK (keysOf (ks.map fun k => (⟨k, s k⟩ : S26))) = ks := by rw [keysOf_map ks hn s]; exact sortK_eq (List.Perm.refl _) hs
  have ha : ∀ k ∈ ks, (atOf (ks.map fun k => (⟨k, s k⟩ : S26)) k).sum = s k := fun k hk => by rw [atOf_map s k ks hn hk]; simp
  rw [netR_eq, if_pos]
  · unfold netL
    rw [hk]
    rw [List.filter_eq_self.2 (fun k hk => by rw [ha k hk]; simpa using (h k hk).2)]
    congr 1
    exact List.map_congr_left (fun k hk => by rw [ha k hk])
  · unfold netOk
    rw [hk]
    intro k hkk
    rw [ha k hkk]
    exact (h k hkk).1
theorem sortK_nodup (l : List S26) : (sortK (keysOf l)).Nodup := (sortK_isPerm _).nodup_iff.2 (keysOf_nodup l)
/-- What Net has come to comes to itself. -/
theorem netR_again (l : List S26) : netR (netR l).1 = ((netR l).1, true) := by
  have e := netR_eq l
  by_cases h : netOk l
  · rw [if_pos h] at e
    rw [e]
    refine netR_map _ ((sortK_nodup l).filter _) ((sortK_sorted _).filter _) _ (fun k hk => ?_)
    obtain ⟨h1, h2⟩ := List.mem_filter.1 hk
    exact ⟨h k h1, by simpa using h2⟩
  · rw [if_neg h] at e
    rw [e]
    have e2 := netR_eq []
    rw [if_pos (by unfold netOk; rw [show keysOf [] = [] from rfl, show sortK [] = [] from List.length_eq_zero_iff.1 (sortK_len [])]; simp)] at e2
    rw [e2]
    unfold netL
    rw [show keysOf [] = [] from rfl, show sortK [] = [] from List.length_eq_zero_iff.1 (sortK_len [])]
    rfl
theorem netR_len (l : List S26) : (netR l).1.length ≤ l.length := by
  rw [netR_eq]
  split
  · show (netL l).length ≤ _
    unfold netL
    rw [List.length_map]
    refine Nat.le_trans (List.length_filter_le _ _) ?_
    rw [sortK_len]
    exact keysOf_len l
  · exact Nat.zero_le _
theorem netR_i64 (l : List S26) : ∀ o ∈ (netR l).1, I64 o.f1 := by
  rw [netR_eq]
  split
  · rename_i h
    intro o ho
    obtain ⟨k, hk, rfl⟩ := List.mem_map.1 ho
    exact h k (List.mem_filter.1 hk).1
  · intro o ho
    simp at ho

/-! The chapter's example. -/
theorem works_f (k : Nat) (hk : 2 ≤ k) : pledgelaw11_works.f k = some true := by
  have hs : sortK (keysOf [(⟨⟨4, 0, 0⟩, 5⟩ : S26), ⟨⟨1, 0, 0⟩, -2⟩, ⟨⟨4, 0, 0⟩, -5⟩]) = [⟨1, 0, 0⟩, ⟨4, 0, 0⟩] := by
    refine sortK_eq (l' := [⟨1, 0, 0⟩, ⟨4, 0, 0⟩]) ?_ ?_
    · rw [show keysOf [(⟨⟨4, 0, 0⟩, 5⟩ : S26), ⟨⟨1, 0, 0⟩, -2⟩, ⟨⟨4, 0, 0⟩, -5⟩] = [⟨4, 0, 0⟩, ⟨1, 0, 0⟩] from rfl]
      exact List.Perm.swap _ _ _
    · simp only [List.pairwise_cons]
      refine ⟨fun a ha => ?_, fun a ha => by simp at ha, List.Pairwise.nil⟩
      simp only [List.mem_singleton] at ha
      subst ha
      simp only [leK]
      rw [lt_cmpK]
      rfl
  have hn : netR [(⟨⟨4, 0, 0⟩, 5⟩ : S26), ⟨⟨1, 0, 0⟩, -2⟩, ⟨⟨4, 0, 0⟩, -5⟩] = ([⟨⟨1, 0, 0⟩, -2⟩], true) := by
    unfold netR
    rw [hs]
    rfl
  have hf : op_Net.f [(⟨⟨4, 0, 0⟩, 5⟩ : S26), ⟨⟨1, 0, 0⟩, -2⟩, ⟨⟨4, 0, 0⟩, -5⟩] = some ([⟨⟨1, 0, 0⟩, -2⟩], true) := by
    unfold op_Net.f
    rw [if_pos ⟨by simp, by simp [I64]⟩, hn]
  unfold pledgelaw11_works.f
  rw [hf]
  simp only [Option.bind_some, if_true]
  rw [opsame_f _ _ (by simp) k (by simp; omega)]
  rfl

/-! The law. -/
theorem turns_l (y : List S26) (hy : y.length ≤ 60) (hI : ∀ o ∈ y, I64 o.f1) : ∀ (i k : Nat), i ≤ y.length → i + 62 < k → pledgelaw11_OpTurns.l0 k y ((y.drop i).reverse) ((i : Int) - 1) = some true := by
  intro i
  induction i with
  | zero =>
    intro k hi hk
    obtain ⟨k, rfl⟩ : ∃ k', k = k' + 1 := ⟨k - 1, by omega⟩
    unfold pledgelaw11_OpTurns.l0
    rw [if_neg (by omega)]
    have h1 : op_Net.f y = some (netR y) := by unfold op_Net.f; rw [if_pos ⟨by omega, hI⟩]
    have h2 : op_Net.f (y.drop 0).reverse = some (netR y) := by
      unfold op_Net.f
      rw [if_pos ⟨by simp; omega, fun o ho => hI o (by simpa using ho)⟩]
      rw [netR_perm (List.reverse_perm _)]
      rfl
    have h3 : op_Net.f (netR y).1 = some ((netR y).1, true) := by
      unfold op_Net.f
      rw [if_pos ⟨by have := netR_len y; omega, netR_i64 y⟩, netR_again]
    have hl := netR_len y
    rw [h1, h2]
    simp only [Option.bind_some]
    rw [h3]
    simp only [Option.bind_some]
    rw [same_f _ _ (by omega) k (by omega)]
    simp only [Option.bind_some, decide_true, if_true, beq_self_eq_true]
    rw [works_f k (by omega)]
    rfl
  | succ i ih =>
    intro k hi hk
    obtain ⟨k, rfl⟩ : ∃ k', k = k' + 1 := ⟨k - 1, by omega⟩
    unfold pledgelaw11_OpTurns.l0
    have e : (((i + 1 : Nat) : Int) - 1) = (i : Int) := by omega
    rw [e, if_pos (by omega), if_pos (by omega), if_pos (by omega), if_pos (by rw [List.length_reverse, List.length_drop]; omega), rd26_nat y i (by omega)]
    have hd : (y.drop (i + 1)).reverse ++ [(⟨⟨y[i].f0.f0, y[i].f0.f1, y[i].f0.f2⟩, y[i].f1⟩ : S26)] = (y.drop i).reverse := by
      rw [List.drop_eq_getElem_cons (i := i) (by omega), List.reverse_cons]
    have hw : wrap64 ((i : Int) - 1) = (i : Int) - 1 := by unfold wrap64; omega
    rw [hd, hw]
    exact ih k (by omega) (by omega)
theorem turns_f (l : List S26) (hl : l.length ≤ 9223372036854775807) (hI : ∀ o ∈ l, I64 o.f1) : pledgelaw11_OpTurns.f 200 l = some true := by
  unfold pledgelaw11_OpTurns.f
  have hm : mn (l.length : Int) 60 = ((min l.length 60 : Nat) : Int) := by unfold mn; split <;> omega
  rw [hm, if_pos (by omega), if_pos (by omega)]
  simp only [Option.bind_some, Int.toNat_natCast]
  have hy : (l.take (min l.length 60)).length ≤ 60 := by rw [List.length_take]; omega
  have := turns_l (l.take (min l.length 60)) hy (fun o ho => hI o (List.mem_of_mem_take ho)) (l.take (min l.length 60)).length 200 (Nat.le_refl _) (by omega)
  rw [List.drop_length] at this
  have hw : wrap64 (((l.take (min l.length 60)).length : Int) - 1) = ((l.take (min l.length 60)).length : Int) - 1 := by unfold wrap64; omega
  rw [hw]
  exact this
end Go.Proofs.Ytilgdojnbecglaa.X
