/- The document's tables: what Get, Put and Del of a sorted list of rows are; how a table and its rows agree; works; made. -/
import Derived.Test.YtignfgefbhkecaaHTab
import Derived.Test.YtignfgefbhkecaaX2
import Derived.Test.YtignfgefbhkecaaX3
import Derived.Test.YtignfgefbhkecaaX4
namespace Go.Proofs.Ytignfgefbhkecaa.X
open Go.RowKit Go.Shelf Go.Proofs.YtignfgefbhkecaaW.PrintWords Go.Proofs.YtignfgefbhkecaaW.PrintLast Go.Proofs.YtignfgefbhkecaaW.PrintMore Go.Proofs.Ytignfgefbhkecaa.KMap
set_option linter.unusedVariables false
set_option linter.unusedSimpArgs false

/-! The order of keys. -/
def leK (x y : S32) : Bool := !(Go.Proofs.ltOf cmpK) y x
theorem ltK_irr (x : S32) : ltK x x = false := by simp [ltK]
theorem ltK_trans {a b c : S32} (h1 : ltK a b = true) (h2 : ltK b c = true) : ltK a c = true := by
  simp only [ltK, decide_eq_true_eq] at *
  omega
theorem ltK_or {a b : S32} (h1 : ltK a b = false) (h2 : a ≠ b) : ltK b a = true := by
  cases h : ltK b a with
  | true => rfl
  | false => exact absurd (totK a b (by rw [lt_cmpK]; exact h1) (by rw [lt_cmpK]; exact h)) h2
theorem sortK_eq {l l' : List S32} (h : l.Perm l') (hs : l'.Pairwise (fun a b => leK a b = true)) : sortK l = l' := by
  have tr : ∀ a b c : S32, leK a b = true → leK b c = true → leK a c = true := by
    intro a b c h1 h2
    simp only [leK, Bool.not_eq_true'] at *
    exact swoK.ntrans c b a h2 h1
  have tt : ∀ a b : S32, (leK a b || leK b a) = true := by
    intro a b
    simp only [leK]
    rw [lt_cmpK, lt_cmpK]
    simp only [ltK, Bool.or_eq_true, Bool.not_eq_true', decide_eq_false_iff_not]
    omega
  exact List.Perm.eq_of_pairwise (fun a b _ _ h1 h2 => ltK_anti a b ⟨h1, h2⟩) (List.pairwise_mergeSort (le := leK) tr tt l) hs ((List.mergeSort_perm l _).trans h)
theorem lt_le {a b : S32} (h : ltK a b = true) : leK a b = true := by
  simp only [leK, Bool.not_eq_true']
  rw [lt_cmpK]
  cases h2 : ltK b a with
  | false => rfl
  | true => have := ltK_trans h h2; rw [ltK_irr] at this; cases this

/-! Rows. -/
def rget (rows : List S61) (k : S32) : Option Int := (rows.find? fun r => decide (r.f0 = k)).map (·.f1)
theorem rget_cons (r : S61) (rs : List S61) (k : S32) : rget (r :: rs) k = if r.f0 = k then some r.f1 else rget rs k := by
  unfold rget
  by_cases h : r.f0 = k
  · rw [List.find?_cons_of_pos (by simpa using h), if_pos h]
    rfl
  · rw [List.find?_cons_of_neg (by simpa using h), if_neg h]
theorem rd61_nat (l : List S61) (i : Nat) (h : i < l.length) : rd_T61 l (i : Int) = l[i] := by
  simp [rd_T61, List.getD_eq_getElem?_getD, h]
theorem wrap_up (i : Nat) (h : i < 4611686018427387904) : wrap64 ((i : Int) + 1) = ((i + 1 : Nat) : Int) := by unfold wrap64; omega
theorem key_dec (a b : S32) : (a.f0 == b.f0 && (a.f1 == b.f1 && a.f2 == b.f2)) = decide (a = b) := by
  rw [Bool.eq_iff_iff]
  simp only [Bool.and_eq_true, beq_iff_eq, decide_eq_true_eq]
  exact ⟨fun h => S32.ext' h.1 h.2.1 h.2.2, fun h => by rw [h]; exact ⟨rfl, rfl, rfl⟩⟩
theorem differ32 (a b : S32) : (!(a.f0 == b.f0) || (!(a.f1 == b.f1) || !(a.f2 == b.f2))) = !decide (a = b) := by
  rw [← key_dec]
  cases a.f0 == b.f0 <;> cases a.f1 == b.f1 <;> cases a.f2 == b.f2 <;> rfl
theorem get_l (rows : List S61) (hr : rows.length ≤ 1000) (x : S32) : ∀ (n i k : Nat), rows.length - i = n → i ≤ rows.length → n < k →
    pledgeref05_Get.l0 k rows (i : Int) x.f0 x.f1 x.f2 = some ((rget (rows.drop i) x).getD 0, (rget (rows.drop i) x).isSome) := by
  intro n
  induction n with
  | zero =>
    intro i k hn hi hk
    obtain ⟨k, rfl⟩ : ∃ k', k = k' + 1 := ⟨k - 1, by omega⟩
    unfold pledgeref05_Get.l0
    rw [if_neg (by omega), List.drop_eq_nil_of_le (by omega)]
    rfl
  | succ n ih =>
    intro i k hn hi hk
    obtain ⟨k, rfl⟩ : ∃ k', k = k' + 1 := ⟨k - 1, by omega⟩
    have hil : i < rows.length := by omega
    unfold pledgeref05_Get.l0
    rw [if_pos (by omega), if_pos (by omega), rd61_nat rows i hil, key_dec, wrap_up i (by omega), List.drop_eq_getElem_cons hil, rget_cons]
    by_cases h : rows[i].f0 = x
    · rw [if_pos (by simpa using h), if_pos h]
      rfl
    · rw [if_neg (by simpa using h), if_neg h, ih (i + 1) k (by omega) (by omega) (by omega)]
theorem get_f (rows : List S61) (hr : rows.length ≤ 1000) (x : S32) (k : Nat) (hk : rows.length < k) : pledgeref05_Get.f k rows x.f0 x.f1 x.f2 = some ((rget rows x).getD 0, (rget rows x).isSome) := by
  unfold pledgeref05_Get.f
  have := get_l rows hr x rows.length 0 k rfl (by omega) hk
  simpa using this
def delG (rows : List S61) (x : S32) : List S61 := rows.filter fun r => !decide (r.f0 = x)
theorem delG_cons (r : S61) (rs : List S61) (x : S32) : delG (r :: rs) x = if r.f0 = x then delG rs x else r :: delG rs x := by
  unfold delG
  by_cases h : r.f0 = x
  · rw [List.filter_cons_of_neg (by simpa using h), if_pos h]
  · rw [List.filter_cons_of_pos (by simpa using h), if_neg h]
theorem del_l (rows : List S61) (hr : rows.length ≤ 1000) (x : S32) : ∀ (n i k : Nat) (acc : List S61), rows.length - i = n → i ≤ rows.length → acc.length ≤ i → n < k →
    pledgeref05_Del.l0 k rows acc (i : Int) x.f0 x.f1 x.f2 = some (acc ++ delG (rows.drop i) x) := by
  intro n
  induction n with
  | zero =>
    intro i k acc hn hi ha hk
    obtain ⟨k, rfl⟩ : ∃ k', k = k' + 1 := ⟨k - 1, by omega⟩
    unfold pledgeref05_Del.l0
    rw [if_neg (by omega), List.drop_eq_nil_of_le (by omega)]
    simp [delG]
  | succ n ih =>
    intro i k acc hn hi ha hk
    obtain ⟨k, rfl⟩ : ∃ k', k = k' + 1 := ⟨k - 1, by omega⟩
    have hil : i < rows.length := by omega
    unfold pledgeref05_Del.l0
    rw [if_pos (by omega), if_pos (by omega), rd61_nat rows i hil, differ32, wrap_up i (by omega), List.drop_eq_getElem_cons hil, delG_cons]
    by_cases h : rows[i].f0 = x
    · rw [if_neg (by simp [h]), if_pos h, ih (i + 1) k acc (by omega) (by omega) (by omega) (by omega)]
    · rw [if_pos (by simp [h]), if_neg h, if_pos (by omega), ih (i + 1) k _ (by omega) (by omega) (by simp; omega) (by omega), List.append_assoc]
      rfl
theorem del_f (rows : List S61) (hr : rows.length ≤ 1000) (x : S32) (k : Nat) (hk : rows.length < k) : pledgeref05_Del.f k rows x.f0 x.f1 x.f2 = some (delG rows x) := by
  unfold pledgeref05_Del.f
  have := del_l rows hr x rows.length 0 k [] rfl (by omega) (by simp) hk
  simpa using this
def putG (x : S32) (v : Int) : List S61 → Bool → List S61
  | [], d => if d then [] else [⟨x, v⟩]
  | r :: rs, d => if !d && !(ltK r.f0 x) then (if r.f0 = x then ⟨x, v⟩ :: putG x v rs true else ⟨x, v⟩ :: r :: putG x v rs true) else (if r.f0 = x then putG x v rs d else r :: putG x v rs d)
theorem less_f (a b : S32) : pledgeref04_Less.f a.f0 a.f1 a.f2 b.f0 b.f1 b.f2 = some (ltK a b) := by
  unfold pledgeref04_Less.f ltK
  by_cases h0 : a.f0 = b.f0
  · rw [if_pos h0]
    by_cases h1 : a.f1 = b.f1
    · rw [if_pos h1]
      simp [h0, h1]
    · rw [if_neg h1]
      simp [h0, h1]
  · rw [if_neg h0]
    simp [h0]
theorem put_l (rows : List S61) (hr : rows.length ≤ 1000) (x : S32) (v : Int) : ∀ (n i k : Nat) (acc : List S61) (d : Bool), rows.length - i = n → i ≤ rows.length → acc.length ≤ 2 * i → 2 * n < k →
    pledgeref05_Put.l0 k rows v acc d (i : Int) x.f0 x.f1 x.f2 = some (acc ++ putG x v (rows.drop i) d) := by
  intro n
  induction n with
  | zero =>
    intro i k acc d hn hi ha hk
    obtain ⟨k, rfl⟩ : ∃ k', k = k' + 1 := ⟨k - 1, by omega⟩
    unfold pledgeref05_Put.l0
    rw [if_neg (by omega), List.drop_eq_nil_of_le (by omega)]
    unfold putG
    cases d with
    | true => simp
    | false => simp; omega
  | succ n ih =>
    intro i k acc d hn hi ha hk
    obtain ⟨k, rfl⟩ : ∃ k', k = k' + 1 + 1 := ⟨k - 2, by omega⟩
    have hil : i < rows.length := by omega
    have hj : ∀ (c : Bool), pledgeref05_Put.j1 (k + 1) rows v acc d (i : Int) c x.f0 x.f1 x.f2 = some (acc ++ (if c then (if rows[i].f0 = x then ⟨x, v⟩ :: putG x v (rows.drop (i + 1)) true else ⟨x, v⟩ :: rows[i] :: putG x v (rows.drop (i + 1)) true) else (if rows[i].f0 = x then putG x v (rows.drop (i + 1)) d else rows[i] :: putG x v (rows.drop (i + 1)) d))) := by
      intro c
      unfold pledgeref05_Put.j1
      cases c with
      | true =>
        simp only [if_true, Option.bind_some]
        rw [if_pos (by omega), if_pos (by omega), if_pos (by omega), rd61_nat rows i hil, differ32, wrap_up i (by omega)]
        by_cases h : rows[i].f0 = x
        · rw [if_neg (by simp [h]), if_pos h, ih (i + 1) k _ true (by omega) (by omega) (by simp; omega) (by omega)]
          simp
        · rw [if_pos (by simp [h]), if_neg h, if_pos (by simp; omega), ih (i + 1) k _ true (by omega) (by omega) (by simp; omega) (by omega)]
          simp
      | false =>
        simp only [Bool.false_eq_true, if_false]
        rw [if_pos (by omega), if_pos (by omega), rd61_nat rows i hil, differ32, wrap_up i (by omega)]
        by_cases h : rows[i].f0 = x
        · rw [if_neg (by simp [h]), if_pos h, ih (i + 1) k _ d (by omega) (by omega) (by omega) (by omega)]
        · rw [if_pos (by simp [h]), if_neg h, if_pos (by omega), ih (i + 1) k _ d (by omega) (by omega) (by simp; omega) (by omega)]
          simp
    unfold pledgeref05_Put.l0
    rw [if_pos (by omega), List.drop_eq_getElem_cons hil]
    cases d with
    | true =>
      rw [if_pos rfl, hj]
      simp [putG]
    | false =>
      rw [if_neg (by simp), if_pos (by omega), rd61_nat rows i hil, less_f]
      simp only [Option.bind_some]
      rw [hj]
      simp only [putG, Bool.not_false, Bool.true_and]
theorem put_f (rows : List S61) (hr : rows.length ≤ 1000) (x : S32) (v : Int) (k : Nat) (hk : 2 * rows.length < k) : pledgeref05_Put.f k rows x.f0 x.f1 x.f2 v = some (putG x v rows false) := by
  unfold pledgeref05_Put.f
  have := put_l rows hr x v rows.length 0 k [] false rfl (by omega) (by simp) hk
  simpa using this
def Rise (rows : List S61) : Prop := rows.Pairwise (fun a b => ltK a.f0 b.f0 = true)
theorem putG_true (x : S32) (v : Int) : ∀ rs : List S61, (∀ r ∈ rs, r.f0 ≠ x) → putG x v rs true = rs
  | [], _ => rfl
  | r :: rs, h => by
    unfold putG
    simp only [Bool.not_true, Bool.false_and, Bool.false_eq_true, if_false]
    rw [if_neg (h r (by simp)), putG_true x v rs (fun z hz => h z (by simp [hz]))]
theorem putG_spec (x : S32) (v : Int) : ∀ rs : List S61, Rise rs → Rise (putG x v rs false) ∧ (∀ r ∈ putG x v rs false, r.f0 = x ∨ r ∈ rs) ∧ (∀ y, rget (putG x v rs false) y = if y = x then some v else rget rs y) ∧ (putG x v rs false).length ≤ rs.length + 1
  | [], _ => by
    refine ⟨by simp [putG, Rise], by simp [putG], fun y => ?_, by simp [putG]⟩
    simp only [putG, Bool.false_eq_true, if_false]
    rw [rget_cons]
    by_cases h : y = x
    · rw [if_pos h.symm, if_pos h]
    · rw [if_neg (fun e => h e.symm), if_neg h]
  | r :: rs, h => by
    unfold Rise at h
    rw [List.pairwise_cons] at h
    unfold putG
    simp only [Bool.not_false, Bool.true_and]
    cases hl : ltK r.f0 x with
    | true =>
      obtain ⟨i1, i2, i3, i4⟩ := putG_spec x v rs h.2
      have hne : r.f0 ≠ x := by intro e; rw [e, ltK_irr] at hl; cases hl
      simp only [Bool.not_true, Bool.false_eq_true, if_false, if_neg hne]
      refine ⟨List.pairwise_cons.2 ⟨fun z hz => ?_, i1⟩, fun z hz => ?_, fun y => ?_, by simp; omega⟩
      · rcases i2 z hz with hz | hz
        · rw [hz]; exact hl
        · exact h.1 z hz
      · rcases List.mem_cons.1 hz with rfl | hz
        · exact .inr (by simp)
        · rcases i2 z hz with h | h
          · exact .inl h
          · exact .inr (List.mem_cons_of_mem _ h)
      · rw [rget_cons, i3, rget_cons]
        by_cases hy : r.f0 = y
        · have : y ≠ x := fun e => hne (hy.trans e)
          rw [if_pos hy, if_neg this, if_pos hy]
        · rw [if_neg hy, if_neg hy]
    | false =>
      simp only [Bool.not_false, if_true]
      by_cases hxy : r.f0 = x
      · have hys : ∀ z ∈ rs, z.f0 ≠ x := fun z hz e => by
          have := h.1 z hz
          rw [e, hxy, ltK_irr] at this
          cases this
        rw [if_pos hxy, putG_true x v rs hys]
        refine ⟨List.pairwise_cons.2 ⟨fun z hz => by have := h.1 z hz; rw [hxy] at this; exact this, h.2⟩, fun z hz => ?_, fun y => ?_, by simp⟩
        · rcases List.mem_cons.1 hz with rfl | hz
          · exact .inl rfl
          · exact .inr (List.mem_cons_of_mem _ hz)
        · rw [rget_cons, rget_cons, hxy]
          by_cases hy : x = y
          · rw [if_pos hy, if_pos hy.symm]
          · rw [if_neg hy, if_neg hy, if_neg (fun e => hy e.symm)]
      · have hxl : ltK x r.f0 = true := ltK_or hl hxy
        have hys : ∀ z ∈ rs, z.f0 ≠ x := fun z hz e => by
          have h2 := ltK_trans hxl (h.1 z hz)
          rw [e, ltK_irr] at h2
          cases h2
        rw [if_neg hxy, putG_true x v rs hys]
        refine ⟨List.pairwise_cons.2 ⟨fun z hz => ?_, List.pairwise_cons.2 h⟩, fun z hz => ?_, fun y => ?_, by simp⟩
        · rcases List.mem_cons.1 hz with rfl | hz
          · exact hxl
          · exact ltK_trans hxl (h.1 z hz)
        · rcases List.mem_cons.1 hz with rfl | hz
          · exact .inl rfl
          · exact .inr hz
        · rw [rget_cons]
          by_cases hy : x = y
          · rw [if_pos hy, if_pos hy.symm]
          · rw [if_neg hy, if_neg (fun e => hy e.symm)]
theorem rget_delG (x y : S32) : ∀ rs : List S61, rget (delG rs x) y = if y = x then none else rget rs y
  | [] => by simp [delG, rget]
  | r :: rs => by
    rw [delG_cons]
    by_cases h : r.f0 = x
    · rw [if_pos h, rget_delG x y rs, rget_cons]
      by_cases hy : y = x
      · rw [if_pos hy, if_pos hy]
      · rw [if_neg hy, if_neg hy, if_neg (fun e => hy (e.symm.trans h))]
    · rw [if_neg h, rget_cons, rget_delG x y rs, rget_cons]
      by_cases hy : r.f0 = y
      · have : y ≠ x := fun e => h (hy.trans e)
        rw [if_pos hy, if_pos hy, if_neg this]
      · rw [if_neg hy, if_neg hy]

/-- A table and its rows. -/
structure TRel (es : Ents) (rows : List S61) : Prop where
  rise : Rise rows
  get : ∀ k, kget es k = (rget rows k).map (Value.int .i64)
theorem TRel.none : TRel [] [] := ⟨List.Pairwise.nil, fun k => rfl⟩
theorem TRel.put {es : Ents} {rows : List S61} (h : TRel es rows) (hn : (es.map Prod.fst).Nodup) (k : S32) (v : Int) : TRel (kput es k (.int .i64 v)) (putG k v rows false) := by
  obtain ⟨h1, _, h3, _⟩ := putG_spec k v rows h.rise
  refine ⟨h1, fun y => ?_⟩
  rw [kget_kput hn, h3, h.get]
  split <;> rfl
theorem TRel.del {es : Ents} {rows : List S61} (h : TRel es rows) (k : S32) : TRel (kdel es k) (delG rows k) := by
  refine ⟨h.rise.filter _, fun y => ?_⟩
  rw [kget_kdel, rget_delG, h.get]
  split <;> rfl
theorem TRel.some {es : Ents} {rows : List S61} (h : TRel es rows) (k : S32) : (kget es k).isSome = (rget rows k).isSome := by
  rw [h.get]
  cases rget rows k <;> rfl
theorem kput_len (es : Ents) (k : S32) (v : Value) : (kput es k v).length ≤ es.length + 1 := by
  unfold kput
  split <;> simp
theorem kdel_len (es : Ents) (k : S32) : (kdel es k).length ≤ es.length := List.length_filter_le _ _
theorem delG_len (rows : List S61) (k : S32) : (delG rows k).length ≤ rows.length := List.length_filter_le _ _
end Go.Proofs.Ytignfgefbhkecaa.X
