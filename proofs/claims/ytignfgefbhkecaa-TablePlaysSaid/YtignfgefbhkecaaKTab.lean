/- Maps whose keys are structs, more: delete, len, a range outside a fence; what stands at a key behind a put or a delete. -/
import Derived.Test.YtignfgefbhkecaaKMap
namespace Go.Proofs.Ytignfgefbhkecaa.KMap
open Go.ChangeMaps (setBlock)
open Go.RowKit
set_option linter.unusedVariables false
set_option linter.unusedSimpArgs false
theorem map_eraseIdx' {α β : Type} (f : α → β) : ∀ (l : List α) (j : Nat), (l.eraseIdx j).map f = (l.map f).eraseIdx j
  | [], _ => rfl
  | _ :: _, 0 => rfl
  | x :: l, j + 1 => by
    show f x :: (l.eraseIdx j).map f = f x :: (l.map f).eraseIdx j
    rw [map_eraseIdx' f l j]
section
variable {κ : Type} [DecidableEq κ]
/-- What stands at no key but this one. -/
def kdel (es : List (κ × Value)) (x : κ) : List (κ × Value) := es.filter fun p => !decide (p.1 = x)
theorem kdel_none {es : List (κ × Value)} {x : κ} (h : x ∉ es.map Prod.fst) : kdel es x = es := by
  unfold kdel
  rw [List.filter_eq_self]
  intro p hp
  simp only [Bool.not_eq_true', decide_eq_false_iff_not]
  intro e
  exact h (e ▸ List.mem_map.2 ⟨p, hp, rfl⟩)
theorem kdel_at {es : List (κ × Value)} {x : κ} {v : Value} {j : Nat} (hj : es[j]? = some (x, v)) (hn : (es.map Prod.fst).Nodup) : kdel es x = es.eraseIdx j := by
  induction es generalizing j with
  | nil => simp at hj
  | cons p r ih =>
    rw [List.map_cons, List.nodup_cons] at hn
    cases j with
    | zero =>
      have hp : p = (x, v) := by simpa using hj
      subst hp
      have := kdel_none (es := r) (x := x) hn.1
      unfold kdel at this ⊢
      rw [List.filter_cons_of_neg (by simp), this]
      rfl
    | succ j =>
      have hj' : r[j]? = some (x, v) := by simpa using hj
      have hx : x ∈ r.map Prod.fst := List.mem_map.2 ⟨(x, v), List.mem_of_getElem? hj', rfl⟩
      have hne : p.1 ≠ x := fun e => hn.1 (e ▸ hx)
      have := ih hj' hn.2
      unfold kdel at this ⊢
      rw [List.filter_cons_of_pos (by simpa using hne), this]
      rfl
theorem kget_kput {es : List (κ × Value)} (hn : (es.map Prod.fst).Nodup) (x y : κ) (v : Value) : kget (kput es x v) y = if y = x then some v else kget es y := by
  unfold kput
  split
  · rename_i hx
    induction es with
    | nil => simp at hx
    | cons p r ih =>
      rw [List.map_cons, List.nodup_cons] at hn
      by_cases hp : p.1 = x
      · have hr : r.map (fun q : κ × Value => if q.1 = x then (q.1, v) else q) = r := by
          rw [List.map_congr_left (g := id), List.map_id]
          intro q hq
          rw [if_neg]
          · rfl
          · intro e
            exact hn.1 (by rw [hp, ← e]; exact List.mem_map.2 ⟨q, hq, rfl⟩)
        simp only [List.map_cons, hp, if_true, hr]
        by_cases hy : y = x
        · simp [kget, hy]
        · simp only [kget, if_neg hy]
          rw [List.find?_cons_of_neg (by simpa using fun e => hy e.symm), List.find?_cons_of_neg (by simp [hp]; exact fun e => hy e.symm)]
      · have hx' : x ∈ r.map Prod.fst := by
          rw [List.map_cons, List.mem_cons] at hx
          rcases hx with h | h
          · exact absurd h.symm hp
          · exact h
        have ih' := ih hn.2 hx'
        simp only [List.map_cons, if_neg hp]
        by_cases hy : p.1 = y
        · have : y ≠ x := fun e => hp (hy.trans e)
          simp [kget, hy, this]
        · simp only [kget] at ih' ⊢
          rw [List.find?_cons_of_neg (by simpa using hy), List.find?_cons_of_neg (by simpa using hy)]
          exact ih'
  · rename_i hx
    simp only [kget, List.find?_append, Option.map_or]
    by_cases hy : y = x
    · subst hy
      have : es.find? (fun p => decide (p.1 = y)) = none := by
        rw [List.find?_eq_none]
        intro p hp e
        exact hx (by rw [← of_decide_eq_true e]; exact List.mem_map.2 ⟨p, hp, rfl⟩)
      simp [this]
    · rw [if_neg hy]
      have : ([(x, v)] : List (κ × Value)).find? (fun p => decide (p.1 = y)) = none := by simp; exact fun e => hy e.symm
      rw [this]
      simp
theorem kget_kdel (es : List (κ × Value)) (x y : κ) : kget (kdel es x) y = if y = x then none else kget es y := by
  unfold kdel kget
  induction es with
  | nil => simp
  | cons p r ih =>
    by_cases hp : p.1 = x
    · rw [List.filter_cons_of_neg (by simpa using hp), ih]
      by_cases hy : y = x
      · rw [if_pos hy, if_pos hy]
      · rw [if_neg hy, if_neg hy, List.find?_cons_of_neg (by simp [hp]; exact fun e => hy e.symm)]
    · rw [List.filter_cons_of_pos (by simpa using hp)]
      by_cases hy : p.1 = y
      · have : y ≠ x := fun e => hp (hy.trans e)
        rw [if_neg this, List.find?_cons_of_pos (by simpa using hy), List.find?_cons_of_pos (by simpa using hy)]
      · rw [List.find?_cons_of_neg (by simpa using hy), ih, List.find?_cons_of_neg (by simpa using hy)]
theorem kput_keys (es : List (κ × Value)) (x : κ) (v : Value) : (kput es x v).map Prod.fst = if x ∈ es.map Prod.fst then es.map Prod.fst else es.map Prod.fst ++ [x] := by
  unfold kput
  split
  · rw [List.map_map]
    apply List.map_congr_left
    intro p _
    simp only [Function.comp]
    split <;> rfl
  · simp
theorem kget_isSome {es : List (κ × Value)} {x : κ} : (kget es x).isSome = true ↔ x ∈ es.map Prod.fst := by
  cases h : kget es x with
  | none => simp; exact fun v hv => kget_none h (List.mem_map.2 ⟨_, hv, rfl⟩)
  | some v =>
    obtain ⟨j, hj⟩ := kget_some h
    simp only [Option.isSome_some, true_iff]
    exact List.mem_map.2 ⟨_, List.mem_of_getElem? hj, rfl⟩
end
variable {P : Program} {kt : TypeId} {κ : Type} [DecidableEq κ] {enc : κ → Value}
/-- delete(m, k). -/
theorem MapAt.delete {w : World} {b : Nat} {es : List (κ × Value)} (h : MapAt enc w b es) (K : KeyLaws P kt enc) {t e : TypeId} (ht : P.underlying t = some (.map kt e)) (x : κ) (ty : TypeId) :
    ∃ w', (Builtin.delete_ #[t, kt] ty #[.map (some b), enc x]).run P w = .ok (.tuple #[]) w' ∧ MapAt enc w' b (kdel es x) ∧ w.grownBy w' (some b) ∧ w'.heap.size = w.heap.size := by
  obtain ⟨arr, clock, hb, hp, hn, hs, hc⟩ := h
  cases hk : kget es x with
  | none =>
    have hx := kget_none hk
    have hf := findKey_run K x es arr.toList hp w none (find_no K x w es arr.toList 0 hp hx)
    refine ⟨setBlock w b (.map arr clock), ?_, ⟨_, _, heap_setBlock hb, ?_, ?_, hs, hc⟩, grownBy_setBlock hb, by simp [setBlock]⟩
    · simp [Builtin.delete_, run_underlying ht, MapKept.run_getObj_map hb, K.check, hf, MapKept.run_setObj_map _ hb, Result.andThen, setBlock]
    · rw [kdel_none hx]; exact hp
    · rw [kdel_none hx]; exact hn
  | some v0 =>
    obtain ⟨j, hj⟩ := kget_some hk
    have hf := findKey_run K x es arr.toList hp w _ (find_at K x w es arr.toList 0 j v0 hp hj hn)
    have hl : arr.toList.length = es.length := by have := congrArg List.length hp; simpa [pairs, encs] using this
    have hja : j < arr.size := by have := (List.getElem?_eq_some_iff.1 hj).1; simpa [← hl] using this
    have hf0 : (Instr.findKey kt (enc x) arr.toList).run P w = .ok (some (j, v0)) w := by simpa using hf
    have he : (arr.eraseIdxIfInBounds j).toList = arr.toList.eraseIdx j := by simp [Array.eraseIdxIfInBounds, hja]
    refine ⟨setBlock w b (.map (arr.eraseIdxIfInBounds j) clock), ?_, ⟨_, _, heap_setBlock hb, ?_, ?_, ?_, ?_⟩, grownBy_setBlock hb, by simp [setBlock]⟩
    · simp [Builtin.delete_, run_underlying ht, MapKept.run_getObj_map hb, K.check, hf0, MapKept.run_setObj_map _ hb, Result.andThen, setBlock]
    · rw [he, kdel_at hj hn]
      simp only [pairs, encs] at hp ⊢
      rw [map_eraseIdx', hp, map_eraseIdx']
    · rw [kdel_at hj hn, map_eraseIdx']
      exact (List.eraseIdx_sublist _ _).nodup hn
    · rw [he, map_eraseIdx']
      exact (List.eraseIdx_sublist _ _).nodup hs
    · intro y hy
      rw [he] at hy
      exact hc y ((List.eraseIdx_sublist _ _).subset hy)
/-- len(m). -/
theorem MapAt.len {kt : TypeId} {κ : Type} {enc : κ → Value} {w : World} {b : Nat} {es : List (κ × Value)} (h : MapAt enc w b es) {t e : TypeId} (ht : P.underlying t = some (.map kt e)) (ty : TypeId) : (Builtin.len_ #[t] ty #[.map (some b)]).run P w = .ok (.int .i64 (es.length : Nat)) w := by
  obtain ⟨arr, clock, hb, hp, hn, hs, hc⟩ := h
  have hl : arr.size = es.length := by have := congrArg List.length hp; simpa [pairs, encs] using this
  simp [Builtin.len_, run_underlying ht, MapKept.run_getObj_map hb, Result.andThen, hl, goInt]
section
variable {w : World} {ops : Array Oper} {rest : List Oper} {o : Oper} {a : Act} {Q : Exit → Act → World → Prop}
theorem wpList_delete_k (hg : o.guard = none) (m x : Operand) (t : TypeId) (hop : o.op = Op.call { callee := Callee.builtin Builtin.delete, args := #[m, x], argTypes := #[t, kt] }) {e : TypeId} (K : KeyLaws P kt enc) (ht : P.underlying t = some (.map kt e))
    {b : Nat} {es : List (κ × Value)} (hm : a.eval m = .map (some b)) (hM : MapAt enc w b es) (k : κ) (hx : a.eval x = enc k)
    (h : ∀ w', MapAt enc w' b (kdel es k) → w.grownBy w' (some b) → w'.heap.size = w.heap.size → wpList P ops Q rest (a.put o.dst (.tuple #[])) w') : wpList P ops Q (o :: rest) a w := by
  refine wpList_plain hg fun K' hK' => ?_
  obtain ⟨w', hrun, h1, h2, h3⟩ := hM.delete K ht k o.type
  unfold Oper.wp
  simp [execOp, hop, resolve, invoke, builtin, hm, hx, hrun, Result.andThen]
  exact hK' _ _ (h w' h1 h2 h3)
theorem wpList_len_k {kt : TypeId} {κ : Type} {enc : κ → Value} (hg : o.guard = none) (m : Operand) (t : TypeId) (hop : o.op = Op.call { callee := Callee.builtin Builtin.len, args := #[m], argTypes := #[t] }) {e : TypeId} (ht : P.underlying t = some (.map kt e))
    {b : Nat} {es : List (κ × Value)} (hm : a.eval m = .map (some b)) (hM : MapAt enc w b es)
    (h : wpList P ops Q rest (a.put o.dst (.int .i64 (es.length : Nat))) w) : wpList P ops Q (o :: rest) a w := by
  refine wpList_plain hg fun K' hK' => ?_
  have hrun := hM.len ht o.type
  unfold Oper.wp
  simp [execOp, hop, resolve, invoke, builtin, hm, hrun, Result.andThen]
  exact hK' _ _ h
theorem wpList_range_k {kt : TypeId} {κ : Type} {enc : κ → Value} (hg : o.guard = none) (m : Operand) (t : TypeId) (hop : o.op = Op.range t m) {e : TypeId} (ht : P.underlying t = some (.map kt e))
    {b : Nat} {es : List (κ × Value)} (hm : a.eval m = .map (some b)) (hM : MapAt enc w b es)
    (h : ∀ w', IterAt enc w' b w.heap.size es es → w.grownBy w' none → w'.heap.size = w.heap.size + 1 → wpList P ops Q rest (a.put o.dst (.pointer (some ⟨w.heap.size, 0, none⟩))) w') : wpList P ops Q (o :: rest) a w := by
  refine wpList_plain hg fun K' hK' => ?_
  obtain ⟨w', hrun, h1, h2, h3⟩ := hM.range ht
  unfold Oper.wp
  simp [execOp, hop, hm, hrun, Result.andThen]
  exact hK' _ _ (h w' h1 h2 h3)
theorem wpList_next_k {κ : Type} {enc : κ → Value} (hg : o.guard = none) (it : Operand) (hop : o.op = Op.next it false)
    {b r : Nat} {es left : List (κ × Value)} (hit : a.eval it = .pointer (some ⟨r, 0, none⟩)) (hM : IterAt enc w b r es left)
    (h0 : left = [] → wpList P ops Q rest (a.put o.dst (.tuple #[.bool false])) w)
    (h : ∀ p left' w', left.Perm (p :: left') → IterAt enc w' b r es left' → w.grownBy w' (some r) → w'.heap.size = w.heap.size → (Instr.entry (.pointer (some ⟨r, 0, none⟩))).run P w' = .ok (.tuple #[enc p.1, p.2]) w' →
      wpList P ops Q rest (a.put o.dst (.tuple #[.bool true, enc p.1, p.2])) w') : wpList P ops Q (o :: rest) a w := by
  refine wpList_plain hg fun K' hK' => ?_
  unfold Oper.wp
  rcases hM.next (P := P) o.type with ⟨hz, hrun⟩ | ⟨p, left', w', hp, hrun, h1, h2, h3, h4⟩
  · simp [execOp, hop, hit, hrun, Result.andThen]
    exact hK' _ _ (h0 hz)
  · simp [execOp, hop, hit, hrun, Result.andThen]
    exact hK' _ _ (h p left' w' hp h1 h2 h3 h4)
end
end Go.Proofs.Ytignfgefbhkecaa.KMap
