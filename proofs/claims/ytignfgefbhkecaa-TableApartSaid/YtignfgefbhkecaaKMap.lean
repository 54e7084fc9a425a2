/- Maps whose keys are structs: what their operations do, by the list of entries in the order of their coming. -/
import Derived.Test.YtignfgefbhkecaaProg
import Derived.Maps.RangeRun
import Derived.Maps.OwnIn
import Derived.WalkKit
import Derived.Below
import Derived.RangeFuncOwn
import Derived.RangeFuncSeq
import Derived.Sort.MapsRangeIn
import Derived.OwnWalkIn
namespace Go.Proofs.Ytignfgefbhkecaa.KMap
open Go.ChangeMaps (setBlock)
open Go.RowKit
set_option linter.unusedVariables false
set_option linter.unusedSimpArgs false

def pairs (arr : List MapEntry) : List (Value × Value) := arr.map fun e => (e.key, e.val)

section
variable {κ : Type} {enc : κ → Value}
def encs (enc : κ → Value) (es : List (κ × Value)) : List (Value × Value) := es.map fun p => (enc p.1, p.2)
/-- Block b is a map of these entries, in the order of their coming. -/
def MapAt (enc : κ → Value) (w : World) (b : Nat) (es : List (κ × Value)) : Prop :=
  ∃ (arr : Array MapEntry) (clock : Nat), w.heap[b]? = some (.map arr clock) ∧ pairs arr.toList = encs enc es ∧ (es.map Prod.fst).Nodup ∧ (arr.toList.map (·.born)).Nodup ∧ ∀ e ∈ arr.toList, e.born < clock
theorem MapAt.lt {w : World} {b : Nat} {es : List (κ × Value)} (h : MapAt enc w b es) : b < w.heap.size := by
  obtain ⟨arr, clock, hb, _⟩ := h
  exact (Array.getElem?_eq_some_iff.1 hb).1
theorem MapAt.kept {w w' : World} {row : Option Nat} {b : Nat} {es : List (κ × Value)} (h : MapAt enc w b es) (hg : w.grownBy w' row) (hne : some b ≠ row) : MapAt enc w' b es := by
  have hl := h.lt
  obtain ⟨arr, clock, hb, r⟩ := h
  exact ⟨arr, clock, (hg.block b hl hne).trans hb, r⟩
theorem MapAt.same {w w' : World} {b : Nat} {es : List (κ × Value)} (h : MapAt enc w b es) (hs : w'.heap[b]? = w.heap[b]?) : MapAt enc w' b es := by
  obtain ⟨arr, clock, hb, r⟩ := h
  exact ⟨arr, clock, hs.trans hb, r⟩
theorem MapAt.alloc {w : World} {b : Nat} {es : List (κ × Value)} (h : MapAt enc w b es) (o : Obj) : MapAt enc (w.alloc o) b es := h.kept (World.grownBy_alloc w o none) (by simp)
theorem MapAt.below {w w' : World} {b : Nat} {es : List (κ × Value)} (h : MapAt enc w b es) (hb : Below w.heap.size w w') : MapAt enc w' b es := h.same (hb.block b h.lt)
theorem MapAt.nodup {w : World} {b : Nat} {es : List (κ × Value)} (h : MapAt enc w b es) : (es.map Prod.fst).Nodup := by
  obtain ⟨_, _, _, _, hn, _⟩ := h
  exact hn
theorem MapAt.obj {w : World} {b : Nat} {es : List (κ × Value)} (h : MapAt enc w b es) : ∃ o : Obj, w.heap[b]? = some o ∧ o.isCells = false := by
  obtain ⟨arr, clock, hb, _⟩ := h
  exact ⟨_, hb, rfl⟩
theorem MapAt.made (w : World) : MapAt enc (w.alloc (.map #[] 0)) w.heap.size [] :=
  ⟨#[], 0, (MapKept.heap_alloc w _).1, rfl, by simp, by simp, by simp⟩
theorem grownBy_setBlock {w : World} {b : Nat} {o o' : Obj} (hb : w.heap[b]? = some o) : w.grownBy (setBlock w b o') (some b) :=
  ⟨rfl, rfl, rfl, by simp [setBlock], fun i _ hi => by
    have : b ≠ i := fun e => hi (by rw [e])
    simp [setBlock, this]⟩
theorem heap_setBlock {w : World} {b : Nat} {o o' : Obj} (hb : w.heap[b]? = some o) : (setBlock w b o').heap[b]? = some o' := by
  have := (Array.getElem?_eq_some_iff.1 hb).1
  simp [setBlock, this]
theorem fst_set {es : List (κ × Value)} {x : κ} {v v' : Value} {j : Nat} (hj : es[j]? = some (x, v)) : (es.set j (x, v')).map Prod.fst = es.map Prod.fst := by
  rw [List.map_set]
  apply List.ext_getElem (by simp)
  intro i h1 h2
  rw [List.getElem_set]
  split
  · rename_i e
    subst e
    have := (List.getElem?_eq_some_iff.1 hj).2
    simp [this]
  · rfl

theorem pairs_modify {arr : Array MapEntry} {es : List (κ × Value)} (hp : pairs arr.toList = encs enc es) {j : Nat} {x : κ} {v v' : Value} (hj : es[j]? = some (x, v)) (f : MapEntry → MapEntry) (hf : ∀ e, arr[j]? = some e → (f e).key = enc x ∧ (f e).val = v') :
    pairs (arr.modify j f).toList = encs enc (es.set j (x, v')) := by
  have hl : arr.toList.length = es.length := by have := congrArg List.length hp; simpa [pairs, encs] using this
  have hjl := (List.getElem?_eq_some_iff.1 hj).1
  apply List.ext_getElem
  · simp only [pairs, encs, List.length_map, Array.length_toList, Array.size_modify, List.length_set]; simpa using hl
  · intro i h1 h2
    simp only [pairs, encs, List.getElem_map, Array.getElem_toList, List.getElem_set]
    rw [Array.getElem_modify]
    by_cases e : j = i
    · subst e
      simp only [if_true]
      have hja : j < arr.size := by rw [Array.length_toList] at hl; omega
      have := hf arr[j] (Array.getElem?_eq_getElem hja)
      rw [this.1, this.2]
    · simp only [if_neg e]
      have h3 : (pairs arr.toList)[i]? = (encs enc es)[i]? := by rw [hp]
      simp only [pairs, encs, List.getElem?_map] at h3
      have hi1 : i < arr.size := by simpa [pairs] using h1
      have hi2 : i < es.length := by simpa [encs] using h2
      rw [List.getElem?_eq_getElem (by simpa using hi1), List.getElem?_eq_getElem hi2] at h3
      simpa using h3
theorem born_modify (arr : Array MapEntry) (j : Nat) (f : MapEntry → MapEntry) (hf : ∀ e, (f e).born = e.born) : (arr.modify j f).toList.map (·.born) = arr.toList.map (·.born) := by
  apply List.ext_getElem
  · simp
  · intro i h1 h2
    simp only [List.getElem_map, Array.getElem_toList]
    rw [Array.getElem_modify]
    split <;> simp [hf]
theorem mem_born {arr : Array MapEntry} {clock : Nat} : (∀ e ∈ arr.toList, e.born < clock) ↔ ∀ n ∈ arr.toList.map (·.born), n < clock := by simp
/-- Block b is a map of these entries; the one at place j bears this stamp. -/
def MapAtS (enc : κ → Value) (w : World) (b : Nat) (es : List (κ × Value)) (j s : Nat) : Prop :=
  ∃ (arr : Array MapEntry) (clock : Nat), w.heap[b]? = some (.map arr clock) ∧ pairs arr.toList = encs enc es ∧ (es.map Prod.fst).Nodup ∧ (arr.toList.map (·.born)).Nodup ∧ (∀ e ∈ arr.toList, e.born < clock) ∧ (arr.toList.map (·.born))[j]? = some s
theorem MapAtS.at_ {w : World} {b : Nat} {es : List (κ × Value)} {j s : Nat} (h : MapAtS enc w b es j s) : MapAt enc w b es := by
  obtain ⟨arr, clock, h1, h2, h3, h4, h5, _⟩ := h
  exact ⟨arr, clock, h1, h2, h3, h4, h5⟩
theorem MapAtS.same {w w' : World} {b : Nat} {es : List (κ × Value)} {j s : Nat} (h : MapAtS enc w b es j s) (hs : w'.heap[b]? = w.heap[b]?) : MapAtS enc w' b es j s := by
  obtain ⟨arr, clock, hb, r⟩ := h
  exact ⟨arr, clock, hs.trans hb, r⟩
theorem MapAtS.kept {w w' : World} {row : Option Nat} {b : Nat} {es : List (κ × Value)} {j s : Nat} (h : MapAtS enc w b es j s) (hg : w.grownBy w' row) (hne : some b ≠ row) : MapAtS enc w' b es j s := h.same (hg.block b h.at_.lt hne)

/-- An iterator at block r over the map at block b: these entries are still to come. -/
def IterAt (enc : κ → Value) (w : World) (b r : Nat) (es left : List (κ × Value)) : Prop :=
  ∃ (arr : Array MapEntry) (clock : Nat) (seen : Array Nat), w.heap[b]? = some (.map arr clock) ∧ pairs arr.toList = encs enc es ∧ (es.map Prod.fst).Nodup ∧ (arr.toList.map (·.born)).Nodup ∧ (∀ e ∈ arr.toList, e.born < clock) ∧
    w.heap[r]? = some (.mapIter (some b) clock seen clock) ∧ pairs (leftOf arr seen).toList = encs enc left
theorem IterAt.map {w : World} {b r : Nat} {es left : List (κ × Value)} (h : IterAt enc w b r es left) : MapAt enc w b es := by
  obtain ⟨arr, clock, _, h1, h2, h3, h4, h5, _⟩ := h
  exact ⟨arr, clock, h1, h2, h3, h4, h5⟩
theorem IterAt.same {w w' : World} {b r : Nat} {es left : List (κ × Value)} (h : IterAt enc w b r es left) (hb : w'.heap[b]? = w.heap[b]?) (hr : w'.heap[r]? = w.heap[r]?) : IterAt enc w' b r es left := by
  obtain ⟨arr, clock, seen, h1, h2, h3, h4, h5, h6, h7⟩ := h
  exact ⟨arr, clock, seen, hb.trans h1, h2, h3, h4, h5, hr.trans h6, h7⟩
theorem IterAt.walks {w w' : World} {b r : Nat} {es left : List (κ × Value)} (h : IterAt enc w b r es left) (hk : KeepsWalks w w') : IterAt enc w' b r es left := by
  obtain ⟨arr, clock, seen, h1, h2, h3, h4, h5, h6, h7⟩ := h
  exact ⟨arr, clock, seen, hk.same b _ h1 rfl, h2, h3, h4, h5, hk.same r _ h6 rfl, h7⟩
theorem IterAt.lt {w : World} {b r : Nat} {es left : List (κ × Value)} (h : IterAt enc w b r es left) : r < w.heap.size := by
  obtain ⟨_, _, _, _, _, _, _, _, h6, _⟩ := h
  exact (Array.getElem?_eq_some_iff.1 h6).1
theorem IterAt.ne {w : World} {b r : Nat} {es left : List (κ × Value)} (h : IterAt enc w b r es left) : b ≠ r := by
  obtain ⟨_, _, _, h1, _, _, _, _, h6, _⟩ := h
  rintro rfl
  rw [h1] at h6; cases h6
theorem IterAt.obj {w : World} {b r : Nat} {es left : List (κ × Value)} (h : IterAt enc w b r es left) : ∃ o : Obj, w.heap[r]? = some o ∧ o.isWalk = true := by
  obtain ⟨_, _, _, _, _, _, _, _, h6, _⟩ := h
  exact ⟨_, h6, rfl⟩
theorem IterAt.measure {w : World} {b r : Nat} {es left : List (κ × Value)} (h : IterAt enc w b r es left) : w.rangeLeft b r = left.length := by
  obtain ⟨arr, clock, seen, h1, h2, h3, h4, h5, h6, h7⟩ := h
  have := congrArg List.length h7
  simp [pairs, encs] at this
  simp [World.rangeLeft, h1, h6, this]
/-- range m. -/
theorem MapAt.range {P : Program} {kt : TypeId} {w : World} {b : Nat} {es : List (κ × Value)} (h : MapAt enc w b es) {t e : TypeId} (ht : P.underlying t = some (.map kt e)) :
    ∃ w', (Instr.range t (.map (some b))).run P w = .ok (.pointer (some ⟨w.heap.size, 0, none⟩)) w' ∧ IterAt enc w' b w.heap.size es es ∧ w.grownBy w' none ∧ w'.heap.size = w.heap.size + 1 := by
  have hl := h.lt
  obtain ⟨arr, clock, hb, hp, hn, hs, hc⟩ := h
  refine ⟨w.alloc (.mapIter (some b) clock #[] clock), ?_, ⟨arr, clock, #[], ?_, hp, hn, hs, hc, MapKept.heap_alloc w _ |>.1, ?_⟩, World.grownBy_alloc w _ none, by simp⟩
  · simp [Instr.range, run_underlying ht, MapKept.run_getObj_map hb, Result.andThen]
  · rw [(MapKept.heap_alloc w _).2 b hl]; exact hb
  · have : leftOf arr #[] = arr := by simp [leftOf]
    rw [this]; exact hp
theorem left_push (arr : Array MapEntry) (seen : Array Nat) (n : Nat) : (leftOf arr (seen.push n)).toList = (leftOf arr seen).toList.filter fun e => e.born != n := by
  simp only [leftOf, Array.toList_filter, List.filter_filter]
  congr 1
  funext e
  by_cases h1 : e.born = n
  · subst h1; simp
  · simp [h1, Bool.and_comm]
/-- The next entry: none is left, or one of those that are left, whichever. -/
theorem IterAt.next {P : Program} {w : World} {b r : Nat} {es left : List (κ × Value)} (h : IterAt enc w b r es left) (ty : TypeId) :
    (left = [] ∧ (Instr.next (.pointer (some ⟨r, 0, none⟩)) false ty).run P w = .ok (.tuple #[.bool false]) w) ∨
    ∃ p left' w', left.Perm (p :: left') ∧ (Instr.next (.pointer (some ⟨r, 0, none⟩)) false ty).run P w = .ok (.tuple #[.bool true, enc p.1, p.2]) w' ∧ IterAt enc w' b r es left' ∧ w.grownBy w' (some r) ∧ w'.heap.size = w.heap.size ∧
      (Instr.entry (.pointer (some ⟨r, 0, none⟩))).run P w' = .ok (.tuple #[enc p.1, p.2]) w' := by
  have hne := h.ne
  obtain ⟨arr, clock, seen, h1, h2, h3, h4, h5, h6, h7⟩ := h
  rcases run_next_at (P := P) w ty r b clock clock seen arr clock h6 h1 h5 (Nat.le_refl _) with ⟨hz, hrun⟩ | ⟨e, he, w1, hw1, hrun⟩
  · refine .inl ⟨?_, hrun⟩
    have := congrArg List.length h7
    simp [pairs, encs, hz] at this
    exact List.eq_nil_of_length_eq_zero this.symm
  · right
    have hr1 : w1.heap[r]? = some (.mapIter (some b) clock seen clock) := by rcases hw1 with rfl | rfl <;> exact h6
    have hb1 : w1.heap[b]? = some (.map arr clock) := by rcases hw1 with rfl | rfl <;> exact h1
    obtain ⟨A, B, hAB⟩ := List.append_of_mem he
    have hAB7 := h7
    rw [hAB] at hAB7
    simp only [pairs, encs, List.map_append, List.map_cons] at hAB7
    obtain ⟨LA, LB0, rfl, hA, hB0⟩ := List.append_eq_map_iff.1 hAB7
    cases LB0 with
    | nil => simp at hB0
    | cons p LB =>
    simp only [List.map_cons, List.cons.injEq, Prod.mk.injEq] at hB0
    obtain ⟨⟨hpk, hpv⟩, hB⟩ := hB0
    have hp : e.key = enc p.1 ∧ e.val = p.2 := ⟨hpk.symm, hpv.symm⟩
    have hmem : e ∈ arr.toList := by
      have : e ∈ leftOf arr seen := by simpa using he
      simp [leftOf] at this
      simpa using this.1
    have hnd : ((A ++ e :: B).map (·.born)).Nodup := by
      rw [← hAB]
      have : (leftOf arr seen).toList.Sublist arr.toList := by simp only [leftOf, Array.toList_filter]; exact List.filter_sublist
      exact (this.map _).nodup h4
    have hfil : (leftOf arr (seen.push e.born)).toList = A ++ B := by
      rw [left_push, hAB, List.filter_append]
      rw [List.map_append, List.map_cons] at hnd
      have n1 := List.nodup_append.1 hnd
      have n2 := List.nodup_cons.1 n1.2.1
      rw [List.filter_eq_self.2, List.filter_cons_of_neg (by simp), List.filter_eq_self.2]
      · intro y hy
        have : y.born ≠ e.born := fun e1 => n2.1 (e1 ▸ List.mem_map.2 ⟨y, hy, rfl⟩)
        simpa using this
      · intro y hy
        have : y.born ≠ e.born := n1.2.2 _ (List.mem_map.2 ⟨y, hy, rfl⟩) _ (by simp)
        simpa using this
    have hgr : w.grownBy w1 (some r) := by rcases hw1 with rfl | rfl <;> exact ⟨rfl, rfl, rfl, Nat.le_refl _, fun _ _ _ => rfl⟩
    have hsz1 : w1.heap.size = w.heap.size := by rcases hw1 with rfl | rfl <;> rfl
    refine ⟨p, LA ++ LB, setBlock w1 r (.mapIter (some b) clock (seen.push e.born) clock), List.perm_middle, ?_, ⟨arr, clock, seen.push e.born, ?_, h2, h3, h4, h5, heap_setBlock hr1, ?_⟩, hgr.trans (grownBy_setBlock hr1), by simp [setBlock, hsz1], ?_⟩
    · rw [hrun, hp.1, hp.2]
    · have : r ≠ b := fun e1 => hne e1.symm
      rw [show (setBlock w1 r (.mapIter (some b) clock (seen.push e.born) clock)).heap[b]? = w1.heap[b]? by simp [setBlock, this]]
      exact hb1
    · rw [hfil]
      simp only [pairs, encs, List.map_append]
      rw [hA, hB]
    · have hb2 : (setBlock w1 r (.mapIter (some b) clock (seen.push e.born) clock)).heap[b]? = some (.map arr clock) := by
        have : r ≠ b := fun e1 => hne e1.symm
        rw [show (setBlock w1 r (.mapIter (some b) clock (seen.push e.born) clock)).heap[b]? = w1.heap[b]? by simp [setBlock, this]]
        exact hb1
      rw [run_entry_at (P := P) _ r b clock seen arr clock e (heap_setBlock hr1) hb2 hmem h4, hp.1, hp.2]
end

variable {P : Program} {kt : TypeId} {κ : Type} [DecidableEq κ] {enc : κ → Value}

/-- What is asked of a key's type, and of how its values stand. -/
structure KeyLaws (P : Program) (kt : TypeId) {κ : Type} [DecidableEq κ] (enc : κ → Value) : Prop where
  check : ∀ (em : Bool) (x : κ) (w : World), (Instr.checkKey em 10000 kt (enc x)).run P w = .ok () w
  eq : ∀ (x y : κ) (w : World), (Op.equal kt (enc x) (enc y)).run P w = .ok (decide (x = y)) w
  stays : ∀ (x : κ) (w : World), (Instr.keyThatStays (enc x) (enc x)).run P w = .ok (enc x) w
  desc : ∃ d, P.underlying kt = some d ∧ ∀ x y, Instr.sameNow d (enc x) (enc y) = none

/-- What stands at a key. -/
def kget (es : List (κ × Value)) (x : κ) : Option Value := (es.find? fun p => decide (p.1 = x)).map (·.2)
/-- A value put at a key. -/
def kput (es : List (κ × Value)) (x : κ) (v : Value) : List (κ × Value) := if x ∈ es.map Prod.fst then es.map fun p => if p.1 = x then (p.1, v) else p else es ++ [(x, v)]

theorem find_no (K : KeyLaws P kt enc) (x : κ) (w : World) : ∀ (es : List (κ × Value)) (arr : List MapEntry) (i : Nat), pairs arr = encs enc es → x ∉ es.map Prod.fst →
    (Instr.findAsking kt (enc x) arr i).run P w = .ok none w
  | [], [], i, _, _ => by simp [Instr.findAsking]
  | [], _ :: _, _, h, _ => by simp [pairs, encs] at h
  | _ :: _, [], _, h, _ => by simp [pairs, encs] at h
  | p :: es, e :: arr, i, h, hx => by
    simp only [pairs, encs, List.map_cons, List.cons.injEq, Prod.mk.injEq] at h
    simp only [List.map_cons, List.mem_cons, not_or] at hx
    simp [Instr.findAsking, h.1.1, K.eq, hx.1, Result.andThen, find_no K x w es arr (i + 1) h.2 hx.2]
theorem find_at (K : KeyLaws P kt enc) (x : κ) (w : World) : ∀ (es : List (κ × Value)) (arr : List MapEntry) (i j : Nat) (v : Value), pairs arr = encs enc es → es[j]? = some (x, v) → (es.map Prod.fst).Nodup →
    (Instr.findAsking kt (enc x) arr i).run P w = .ok (some (i + j, v)) w
  | [], _, _, _, _, _, h, _ => by simp at h
  | _ :: _, [], _, _, _, h, _, _ => by simp [pairs, encs] at h
  | p :: es, e :: arr, i, j, v, h, hj, hn => by
    simp only [pairs, encs, List.map_cons, List.cons.injEq, Prod.mk.injEq] at h
    simp only [List.map_cons, List.nodup_cons] at hn
    cases j with
    | zero =>
      simp only [List.getElem?_cons_zero, Option.some.injEq] at hj
      subst hj
      simp [Instr.findAsking, h.1.1, K.eq, h.1.2, Result.andThen]
    | succ j =>
      simp only [List.getElem?_cons_succ] at hj
      have hne : ¬ x = p.1 := fun e1 => hn.1 (e1 ▸ List.mem_map.2 ⟨_, List.mem_of_getElem? hj, rfl⟩)
      simp [Instr.findAsking, h.1.1, K.eq, hne, Result.andThen, find_at K x w es arr (i + 1) j v h.2 hj hn.2]
      omega
theorem findKey_run (K : KeyLaws P kt enc) (x : κ) (es : List (κ × Value)) (arr : List MapEntry) (h : pairs arr = encs enc es) (w : World) (r : Option (Nat × Value)) (hr : (Instr.findAsking kt (enc x) arr).run P w = .ok r w) :
    (Instr.findKey kt (enc x) arr).run P w = .ok r w := by
  obtain ⟨d, hd, hs⟩ := K.desc
  cases arr with
  | nil =>
    simp [Instr.findAsking] at hr
    simp [Instr.findKey, run_underlying hd, Instr.findNow, Result.andThen, hr]
  | cons e arr =>
    cases es with
    | nil => simp [pairs, encs] at h
    | cons p es =>
      simp only [pairs, encs, List.map_cons, List.cons.injEq, Prod.mk.injEq] at h
      simp [Instr.findKey, run_underlying hd, Instr.findNow, h.1.1, hs, Result.andThen, hr]
theorem kget_some {es : List (κ × Value)} {x : κ} {v : Value} (h : kget es x = some v) : ∃ j : Nat, es[j]? = some (x, v) := by
  unfold kget at h
  obtain ⟨p, hp, rfl⟩ := Option.map_eq_some_iff.1 h
  have h1 := List.find?_some hp
  have h2 := List.mem_of_find?_eq_some hp
  simp only [decide_eq_true_eq] at h1
  obtain ⟨j, hj, e⟩ := List.getElem_of_mem h2
  exact ⟨j, by rw [List.getElem?_eq_getElem hj, e, ← h1]⟩
theorem kget_none {es : List (κ × Value)} {x : κ} (h : kget es x = none) : x ∉ es.map Prod.fst := by
  unfold kget at h
  rw [Option.map_eq_none_iff, List.find?_eq_none] at h
  intro hx
  obtain ⟨p, hp, e⟩ := List.mem_map.1 hx
  exact h p hp (by simpa using e)

/-- m[k], and v, ok := m[k]. -/
theorem MapAt.lookup {w : World} {b : Nat} {es : List (κ × Value)} (h : MapAt enc w b es) (K : KeyLaws P kt enc) {t e : TypeId} (ht : P.underlying t = some (.map kt e)) {z : Value} (hz : (zeroValue e).run P w = .ok z w) (x : κ) (c : Bool) :
    (Instr.lookup t (.map (some b)) (enc x) c).run P w = .ok (if c then .tuple #[(kget es x).getD z, .bool (kget es x).isSome] else (kget es x).getD z) w := by
  obtain ⟨arr, clock, hb, hp, hn, _, _⟩ := h
  cases hk : kget es x with
  | none =>
    have hf := findKey_run K x es arr.toList hp w none (find_no K x w es arr.toList 0 hp (kget_none hk))
    simp [Instr.lookup, run_underlying ht, MapKept.run_getObj_map hb, K.check, hf, hz, Result.andThen]
  | some v =>
    obtain ⟨j, hj⟩ := kget_some hk
    have hf := findKey_run K x es arr.toList hp w _ (find_at K x w es arr.toList 0 j v hp hj hn)
    simp [Instr.lookup, run_underlying ht, MapKept.run_getObj_map hb, K.check, hf, Result.andThen]

theorem kput_old {es : List (κ × Value)} {x : κ} {v v' : Value} {j : Nat} (hj : es[j]? = some (x, v)) (hn : (es.map Prod.fst).Nodup) : kput es x v' = es.set j (x, v') := by
  have hx : x ∈ es.map Prod.fst := List.mem_map.2 ⟨_, List.mem_of_getElem? hj, rfl⟩
  rw [kput, if_pos hx]
  have hjl := (List.getElem?_eq_some_iff.1 hj).1
  have hje := (List.getElem?_eq_some_iff.1 hj).2
  apply List.ext_getElem (by simp)
  intro i h1 h2
  simp only [List.length_map] at h1
  rw [List.getElem_map, List.getElem_set]
  by_cases e : j = i
  · subst e; simp [hje]
  · rw [if_neg e, if_neg]
    intro he
    have h3 : (es.map Prod.fst)[i]'(by simpa using h1) = (es.map Prod.fst)[j]'(by simpa using hjl) := by simp [he, hje]
    exact e ((List.getElem_inj hn).1 h3).symm
theorem kput_new {es : List (κ × Value)} {x : κ} {v : Value} (h : x ∉ es.map Prod.fst) : kput es x v = es ++ [(x, v)] := by rw [kput, if_neg h]
/-- m[k] = v. -/
theorem MapAt.update {w : World} {b : Nat} {es : List (κ × Value)} (h : MapAt enc w b es) (K : KeyLaws P kt enc) {t e : TypeId} (ht : P.underlying t = some (.map kt e)) (x : κ) (v : Value) :
    ∃ w', (Instr.mapUpdate t (.map (some b)) (enc x) v).run P w = .ok () w' ∧ MapAt enc w' b (kput es x v) ∧ w.grownBy w' (some b) ∧ w'.heap.size = w.heap.size := by
  obtain ⟨arr, clock, hb, hp, hn, hs, hc⟩ := h
  cases hk : kget es x with
  | none =>
    have hx := kget_none hk
    have hf := findKey_run K x es arr.toList hp w none (find_no K x w es arr.toList 0 hp hx)
    refine ⟨setBlock w b (.map (arr.push ⟨enc x, v, clock⟩) (clock + 1)), ?_, ⟨_, _, heap_setBlock hb, ?_, ?_, ?_, ?_⟩, grownBy_setBlock hb, by simp [setBlock]⟩
    · simp [Instr.mapUpdate, run_underlying ht, MapKept.run_getObj_map hb, K.check, hf, MapKept.run_setObj_map _ hb, Result.andThen, setBlock]
    · rw [kput_new hx]
      simp only [pairs, encs, Array.toList_push, List.map_append, List.map_cons, List.map_nil] at hp ⊢
      rw [hp]
    · rw [kput_new hx, List.map_append]
      exact List.nodup_append.2 ⟨hn, by simp, fun a ha c hcm e => by simp at hcm; subst e; exact hx (hcm ▸ ha)⟩
    · simp only [Array.toList_push, List.map_append, List.map_cons, List.map_nil]
      exact List.nodup_append.2 ⟨hs, by simp, fun a ha c hcm e => by
        simp only [List.mem_singleton] at hcm
        obtain ⟨y, hy, rfl⟩ := List.mem_map.1 ha
        have := hc y hy
        omega⟩
    · intro y hy
      simp only [Array.toList_push, List.mem_append, List.mem_singleton] at hy
      rcases hy with hy | rfl
      · have := hc y hy; omega
      · simp
  | some v0 =>
    obtain ⟨j, hj⟩ := kget_some hk
    have hf := findKey_run K x es arr.toList hp w _ (find_at K x w es arr.toList 0 j v0 hp hj hn)
    have hl : arr.toList.length = es.length := by have := congrArg List.length hp; simpa [pairs, encs] using this
    have hja : j < arr.size := by have := (List.getElem?_eq_some_iff.1 hj).1; simpa [← hl] using this
    have hkey : arr[j].key = enc x := by
      have h3 : (pairs arr.toList)[j]? = (encs enc es)[j]? := by rw [hp]
      simp only [pairs, encs, List.getElem?_map, hj] at h3
      rw [List.getElem?_eq_getElem (by simpa using hja)] at h3
      simp at h3
      exact h3.1
    have hf0 : (Instr.findKey kt (enc x) arr.toList).run P w = .ok (some (j, v0)) w := by simpa using hf
    refine ⟨setBlock w b (.map (arr.modify j fun e' => { e' with key := enc x, val := v }) clock), ?_, ⟨_, _, heap_setBlock hb, ?_, ?_, ?_, ?_⟩, grownBy_setBlock hb, by simp [setBlock]⟩
    · simp [Instr.mapUpdate, run_underlying ht, MapKept.run_getObj_map hb, K.check, hf0, hja, hkey, K.stays, MapKept.run_setObj_map _ hb, Result.andThen, setBlock]
    · rw [kput_old hj hn]
      exact pairs_modify hp hj _ (fun _ _ => ⟨rfl, rfl⟩)
    · rw [kput_old hj hn, fst_set hj]; exact hn
    · rw [born_modify arr j (fun e' => { e' with key := enc x, val := v }) (fun _ => rfl)]; exact hs
    · rw [mem_born, born_modify arr j (fun e' => { e' with key := enc x, val := v }) (fun _ => rfl), ← mem_born]; exact hc

/-- m[k] op= v: the entry is found, or laid. -/
theorem MapAt.entry {w : World} {b : Nat} {es : List (κ × Value)} (h : MapAt enc w b es) (K : KeyLaws P kt enc) {t e : TypeId} (ht : P.underlying t = some (.map kt e)) {z : Value} (hz : ∀ w, (zeroValue e).run P w = .ok z w) (x : κ) :
    ∃ w' s es' j, (Instr.mapEntry t (.map (some b)) (enc x)).run P w = .ok (.tuple #[(kget es x).getD z, goInt (s : Nat)]) w' ∧ MapAtS enc w' b es' j s ∧ es'[j]? = some (x, (kget es x).getD z) ∧ (∀ v, kput es' x v = kput es x v) ∧ w.grownBy w' (some b) ∧ w'.heap.size = w.heap.size := by
  obtain ⟨arr, clock, hb, hp, hn, hs, hc⟩ := h
  have hl : arr.toList.length = es.length := by have := congrArg List.length hp; simpa [pairs, encs] using this
  cases hk : kget es x with
  | none =>
    have hx := kget_none hk
    have hf := findKey_run K x es arr.toList hp w none (find_no K x w es arr.toList 0 hp hx)
    refine ⟨setBlock w b (.map (arr.push ⟨enc x, z, clock⟩) (clock + 1)), clock, es ++ [(x, z)], es.length, ?_, ⟨_, _, heap_setBlock hb, ?_, ?_, ?_, ?_, ?_⟩, by simp, ?_, grownBy_setBlock hb, by simp [setBlock]⟩
    · simp [Instr.mapEntry, run_underlying ht, MapKept.run_getObj_map hb, K.check, hf, hz, MapKept.run_setObj_map _ hb, Result.andThen, setBlock]
    · simp only [pairs, encs, Array.toList_push, List.map_append, List.map_cons, List.map_nil] at hp ⊢
      rw [hp]
    · rw [List.map_append]
      exact List.nodup_append.2 ⟨hn, by simp, fun a ha c hcm e => by simp at hcm; subst e; exact hx (hcm ▸ ha)⟩
    · simp only [Array.toList_push, List.map_append, List.map_cons, List.map_nil]
      exact List.nodup_append.2 ⟨hs, by simp, fun a ha c hcm e => by
        simp only [List.mem_singleton] at hcm
        obtain ⟨y, hy, rfl⟩ := List.mem_map.1 ha
        have := hc y hy
        omega⟩
    · intro y hy
      simp only [Array.toList_push, List.mem_append, List.mem_singleton] at hy
      rcases hy with hy | rfl
      · have := hc y hy; omega
      · simp
    · simp only [Array.toList_push, List.map_append, List.map_cons, List.map_nil]
      rw [List.getElem?_append_right (by simp [← hl]), ← hl]
      simp
    · intro v
      have hx' : x ∈ (es ++ [(x, z)]).map Prod.fst := by simp
      rw [kput_new hx, kput, if_pos hx', List.map_append]
      congr 1
      · rw [List.map_congr_left (g := id), List.map_id]
        intro p hp'
        rw [if_neg]
        · rfl
        · intro e; exact hx (e ▸ List.mem_map.2 ⟨p, hp', rfl⟩)
      · simp
  | some v0 =>
    obtain ⟨j, hj⟩ := kget_some hk
    have hf := findKey_run K x es arr.toList hp w _ (find_at K x w es arr.toList 0 j v0 hp hj hn)
    have hja : j < arr.size := by have := (List.getElem?_eq_some_iff.1 hj).1; simpa [← hl] using this
    have hkv : arr[j].key = enc x ∧ arr[j].val = v0 := by
      have h3 : (pairs arr.toList)[j]? = (encs enc es)[j]? := by rw [hp]
      simp only [pairs, encs, List.getElem?_map, hj] at h3
      rw [List.getElem?_eq_getElem (by simpa using hja)] at h3
      simpa using h3
    have hf0 : (Instr.findKey kt (enc x) arr.toList).run P w = .ok (some (j, v0)) w := by simpa using hf
    refine ⟨setBlock w b (.map (arr.modify j fun e' => { e' with key := enc x }) clock), arr[j].born, es, j, ?_, ⟨_, _, heap_setBlock hb, ?_, hn, ?_, ?_, ?_⟩, by simpa using hj, fun _ => rfl, grownBy_setBlock hb, by simp [setBlock]⟩
    · simp [Instr.mapEntry, run_underlying ht, MapKept.run_getObj_map hb, K.check, hf0, hja, hkv.1, K.stays, MapKept.run_setObj_map _ hb, Result.andThen, setBlock]
    · have := pairs_modify (v' := v0) hp hj (fun e' => { e' with key := enc x }) (fun e he => ⟨rfl, by rw [Array.getElem?_eq_getElem hja] at he; cases he; exact hkv.2⟩)
      rw [this, ← kput_old hj hn, kput_old hj hn]
      congr 1
      apply List.ext_getElem (by simp)
      intro i h1 h2
      rw [List.getElem_set]
      split
      · rename_i e; subst e; exact ((List.getElem?_eq_some_iff.1 hj).2).symm
      · rfl
    · rw [born_modify arr j (fun e' => { e' with key := enc x }) (fun _ => rfl)]; exact hs
    · rw [mem_born, born_modify arr j (fun e' => { e' with key := enc x }) (fun _ => rfl), ← mem_born]; exact hc
    · rw [born_modify arr j (fun e' => { e' with key := enc x }) (fun _ => rfl)]
      simp [hja]

/-- The entry is stored into. -/
theorem MapAtS.store {w : World} {b : Nat} {es : List (κ × Value)} {j s : Nat} {x : κ} {v0 : Value} (h : MapAtS enc w b es j s) (hj : es[j]? = some (x, v0)) (t : TypeId) (v : Value) :
    ∃ w', (Instr.entryStore t (.map (some b)) (goInt (s : Nat)) v).run P w = .ok () w' ∧ MapAt enc w' b (kput es x v) ∧ w.grownBy w' (some b) ∧ w'.heap.size = w.heap.size := by
  obtain ⟨arr, clock, hb, hp, hn, hs, hc, hjs⟩ := h
  have hl : arr.toList.length = es.length := by have := congrArg List.length hp; simpa [pairs, encs] using this
  have hja : j < arr.size := by have := (List.getElem?_eq_some_iff.1 hj).1; simpa [← hl] using this
  have hbj : arr[j].born = s := by simpa [hja] using hjs
  have hfi : arr.findIdx? (fun e => (e.born : Int) == (s : Int)) = some j := by
    rw [Array.findIdx?_eq_some_iff_getElem]
    refine ⟨hja, by simp [hbj], fun i hi => ?_⟩
    simp only [beq_iff_eq, Bool.not_eq_true, beq_eq_false_iff_ne, ne_eq]
    intro e
    have h1 : arr[i].born = arr[j].born := by rw [hbj]; omega
    have h2 : (arr.toList.map (·.born))[i]'(by simp; omega) = (arr.toList.map (·.born))[j]'(by simp; omega) := by simpa using h1
    have := (List.getElem_inj hs).1 h2
    omega
  refine ⟨setBlock w b (.map (arr.modify j fun e' => { e' with val := v }) clock), ?_, ⟨_, _, heap_setBlock hb, ?_, ?_, ?_, ?_⟩, grownBy_setBlock hb, by simp [setBlock]⟩
  · simp [Instr.entryStore, MapKept.run_getObj_map hb, goInt, asInt, asIntOf, hfi, MapKept.run_setObj_map _ hb, Result.andThen, setBlock]
  · rw [kput_old hj hn]
    refine pairs_modify hp hj _ (fun e he => ⟨?_, rfl⟩)
    rw [Array.getElem?_eq_getElem hja] at he
    cases he
    have h3 : (pairs arr.toList)[j]? = (encs enc es)[j]? := by rw [hp]
    simp only [pairs, encs, List.getElem?_map, hj] at h3
    rw [List.getElem?_eq_getElem (by simpa using hja)] at h3
    simp at h3
    exact h3.1
  · rw [kput_old hj hn, fst_set hj]; exact hn
  · rw [born_modify arr j (fun e' => { e' with val := v }) (fun _ => rfl)]; exact hs
  · rw [mem_born, born_modify arr j (fun e' => { e' with val := v }) (fun _ => rfl), ← mem_born]; exact hc

section
variable {P : Program} {w : World} {ops : Array Oper} {rest : List Oper} {o : Oper} {a : Act} {Q : Exit → Act → World → Prop}
theorem wpList_of_run (hg : o.guard = none) (v : Value) (w' : World) (hrun : ∀ K : Act → World → Prop, K (a.put o.dst v) w' → o.wp P a w K Q) (h : wpList P ops Q rest (a.put o.dst v) w') : wpList P ops Q (o :: rest) a w :=
  wpList_plain hg fun K hK => hrun K (hK _ _ h)
theorem wpList_lookup_k {kt : TypeId} {κ : Type} [DecidableEq κ] {enc : κ → Value} (hg : o.guard = none) (m x : Operand) (t : TypeId) (c : Bool) (hop : o.op = Op.lookup t m x c) {e : TypeId} (K : KeyLaws P kt enc) (ht : P.underlying t = some (.map kt e)) {z : Value} (hz : ∀ w, (zeroValue e).run P w = .ok z w)
    {b : Nat} {es : List (κ × Value)} (hm : a.eval m = .map (some b)) (hM : MapAt enc w b es) (k : κ) (hx : a.eval x = enc k)
    (h : wpList P ops Q rest (a.put o.dst (if c then .tuple #[(kget es k).getD z, .bool (kget es k).isSome] else (kget es k).getD z)) w) : wpList P ops Q (o :: rest) a w := by
  refine wpList_plain hg fun K' hK' => ?_
  have hrun := hM.lookup K ht (hz w) k c
  unfold Oper.wp
  simp only [execOp, hop, hm, hx, Sem.run_bind, hrun, Result.andThen]
  exact hK' _ _ h
theorem wpList_mapUpdate_k {kt : TypeId} {κ : Type} [DecidableEq κ] {enc : κ → Value} (hg : o.guard = none) (m x v : Operand) (t : TypeId) (hop : o.op = Op.mapUpdate t m x v) {e : TypeId} (K : KeyLaws P kt enc) (ht : P.underlying t = some (.map kt e))
    {b : Nat} {es : List (κ × Value)} (hm : a.eval m = .map (some b)) (hM : MapAt enc w b es) (k : κ) (hx : a.eval x = enc k)
    (h : ∀ w', MapAt enc w' b (kput es k (a.eval v)) → w.grownBy w' (some b) → w'.heap.size = w.heap.size → wpList P ops Q rest (a.put o.dst undef) w') : wpList P ops Q (o :: rest) a w := by
  refine wpList_plain hg fun K' hK' => ?_
  obtain ⟨w', hrun, h1, h2, h3⟩ := hM.update K ht k (a.eval v)
  unfold Oper.wp
  simp [execOp, hop, hm, hx, hrun, Result.andThen]
  exact hK' _ _ (h w' h1 h2 h3)
theorem wpList_mapEntry_k {kt : TypeId} {κ : Type} [DecidableEq κ] {enc : κ → Value} (hg : o.guard = none) (m x : Operand) (t : TypeId) (hop : o.op = Op.mapEntry t m x) {e : TypeId} (K : KeyLaws P kt enc) (ht : P.underlying t = some (.map kt e)) {z : Value} (hz : ∀ w, (zeroValue e).run P w = .ok z w)
    {b : Nat} {es : List (κ × Value)} (hm : a.eval m = .map (some b)) (hM : MapAt enc w b es) (k : κ) (hx : a.eval x = enc k)
    (h : ∀ w' s es' j, MapAtS enc w' b es' j s → es'[j]? = some (k, (kget es k).getD z) → (∀ v, kput es' k v = kput es k v) → w.grownBy w' (some b) → w'.heap.size = w.heap.size → wpList P ops Q rest (a.put o.dst (.tuple #[(kget es k).getD z, .int .i64 (s : Nat)])) w') : wpList P ops Q (o :: rest) a w := by
  refine wpList_plain hg fun K' hK' => ?_
  obtain ⟨w', s, es', j, hrun, h1, h2, h3, h4, h5⟩ := hM.entry K ht hz k
  unfold Oper.wp
  simp [execOp, hop, hm, hx, hrun, Result.andThen]
  exact hK' _ _ (h w' s es' j h1 h2 h3 h4 h5)
theorem wpList_entryStore_k {κ : Type} [DecidableEq κ] {enc : κ → Value} (hg : o.guard = none) (m x v : Operand) (t : TypeId) (hop : o.op = Op.entryStore t m x v)
    {b : Nat} {es : List (κ × Value)} {j s : Nat} (hm : a.eval m = .map (some b)) (hM : MapAtS enc w b es j s) {k : κ} {v0 : Value} (hj : es[j]? = some (k, v0)) (hx : a.eval x = .int .i64 (s : Nat))
    (h : ∀ w', MapAt enc w' b (kput es k (a.eval v)) → w.grownBy w' (some b) → w'.heap.size = w.heap.size → wpList P ops Q rest (a.put o.dst undef) w') : wpList P ops Q (o :: rest) a w := by
  refine wpList_plain hg fun K' hK' => ?_
  obtain ⟨w', hrun, h1, h2, h3⟩ := hM.store hj t (a.eval v)
  have hrun' : (Instr.entryStore t (.map (some b)) (.int .i64 ((s : Nat) : Int)) (a.eval v)).run P w = .ok () w' := hrun
  unfold Oper.wp
  simp [execOp, hop, hm, hx, Result.andThen]
  rw [hrun']
  exact hK' _ _ (h w' h1 h2 h3)
end
section
variable {F : Fence} {n : Nat} {P : Program} {w : World} {ops : Array Oper} {rest : List Oper} {o : Oper} {a : Act} {Q : Exit → Act → World → Prop}
theorem wpListIn_range_k {kt : TypeId} {κ : Type} {enc : κ → Value} (hg : o.guard = none) (m : Operand) (t : TypeId) (hop : o.op = Op.range t m) {e : TypeId} (ht : P.underlying t = some (.map kt e))
    {b : Nat} {es : List (κ × Value)} (hm : a.eval m = .map (some b)) (hM : MapAt enc w b es)
    (h : ∀ w', IterAt enc w' b w.heap.size es es → w.grownBy w' none → w'.heap.size = w.heap.size + 1 → wpListIn F n P ops Q rest (a.put o.dst (.pointer (some ⟨w.heap.size, 0, none⟩))) w') : wpListIn F n P ops Q (o :: rest) a w := by
  refine wpListIn_plain hg fun K' hK' => ?_
  obtain ⟨w', hrun, h1, h2, h3⟩ := hM.range ht
  unfold Oper.wpIn
  refine ⟨by simp [Oper.about, hop], ?_⟩
  rw [Oper.semAt_plain F _ _ (by rw [hop]; intro c hc'; cases hc')]
  simp [execOp, hop, hm, hrun, Result.andThen]
  exact hK' _ _ (h w' h1 h2 h3)
theorem wpListIn_next_k {κ : Type} {enc : κ → Value} (hg : o.guard = none) (it : Operand) (hop : o.op = Op.next it false)
    {b r : Nat} {es left : List (κ × Value)} (hit : a.eval it = .pointer (some ⟨r, 0, none⟩)) (hM : IterAt enc w b r es left)
    (h0 : left = [] → wpListIn F n P ops Q rest (a.put o.dst (.tuple #[.bool false])) w)
    (h : ∀ p left' w', left.Perm (p :: left') → IterAt enc w' b r es left' → w.grownBy w' (some r) → w'.heap.size = w.heap.size → (Instr.entry (.pointer (some ⟨r, 0, none⟩))).run P w' = .ok (.tuple #[enc p.1, p.2]) w' →
      wpListIn F n P ops Q rest (a.put o.dst (.tuple #[.bool true, enc p.1, p.2])) w') : wpListIn F n P ops Q (o :: rest) a w := by
  refine wpListIn_plain hg fun K' hK' => ?_
  unfold Oper.wpIn
  refine ⟨by simp [Oper.about, hop], ?_⟩
  rw [Oper.semAt_plain F _ _ (by rw [hop]; intro c hc'; cases hc')]
  rcases hM.next (P := P) o.type with ⟨hz, hrun⟩ | ⟨p, left', w', hp, hrun, h1, h2, h3, h4⟩
  · simp [execOp, hop, hit, hrun, Result.andThen]
    exact hK' _ _ (h0 hz)
  · simp [execOp, hop, hit, hrun, Result.andThen]
    exact hK' _ _ (h p left' w' hp h1 h2 h3 h4)
end
end Go.Proofs.Ytignfgefbhkecaa.KMap
