/- slices.SortFunc over keys in place, under key.Compare: out of the shelf's contract. -/
import Derived.Test.YtignfgefbhkecaaHCmp
namespace Go.Proofs.Ytignfgefbhkecaa.X
open Go.RowKit Go.Proofs.YtignfgefbhkecaaW.PrintWords Go.Proofs.YtignfgefbhkecaaW.PrintLast Go.Proofs.YtignfgefbhkecaaW.PrintMore Go.Sort Go.Shelf Go.Proofs

def encL (x : S32) : List Value := [.int .u8 x.f0, .int .u8 x.f1, .int .u8 x.f2]
def cmpI (a b : Int) : Int := if a < b then -1 else if a > b then 1 else 0
def cmpK (x y : S32) : Int := if cmpI x.f0 y.f0 = 0 then (if cmpI x.f1 y.f1 = 0 then cmpI x.f2 y.f2 else cmpI x.f1 y.f1) else cmpI x.f0 y.f0
instance : Inhabited S32 := ⟨⟨0, 0, 0⟩⟩
def ltK (x y : S32) : Bool := decide (x.f0 < y.f0 ∨ x.f0 = y.f0 ∧ (x.f1 < y.f1 ∨ x.f1 = y.f1 ∧ x.f2 < y.f2))
theorem cmpI_f (a b : Int) : cmp_Compare_uint8.f a b = some (cmpI a b) := by
  unfold cmp_Compare_uint8.f cmp_isNaN_uint8.f cmpI
  simp only [bne_self_eq_false, Option.bind_some, Bool.false_eq_true, if_false]
  split <;> (try rfl)
  split <;> rfl
theorem or3_f (a b c : Int) : cmp_Or_int.f 5 [a, b, c] = some (if a = 0 then (if b = 0 then c else b) else a) := by
  have e0 : rd [a, b, c] 0 = a := rfl
  have e1 : rd [a, b, c] 1 = b := rfl
  have e2 : rd [a, b, c] 2 = c := rfl
  have w1 : wrap64 (0 + 1) = 1 := by unfold wrap64; omega
  have w2 : wrap64 (1 + 1) = 2 := by unfold wrap64; omega
  have w3 : wrap64 (2 + 1) = 3 := by unfold wrap64; omega
  have hl : (([a, b, c] : List Int).length : Int) = 3 := rfl
  unfold cmp_Or_int.f
  rw [hl]
  generalize [a, b, c] = l at *
  simp only [cmp_Or_int.l0, e0, e1, e2, w1, w2, w3, hl]
  by_cases h0 : a = 0 <;> by_cases h1 : b = 0 <;> by_cases h2 : c = 0 <;> simp [h0, h1, h2]
theorem cmpK_f (x y : S32) : key_Compare.f 5 x.f0 x.f1 x.f2 y.f0 y.f1 y.f2 = some (cmpK x y) := by
  unfold key_Compare.f
  rw [cmpI_f, cmpI_f, cmpI_f]
  simp only [Option.bind_some]
  rw [or3_f]
  rfl
theorem lt_cmpK (x y : S32) : ltOf cmpK x y = ltK x y := by
  unfold ltOf cmpK ltK cmpI
  rw [decide_eq_decide]
  repeat' split
  all_goals first | omega | simp_all
  all_goals omega
theorem swoK : SWO (ltOf cmpK) where
  irrefl x := by rw [lt_cmpK]; simp [ltK]
  trans x y z h1 h2 := by rw [lt_cmpK] at *; simp only [ltK, decide_eq_true_eq] at *; omega
  ntrans x y z h1 h2 := by rw [lt_cmpK] at *; simp only [ltK, decide_eq_false_iff_not] at *; omega
theorem totK (x y : S32) (h1 : ltOf cmpK x y = false) (h2 : ltOf cmpK y x = false) : x = y := by
  rw [lt_cmpK] at *
  simp only [ltK, decide_eq_false_iff_not] at *
  cases x; cases y
  simp only [S32.mk.injEq]
  simp only at h1 h2
  omega
def sortK (l : List S32) : List S32 := l.mergeSort fun x y => !(ltOf cmpK) y x

theorem holds_of_own {w : World} {base g n cap : Nat} {xs : List S32} (h : k32.R 32 w base (fun _ => True) (.slice (some ⟨g, 0, none⟩) n cap) xs) : HoldsK encL 3 w g 0 xs.toArray := by
  obtain ⟨_, inner, ho, hr⟩ := h
  obtain ⟨hl, ⟨hv, _⟩ | ⟨g', cap', cur, hv, hb, hg, hnc, hcm, hsz, htk⟩⟩ := ho
  · cases hv
  · cases hv
    intro t ht
    rw [size_flatK] at ht
    have ht' : t < xs.length * 3 := by simpa using ht
    have hq : t / 3 < xs.length := by omega
    have h2 := k32_openM (hr.2 (t / 3) _ (List.getElem?_eq_getElem hq))
    have hlt : t < cur.size := by
      have h3 : k32.sz = 3 := rfl
      rw [h3] at hsz
      omega
    have h3 : inner[t]? = (encL xs[t / 3])[t % 3]? := by
      have e1 : ((inner.drop (t / 3 * k32.sz)).take k32.sz)[t % 3]? = (encL xs[t / 3])[t % 3]? := by rw [h2]; rfl
      have h3 : k32.sz = 3 := rfl
      rw [h3, List.getElem?_take_of_lt (by omega), List.getElem?_drop] at e1
      rw [← e1]
      congr 1
      omega
    have h4 : cur[t]? = inner[t]? := by
      rw [← htk, List.getElem?_take_of_lt (by show t < xs.length * 3; omega), Array.getElem?_toList]
    refine ⟨?_, ?_⟩
    · rw [Nat.zero_add]
      show (match w.heap[g]? with
        | some (.cells c _ _) => if (none : Option _).isSome then none else c[t]?
        | _ => none) = _
      rw [hg]
      show cur[t]? = _
      rw [h4, h3, get_flatK _ _ _ t (by simpa using ht)]
      have : xs.toArray[t / 3]! = xs[t / 3] := by
        rw [getElem!_pos xs.toArray (t / 3) (by simpa using hq)]
        rfl
      rw [this]
      have hm : t % 3 < (encL xs[t / 3]).length := by simp [encL]; omega
      rw [List.getElem?_eq_getElem hm, getElem!_pos (encL xs[t / 3]) (t % 3) hm]
      rfl
    · show (match w.heap[g]? with
        | some (.cells _ _ (lo, hi)) => decide (lo ≤ 0 + t) && decide (0 + t < hi)
        | _ => false) = false
      rw [hg]
      simp


theorem cmpLays (w : World) (blk off n : Nat) : CmpLays Try.prog 10 #[] encL 3 cmpK blk off n w := by
  intro m os dk _ x y
  refine (cmp_exact 5 x.f0 x.f1 x.f2 y.f0 y.f1 y.f2 _ _ (cmpK_f x y)).mono ?_
  rintro e w' ⟨rfl, h⟩
  exact ⟨rfl, h⟩

theorem encL_len (x : S32) : (encL x).length = 3 := rfl
theorem encL_one (x : S32) : ∀ v ∈ encL x, v.oneCell' = true := by
  intro v hv
  simp only [encL, List.mem_cons, List.not_mem_nil, or_false] at hv
  rcases hv with rfl | rfl | rfl <;> rfl
theorem sortK_len (xs : List S32) : (sortK xs).length = xs.length := List.length_mergeSort _

/-- What the sort leaves, as an owned row. -/
theorem own_of_sort {w : World} {base g n cap : Nat} {xs : List S32} (h : k32.R 32 w base (fun _ => True) (.slice (some ⟨g, 0, none⟩) n cap) xs) (q : Nat) (os : Array Obj) :
    k32.R 32 (sortWorldK encL 3 w g 0 q (sortK xs).toArray os) base (fun _ => True) (.slice (some ⟨g, 0, none⟩) n cap) (sortK xs) ∧ w.grownBy (sortWorldK encL 3 w g 0 q (sortK xs).toArray os) (some g) := by
  have hH := holds_of_own h
  obtain ⟨_, inner, ho, hr⟩ := h
  obtain ⟨hl, ⟨hv, _⟩ | ⟨g', cap', cur, hv, hb, hg, hnc, hcm, hsz, htk⟩⟩ := ho
  · cases hv
  cases hv
  have hlt : g < w.heap.size := (Array.getElem?_eq_some_iff.1 hg).1
  have hs : (sortK xs).toArray.size = xs.toArray.size := by simp [sortK_len]
  have hF : (flatK encL 3 (sortK xs).toArray).size = xs.length * 3 := by rw [size_flatK]; simp [sortK_len]
  have hblk : (sortWorldK encL 3 w g 0 q (sortK xs).toArray os).heap[g]? = some (.cells (putCells id 0 (flatK encL 3 (sortK xs).toArray) cur) 32 (0, 0)) := by
    unfold sortWorldK
    rw [heap_grow_old _ _ (by rw [size_putRowK]; exact hlt)]
    show ((Go.Sort.ahead w q).heap.modify g _)[g]? = _
    rw [Array.getElem?_modify, if_pos rfl]
    show (w.heap[g]?).map _ = _
    rw [hg]
    rfl
  refine ⟨⟨fun _ _ => trivial, (flatK encL 3 (sortK xs).toArray).toList, ⟨?_, .inr ⟨g, cap, _, ?_, hb, hblk, ?_, hcm, ?_, ?_⟩⟩, ⟨?_, ?_⟩⟩, ?_⟩
  · rw [Array.length_toList, hF, sortK_len]; rfl
  · rw [sortK_len]
  · rw [sortK_len]; exact hnc
  · rw [← hsz]; simp [putCells]
  · have hsz' : cur.size = cap * 3 := hsz
    show List.take ((sortK xs).length * 3) _ = _
    apply List.ext_getElem?
    intro t
    rw [sortK_len]
    by_cases ht : t < xs.length * 3
    · have htc : t < cur.size := by omega
      rw [List.getElem?_take_of_lt ht, Array.getElem?_toList, Array.getElem?_toList]
      unfold putCells
      rw [Array.getElem?_mapIdx, Array.getElem?_eq_getElem htc, Array.getElem?_eq_getElem (by omega)]
      simp only [Option.map_some]
      rw [if_pos ⟨Nat.zero_le _, by omega⟩, Nat.sub_zero, getElem!_pos _ t (by omega)]
      rfl
    · rw [List.getElem?_eq_none (by rw [List.length_take]; omega), List.getElem?_eq_none (by rw [Array.length_toList, hF]; omega)]
  · rw [Array.length_toList, hF, sortK_len]; rfl
  · intro j p hj
    have h3 : k32.sz = 3 := rfl
    rw [h3]
    obtain ⟨hjl, hjp⟩ := List.getElem?_eq_some_iff.1 hj
    have hjl' : j < xs.length := by rw [sortK_len] at hjl; exact hjl
    have : ((flatK encL 3 (sortK xs).toArray).toList.drop (j * 3)).take 3 = encL p := by
      apply List.ext_getElem?
      intro t
      by_cases ht : t < 3
      · rw [List.getElem?_take_of_lt ht, List.getElem?_drop, Array.getElem?_toList, Array.getElem?_eq_getElem (by omega), ← getElem!_pos _ (j * 3 + t) (by omega), get_flatK _ _ _ _ (by rw [← size_flatK encL]; omega)]
        rw [show (j * 3 + t) / 3 = j by omega, show (j * 3 + t) % 3 = t by omega]
        rw [getElem!_pos (sortK xs).toArray j (by simpa using hjl)]
        have hm : t < (encL p).length := by simp [encL]; omega
        rw [List.getElem_toArray, hjp, getElem!_pos (encL p) t hm, List.getElem?_eq_getElem hm]
      · rw [List.getElem?_eq_none (by rw [List.length_take]; omega), List.getElem?_eq_none (by simp [encL]; omega)]
    rw [this]
    exact k32_mkM _ _ _ _
  · refine ⟨rfl, rfl, rfl, size_sortWorldK_c encL 3 w g 0 q _ _, fun k hk hne => ?_⟩
    unfold sortWorldK
    rw [heap_grow_old _ _ (by rw [size_putRowK]; exact hk)]
    show ((Go.Sort.ahead w q).heap.modify g _)[k]? = _
    rw [Array.getElem?_modify, if_neg (fun e => hne (by rw [e]))]
    rfl

theorem eg20 : ∀ args w, (callFunc 10 args).run Try.prog w = .ok (.enter 10 args) w := enters_of Try.func10 (by kernel_rfl) rfl

/-- **slices.SortFunc(keys, key.Compare), IN PLACE.** -/
theorem sort_own {w : World} {base : Nat} {v : Value} {xs : List S32} (h : k32.R 32 w base (fun _ => True) v xs) (hn : xs.length < 4611686018427387904) :
    Calls Try.prog 30 #[v, .func (.func 10) #[] #[]] w fun e w' => e = .returned (.tuple #[]) ∧ k32.R 32 w' base (fun _ => True) v (sortK xs) ∧ w.grownBy w' v.ownBlock := by
  have h' := h
  obtain ⟨_, inner, ho, hr⟩ := h'
  obtain ⟨hl, ⟨hv, hz⟩ | ⟨g, cap, cur, hv, hb, hg, hnc, hcm, hsz, htk⟩⟩ := ho
  · subst hv
    have hx : xs = [] := List.length_eq_zero_iff.1 hz
    subst hx
    have hs : sortK [] = [] := List.length_eq_zero_iff.1 (sortK_len [])
    rw [hs]
    refine (AnyF.slices_SortFunc_none Try.sortL none 0 (.func (.func 10) #[] #[]) w).mono ?_
    rintro e w' ⟨rfl, rfl⟩
    exact ⟨rfl, h, ⟨rfl, rfl, rfl, Nat.le_refl _, fun _ _ _ => rfl⟩⟩
  · subst hv
    refine (AnyQ.slices_SortFunc_total Try.sortL 3 (fun w => Try.isAgg32 w) (fun w => Try.sizeOf32 w) encL encL_len encL_one cmpK swoK 10 #[] g 0 cap xs.toArray w eg20 (cmpLays w g 0 _) (holds_of_own h) (Array.getElem?_eq_some_iff.1 hg).1 (by simpa using hn) totK).mono ?_
    rintro e w' ⟨rfl, q, os, rfl⟩
    exact ⟨rfl, own_of_sort h q os⟩
end Go.Proofs.Ytignfgefbhkecaa.X
