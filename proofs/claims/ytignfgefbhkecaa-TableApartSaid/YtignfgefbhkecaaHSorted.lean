/- slices.SortedFunc(maps.Keys(m), key.Compare). -/
import Derived.Test.YtignfgefbhkecaaHSort
import Derived.Test.YtignfgefbhkecaaHKeys
namespace Go.Proofs.Ytignfgefbhkecaa.X
open Go.RowKit Go.Shelf Go.Proofs.YtignfgefbhkecaaW.PrintWords Go.Proofs.YtignfgefbhkecaaW.PrintLast Go.Proofs.YtignfgefbhkecaaW.PrintMore Go.Proofs.Ytignfgefbhkecaa.KMap
set_option linter.unusedVariables false
theorem ltK_anti (x y : S32) : (!(ltOf cmpK) y x) = true ∧ (!(ltOf cmpK) x y) = true → x = y := by
  rintro ⟨h1, h2⟩
  exact totK x y (by simpa using h2) (by simpa using h1)
theorem sortK_perm {l l' : List S32} (h : l.Perm l') : sortK l = sortK l' := by
  have tr : ∀ a b c : S32, (!(ltOf cmpK) b a) = true → (!(ltOf cmpK) c b) = true → (!(ltOf cmpK) c a) = true := by
    intro a b c h1 h2
    simp only [Bool.not_eq_true'] at *
    exact swoK.ntrans c b a h2 h1
  have to_ : ∀ a b : S32, ((!(ltOf cmpK) b a) || (!(ltOf cmpK) a b)) = true := by
    intro a b
    rw [lt_cmpK, lt_cmpK]
    simp only [ltK, Bool.or_eq_true, Bool.not_eq_true', decide_eq_false_iff_not]
    omega
  have p : (sortK l).Perm (sortK l') := (List.mergeSort_perm l _).trans (h.trans (List.mergeSort_perm l' _).symm)
  have s1 := List.pairwise_mergeSort (le := fun x y => !(ltOf cmpK) y x) tr to_ l
  have s2 := List.pairwise_mergeSort (le := fun x y => !(ltOf cmpK) y x) tr to_ l'
  exact List.Perm.eq_of_pairwise (fun a b _ _ h1 h2 => ltK_anti a b ⟨h1, h2⟩) s1 s2 p

set_option maxRecDepth 100000 in
set_option maxHeartbeats 2000000 in
theorem sorted_keys {w : World} (Bm b : Nat) (es : List (S32 × Value)) (hm : w.cell? ⟨Bm, 0, none⟩ = some (.map (some b))) (hM : MapAt encK w b es) (hN : es.length < 8796093022207) :
    Calls Try.prog 22 #[.func (.func 31) #[] #[.pointer (some ⟨Bm, 0, none⟩)], .func (.func 10) #[] #[]] w fun e w' => ∃ v, e = .returned v ∧ k32.R 32 w' w.heap.size (fun _ => True) v (sortK (es.map Prod.fst)) ∧ Below w.heap.size w w' := by
  have hc := callsIn_wide.1 (collect_in Fence.wide 5 trivial trivial rfl (by omega) 31 #[.pointer (some ⟨Bm, 0, none⟩)] trivial (enters_of Try.func31 (by kernel_rfl) rfl) _ _ es.length hN w
    (fun W hW => keys_stops Fence.wide 3 trivial rfl (by omega) Bm b es W ((hW.cell (World.block_lt_of_cell? w _ hm)).trans hm) (hM.below hW)))
  go_enter Try.func22, Try.ntmps22
  go_wp2_with (first
    | (go_at_call 29; refine hc.mono ?_; rintro e w1 ⟨v, ks, rfl, hS, hR, hN2, hB⟩; have HS := Aside0.mk hS; have HR := Aside0.mk hR; have HB := Aside0.mk hB; clear hS hR hN2 hB)
    | (go_at_call 30; refine (sort_own HR.out (by have := HS.out.length_eq; simp at this; omega)).mono ?_; rintro e w2 ⟨rfl, hR2, hG2⟩; have HR2 := Aside0.mk hR2; have HG2 := Aside0.mk hG2; clear hR2 hG2))
  go_ret
  refine ⟨_, rfl, ?_, ?_⟩
  · rw [← sortK_perm HS.out]; exact HR2.out
  · refine HB.out.grown HG2.out HB.out.size (fun k hk => ?_)
    obtain ⟨_, inner, ho, _⟩ := HR.out
    exact own_base ho k hk
end Go.Proofs.Ytignfgefbhkecaa.X
