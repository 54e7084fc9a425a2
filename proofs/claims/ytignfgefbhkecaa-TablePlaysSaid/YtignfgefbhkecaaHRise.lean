/- TableRises, walked: the keys of any table rise, each once, and at each of them something stands. -/
import Derived.Test.YtignfgefbhkecaaHMad3
namespace Go.Proofs.Ytignfgefbhkecaa.X
open Go.RowKit Go.Shelf Go.Proofs.YtignfgefbhkecaaW.PrintWords Go.Proofs.YtignfgefbhkecaaW.PrintLast Go.Proofs.YtignfgefbhkecaaW.PrintMore Go.Proofs.Ytignfgefbhkecaa.KMap
set_option linter.unusedVariables false
set_option linter.unusedSimpArgs false
theorem sortK_strict (l : List S32) (hn : l.Nodup) : (sortK l).Pairwise (fun a b => ltK a b = true) := by
  have tr : ∀ a b c : S32, leK a b = true → leK b c = true → leK a c = true := by
    intro a b c h1 h2
    simp only [leK, Bool.not_eq_true'] at *
    exact swoK.ntrans c b a h2 h1
  have tt : ∀ a b : S32, (leK a b || leK b a) = true := by
    intro a b
    simp only [leK]
    rw [lt_cmpK, lt_cmpK]
    simp only [ltK, Bool.or_eq_true, Bool.not_eq_true', decide_eq_false_iff_not]
    omega
  have h1 : (sortK l).Pairwise (fun a b => leK a b = true) := List.pairwise_mergeSort (le := leK) tr tt l
  have h2 : (sortK l).Nodup := (List.mergeSort_perm l _).nodup_iff.2 hn
  refine (h1.and h2).imp (fun {a b} h => ?_)
  have h3 := h.1
  simp only [leK, Bool.not_eq_true'] at h3
  rw [lt_cmpK] at h3
  exact ltK_or h3 (fun e => h.2 e.symm)
theorem cmp_neg {a b : S32} (h : ltK a b = true) : cmpK a b < 0 := by
  rw [← lt_cmpK] at h
  exact of_decide_eq_true h
set_option maxHeartbeats 8000000 in
set_option maxRecDepth 100000 in
theorem rises_calls (A0 : Option Addr) (c0 : Nat) (l0 : List S42) (w : World) (hr0 : Kd.C k42 w A0 l0.length l0) (hc0 : l0.length ≤ c0) :
    Calls Try.prog 3 #[.slice A0 l0.length c0] w fun e w' => e = .returned (.bool true) ∧ Below w.heap.size w w' := by
  have hu32 := Try.underlying32
  have hmade := made_calls A0 c0 l0 w hr0 hc0
  have HMD := Aside0.mk hmade
  clear hmade hr0
  go_enter Try.func3, Try.ntmps3
  go_wp2_with (first
    | (go_at_call 7; refine HMD.out.mono ?_; rintro e w1 ⟨T, b, es, v, rfl, rows, hM⟩; have HM := Aside0.mk hM; clear hM)
    | (go_at_call 8; refine (keys_calls HM.out.tab (by have := HM.out.len; omega)).mono ?_; rintro e w2 ⟨vk, rfl, hR, hb⟩; obtain ⟨A, c, rfl, hc, hC⟩ := Kd.R_reads hR; have HC2 := Aside0.mk hC; have HT2 := Aside0.mk (HM.out.tab.below hb); have HB2 := Aside0.mk (below_step HM.out.bel hb); clear hR hb hC))
  have hks := sortK_strict (es.map Prod.fst) HM.out.tab.map.nodup
  have hmem : ∀ k, k ∈ sortK (es.map Prod.fst) → (kget es k).isSome = true := fun k hk => kget_isSome.2 ((List.mergeSort_perm _ _).mem_iff.1 hk)
  have hkl : (sortK (es.map Prod.fst)).length = es.length := by rw [sortK_len, List.length_map]
  have hel := HM.out.len.1
  generalize sortK (es.map Prod.fst) = ks at hks hmem hkl hc HC2 ⊢
  have HKS := Aside0.mk hks
  have HMEM := Aside0.mk hmem
  have HKL := Aside0.mk hkl
  have HEL := Aside0.mk hel
  clear hks hmem hkl hel
  go_loopg [7] ks.length (fun gg v7 wr => ∃ i : Nat, v7 = .int .i64 (i : Int) ∧ i ≤ ks.length ∧ ks.length - i ≤ gg ∧ Aside0 (Below w2.heap.size w2 wr))
  case atStart => exact ⟨0, rfl, by omega, by omega, ⟨Below.refl _ _⟩⟩
  case round =>
    obtain ⟨i, rfl, hi1, hi2, HB⟩ := hrel
    by_cases hlt : i < ks.length
    · have HLT := Aside0.mk hlt
      have hkb : ks.length ≤ 9223372036854775807 := HC2.out.2.1
      have hib : i < 9223372036854775807 := by omega
      obtain ⟨ad, e, hx0, hx1, hx2⟩ := at_T32 HC2.out (i : Int) (by omega) (by omega)
      cases e
      have hrd : ∀ j : Nat, (h : j < ks.length) → rd_T32 ks (j : Int) = ks[j] := fun j h => by simp [rd_T32, List.getD_eq_getElem?_getD, h]
      rw [hrd i hlt] at hx0 hx1 hx2
      have HX := Aside0.mk (And.intro hx0 (And.intro hx1 hx2))
      replace hx0 := pw_cell_below HB.out hx0
      replace hx1 := pw_cell_below HB.out hx1
      replace hx2 := pw_cell_below HB.out hx2
      simp only [Int.toNat_natCast] at hx0 hx1 hx2
      have hsome := HMEM.out ks[i] (List.getElem_mem hlt)
      have hget := get_calls (HT2.out.below HB.out) ks[i]
      rw [hsome] at hget
      rcases Nat.eq_zero_or_pos i with hz | hz
      · have hgt : decide ((i : Int) > 0) = false := decide_eq_false (by omega)
        have hgt2 : decide (0 < (i : Int)) = false := decide_eq_false (by omega)
        have hgt3 : decide (0 < i) = false := decide_eq_false (by omega)
        clear hz
        generalize ks[i] = x at hx0 hx1 hx2 hget HX
        dsimp only [encK] at hget
        have HG := Aside0.mk hget
        clear hget hsome
        go_wp2_with (first
          | (go_at_call 9; refine HG.out.mono ?_; rintro e w3 ⟨rfl, hb⟩; have HB3 := Aside0.mk (below_step HB.out hb); clear hb))
        go_quiet (fail)
        go_wp2_with fail
        go_roundg (ks.length - (i + 1))
        case measure => have := HLT.out; omega
        case rel => exact ⟨i + 1, by go_num, by have := HLT.out; omega, by have := HLT.out; omega, ⟨pw_below_drewN HB3.out _⟩⟩
      · obtain ⟨ad', e', hy0, hy1, hy2⟩ := at_T32 HC2.out ((i - 1 : Nat) : Int) (by omega) (by omega)
        cases e'
        rw [hrd (i - 1) (by omega)] at hy0 hy1 hy2
        have hlk : cmpK ks[i - 1] ks[i] < 0 := cmp_neg ((List.pairwise_iff_getElem.1 HKS.out) (i - 1) i (by omega) hlt (by omega))
        have hcmp := fun W => key_Compare.calls 5 _ _ _ _ _ _ _ W (cmpK_f ks[i - 1] ks[i])
        generalize ks[i - 1] = y at hy0 hy1 hy2 hlk hcmp
        generalize ks[i] = x at hx0 hx1 hx2 hget HX hlk hcmp
        have hgt : decide ((i : Int) > 0) = true := decide_eq_true (by omega)
        have hgt2 : decide (0 < (i : Int)) = true := decide_eq_true (by omega)
        have hgt3 : decide (0 < i) = true := decide_eq_true (by omega)
        have him : wrap64 ((i : Int) - 1) = ((i - 1 : Nat) : Int) := by unfold wrap64; have := HC2.out.2.1; omega
        have himW : IntKind.i64.wrap ((i : Int) - 1) = ((i - 1 : Nat) : Int) := by first | (rw [i64_w]; exact him) | exact him
        have him2 : ((i - 1 : Nat) : Int) < (ks.length : Int) := by omega
        have him3 : (0 : Int) ≤ ((i - 1 : Nat) : Int) := by omega
        have HY := Aside0.mk (And.intro hy0 (And.intro hy1 hy2))
        generalize cmpK y x = r at hlk hcmp
        have hr : decide (r ≥ 0) = false := decide_eq_false (by omega)
        have hr2 : decide (0 ≤ r) = false := decide_eq_false (by omega)
        generalize hj : i - 1 = j at HY him himW him2 him3
        dsimp only [encK] at hget
        have HG := Aside0.mk hget
        have HCP := Aside0.mk hcmp
        clear hget hsome hy0 hy1 hy2 hlk hcmp hz hj
        go_wp2_with (first
          | (go_at_call 9; refine HG.out.mono ?_; rintro e w3 ⟨rfl, hb⟩; have HB3 := Aside0.mk (below_step HB.out hb); have hx0 := pw_cell_below HB3.out HX.out.1; have hx1 := pw_cell_below HB3.out HX.out.2.1; have hx2 := pw_cell_below HB3.out HX.out.2.2; have hy0 := pw_cell_below HB3.out HY.out.1; have hy1 := pw_cell_below HB3.out HY.out.2.1; have hy2 := pw_cell_below HB3.out HY.out.2.2; simp only [Int.toNat_natCast] at hx0 hx1 hx2 hy0 hy1 hy2; clear hb))
        go_still_tail 15, (by kernel_rfl)
        change wpList _ _ _ _ _ w3.drew
        go_wp2_with (first
          | (go_at_call 10; refine (HCP.out w3.drew).mono ?_; rintro e w4 ⟨rfl, hb⟩; have HB4 := Aside0.mk (below_step (below_drew1 HB3.out) hb); clear hb))
        go_roundg (ks.length - (i + 1))
        case measure => have := HLT.out; omega
        case rel => exact ⟨i + 1, by go_num, by have := HLT.out; omega, by have := HLT.out; omega, ⟨HB4.out⟩⟩
    · have hie : i = ks.length := by omega
      have hlen := len_calls (HT2.out.below HB.out)
      rw [← HKL.out] at hlen
      have HLN := Aside0.mk hlen
      clear hlen
      go_wp2_with (first
        | (go_at_call 11; refine HLN.out.mono ?_; rintro e w3 ⟨rfl, rfl⟩)
        | (go_at_call 12; refine (works_calls _).mono ?_; rintro e w4 ⟨rfl, hb⟩; have HB4 := Aside0.mk hb; clear hb))
      go_ret
      exact ⟨rfl, below_step (below_step HB2.out HB.out) HB4.out⟩
end Go.Proofs.Ytignfgefbhkecaa.X
