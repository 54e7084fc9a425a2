/- TableApart, walked: a copy of any table goes its own way. -/
import Derived.Test.YtignfgefbhkecaaHPlay
namespace Go.Proofs.Ytignfgefbhkecaa.X
open Go.RowKit Go.Shelf Go.Proofs.YtignfgefbhkecaaW.PrintWords Go.Proofs.YtignfgefbhkecaaW.PrintLast Go.Proofs.YtignfgefbhkecaaW.PrintMore Go.Proofs.Ytignfgefbhkecaa.KMap
set_option linter.unusedVariables false
set_option linter.unusedSimpArgs false
theorem perm_kget {es es' : Ents} (h : es'.Perm es) (hn : (es.map Prod.fst).Nodup) (k : S32) : kget es' k = kget es k := by
  have hn' : (es'.map Prod.fst).Nodup := (h.map Prod.fst).nodup_iff.2 hn
  cases h1 : kget es' k with
  | none =>
    have h2 := kget_none h1
    cases h3 : kget es k with
    | none => rfl
    | some v =>
      obtain ⟨j, hj⟩ := kget_some h3
      exact absurd ((h.map Prod.fst).mem_iff.2 (List.mem_map.2 ⟨_, List.mem_of_getElem? hj, rfl⟩)) h2
  | some v =>
    obtain ⟨j, hj⟩ := kget_some h1
    have hm : (k, v) ∈ es := h.mem_iff.1 (List.mem_of_getElem? hj)
    cases h3 : kget es k with
    | none => exact absurd (List.mem_map.2 ⟨_, hm, rfl⟩) (kget_none h3)
    | some v' =>
      obtain ⟨j', hj'⟩ := kget_some h3
      have hm' : (k, v') ∈ es := List.mem_of_getElem? hj'
      obtain ⟨i1, hi1, e1⟩ := List.getElem_of_mem hm
      obtain ⟨i2, hi2, e2⟩ := List.getElem_of_mem hm'
      have : i1 = i2 := by
        refine (List.getElem_inj (h₀ := by simpa using hi1) (h₁ := by simpa using hi2) hn).1 ?_
        simp [e1, e2]
      subst this
      rw [e1] at e2
      cases e2
      rfl
theorem TRel.perm {es es' : Ents} {rows : List S61} (h : TRel es rows) (hp : es'.Perm es) (hn : (es.map Prod.fst).Nodup) : TRel es' rows :=
  ⟨h.rise, fun k => (perm_kget hp hn k).trans (h.get k)⟩
/-- What holds between two acts on the copy. -/
structure ApartAt (w0 : World) (v : Value) (w : World) (T b T' b' : Nat) (es : Ents) (rows : List S61) (es' : Ents) : Prop where
  tab : TabAt w T b es
  row : k61.R 61 w w0.heap.size (fun _ => True) v rows
  cop : TabAt w T' b' es'
  bel : Below w0.heap.size w0 w
theorem ApartAt.step {w0 : World} {v : Value} {w w1 : World} {T b T' b' : Nat} {es : Ents} {rows : List S61} {es' es1 : Ents} (h : ApartAt w0 v w T b T' b' es rows es')
    (hT : T ≠ b') (hb : b ≠ b') (hb' : w0.heap.size ≤ b') (hc : TabAt w1 T' b' es1) (hg : w.grownBy w1 (some b')) : ApartAt w0 v w1 T b T' b' es rows es1 :=
  ⟨h.tab.grown hg (fun e => hT (Option.some.inj e)) (fun e => hb (Option.some.inj e)), R61_grown h.row hg (by obtain ⟨o, ho, hc⟩ := h.cop.map.obj; exact .inr (R_not_obj h.row ho hc).symm), hc, Below.grown h.bel hg h.bel.size (fun k e => by cases e; exact hb')⟩
set_option maxHeartbeats 8000000 in
set_option maxRecDepth 100000 in
theorem apart_calls (A0 : Option Addr) (c0 : Nat) (l0 : List S42) (A1 : Option Addr) (c1 : Nat) (l1 : List S42) (w : World) (hr0 : Kd.C k42 w A0 l0.length l0) (hc0 : l0.length ≤ c0) (hr1 : Kd.C k42 w A1 l1.length l1) (hc1 : l1.length ≤ c1) :
    Calls Try.prog 5 #[.slice A0 l0.length c0, .slice A1 l1.length c1] w fun e w' => e = .returned (.bool true) ∧ Below w.heap.size w w' := by
  have hu32 := Try.underlying32
  have hu42 := Try.underlying42
  have HMD := Aside0.mk (made_calls A0 c0 l0 w hr0 hc0)
  have HR1 := Aside0.mk hr1
  have hlen : l1.length ≤ 9223372036854775807 := hr1.2.1
  clear hr0 hr1
  go_enter Try.func5, Try.ntmps5
  go_wp2_with (first
    | (go_at_call 7; refine HMD.out.mono ?_; rintro e w1 ⟨T, b, es, v, rfl, rows, hM⟩; have HM := Aside0.mk hM; clear hM)
    | (go_at_call 15; refine (copy_calls HM.out.tab).mono ?_; rintro e w2 ⟨T', b', es', rfl, hT', hp', hl1, hl2, hb⟩; have HT2 := Aside0.mk hT'; have HP2 := Aside0.mk hp'; have HL2 := Aside0.mk (And.intro hl1 hl2); have HB2 := Aside0.mk hb; clear hT' hp' hl1 hl2 hb))
  obtain ⟨A, c, rfl, hc, hC⟩ := Kd.R_reads HM.out.row
  clear hC
  have hI : ApartAt w (.slice A rows.length c) w2 T b T' b' es rows es' := ⟨HM.out.tab.below HB2.out, Kd.R_below HM.out.row HB2.out, HT2.out, below_step HM.out.bel HB2.out⟩
  have hne : T ≠ b' ∧ b ≠ b' ∧ w.heap.size ≤ b' := by
    have h1 := HL2.out.2
    have h2 := blk_lt HM.out.tab.box
    have h3 := HM.out.tab.map.lt
    have h4 := HM.out.bel.size
    exact ⟨by omega, by omega, by omega⟩
  have HNE := Aside0.mk hne
  have HI := Aside0.mk hI
  have HREL := Aside0.mk HM.out.rel
  have HLEN := Aside0.mk HM.out.len
  clear hI hne
  go_loopg [9] 60 (fun gg v9 wr => ∃ (i : Nat) (es1 : Ents), v9 = .int .i64 (i : Int) ∧ i ≤ l1.length ∧ i ≤ 60 ∧ 60 - i ≤ gg ∧ Aside0 (ApartAt w (.slice A rows.length c) wr T b T' b' es rows es1))
  case atStart => exact ⟨0, es', rfl, by omega, by omega, by omega, HI⟩
  case round =>
    obtain ⟨i, es1, rfl, hi1, hi2, hi3, HA⟩ := hrel
    by_cases hlt : i < l1.length ∧ i < 60
    · obtain ⟨hlt, h60⟩ := hlt
      obtain ⟨ad, e, hx0, hx1, hx2, hx3, hx4⟩ := at_T42 HR1.out i hlt rfl
      cases e
      generalize l1[i] = x at hx0 hx1 hx2 hx3 hx4
      have HX := Aside0.mk (And.intro hx0 (And.intro hx1 (And.intro hx2 (And.intro hx3 hx4))))
      replace hx0 := pw_cell_below HA.out.bel hx0
      replace hx1 := pw_cell_below HA.out.bel hx1
      replace hx2 := pw_cell_below HA.out.bel hx2
      replace hx3 := pw_cell_below HA.out.bel hx3
      replace hx4 := pw_cell_below HA.out.bel hx4
      cases hg : x.f2 with
      | true =>
        rw [hg] at hx4
        have hdel := del_calls HA.out.cop x.f0
        dsimp only [encK] at hdel
        have HD := Aside0.mk hdel
        clear hdel
        go_wp2_with (first
          | (go_at_call 16; refine HD.out.mono ?_; rintro e w3 ⟨rfl, hT, hgr⟩; have HA3 := Aside0.mk (HA.out.step HNE.out.1 HNE.out.2.1 HNE.out.2.2 hT hgr); clear hT hgr))
        go_roundg (60 - (i + 1))
        case measure => omega
        case rel => exact ⟨i + 1, _, by go_num, by omega, by omega, by omega, HA3⟩
      | false =>
        rw [hg] at hx4
        have hput := put_calls (w := wr.drew) (HA.out.cop.grown (grownBy_drew wr none) (by simp) (by simp)) x.f0 x.f1
        dsimp only [encK] at hput
        have HP := Aside0.mk hput
        clear hput
        go_wp2_with fail
        go_still_tail 11, (by kernel_rfl)
        change wpList _ _ _ _ _ wr.drew
        go_wp2_with (first
          | (go_at_call 17; refine HP.out.mono ?_; rintro e w3 ⟨rfl, hT, hgr⟩; have HA3 := Aside0.mk (HA.out.step HNE.out.1 HNE.out.2.1 HNE.out.2.2 hT (grownBy_join (grownBy_drew wr (some b')) hgr)); clear hT hgr))
        go_roundg (60 - (i + 1))
        case measure => omega
        case rel => exact ⟨i + 1, _, by go_num, by omega, by omega, by omega, HA3⟩
    · have HCP := Aside0.mk (copy_calls HA.out.tab)
      have hd : (i = 60 ∧ 60 < l1.length) ∨ ¬ i < l1.length := by omega
      clear hlt
      rcases hd with ⟨rfl, h1⟩ | h1
      all_goals
        go_wp2_with (first
          | (go_at_call 15; refine HCP.out.mono ?_; rintro e w3 ⟨T3, b3, es3, rfl, hT', hp', hl1, hl2, hb⟩; have HT3 := Aside0.mk hT'; have HREL3 := Aside0.mk (HREL.out.perm hp' HA.out.tab.map.nodup); have HB3 := Aside0.mk (below_step HA.out.bel hb); have HU3 := Aside0.mk (HA.out.tab.below hb); have HC3 := Aside0.mk ((Kd.R_reads' (Kd.R_below HA.out.row hb)).2.2); clear hT' hp' hl1 hl2 hb)
          | (go_at_call 14; refine (same_calls HT4.out HC4.out hc HREL3.out HLEN.out.2).mono ?_; rintro e w5 ⟨rfl, hb⟩; have HB5 := Aside0.mk (below_step HB4.out hb); clear hb)
          | (go_at_call 14; refine (same_calls HU3.out HC3.out hc HREL.out HLEN.out.2).mono ?_; rintro e w4 ⟨rfl, hb⟩; have HB4 := Aside0.mk (below_step HB3.out hb); have HT4 := Aside0.mk (HT3.out.below hb); have HC4 := Aside0.mk (Kd.C_below HC3.out hb); clear hb)
          | (go_at_call 12; refine (works_calls _).mono ?_; rintro e w6 ⟨rfl, hb⟩; have HB6 := Aside0.mk (below_step HB5.out hb); clear hb))
        go_ret
        exact ⟨rfl, HB6.out⟩
end Go.Proofs.Ytignfgefbhkecaa.X
