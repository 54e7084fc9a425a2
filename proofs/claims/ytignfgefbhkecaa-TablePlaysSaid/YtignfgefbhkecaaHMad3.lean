/- works and made: what the laws of tables begin with. -/
import Derived.Test.YtignfgefbhkecaaHMade
namespace Go.Proofs.Ytignfgefbhkecaa.X
open Go.RowKit Go.Shelf Go.Proofs.YtignfgefbhkecaaW.PrintWords Go.Proofs.YtignfgefbhkecaaW.PrintLast Go.Proofs.YtignfgefbhkecaaW.PrintMore Go.Proofs.Ytignfgefbhkecaa.KMap
set_option linter.unusedVariables false
set_option linter.unusedSimpArgs false

/-! #### what is done to a table: struct type 42 -/
structure S42 where
  f0 : S32
  f1 : Int
  f2 : Bool
def z42 : S42 := ⟨z32, 0, false⟩
def k42 : Kd S42 := Kd.iso (Kd.pair k32 (Kd.pair (Kd.int .i64) Kd.bool)) (fun x : S42 => (x.f0, x.f1, x.f2))
theorem k42_open {w : World} {x : S42} {cs : List Value} (h : k42.K w x cs) : cs = [.int .u8 x.f0.f0, .int .u8 x.f0.f1, .int .u8 x.f0.f2, .int .i64 x.f1, .bool x.f2] := by
  obtain ⟨_, _, rfl, s0, ⟨_, _, rfl, rfl, rfl⟩⟩ := h
  obtain rfl := k32_open s0
  exact rfl
theorem k42_mk (w : World) (x : S42) : k42.K w x [.int .u8 x.f0.f0, .int .u8 x.f0.f1, .int .u8 x.f0.f2, .int .i64 x.f1, .bool x.f2] := ⟨[.int .u8 x.f0.f0, .int .u8 x.f0.f1, .int .u8 x.f0.f2], [.int .i64 x.f1, .bool x.f2], rfl, k32_mk w x.f0, ⟨[.int .i64 x.f1], [.bool x.f2], rfl, rfl, rfl⟩⟩
theorem at_T42 {w : World} {A : Option Addr} {n : Nat} {xs : List S42} (h : Kd.C k42 w A n xs) (i : Nat) (h1 : i < xs.length) (hn : xs.length = n) : ∃ ad , A = some ad ∧ w.cell? (ad.add (i * 5)) = some (.int .u8 xs[i].f0.f0) ∧ w.cell? ⟨(ad.add (i * 5)).block, (ad.add (i * 5)).off + 1, none⟩ = some (.int .u8 xs[i].f0.f1) ∧ w.cell? ⟨(ad.add (i * 5)).block, (ad.add (i * 5)).off + 2, none⟩ = some (.int .u8 xs[i].f0.f2) ∧ w.cell? ⟨(ad.add (i * 5)).block, (ad.add (i * 5)).off + 3, none⟩ = some (.int .i64 xs[i].f1) ∧ w.cell? ⟨(ad.add (i * 5)).block, (ad.add (i * 5)).off + 4, none⟩ = some (.bool xs[i].f2) := by
  obtain ⟨ad, c, e, _, hK, hc0⟩ := Kd.C_get h z42 (i : Int) (by omega) (by omega)
  have hx : xs.getD (i : Int).toNat z42 = xs[i] := by simp [List.getD_eq_getElem?_getD, h1]
  rw [hx] at hK
  have hc : ∀ j u, c[j]? = some u → w.cell? (ad.add (i * 5 + j)) = some u := hc0
  obtain rfl := k42_open hK
  exact ⟨ad, e, hc 0 _ rfl, by rw [← add_field _ _ 1 (by omega)]; exact hc 1 _ rfl, by rw [← add_field _ _ 2 (by omega)]; exact hc 2 _ rfl, by rw [← add_field _ _ 3 (by omega)]; exact hc 3 _ rfl, by rw [← add_field _ _ 4 (by omega)]; exact hc 4 _ rfl⟩

theorem two_keys : sortK ((kput (kput [] ⟨4, 1, 0⟩ (.int .i64 5)) ⟨1, 0, 0⟩ (.int .i64 6)).map Prod.fst) = [⟨1, 0, 0⟩, ⟨4, 1, 0⟩] := by
  refine sortK_eq (l' := [⟨1, 0, 0⟩, ⟨4, 1, 0⟩]) ?_ ?_
  · rw [show (kput (kput [] (⟨4, 1, 0⟩ : S32) (.int .i64 5)) ⟨1, 0, 0⟩ (.int .i64 6)).map Prod.fst = [⟨4, 1, 0⟩, ⟨1, 0, 0⟩] from rfl]
    exact List.Perm.swap _ _ _
  · simp only [List.pairwise_cons]
    refine ⟨fun a ha => ?_, fun a ha => by simp at ha, List.Pairwise.nil⟩
    simp only [List.mem_singleton] at ha
    subst ha
    exact lt_le rfl
set_option maxHeartbeats 2000000 in
theorem works_calls (w : World) : Calls Try.prog 12 #[] w fun e w' => e = .returned (.bool true) ∧ Below w.heap.size w w' := by
  have hu32 := Try.underlying32
  have h0 := new_tab w
  have HB0 := Aside0.mk (new_below w)
  have hp1 := put_calls h0 ⟨4, 1, 0⟩ 5
  dsimp only [encK] at hp1
  have HP1 := Aside0.mk hp1
  clear hp1 h0
  go_enter Try.func12, Try.ntmps12
  go_wp2_with (first
    | (go_at_call 19; refine (new_calls w).mono ?_; rintro e w1 ⟨rfl, rfl⟩)
    | (go_at_call 17; have hp2 := put_calls HT2.out ⟨1, 0, 0⟩ 6; dsimp only [encK] at hp2; with_reducible refine hp2.mono ?_; clear hp2; rintro e w3 ⟨rfl, hT, hg⟩; have HT3 := Aside0.mk hT; have HB3 := Aside0.mk (Below.grown HB2.out hg HB2.out.size (fun k e => by cases e; exact Nat.le_refl _)); clear hT hg)
    | (go_at_call 17; with_reducible refine HP1.out.mono ?_; rintro e w2 ⟨rfl, hT, hg⟩; have HT2 := Aside0.mk hT; have HB2 := Aside0.mk (Below.grown HB0.out hg HB0.out.size (fun k e => by cases e; exact Nat.le_refl _)); clear hT hg)
    | (go_at_call 8; refine (keys_calls HT3.out (by decide)).mono ?_; rintro e w4 ⟨v, rfl, hR, hb⟩; have HB4 := Aside0.mk (below_step HB3.out hb); have HT4 := Aside0.mk (HT3.out.below hb); rw [two_keys] at hR; obtain ⟨A, c, rfl, hc, hC⟩ := Kd.R_reads hR; obtain ⟨ad, e4, hx0, hx1, hx2⟩ := at_T32 hC 0 (by omega) (by simp); subst e4; have hk0 : w4.cell? ad = some (.int .u8 1) := (by have h_ := hx0; simpa [rd_T32, Addr.add] using h_); clear hR hb hx0 hx1 hx2)
    | (go_at_call 11; refine (len_calls HT4.out).mono ?_; rintro e w5 ⟨rfl, rfl⟩))
  go_ret
  exact ⟨rfl, HB4.out⟩

/-- What made has behind some acts. -/
structure MadeAt (base : Nat) (w0 : World) (i : Nat) (v : Value) (w : World) (T b : Nat) (es : Ents) (rows : List S61) : Prop where
  tab : TabAt w T b es
  row : k61.R 61 w base (fun _ => True) v rows
  rel : TRel es rows
  len : es.length ≤ i ∧ rows.length ≤ i
  at_ : base ≤ T ∧ base ≤ b
  bel : Below base w0 w
theorem nodup_of_tab {w : World} {T b : Nat} {es : Ents} (h : TabAt w T b es) : (es.map Prod.fst).Nodup := h.map.nodup
set_option maxHeartbeats 8000000 in
set_option maxRecDepth 100000 in
theorem made_calls (A0 : Option Addr) (c0 : Nat) (l0 : List S42) (w : World) (hr0 : Kd.C k42 w A0 l0.length l0) (hc0 : l0.length ≤ c0) :
    Calls Try.prog 7 #[.slice A0 l0.length c0] w fun e w' => ∃ T b es v, e = .returned (.tuple #[.pointer (some ⟨T, 0, none⟩), v, .bool true]) ∧ ∃ rows, MadeAt w.heap.size w 60 v w' T b es rows := by
  have hu42 := Try.underlying42
  have hu32 := Try.underlying32
  have HR0 := Aside0.mk hr0
  have hlen : l0.length ≤ 9223372036854775807 := hr0.2.1
  clear hr0
  go_enter Try.func7, Try.ntmps7
  go_wp2_with (first
    | (go_at_call 19; refine (new_calls w).mono ?_; rintro e w1 ⟨rfl, rfl⟩))
  have hI : MadeAt w.heap.size w 0 (.slice (some ⟨w.heap.size + 1 + 1, 0, none⟩) (([] : List S61).length) 0) (((w.alloc (.map #[] 0)).alloc (.cells #[.map (some w.heap.size)] 57)).alloc (.cells #[] 61)) (w.heap.size + 1) w.heap.size [] [] :=
    ⟨(new_tab w).grown (World.grownBy_alloc _ _ none) (by simp) (by simp), by
      have h := R_made0 k61 61 ((w.alloc (.map #[] 0)).alloc (.cells #[.map (some w.heap.size)] 57)) w.heap.size 0 #[] (new_below w).size (by decide)
      have e : ((w.alloc (.map #[] 0)).alloc (.cells #[.map (some w.heap.size)] 57)).heap.size = w.heap.size + 1 + 1 := by simp
      rw [e, show madeCells #[] (0 * k61.sz) = #[] from (by simp [madeCells])] at h
      exact h, TRel.none, ⟨Nat.le_refl _, Nat.le_refl _⟩, ⟨by omega, Nat.le_refl _⟩, below_alloc (new_below w) _⟩
  have HI := Aside0.mk hI
  clear hI
  generalize (((w.alloc (.map #[] 0)).alloc (.cells #[.map (some w.heap.size)] 57)).alloc (.cells #[] 61)) = wi at HI ⊢
  go_loopg [6, 7, 8] 60 (fun gg v6 v7 v8 wr => ∃ (i : Nat) (es : Ents) (rows : List S61) (A : Option Addr) (c : Nat), v6 = .slice A rows.length c ∧ v7 = .bool true ∧ v8 = .int .i64 (i : Int) ∧ i ≤ l0.length ∧ i ≤ 60 ∧ 60 - i ≤ gg ∧ Aside0 (MadeAt w.heap.size w i (.slice A rows.length c) wr (w.heap.size + 1) w.heap.size es rows))
  case atStart => exact ⟨0, [], [], _, _, rfl, rfl, rfl, by omega, by omega, by omega, HI⟩
  case round =>
    obtain ⟨i, es, rows, A, c, rfl, rfl, rfl, hi1, hi2, hi3, HM⟩ := hrel
    have HCL := Aside0.mk (Kd.R_reads' HM.out.row)
    by_cases hlt : i < l0.length
    · by_cases h60 : i < 60
      · obtain ⟨ad, e, hx0, hx1, hx2, hx3, hx4⟩ := at_T42 HR0.out i hlt rfl
        cases e
        generalize l0[i] = x at hx0 hx1 hx2 hx3 hx4
        have HX := Aside0.mk (And.intro hx0 (And.intro hx1 (And.intro hx2 (And.intro hx3 hx4))))
        replace hx0 := pw_cell_below HM.out.bel hx0
        replace hx1 := pw_cell_below HM.out.bel hx1
        replace hx2 := pw_cell_below HM.out.bel hx2
        replace hx3 := pw_cell_below HM.out.bel hx3
        replace hx4 := pw_cell_below HM.out.bel hx4
        have hrl := HM.out.len
        have HGET := Aside0.mk (get_f rows (by omega) x.f0 200 (by omega))
        have HDEL := Aside0.mk (del_f rows (by omega) x.f0 200 (by omega))
        have HPUT := Aside0.mk (put_f rows (by omega) x.f0 x.f1 200 (by omega))
        have HSM := Aside0.mk (HM.out.rel.some x.f0)
        cases hg : x.f2 with
        | true =>
          rw [hg] at hx4
          go_wp2_with (first
            | (go_at_call 13; refine (pledgeref05_Get.calls 200 A c rows x.f0.f0 x.f0.f1 x.f0.f2 _ _ wr HCL.out.2.2 HCL.out.2.1 HGET.out).mono ?_; rintro e w1 ⟨rfl, hb⟩; have HB1 := Aside0.mk hb; have hy0 := pw_cell_below (below_step HM.out.bel hb) HX.out.1; have hy1 := pw_cell_below (below_step HM.out.bel hb) HX.out.2.1; have hy2 := pw_cell_below (below_step HM.out.bel hb) HX.out.2.2.1; have hy4 := pw_cell_below (below_step HM.out.bel hb) HX.out.2.2.2.2; rw [hg] at hy4; have HT1 := Aside0.mk (HM.out.tab.below hb); have HR1 := Aside0.mk (Kd.R_below HM.out.row hb); have HBL1 := Aside0.mk (below_step HM.out.bel hb); clear hb)
            | (go_at_call 16; have hdel := del_calls HT1.out x.f0; rw [HSM.out] at hdel; dsimp only [encK] at hdel; with_reducible refine hdel.mono ?_; clear hdel; rintro e w2 ⟨rfl, hT, hgr⟩; have HB2 := Aside0.mk (Below.grown HBL1.out hgr HBL1.out.size (fun k e => by cases e; exact Nat.le_refl _)); have hz0 := pw_cell_below HB2.out HX.out.1; have hz1 := pw_cell_below HB2.out HX.out.2.1; have hz2 := pw_cell_below HB2.out HX.out.2.2.1; have HT2 := Aside0.mk hT; have HR2 := Aside0.mk (R61_grown HR1.out hgr (by { obtain ⟨o, ho, hc⟩ := HT1.out.map.obj; exact .inr (R_not_obj HR1.out ho hc).symm })); clear hT hgr)
            | (go_at_call 20; refine (pledgeref05_Del.calls 200 A c rows x.f0.f0 x.f0.f1 x.f0.f2 _ w2 (Kd.R_reads' HR2.out).2.2 HCL.out.2.1 HDEL.out).mono ?_; rintro e w3 ⟨v3, rfl, hR, hb⟩; obtain ⟨A3, c3, rfl, hc3, _⟩ := Kd.R_reads hR; have HM3 := Aside0.mk (show MadeAt w.heap.size w (i + 1) (.slice A3 (delG rows x.f0).length c3) w3 (w.heap.size + 1) w.heap.size (kdel es x.f0) (delG rows x.f0) from ⟨HT2.out.below hb, Kd.R_lower hR HB2.out.size, HM.out.rel.del x.f0, ⟨by have := kdel_len es x.f0; have := HM.out.len; omega, by have := delG_len rows x.f0; have := HM.out.len; omega⟩, HM.out.at_, below_step HB2.out hb⟩); clear hR hb))
          go_roundg (60 - (i + 1))
          case measure => omega
          case rel => exact ⟨i + 1, _, _, A3, c3, rfl, rfl, by go_num, by omega, by omega, by omega, HM3⟩
        | false =>
          rw [hg] at hx4
          go_wp2_with (first
            | (go_at_call 13; refine (pledgeref05_Get.calls 200 A c rows x.f0.f0 x.f0.f1 x.f0.f2 _ _ wr HCL.out.2.2 HCL.out.2.1 HGET.out).mono ?_; rintro e w1 ⟨rfl, hb⟩; have HB1 := Aside0.mk hb; have hy0 := pw_cell_below (below_step HM.out.bel hb) HX.out.1; have hy1 := pw_cell_below (below_step HM.out.bel hb) HX.out.2.1; have hy2 := pw_cell_below (below_step HM.out.bel hb) HX.out.2.2.1; have hy3 := pw_cell_below (below_step HM.out.bel hb) HX.out.2.2.2.1; have hy4 := pw_cell_below (below_step HM.out.bel hb) HX.out.2.2.2.2; rw [hg] at hy4; clear hb))
          have HM1 := Aside0.mk (show Kd.R k61 61 w1 w.heap.size (fun _ => True) _ rows ∧ Below w.heap.size w w1 from ⟨Kd.R_below HM.out.row HB1.out, below_step HM.out.bel HB1.out⟩)
          have hput := put_calls (w := w1.drew) (T := w.heap.size + 1) (b := w.heap.size) (es := es) ((HM.out.tab.below HB1.out).grown (grownBy_drew w1 none) (by simp) (by simp)) x.f0 x.f1
          dsimp only [encK] at hput
          have HP := Aside0.mk hput
          clear hput
          go_still_tail 11, (by kernel_rfl)
          change wpList _ _ _ _ _ w1.drew
          go_wp2_with (first
            | (go_at_call 17; refine HP.out.mono ?_; rintro e w2 ⟨rfl, hT, hgr⟩; have HB2 := Aside0.mk (Below.grown (below_drew1 HM1.out.2) hgr HM1.out.2.size (fun k e => by cases e; exact Nat.le_refl _)); have hz0 := pw_cell_below HB2.out HX.out.1; have hz1 := pw_cell_below HB2.out HX.out.2.1; have hz2 := pw_cell_below HB2.out HX.out.2.2.1; have hz3 := pw_cell_below HB2.out HX.out.2.2.2.1; have HT2 := Aside0.mk hT; have HR2 := Aside0.mk (R61_grown (Kd.R_drew HM1.out.1) hgr (by { obtain ⟨o, ho, hc⟩ := (HM.out.tab.below HB1.out).map.obj; exact .inr (R_not_obj HM1.out.1 ho hc).symm })); clear hT hgr))
          go_still_tail 11, (by kernel_rfl)
          change wpList _ _ _ _ _ w2.drew
          go_wp2_with (first
            | (go_at_call 21; refine (pledgeref05_Put.calls 200 A c rows x.f0.f0 x.f0.f1 x.f0.f2 x.f1 _ w2.drew (Kd.C_drew (Kd.R_reads' HR2.out).2.2) HCL.out.2.1 HPUT.out).mono ?_; rintro e w3 ⟨v3, rfl, hR, hb⟩; obtain ⟨A3, c3, rfl, hc3, _⟩ := Kd.R_reads hR; have HM3 := Aside0.mk (show MadeAt w.heap.size w (i + 1) (.slice A3 (putG x.f0 x.f1 rows false).length c3) w3 (w.heap.size + 1) w.heap.size (kput es x.f0 (.int .i64 x.f1)) (putG x.f0 x.f1 rows false) from ⟨(HT2.out.grown (grownBy_drew w2 none) (by simp) (by simp)).below hb, Kd.R_lower hR HB2.out.size, HM.out.rel.put (nodup_of_tab HM.out.tab) x.f0 x.f1, ⟨by have := kput_len es x.f0 (.int .i64 x.f1); have := HM.out.len; omega, by have := (putG_spec x.f0 x.f1 rows HM.out.rel.rise).2.2.2; have := HM.out.len; omega⟩, HM.out.at_, below_step (below_drew1 HB2.out) hb⟩); clear hR hb))
          go_roundg (60 - (i + 1))
          case measure => omega
          case rel => exact ⟨i + 1, _, _, A3, c3, rfl, rfl, by go_num, by omega, by omega, by omega, HM3⟩
      · obtain rfl : i = 60 := by omega
        go_wp2_with fail
        go_ret3
        exact ⟨_, _, es, _, rfl, rows, HM.out⟩
    · go_wp2_with fail
      go_ret3
      exact ⟨_, _, es, _, rfl, rows, ⟨HM.out.tab, HM.out.row, HM.out.rel, ⟨by have := HM.out.len; omega, by have := HM.out.len; omega⟩, HM.out.at_, HM.out.bel⟩⟩
end Go.Proofs.Ytignfgefbhkecaa.X
