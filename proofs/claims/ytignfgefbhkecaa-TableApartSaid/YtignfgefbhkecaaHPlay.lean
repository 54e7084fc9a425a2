/- TablePlays, walked: whatever is put in, and taken out, the table has just what the document says, in order. -/
import Derived.Test.YtignfgefbhkecaaHSam4
namespace Go.Proofs.Ytignfgefbhkecaa.X
open Go.RowKit Go.Shelf Go.Proofs.YtignfgefbhkecaaW.PrintWords Go.Proofs.YtignfgefbhkecaaW.PrintLast Go.Proofs.YtignfgefbhkecaaW.PrintMore Go.Proofs.Ytignfgefbhkecaa.KMap
set_option linter.unusedVariables false
set_option linter.unusedSimpArgs false
theorem rel_iget {es : Ents} {rows : List S61} (h : TRel es rows) (k : S32) : iget es k = (rget rows k).getD 0 := by
  unfold iget
  rw [h.get]
  cases rget rows k <;> rfl
set_option maxHeartbeats 8000000 in
set_option maxRecDepth 100000 in
theorem plays_calls (A0 : Option Addr) (c0 : Nat) (l0 : List S42) (k : S32) (w : World) (hr0 : Kd.C k42 w A0 l0.length l0) (hc0 : l0.length ≤ c0) :
    Calls Try.prog 4 #[.slice A0 l0.length c0, encK k] w fun e w' => e = .returned (.bool true) ∧ Below w.heap.size w w' := by
  have hu32 := Try.underlying32
  have HMD := Aside0.mk (made_calls A0 c0 l0 (w.alloc (.cells #[.int .u8 k.f0, .int .u8 k.f1, .int .u8 k.f2] 32)) (Kd.C_alloc hr0 _) hc0)
  have HBX := Aside0.mk (blk_new w (.cells #[.int .u8 k.f0, .int .u8 k.f1, .int .u8 k.f2] 32))
  clear hr0
  unfold encK
  go_enter Try.func4, Try.ntmps4
  go_wp2_with (first
    | (go_at_call 7; refine HMD.out.mono ?_; rintro e w1 ⟨T, b, es, v, rfl, rows, hM⟩; have HM := Aside0.mk hM; have HBX1 := Aside0.mk (blk_below HBX.out hM.bel); have hj0 := (blk_cell (blk_below HBX.out hM.bel) 0).trans rfl; have hj1 := (blk_cell (blk_below HBX.out hM.bel) 1).trans rfl; have hj2 := (blk_cell (blk_below HBX.out hM.bel) 2).trans rfl; have HB1 := Aside0.mk (below_step (below_alloc (Below.refl w.heap.size w) _) hM.bel); clear hM))
  obtain ⟨A, c, rfl, hc, hC⟩ := Kd.R_reads HM.out.row
  have hrl := HM.out.len
  have HCA := Aside0.mk hC
  have HREL := Aside0.mk HM.out.rel
  have hget := get_calls HM.out.tab k
  rw [rel_iget HM.out.rel, HM.out.rel.some] at hget
  dsimp only [encK] at hget
  have HG := Aside0.mk hget
  have HGET := Aside0.mk (get_f rows (by omega) k 200 (by omega))
  generalize (rget rows k).getD 0 = q at HG HGET
  generalize (rget rows k).isSome = p at HG HGET
  clear hget hC
  go_wp2_with (first
    | (go_at_call 9; refine HG.out.mono ?_; rintro e w2 ⟨rfl, hb⟩; have HBX2 := Aside0.mk (blk_below HBX1.out hb); have hj0 := (blk_cell (blk_below HBX1.out hb) 0).trans rfl; have hj1 := (blk_cell (blk_below HBX1.out hb) 1).trans rfl; have hj2 := (blk_cell (blk_below HBX1.out hb) 2).trans rfl; have HB2 := Aside0.mk (below_step HB1.out hb); have HT2 := Aside0.mk (HM.out.tab.below hb); have HC2 := Aside0.mk (Kd.C_below HCA.out hb); clear hb)
    | (go_at_call 13; refine (pledgeref05_Get.calls 200 A c rows _ _ _ _ _ w2 HC2.out hc HGET.out).mono ?_; rintro e w3 ⟨rfl, hb⟩; have HB3 := Aside0.mk (below_step HB2.out hb); have HT3 := Aside0.mk (HT2.out.below hb); have HC3 := Aside0.mk (Kd.C_below HC2.out hb); clear hb)
    | (go_at_call 14; refine (same_calls HT3.out HC3.out hc HREL.out hrl.2).mono ?_; rintro e w4 ⟨rfl, hb⟩; have HB4 := Aside0.mk (below_step HB3.out hb); clear hb)
    | (go_at_call 12; refine (works_calls _).mono ?_; rintro e w5 ⟨rfl, hb⟩; have HB5 := Aside0.mk (below_step HB4.out hb); clear hb))
  go_ret
  exact ⟨rfl, HB5.out⟩
end Go.Proofs.Ytignfgefbhkecaa.X
