/- TableNil, walked: of nil there is nothing. -/
import Derived.Test.YtignfgefbhkecaaHMad3
import Derived.RangeFuncNested
import Derived.RangeFuncBound
import Derived.RangeFuncCalls
import Derived.RangeFuncLeaves
import Derived.RangeFuncBox
import Derived.OwnWalkIn
import Derived.TacticsInMore
import Derived.LoopNIn
import Derived.LoopIn
namespace Go.Proofs.Ytignfgefbhkecaa.X
open Go.RowKit Go.Shelf Go.Proofs.YtignfgefbhkecaaW.PrintWords Go.Proofs.YtignfgefbhkecaaW.PrintLast Go.Proofs.YtignfgefbhkecaaW.PrintMore Go.Proofs.Ytignfgefbhkecaa.KMap
attribute [local go_sem] Oper.semAt_some
set_option linter.unusedVariables false
set_option linter.unusedSimpArgs false
def encP (p : S32 × Int) : Array Value := #[encK p.1, .int .i64 p.2]
theorem sort_none : sortK ((([] : Ents)).map Prod.fst) = [] := List.length_eq_zero_iff.1 (sortK_len [])
set_option maxHeartbeats 2000000 in
set_option maxRecDepth 100000 in
/-- The rounds over nil: none. -/
theorem all_nil (n : Nat) (hn : 4 ≤ n) (B : Nat) (w : World) (hB : w.cell? ⟨B, 0, none⟩ = some (.pointer none)) : SeqStopsK Fence.wide n Try.prog 27 #[.pointer (some ⟨B, 0, none⟩)] encP KeepsWalks (fun ps => ps = []) (fun _ => True) 0 w := by
  intro l J Jx W hW hJ _ _ h0
  have hc : W.cell? ⟨B, 0, none⟩ = some (.pointer none) := (hW.cell (World.block_lt_of_cell? w _ hB)).trans hB
  have ht := new_tab W
  have hb := new_below W
  have HK := Aside0.mk (keys_calls ht (by decide))
  clear hB
  show CallsIn Fence.wide n Try.prog 27 #[.func (.yield l) #[] #[], .pointer (some ⟨B, 0, none⟩)] W _
  refine callsIn_of_wp Try.func27 rfl trivial ?_ rfl
  simp only [Try.ntmps27, List.size_toArray, List.length_cons, List.length_nil, Nat.reduceAdd, Nat.reduceSub, Array.replicate_succ, Array.replicate_zero, List.push_toArray, List.append_toArray, List.nil_append, List.cons_append]
  gi_wp2_with (first
    | (refine ⟨trivial, fun _ => by omega, ?_⟩; gi_at_call 15; refine (callsIn_wide.2 (copy_nil W)).mono ?_; rintro e w1 ⟨rfl, rfl⟩)
    | (refine ⟨trivial, fun _ => by omega, ?_⟩; gi_at_call 8; refine (callsIn_wide.2 HK.out).mono ?_; rintro e w2 ⟨v, rfl, hR, hb2⟩; rw [sort_none] at hR; obtain ⟨A, c, rfl, hcc, hC⟩ := Kd.R_reads hR; have HB2 := Aside0.mk (below_step hb hb2); clear hR hb2))
  gi_loopw [13] (fun v13 wr => v13 = .int .i64 0 ∧ Aside0 (Below W.heap.size W wr)) (fun _ _ => 0)
  case atStart => exact ⟨rfl, HB2⟩
  case round =>
    obtain ⟨rfl, HB⟩ := hrel
    gi_wp2
    go_end0
    exact ⟨⟨_, rfl⟩, .inl ⟨[], rfl, hJ [] W wr none h0 (grownBy_of_below HB.out none) (fun r e => by cases e)⟩⟩

theorem func_not_nil (p : Array Value) (W : World) : (binOp .neq 47 (.func (.func 27) #[] p) .nilFunc).run Try.prog W = .ok (.bool true) W := by kernel_rfl
def NilI (w : World) (Bk Br : Nat) (k : S32) (pre : List (S32 × Int)) (W : World) : Prop :=
  (W.heap[Br]? = some (.cells #[.bool false] 4 (0, 0)) ∧ W.heap[Bk]? = some (.cells #[.int .u8 k.f0, .int .u8 k.f1, .int .u8 k.f2] 32 (0, 0))) ∧ Below w.heap.size w W
theorem NilI_own (w : World) (Bk Br B : Nat) (k : S32) (hB : w.heap.size ≤ B) : OwnFrom B (NilI w Bk Br k) := by
  refine OwnFrom.and (fun s X Y row hs hg hr => ?_) (ownFrom_below (Nat.le_refl _) hB)
  obtain ⟨h1, h2⟩ := hs
  have ne : ∀ (b : Nat) (o : Obj), X.heap[b]? = some o → o.isCells = true → some b ≠ row := by
    intro b o hb hc e
    obtain ⟨_, o', ho', hc'⟩ := hr b e.symm
    rw [hb] at ho'
    cases ho'
    rw [hc] at hc'
    cases hc'
  exact ⟨blk_grown h1 hg (ne _ _ h1 rfl), blk_grown h2 hg (ne _ _ h2 rfl)⟩
theorem res6 (tmps : Array Value) (W : World) (B : Nat) (b : Bool) (h2 : tmps.getD 2 undef = .pointer (some ⟨B, 0, none⟩)) (c2 : W.heap[B]? = some (.cells #[.bool b] 4 (0, 0))) : (results Try.f6 tmps).run Try.prog W = .ok (.bool b) W := by
  have e2 := (blk_cell c2 0).trans rfl
  have hr : Try.f6.results = #[.cell 2 4] := rfl
  rw [Array.getD_eq_getD_getElem?] at h2
  simp only [results, hr]
  go_simp
set_option maxHeartbeats 4000000 in
set_option maxRecDepth 100000 in
theorem nil_calls (k : S32) (w : World) : Calls Try.prog 6 #[encK k] w fun e w' => e = .returned (.bool true) ∧ Below w.heap.size w w' := by
  have hu32 := Try.underlying32
  have hfn := func_not_nil
  unfold encK
  refine (callsIn_wide (n := 8)).1 ?_
  refine callsIn_of_wp_marks Try.func6 rfl trivial ?_ rfl
  simp only [Try.ntmps6, List.size_toArray, List.length_cons, List.length_nil, Nat.reduceAdd, Nat.reduceSub, Array.replicate_succ, Array.replicate_zero, List.push_toArray, List.append_toArray, List.nil_append, List.cons_append]
  gi_wp2_with (first
    | (refine ⟨trivial, ?_⟩; gi_at_call 18; refine (callsIn_wide.2 (all_calls _ none)).mono ?_; rintro e w1 ⟨rfl, rfl⟩))
  have hI0 : NilI w w.heap.size (w.heap.size + 1) k [] (((w.alloc (.cells #[.int .u8 k.f0, .int .u8 k.f1, .int .u8 k.f2] 32)).alloc (.cells #[.bool false] 4)).alloc (.cells #[.pointer none] 23)) :=
    ⟨⟨blk_alloc (two1 w _ _) _, blk_alloc (two0 w _ _) _⟩, below_alloc (below_alloc (below_alloc (Below.refl _ _) _) _) _⟩
  have hcell : (((w.alloc (.cells #[.int .u8 k.f0, .int .u8 k.f1, .int .u8 k.f2] 32)).alloc (.cells #[.bool false] 4)).alloc (.cells #[.pointer none] 23)).cell? ⟨w.heap.size + 1 + 1, 0, none⟩ = some (.pointer none) := by
    have h := blk_new ((w.alloc (.cells #[.int .u8 k.f0, .int .u8 k.f1, .int .u8 k.f2] 32)).alloc (.cells #[.bool false] 4)) (.cells #[.pointer none] 23)
    have e : ((w.alloc (.cells #[.int .u8 k.f0, .int .u8 k.f1, .int .u8 k.f2] 32)).alloc (.cells #[.bool false] 4)).heap.size = w.heap.size + 1 + 1 := by simp
    rw [e] at h
    exact (blk_cell h 0).trans rfl
  have hsz : w.heap.size ≤ (((w.alloc (.cells #[.int .u8 k.f0, .int .u8 k.f1, .int .u8 k.f2] 32)).alloc (.cells #[.bool false] 4)).alloc (.cells #[.pointer none] 23)).heap.size := by simp; omega
  generalize (((w.alloc (.cells #[.int .u8 k.f0, .int .u8 k.f1, .int .u8 k.f2] 32)).alloc (.cells #[.bool false] 4)).alloc (.cells #[.pointer none] 23)) = w1 at hI0 hcell hsz ⊢
  refine wpIn_rangeFunc_ownH rfl (by omega) (gf := 27) (lb := #[.pointer (some ⟨w.heap.size + 1 + 1, 0, none⟩)]) rfl trivial (enters_of Try.func27 (by kernel_rfl) rfl) (all_nil 7 (by omega) _ w1 hcell) (fun h k => walksK_t h k) (fun W l o o' hl ho hc hw => walksK_b (w := w1) W l o o' hl ho hc hw) (Below.refl _ _) (fun _ => rfl)
    (NilI w w.heap.size (w.heap.size + 1) k) (fun _ _ _ => False) (NilI_own w _ _ _ k hsz) (fun c s X Y row hs hg hr => hs) hI0 (fun _ _ _ => True) (fun _ _ _ _ _ _ _ _ _ => trivial) ?assign ?body ?done ?stop
  case assign =>
    intro l pre x W K hI hK
    simp only [encP, List.zip_toArray, List.foldl_toArray, List.zip_cons_cons, List.zip_nil_left, List.foldl_cons, List.foldl_nil, List.setIfInBounds_toArray, List.set_cons_succ, List.set_cons_zero]
    gi_wp2
    exact hK _ _ ((KeepsOthers.refl _).from _) (KeepsWalks.refl _) hI trivial
  case body =>
    rintro l pre x a' W hl hr hI _ hlp
    exact absurd hlp (Nat.not_lt_zero _)
  case stop =>
    rintro D c pre W hD _ h _
    exact h.elim
  case done =>
    rintro D ks W hD hS ⟨⟨hBr, hBk⟩, hB⟩ hK
    have hk0 := (blk_cell hBk 0).trans rfl
    have hk1 := (blk_cell hBk 1).trans rfl
    have hk2 := (blk_cell hBk 2).trans rfl
    have HBr := Aside0.mk hBr
    have HBk := Aside0.mk hBk
    have HB := Aside0.mk hB
    clear hBr hBk hB
    have HK := Aside0.mk hK
    clear hK
    gi_wp2_with (first
      | (refine ⟨trivial, ?_⟩; gi_at_call 17; refine (callsIn_wide.2 (put_nil _ k 1)).mono ?_; rintro e W2 ⟨rfl, hb⟩; have hk0 := (blk_cell (blk_below HBk.out hb) 0).trans rfl; have hk1 := (blk_cell (blk_below HBk.out hb) 1).trans rfl; have hk2 := (blk_cell (blk_below HBk.out hb) 2).trans rfl; have hrc := (blk_cell (blk_below HBr.out hb) 0).trans rfl; have hrf := blk_frozen (blk_below HBr.out hb) 0; have HBr := Aside0.mk (blk_below HBr.out hb); have HBk := Aside0.mk (blk_below HBk.out hb); have HK := Aside0.mk (blk_below HK.out hb); have HB := Aside0.mk (below_step HB.out hb); clear hb)
      | (refine ⟨trivial, ?_⟩; gi_at_call 9; refine (callsIn_wide.2 (get_nil _ k)).mono ?_; rintro e W3 ⟨rfl, hb⟩; have hk0 := (blk_cell (blk_below HBk.out hb) 0).trans rfl; have hk1 := (blk_cell (blk_below HBk.out hb) 1).trans rfl; have hk2 := (blk_cell (blk_below HBk.out hb) 2).trans rfl; have hrc := (blk_cell (blk_below HBr.out hb) 0).trans rfl; have hrf := blk_frozen (blk_below HBr.out hb) 0; have HBr := Aside0.mk (blk_below HBr.out hb); have HBk := Aside0.mk (blk_below HBk.out hb); have HK := Aside0.mk (blk_below HK.out hb); have HB := Aside0.mk (below_step HB.out hb); clear hb)
      | (refine ⟨trivial, ?_⟩; gi_at_call 16; refine (callsIn_wide.2 (del_nil _ k)).mono ?_; rintro e W4 ⟨rfl, hb⟩; have hk0 := (blk_cell (blk_below HBk.out hb) 0).trans rfl; have hk1 := (blk_cell (blk_below HBk.out hb) 1).trans rfl; have hk2 := (blk_cell (blk_below HBk.out hb) 2).trans rfl; have hrc := (blk_cell (blk_below HBr.out hb) 0).trans rfl; have hrf := blk_frozen (blk_below HBr.out hb) 0; have HBr := Aside0.mk (blk_below HBr.out hb); have HBk := Aside0.mk (blk_below HBk.out hb); have HK := Aside0.mk (blk_below HK.out hb); have HB := Aside0.mk (below_step HB.out hb); clear hb)
      | (refine ⟨trivial, ?_⟩; gi_at_call 8; refine (callsIn_wide.2 (keys_nil _)).mono ?_; rintro e W5 ⟨rfl, rfl⟩)
      | (refine ⟨trivial, ?_⟩; gi_at_call 15; refine (callsIn_wide.2 (copy_nil W5)).mono ?_; rintro e W6 ⟨rfl, hw6⟩; have hb : Below W5.heap.size W5 W6 := (by rw [hw6]; exact new_below W5); have HT6 := Aside0.mk (show TabAt W6 (W5.heap.size + 1) W5.heap.size [] from (by rw [hw6]; exact new_tab W5)); clear hw6; have hk0 := (blk_cell (blk_below HBk.out hb) 0).trans rfl; have hk1 := (blk_cell (blk_below HBk.out hb) 1).trans rfl; have hk2 := (blk_cell (blk_below HBk.out hb) 2).trans rfl; have hrc := (blk_cell (blk_below HBr.out hb) 0).trans rfl; have hrf := blk_frozen (blk_below HBr.out hb) 0; have HBr := Aside0.mk (blk_below HBr.out hb); have HBk := Aside0.mk (blk_below HBk.out hb); have HK := Aside0.mk (blk_below HK.out hb); have HB := Aside0.mk (below_step HB.out hb); clear hb)
      | (refine ⟨trivial, ?_⟩; gi_at_call 11; refine (callsIn_wide.2 (len_calls HT6.out)).mono ?_; rintro e W7 ⟨rfl, rfl⟩)
      | (refine ⟨trivial, ?_⟩; gi_at_call 11; refine (callsIn_wide.2 (len_nil _)).mono ?_; rintro e W7 ⟨rfl, rfl⟩)
      | (refine ⟨trivial, ?_⟩; gi_at_call 12; refine (callsIn_wide.2 (works_calls _)).mono ?_; rintro e W8 ⟨rfl, hb⟩; have hk0 := (blk_cell (blk_below HBk.out hb) 0).trans rfl; have hk1 := (blk_cell (blk_below HBk.out hb) 1).trans rfl; have hk2 := (blk_cell (blk_below HBk.out hb) 2).trans rfl; have hrc := (blk_cell (blk_below HBr.out hb) 0).trans rfl; have hrf := blk_frozen (blk_below HBr.out hb) 0; have HBr := Aside0.mk (blk_below HBr.out hb); have HBk := Aside0.mk (blk_below HBk.out hb); have HK := Aside0.mk (blk_below HK.out hb); have HB := Aside0.mk (below_step HB.out hb); clear hb))
    have hne : D ≠ w.heap.size + 1 := by
      rintro rfl
      have h1 := HK.out
      rw [HBr.out] at h1
      cases h1
    have hR2 := blk_set HBr.out 0 (.bool true)
    have hK2 : (W8.setCell ⟨w.heap.size + 1, 0, none⟩ (.bool true)).heap[D]? = some (.deferred (some [])) := (Below.heap_setCell W8 ⟨w.heap.size + 1, 0, none⟩ (.bool true) D hne).trans HK.out
    have hBB := HB.out.setCell (p := ⟨w.heap.size + 1, 0, none⟩) (by simp) (.bool true)
    generalize W8.setCell ⟨w.heap.size + 1, 0, none⟩ (.bool true) = Z at hR2 hK2 hBB ⊢
    refine ⟨by simp, .inl ⟨_, _, rfl, run_takeDeferred hK2, ?_⟩⟩
    have hgZ := grownBy_putObj' Z D (.deferred none)
    have hD0 : w.heap.size ≤ D := by omega
    refine ⟨.bool true, res6 _ _ (w.heap.size + 1) true rfl (blk_grown hR2 hgZ (fun e => hne (Option.some.inj e).symm)), rfl, hBB.grown hgZ hBB.size (fun k e => by cases e; exact hD0)⟩
end Go.Proofs.Ytignfgefbhkecaa.X
