/- Tables (values by keys): what New, Put, Get, Del, Len, Keys and Copy do. -/
import Derived.Test.YtignfgefbhkecaaKTab
import Derived.Test.YtignfgefbhkecaaHSorted
import Derived.Carry
import Derived.BigQuiet
import Derived.StillTailTactics
namespace Go.Proofs.Ytignfgefbhkecaa.X
open Go.RowKit Go.Shelf Go.Proofs.YtignfgefbhkecaaW.PrintWords Go.Proofs.YtignfgefbhkecaaW.PrintLast Go.Proofs.YtignfgefbhkecaaW.PrintMore Go.Proofs.Ytignfgefbhkecaa.KMap
set_option linter.unusedVariables false
set_option linter.unusedSimpArgs false
abbrev Ents := List (S32 × Value)
/-- All values are whole numbers. -/
def AllInt (es : Ents) : Prop := ∀ p ∈ es, ∃ v : Int, p.2 = .int .i64 v
/-- A table at block T, its map at block b. -/
structure TabAt (w : World) (T b : Nat) (es : Ents) : Prop where
  box : w.heap[T]? = some (.cells #[.map (some b)] 57 (0, 0))
  map : MapAt encK w b es
  ints : AllInt es
/-- What stands at a key, as a number. -/
def iget (es : Ents) (k : S32) : Int := match kget es k with
  | some (.int _ v) => v
  | _ => 0
theorem iget_eq {es : Ents} (h : AllInt es) (k : S32) : (kget es k).getD (.int .i64 0) = .int .i64 (iget es k) := by
  unfold iget
  cases hk : kget es k with
  | none => rfl
  | some v =>
    obtain ⟨j, hj⟩ := kget_some hk
    obtain ⟨v', hv⟩ := h _ (List.mem_of_getElem? hj)
    simp only at hv
    subst hv
    rfl
theorem AllInt.put {es : Ents} (h : AllInt es) (k : S32) (v : Int) : AllInt (kput es k (.int .i64 v)) := by
  unfold kput
  split
  · intro p hp
    obtain ⟨q, hq, rfl⟩ := List.mem_map.1 hp
    split
    · exact ⟨v, rfl⟩
    · exact h q hq
  · intro p hp
    rcases List.mem_append.1 hp with hp | hp
    · exact h p hp
    · rw [List.mem_singleton.1 hp]; exact ⟨v, rfl⟩
theorem AllInt.del {es : Ents} (h : AllInt es) (k : S32) : AllInt (kdel es k) := fun p hp => h p (List.mem_filter.1 hp).1
theorem TabAt.below {w w' : World} {T b : Nat} {es : Ents} (h : TabAt w T b es) (hb : Below w.heap.size w w') : TabAt w' T b es := ⟨blk_below h.box hb, h.map.below hb, h.ints⟩
theorem TabAt.grown {w w' : World} {T b : Nat} {es : Ents} (h : TabAt w T b es) {row : Option Nat} (hg : w.grownBy w' row) (h1 : some T ≠ row) (h2 : some b ≠ row) : TabAt w' T b es := ⟨blk_grown h.box hg h1, h.map.kept hg h2, h.ints⟩
theorem TabAt.ne {w : World} {T b : Nat} {es : Ents} (h : TabAt w T b es) : T ≠ b := by
  rintro rfl
  obtain ⟨o, ho, hc⟩ := h.map.obj
  rw [h.box] at ho
  cases ho; cases hc
theorem TabAt.cell {w : World} {T b : Nat} {es : Ents} (h : TabAt w T b es) : w.cell? ⟨T, 0, none⟩ = some (.map (some b)) := (blk_cell h.box 0).trans rfl

theorem map_not_nil (b : Nat) (W : World) : (binOp .eql 55 (.map (some b)) (.map none)).run Try.prog W = .ok (.bool false) W := by kernel_rfl
theorem new_calls (w : World) : Calls Try.prog 19 #[] w fun e w' => e = .returned (.pointer (some ⟨w.heap.size + 1, 0, none⟩)) ∧ w' = (w.alloc (.map #[] 0)).alloc (.cells #[.map (some w.heap.size)] 57) := by
  have hmm := @run_makeMap Try.prog
  have hu57 := Try.underlying57
  go_enter Try.func19, Try.ntmps19
  go_wp2
  go_ret
  exact ⟨rfl, rfl⟩
theorem new_tab (w : World) : TabAt ((w.alloc (.map #[] 0)).alloc (.cells #[.map (some w.heap.size)] 57)) (w.heap.size + 1) w.heap.size [] :=
  ⟨two1 w _ _, (MapAt.made w).alloc _, fun p hp => by simp at hp⟩
theorem new_below (w : World) : Below w.heap.size w ((w.alloc (.map #[] 0)).alloc (.cells #[.map (some w.heap.size)] 57)) := below_alloc (below_alloc (Below.refl _ _) _) _

set_option maxHeartbeats 1000000 in
theorem get_calls {w : World} {T b : Nat} {es : Ents} (h : TabAt w T b es) (k : S32) : Calls Try.prog 9 #[.pointer (some ⟨T, 0, none⟩), encK k] w fun e w' => e = .returned (.tuple #[.int .i64 (iget es k), .bool (kget es k).isSome]) ∧ Below w.heap.size w w' := by
  have hu32 := Try.underlying32
  have hc := h.cell
  have hi := iget_eq h.ints k
  have hlt := blk_lt h.box
  have h_ := h.map
  have HI := Aside0.mk hi
  clear hi h
  have hL := fun W (hW : MapAt encK W b es) => hW.lookup keyLaws Try.underlying55 (z := .int .i64 0) (Try.zeroValue2 W) k true
  have hL1 := fun n => hL _ (MapAt.same (h_.alloc (.cells #[.int .u8 k.f0, .int .u8 k.f1, .int .u8 k.f2] 32)) (w' := (w.alloc (.cells #[.int .u8 k.f0, .int .u8 k.f1, .int .u8 k.f2] 32)).drewN n) rfl)
  simp only [if_true, HI.out, encK] at hL1
  clear hL h_
  unfold encK
  go_enter Try.func9, Try.ntmps9
  go_wp2_with fail
  go_quiet (fail)
  go_wp2_with fail
  go_ret2
  exact ⟨rfl, pw_below_drewN (below_alloc (Below.refl _ _) _) _⟩

set_option maxHeartbeats 2000000 in
theorem put_calls {w : World} {T b : Nat} {es : Ents} (h : TabAt w T b es) (k : S32) (v : Int) : Calls Try.prog 17 #[.pointer (some ⟨T, 0, none⟩), encK k, .int .i64 v] w fun e w' => e = .returned (.tuple #[]) ∧ TabAt w' T b (kput es k (.int .i64 v)) ∧ w.grownBy w' (some b) := by
  have hu32 := Try.underlying32
  have hc := h.cell
  have hlt := blk_lt h.box
  have hbl := h.map.lt
  have HM := Aside0.mk h.map
  have hne := map_not_nil b
  unfold encK
  go_enter Try.func17, Try.ntmps17
  go_wp2_with fail
  have hT := (blk_cell (blk_alloc h.box (.cells #[.int .u8 k.f0, .int .u8 k.f1, .int .u8 k.f2] 32)) 0).trans rfl
  have hbx := blk_new w (.cells #[.int .u8 k.f0, .int .u8 k.f1, .int .u8 k.f2] 32)
  have hk0 := (blk_cell hbx 0).trans rfl
  have hk1 := (blk_cell hbx 1).trans rfl
  have hk2 := (blk_cell hbx 2).trans rfl
  have HM1 := Aside0.mk (HM.out.alloc (.cells #[.int .u8 k.f0, .int .u8 k.f1, .int .u8 k.f2] 32))
  have HBX := Aside0.mk (blk_alloc h.box (.cells #[.int .u8 k.f0, .int .u8 k.f1, .int .u8 k.f2] 32))
  have HG1 := Aside0.mk (World.grownBy_alloc w (.cells #[.int .u8 k.f0, .int .u8 k.f1, .int .u8 k.f2] 32) (some b))
  clear hbx
  generalize w.alloc (.cells #[.int .u8 k.f0, .int .u8 k.f1, .int .u8 k.f2] 32) = w1 at hT hk0 hk1 hk2 HM1 HBX HG1 ⊢
  generalize w.heap.size = B at hk0 hk1 hk2 ⊢
  go_still_tail 6, (by kernel_rfl)
  change wpList _ _ _ _ _ w1.drew
  refine wpList_mapUpdate_k rfl (.tmp 20) (.tmp 21) (.tmp 22) 55 rfl keyLaws Try.underlying55 (b := b) rfl (HM1.out.same rfl) k rfl ?_
  intro w2 hM2 hg2 hs2
  have HM2 := Aside0.mk hM2
  have HG2 := Aside0.mk hg2
  clear hM2 hg2
  go_wp2_with fail
  go_end0
  have hTb : some T ≠ some b := fun e => h.ne (Option.some.inj e)
  exact ⟨rfl, ⟨blk_grown (blk_drew HBX.out) HG2.out hTb, HM2.out, h.ints.put k v⟩, ⟨HG2.out.os.trans HG1.out.os, HG2.out.tape.trans HG1.out.tape, HG2.out.output.trans HG1.out.output, Nat.le_trans HG1.out.size HG2.out.size, fun j hj hne => (HG2.out.block j (Nat.lt_of_lt_of_le hj HG1.out.size) hne).trans (HG1.out.block j hj hne)⟩⟩

theorem grownBy_join {a b c : World} {row : Option Nat} (h1 : a.grownBy b row) (h2 : b.grownBy c row) : a.grownBy c row := ⟨h2.os.trans h1.os, h2.tape.trans h1.tape, h2.output.trans h1.output, Nat.le_trans h1.size h2.size, fun j hj hne => (h2.block j (Nat.lt_of_lt_of_le hj h1.size) hne).trans (h1.block j hj hne)⟩
theorem grownBy_of_below {a b : World} (h : Below a.heap.size a b) (row : Option Nat) : a.grownBy b row := ⟨h.os, h.tape, h.output, h.size, fun j hj _ => h.block j hj⟩
theorem grownBy_refl' (w : World) (row : Option Nat) : w.grownBy w row := ⟨rfl, rfl, rfl, Nat.le_refl _, fun _ _ _ => rfl⟩
theorem grownBy_drew (w : World) (row : Option Nat) : w.grownBy w.drew row := ⟨rfl, rfl, rfl, Nat.le_refl _, fun _ _ _ => rfl⟩
set_option maxHeartbeats 2000000 in
theorem del_calls {w : World} {T b : Nat} {es : Ents} (h : TabAt w T b es) (k : S32) : Calls Try.prog 16 #[.pointer (some ⟨T, 0, none⟩), encK k] w fun e w' => e = .returned (.bool (kget es k).isSome) ∧ TabAt w' T b (kdel es k) ∧ w.grownBy w' (some b) := by
  have hu32 := Try.underlying32
  have hTb : some T ≠ some b := fun e => h.ne (Option.some.inj e)
  have h1 : TabAt (w.alloc (.cells #[.int .u8 k.f0, .int .u8 k.f1, .int .u8 k.f2] 32)) T b es := h.grown (World.grownBy_alloc w _ none) (by simp) (by simp)
  have HG0 := Aside0.mk (World.grownBy_alloc w (.cells #[.int .u8 k.f0, .int .u8 k.f1, .int .u8 k.f2] 32) (some b))
  have hbx := blk_new w (.cells #[.int .u8 k.f0, .int .u8 k.f1, .int .u8 k.f2] 32)
  have HBX := Aside0.mk hbx
  have hcall := get_calls h1 k
  have HC := Aside0.mk hcall
  have hk0 := (blk_cell hbx 0).trans rfl
  have hk1 := (blk_cell hbx 1).trans rfl
  have hk2 := (blk_cell hbx 2).trans rfl
  have HT1 := Aside0.mk h1
  have HNE := Aside0.mk (kdel_none (es := es) (x := k))
  clear hcall hbx h1
  unfold encK at HC ⊢
  go_enter Try.func16, Try.ntmps16
  cases hs : kget es k with
  | none =>
    rw [hs] at HC
    go_wp2_with (first | (go_at_call 9; refine HC.out.mono ?_; rintro e w1 ⟨rfl, hb⟩; have HB := Aside0.mk hb; clear hb))
    go_ret
    have hT2 := HT1.out.below HB.out
    have hn : k ∉ es.map Prod.fst := kget_none hs
    refine ⟨rfl, ?_, ⟨HB.out.os.trans HG0.out.os, HB.out.tape.trans HG0.out.tape, HB.out.output.trans HG0.out.output, Nat.le_trans HG0.out.size HB.out.size, fun j hj hne => (HB.out.block j (Nat.lt_of_lt_of_le hj HG0.out.size)).trans (HG0.out.block j hj hne)⟩⟩
    rw [HNE.out hn]
    exact hT2
  | some v =>
    rw [hs] at HC
    go_wp2_with (first | (go_at_call 9; refine HC.out.mono ?_; rintro e w1 ⟨rfl, hb⟩; have HB := Aside0.mk hb; have hT := (HT1.out.below hb).cell; have HM1 := Aside0.mk (HT1.out.below hb).map; have hj0 := (blk_cell (blk_below HBX.out hb) 0).trans rfl; have hj1 := (blk_cell (blk_below HBX.out hb) 1).trans rfl; have hj2 := (blk_cell (blk_below HBX.out hb) 2).trans rfl; have HBT := Aside0.mk (blk_below HT1.out.box hb); have HG1 := Aside0.mk (grownBy_join (grownBy_join HG0.out (grownBy_of_below hb _)) (grownBy_drew w1 (some b))); clear hb))
    generalize w.heap.size = B at hj0 hj1 hj2 ⊢
    go_still_tail 5, (by kernel_rfl)
    change wpList _ _ _ _ _ w1.drew
    refine wpList_delete_k rfl (.tmp 17) (.tmp 18) 55 rfl keyLaws Try.underlying55 (b := b) rfl (HM1.out.same rfl) k rfl ?_
    intro w2 hM2 hg2 hs2
    have HM2 := Aside0.mk hM2
    have HG2 := Aside0.mk hg2
    clear hM2 hg2
    go_wp2_with fail
    go_ret
    exact ⟨rfl, ⟨blk_grown (blk_drew HBT.out) HG2.out hTb, HM2.out, h.ints.del k⟩, grownBy_join HG1.out HG2.out⟩

theorem len_calls {w : World} {T b : Nat} {es : Ents} (h : TabAt w T b es) : Calls Try.prog 11 #[.pointer (some ⟨T, 0, none⟩)] w fun e w' => e = .returned (.int .i64 (es.length : Nat)) ∧ w' = w := by
  have hc := h.cell
  have HM := Aside0.mk h.map
  go_enter Try.func11, Try.ntmps11
  go_wp2_with (first | ((with_reducible refine gate_dst (N := 9) rfl ?_); refine wpList_len_k rfl (.tmp 8) 55 rfl Try.underlying55 (b := b) rfl HM.out ?_))
  go_ret
  exact ⟨rfl, rfl⟩

set_option maxHeartbeats 1000000 in
theorem keys_calls {w : World} {T b : Nat} {es : Ents} (h : TabAt w T b es) (hN : es.length < 8796093022207) : Calls Try.prog 8 #[.pointer (some ⟨T, 0, none⟩)] w fun e w' => ∃ v, e = .returned v ∧ k32.R 32 w' w.heap.size (fun _ => True) v (sortK (es.map Prod.fst)) ∧ Below w.heap.size w w' := by
  have hc := h.cell
  have hcall := sorted_keys (w := w.alloc (.cells #[.map (some b)] 55)) w.heap.size b es ((blk_cell (blk_new w _) 0).trans rfl) (h.map.alloc _) hN
  have HC := Aside0.mk hcall
  clear hcall
  go_enter Try.func8, Try.ntmps8
  go_wp2_with (first
    | (go_at_call 23; refine (callsIn_wide.1 (keys_in Fence.wide 1 trivial rfl (some b) w)).mono ?_; rintro e w1 ⟨rfl, rfl⟩)
    | (go_at_call 22; refine HC.out.mono ?_; rintro e w2 ⟨v, rfl, hR, hB⟩; have HR := Aside0.mk hR; have HB := Aside0.mk hB; clear hR hB))
  go_ret
  exact ⟨_, rfl, Kd.R_lower HR.out (by simp), below_step (below_alloc (Below.refl _ _) _) HB.out⟩

theorem IterAt.kept {κ : Type} {enc : κ → Value} {w w' : World} {b r : Nat} {es left : List (κ × Value)} (h : IterAt enc w b r es left) {row : Option Nat} (hg : w.grownBy w' row) (h1 : some b ≠ row) (h2 : some r ≠ row) : IterAt enc w' b r es left :=
  h.same (hg.block b h.map.lt h1) (hg.block r h.lt h2)
set_option maxHeartbeats 2000000 in
/-- maps.Copy into an empty map. -/
theorem mapsCopy_calls {w : World} {b1 b : Nat} {es : Ents} (h1 : MapAt encK w b1 []) (h : MapAt encK w b es) (hne : b1 ≠ b) : Calls Try.prog 26 #[.map (some b1), .map (some b)] w fun e w' => e = .returned (.tuple #[]) ∧ (∃ es', es'.Perm es ∧ MapAt encK w' b1 es') ∧ w.grownBy w' (some b1) := by
  have hu32 := Try.underlying32
  have HM1 := Aside0.mk h1
  have HM := Aside0.mk h
  have hnd := Aside0.mk h.nodup
  clear h1 h
  go_enter Try.func26, Try.ntmps26
  go_wp2_with (first
    | ((with_reducible refine gate_dst (N := 7) rfl ?_); refine wpList_range_k rfl (.tmp 6) 55 rfl Try.underlying55 (b := b) rfl HM.out ?_; intro w0 hit0 hg0 hs0; have HIT := Aside0.mk hit0; have HG0 := Aside0.mk hg0; clear hit0 hg0))
  go_frame
  go_loopg [8] es.length (fun gg v8 wr => ∃ (left dn : Ents), left.length ≤ gg ∧ Aside0 (IterAt encK wr b w.heap.size es left) ∧ Aside0 ((dn ++ left).Perm es) ∧ Aside0 (MapAt encK wr b1 dn) ∧ Aside0 (w.grownBy wr (some b1)))
  case atStart => exact ⟨es, [], Nat.le_refl _, HIT, ⟨List.Perm.refl _⟩, ⟨HM1.out.kept HG0.out (by simp)⟩, ⟨grownBy_join (row := some b1) ⟨HG0.out.os, HG0.out.tape, HG0.out.output, HG0.out.size, fun j hj _ => HG0.out.block j hj (by simp)⟩ (grownBy_refl' _ _)⟩⟩
  case round =>
    obtain ⟨left, dn, hl, hit, hP, hD, hG⟩ := hrel
    have hr1 : w.heap.size ≠ b1 := by have := HM1.out.lt; omega
    go_wp2_with (first
      | ((with_reducible refine gate_dst (N := 8) rfl ?_); refine wpList_next_k rfl (.tmp 7) rfl rfl hit.out ?_ ?_))
    · intro hl0
      have HP := hP.out
      rw [hl0, List.append_nil] at HP
      have HP2 := Aside0.mk HP
      clear HP hl0
      go_wp2_with fail
      go_end0
      exact ⟨rfl, ⟨dn, HP2.out, hD.out⟩, hG.out⟩
    · intro pk pv left' w2 hp hit2 hg2 hs2 hen
      have HEN := Aside0.mk hen
      have hlen : left.length = left'.length + 1 := hp.length_eq
      have HP2 := Aside0.mk hp
      have HIT2 := Aside0.mk hit2
      have HD2 := Aside0.mk (hD.out.kept hg2 (fun e => hr1 (Option.some.inj e).symm))
      have HG2 := Aside0.mk (show w.grownBy w2 (some b1) from ⟨hg2.os.trans hG.out.os, hg2.tape.trans hG.out.tape, hg2.output.trans hG.out.output, Nat.le_trans hG.out.size hg2.size, fun j hj hne' => (hg2.block j (Nat.lt_of_lt_of_le hj hG.out.size) (fun e => by cases e; omega)).trans (hG.out.block j hj hne')⟩)
      clear hp hit2 hg2
      unfold encK at hen
      go_wp2_with (first
        | (refine wpList_mapUpdate_k rfl (.tmp 13) (.tmp 14) (.tmp 15) 55 rfl keyLaws Try.underlying55 (b := b1) rfl (HD2.out.alloc _) pk rfl ?_; intro w3 hM3 hg3 hs3; have HM3 := Aside0.mk hM3; have HG3 := Aside0.mk hg3; clear hM3 hg3))
      have hP3 : (dn ++ (pk, pv) :: left').Perm es := ((List.Perm.append_left dn HP2.out).symm).trans hP.out
      have hnd3 : ((dn ++ (pk, pv) :: left').map Prod.fst).Nodup := (hP3.map Prod.fst).nodup_iff.2 hnd.out
      have hnk : pk ∉ dn.map Prod.fst := by
        rw [List.map_append, List.nodup_append] at hnd3
        exact fun hk => hnd3.2.2 pk hk pk (by simp) rfl
      have hput : kput dn pk pv = dn ++ [(pk, pv)] := kput_new hnk
      have HP4 := Aside0.mk hP3
      have HPUT := Aside0.mk hput
      have hw0 : w.heap.size ≤ wr.heap.size := hG.out.size
      clear hP3 hnd3 hnk hput
      go_roundg left'.length
      case measure => omega
      case rel =>
        refine ⟨left', dn ++ [(pk, pv)], Nat.le_refl _, ⟨?_⟩, ⟨?_⟩, ⟨?_⟩, ⟨?_⟩⟩
        · exact IterAt.kept (IterAt.kept HIT2.out (World.grownBy_alloc _ _ none) (by simp) (by simp)) HG3.out (fun e => hne (Option.some.inj e).symm) (fun e => hr1 (Option.some.inj e))
        · rw [List.append_assoc]; exact HP4.out
        · rw [← HPUT.out]; exact HM3.out
        · exact grownBy_join (grownBy_join HG2.out (grownBy_of_below (below_alloc (Below.refl _ _) _) _)) HG3.out
theorem ptr_not_nil (T : Addr) (W : World) : (binOp .neq 23 (.pointer (some T)) (.pointer none)).run Try.prog W = .ok (.bool true) W := by kernel_rfl
set_option maxHeartbeats 2000000 in
theorem copy_calls {w : World} {T b : Nat} {es : Ents} (h : TabAt w T b es) : Calls Try.prog 15 #[.pointer (some ⟨T, 0, none⟩)] w fun e w' => ∃ T' b' es', e = .returned (.pointer (some ⟨T', 0, none⟩)) ∧ TabAt w' T' b' es' ∧ es'.Perm es ∧ w.heap.size ≤ T' ∧ w.heap.size ≤ b' ∧ Below w.heap.size w w' := by
  have hne := ptr_not_nil
  have h1 := h.below (new_below w)
  have hc1 := h1.cell
  have hc2 := (new_tab w).cell
  have HT := Aside0.mk (new_tab w)
  have HT0 := Aside0.mk h1
  have HB := Aside0.mk (new_below w)
  have hbl := h.map.lt
  have HI := Aside0.mk h.ints
  have hTl := blk_lt h.box
  clear h1
  go_enter Try.func15, Try.ntmps15
  go_wp2_with (first
    | (go_at_call 19; refine (new_calls w).mono ?_; rintro e w1 ⟨rfl, rfl⟩))
  generalize (w.alloc (.map #[] 0)).alloc (.cells #[.map (some w.heap.size)] 57) = w1 at hc1 hc2 HT HT0 HB ⊢
  have hcall := mapsCopy_calls (w := w1.drew) (b1 := w.heap.size) (b := b) (es := es) (HT.out.map.same rfl) (HT0.out.map.same rfl) (by omega)
  have HC := Aside0.mk hcall
  clear hcall
  go_still_tail 8, (by kernel_rfl)
  change wpList _ _ _ _ _ w1.drew
  go_wp2_with (first
    | (go_at_call 26; refine HC.out.mono ?_; rintro e w2 ⟨rfl, ⟨es', hp, hM⟩, hg⟩; have HP := Aside0.mk hp; have HM := Aside0.mk hM; have HG := Aside0.mk hg; clear hp hM hg))
  go_ret
  have hbox := blk_grown (blk_drew HT.out.box) HG.out (by simp)
  refine ⟨_, _, es', rfl, ⟨hbox, HM.out, fun p hp => HI.out p (HP.out.mem_iff.1 hp)⟩, HP.out, by omega, Nat.le_refl _, ?_⟩
  exact Below.grown (below_drew1 HB.out) HG.out HB.out.size (fun k e => by cases e; exact Nat.le_refl _)

/-! ### Of nil -/
theorem put_nil (w : World) (k : S32) (v : Int) : Calls Try.prog 17 #[.pointer none, encK k, .int .i64 v] w fun e w' => e = .returned (.tuple #[]) ∧ Below w.heap.size w w' := by
  have hu32 := Try.underlying32
  unfold encK
  go_enter Try.func17, Try.ntmps17
  go_wp2_with fail
  refine bodyPost_ret (results_none rfl _ _ _) rfl ?_
  exact ⟨rfl, below_alloc (Below.refl _ _) _⟩
theorem get_nil (w : World) (k : S32) : Calls Try.prog 9 #[.pointer none, encK k] w fun e w' => e = .returned (.tuple #[.int .i64 0, .bool false]) ∧ Below w.heap.size w w' := by
  have hu32 := Try.underlying32
  unfold encK
  go_enter Try.func9, Try.ntmps9
  go_wp2_with fail
  go_ret2
  exact ⟨rfl, below_alloc (Below.refl _ _) _⟩
theorem del_nil (w : World) (k : S32) : Calls Try.prog 16 #[.pointer none, encK k] w fun e w' => e = .returned (.bool false) ∧ Below w.heap.size w w' := by
  have hu32 := Try.underlying32
  have hcall := get_nil (w.alloc (.cells #[.int .u8 k.f0, .int .u8 k.f1, .int .u8 k.f2] 32)) k
  have HC := Aside0.mk hcall
  clear hcall
  unfold encK at HC ⊢
  go_enter Try.func16, Try.ntmps16
  go_wp2_with (first | (go_at_call 9; refine HC.out.mono ?_; rintro e w1 ⟨rfl, hb⟩; have HB := Aside0.mk hb; clear hb))
  go_ret
  exact ⟨rfl, below_step (below_alloc (Below.refl _ _) _) HB.out⟩
theorem len_nil (w : World) : Calls Try.prog 11 #[.pointer none] w fun e w' => e = .returned (.int .i64 0) ∧ w' = w := by
  go_enter Try.func11, Try.ntmps11
  go_wp2_with fail
  go_ret
  exact ⟨rfl, rfl⟩
theorem keys_nil (w : World) : Calls Try.prog 8 #[.pointer none] w fun e w' => e = .returned (.slice none 0 0) ∧ w' = w := by
  go_enter Try.func8, Try.ntmps8
  go_wp2_with fail
  go_ret
  exact ⟨rfl, rfl⟩
theorem copy_nil (w : World) : Calls Try.prog 15 #[.pointer none] w fun e w' => e = .returned (.pointer (some ⟨w.heap.size + 1, 0, none⟩)) ∧ w' = (w.alloc (.map #[] 0)).alloc (.cells #[.map (some w.heap.size)] 57) := by
  go_enter Try.func15, Try.ntmps15
  go_wp2_with (first
    | (go_at_call 19; refine (new_calls w).mono ?_; rintro e w1 ⟨rfl, rfl⟩))
  go_ret
  exact ⟨rfl, rfl⟩
theorem all_calls (w : World) (p : Option Addr) : Calls Try.prog 18 #[.pointer p] w fun e w' => e = .returned (.func (.func 27) #[] #[.pointer (some ⟨w.heap.size, 0, none⟩)]) ∧ w' = w.alloc (.cells #[.pointer p] 23) := by
  go_enter Try.func18, Try.ntmps18
  go_wp2_with fail
  go_ret
  exact ⟨rfl, rfl⟩
end Go.Proofs.Ytignfgefbhkecaa.X
