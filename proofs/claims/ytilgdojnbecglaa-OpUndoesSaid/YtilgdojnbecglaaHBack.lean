/- slices.Backward over a list of additions: its rounds bring the elements from the last one on; for every body that keeps what lay before. -/
import Derived.Test.YtilgdojnbecglaaX0
import Derived.RangeFuncNested
import Derived.RangeFuncBound
import Derived.RangeFuncCalls
import Derived.RangeFuncLeaves
import Derived.RangeFuncBox
import Derived.Shelf.Abstract
import Derived.Shelf.RegionOpen
import Derived.OwnWalkIn
import Derived.TacticsInMore
import Derived.LoopNIn
import Derived.LoopIn
namespace Go.Proofs.Ytilgdojnbecglaa.X
open Go.RowKit Go.Shelf Go.Proofs.YtilgdojnbecglaaW.PrintWords Go.Proofs.YtilgdojnbecglaaW.PrintLast Go.Proofs.YtilgdojnbecglaaW.PrintMore
attribute [local go_sem] Oper.semAt_some
set_option linter.unusedVariables false
set_option linter.unusedSimpArgs false

/-- What one round is told: a place, and the addition there. -/
abbrev BackX := Int × S26
def encB (x : BackX) : Array Value := #[.int .i64 x.1, .agg #[.int .u8 x.2.f0.f0, .int .u8 x.2.f0.f1, .int .u8 x.2.f0.f2, .int .i64 x.2.f1]]
/-- What has come when k rounds are over. -/
def bwTo (l : List S26) (k : Nat) : List BackX := (List.range k).map fun (j : Nat) => ((l.length : Int) - 1 - (j : Int), rd_T26 l ((l.length : Int) - 1 - (j : Int)))
theorem bwTo_succ (l : List S26) (k : Nat) : bwTo l (k + 1) = bwTo l k ++ [((l.length : Int) - 1 - k, rd_T26 l ((l.length : Int) - 1 - k))] := by simp [bwTo, List.range_succ]
theorem bwTo_length (l : List S26) (k : Nat) : (bwTo l k).length = k := by simp [bwTo]

/-- What a round must keep: all that lay before, and the box of the list. -/
def KpB (n₀ Bs : Nat) (W W' : World) : Prop := Below n₀ W W' ∧ W'.heap[Bs]? = W.heap[Bs]?
theorem KpB.cell {n₀ Bs : Nat} {W W' : World} (h : KpB n₀ Bs W W') (v : Value) (hv : W.cell? ⟨Bs, 0, none⟩ = some v) : W'.cell? ⟨Bs, 0, none⟩ = some v := by
  unfold World.cell? at hv ⊢
  rw [h.2]; exact hv
theorem KpB.refl (n₀ Bs : Nat) (W : World) : KpB n₀ Bs W W := ⟨Below.refl _ _, rfl⟩
theorem KpB.trans {n₀ Bs : Nat} {X Y Z : World} (h : KpB n₀ Bs X Y) (k : KpB n₀ Bs Y Z) : KpB n₀ Bs X Z := ⟨h.1.trans k.1, k.2.trans h.2⟩

set_option maxRecDepth 100000 in
set_option maxHeartbeats 2000000 in
theorem back1_in (F : Fence) (n : Nat) (h38 : F.fn 38) (hro : F.round = none) (hn : 1 ≤ n) (l Bs n₀ : Nat) (A0 : Option Addr) (c0 : Nat) (l0 : List S26) (J Jx : List BackX → World → Prop)
    (hY : ∀ pre x W, J pre W → pre.length < l0.length → YieldAt F (n - 1) Try.prog l (encB x) W fun e W' =>
      (e = .returned (.bool true) ∧ J (pre ++ [x]) W' ∧ KpB n₀ Bs W W') ∨ (e = .returned (.bool false) ∧ Jx (pre ++ [x]) W'))
    (W : World) (hBs : W.cell? ⟨Bs, 0, none⟩ = some (.slice A0 l0.length c0)) (hr0 : Kd.C k26 W A0 l0.length l0) (hA : ∀ ad, A0 = some ad → 0 < l0.length → ad.block < n₀) (h0 : J [] W) :
    CallsIn F n Try.prog 38 #[.func (.yield l) #[] #[], .pointer (some ⟨Bs, 0, none⟩)] W fun e W' => (∃ v, e = .returned v) ∧
      ((∃ ys, ys = bwTo l0 l0.length ∧ J ys W') ∨ (∃ pre, (∃ k, k ≤ l0.length ∧ pre = bwTo l0 k) ∧ Jx pre W')) := by
  have hlen : l0.length ≤ 9223372036854775807 := hr0.2.1
  have HR0 := Aside0.mk hr0
  have HA := Aside0.mk hA
  clear hr0 hA
  refine callsIn_of_wp Try.func38 rfl h38 ?_ hro
  simp only [Try.ntmps38, List.size_toArray, List.length_cons, List.length_nil, Nat.reduceAdd, Nat.reduceSub, Array.replicate_succ, Array.replicate_zero, List.push_toArray, List.append_toArray, List.nil_append, List.cons_append]
  gi_wp2
  gi_loopw [3] (fun i wr => ∃ (k : Nat) (m : Int), k ≤ l0.length ∧ m = (l0.length : Int) - 1 - k ∧ i = .int .i64 m ∧ J (bwTo l0 k) wr ∧ Aside0 (KpB n₀ Bs W wr))
    (fun i _ => (intOf i + 1).toNat)
  case atStart => exact ⟨0, (l0.length : Int) - 1, Nat.zero_le _, by omega, rfl, h0, ⟨KpB.refl _ _ _⟩⟩
  case round =>
    obtain ⟨k, m, hk, hm, rfl, hJs, hnx⟩ := hrel
    have hbx : wr.cell? ⟨Bs, 0, none⟩ = some (.slice A0 l0.length c0) := hnx.out.cell _ hBs
    have hm0 : -1 ≤ m := by omega
    have hm1 : m < l0.length := by omega
    by_cases hlt : 0 ≤ m
    · obtain ⟨ad, e, hx0, hx1, hx2, hx3⟩ := at_T26 HR0.out m hlt hm1
      cases e
      have hab := HA.out ad rfl (by omega)
      have hab' : (ad.add (m.toNat * 4)).block < n₀ := by unfold Addr.add; split <;> exact hab
      replace hx0 := (hnx.out.1.cell hab').trans hx0
      replace hx1 := (hnx.out.1.cell (p := ⟨(ad.add (m.toNat * 4)).block, (ad.add (m.toNat * 4)).off + 1, none⟩) hab').trans hx1
      replace hx2 := (hnx.out.1.cell (p := ⟨(ad.add (m.toNat * 4)).block, (ad.add (m.toNat * 4)).off + 2, none⟩) hab').trans hx2
      replace hx3 := (hnx.out.1.cell (p := ⟨(ad.add (m.toNat * 4)).block, (ad.add (m.toNat * 4)).off + 3, none⟩) hab').trans hx3
      have hnext := bwTo_succ l0 k
      rw [← hm] at hnext
      obtain ⟨fn, tmps, assign, body, hy, hR⟩ := hY _ (m, rd_T26 l0 m) wr hJs (by rw [bwTo_length]; omega)
      unfold encB at hy
      dsimp only at hy
      have HN := Aside0.mk hnext
      have HM := Aside0.mk hm
      clear hnext hm
      generalize rd_T26 l0 m = x at hx0 hx1 hx2 hx3 hy hR HN
      gi_wp2
      refine hR.mono ?_
      rintro e W3 (⟨rfl, hJ3, hk3⟩ | ⟨rfl, hJx3⟩)
      · gi_wp2
        go_roundw
        case rel => exact ⟨k + 1, m - 1, by have := HM.out; omega, by have := HM.out; omega, by first | rfl | (congr 1; omega), by rw [HN.out]; exact hJ3, ⟨hnx.out.trans hk3⟩⟩
        case measure => simp [intOf]; omega
      · gi_wp2
        refine bodyPost_ret (results_none rfl _ _ _) rfl ?_
        exact ⟨⟨_, rfl⟩, .inr ⟨_, ⟨k + 1, by have := HM.out; omega, HN.out.symm⟩, hJx3⟩⟩
    · obtain rfl : k = l0.length := by omega
      have HM := Aside0.mk hm
      clear hm
      gi_wp2
      go_end0
      exact ⟨⟨_, rfl⟩, .inl hJs⟩

theorem bwTo_take (l : List S26) (k : Nat) (h : k ≤ l.length) : bwTo l k = (bwTo l l.length).take k := by
  simp [bwTo, ← List.map_take, List.take_range, Nat.min_eq_left h]
/-- slices.Backward(l) hands back a value whose rounds bring all, from the last one on; or a beginning of that. -/
theorem back_stops (F : Fence) (n : Nat) (h38 : F.fn 38) (hro : F.round = none) (hn : 1 ≤ n) (Bs n₀ : Nat) (A0 : Option Addr) (c0 : Nat) (l0 : List S26) (w : World) (hBs : w.cell? ⟨Bs, 0, none⟩ = some (.slice A0 l0.length c0)) (hr0 : Kd.C k26 w A0 l0.length l0) (hA : ∀ ad, A0 = some ad → 0 < l0.length → ad.block < n₀) :
    SeqStopsK F n Try.prog 38 #[.pointer (some ⟨Bs, 0, none⟩)] encB (KpB n₀ Bs) (fun ys => ys = bwTo l0 l0.length) (fun pre => pre <+: bwTo l0 l0.length) l0.length w := fun l J Jx W hW _ _ hY h0 => by
  refine (back1_in F n h38 hro hn l Bs n₀ A0 c0 l0 J Jx hY W ((hW.cell (World.block_lt_of_cell? w _ hBs)).trans hBs) (Kd.C_below hr0 hW) hA h0).mono ?_
  rintro e W' ⟨he, ⟨ys, rfl, hj⟩ | ⟨pre, ⟨k, hk, rfl⟩, hj⟩⟩
  · exact ⟨he, .inl ⟨_, rfl, hj⟩⟩
  · exact ⟨he, .inr ⟨_, by rw [bwTo_take l0 k hk]; exact List.take_prefix _ _, hj⟩⟩
set_option maxHeartbeats 1000000 in
theorem back_in (F : Fence) (n : Nat) (h28 : F.fn 28) (hro : F.round = none) (a : Option Addr) (len cap : Nat) (w : World) :
    CallsIn F n Try.prog 28 #[.slice a len cap] w fun e w' => e = .returned (.func (.func 38) #[] #[.pointer (some ⟨w.heap.size, 0, none⟩)]) ∧ w' = w.alloc (.cells #[.slice a len cap] 22) := by
  refine callsIn_of_wp Try.func28 rfl h28 ?_ hro
  simp only [Try.ntmps28, List.size_toArray, List.length_cons, List.length_nil, Nat.reduceAdd, Nat.reduceSub, Array.replicate_succ, Array.replicate_zero, List.push_toArray, List.append_toArray, List.nil_append, List.cons_append]
  gi_wp2
  go_ret
  exact ⟨rfl, rfl⟩
end Go.Proofs.Ytilgdojnbecglaa.X
