/- op.Neg: what undoes additions, the last one first; or nil and false where a delta is the least int64: for every list of fewer than 2^43 additions. -/
import Derived.Test.YtilgdojnbecglaaHBack
import Derived.Test.YtilgdojnbecglaaHIn
import Derived.Test.YtilgdojnbecglaaX3
import Derived.Lib.Hide
namespace Go.Proofs.Ytilgdojnbecglaa.X
open Go.RowKit Go.Shelf Go.Proofs.YtilgdojnbecglaaW.PrintWords Go.Proofs.YtilgdojnbecglaaW.PrintLast Go.Proofs.YtilgdojnbecglaaW.PrintMore
attribute [local go_sem] Oper.semAt_some
set_option linter.unusedVariables false
set_option linter.unusedSimpArgs false

def negOp (o : S26) : S26 := ⟨o.f0, wrap64 (-o.f1)⟩
def isLeast (o : S26) : Bool := o.f1 == -9223372036854775808
def negR (l0 : List S26) : List S26 × Bool := if l0.any isLeast then ([], false) else (l0.reverse.map negOp, true)
def op_Neg.f (l0 : List (S26)) : Option ((List (S26)) × Bool) := if l0.length < 8796093022207 then some (negR l0) else none

/-- What a call of Neg has made when some rounds are over. -/
def NegI (w : World) (B1 B3 B4 : Nat) (v4 : Value) (pre : List BackX) (W : World) : Prop :=
  (Boxed W B4 22 v4 ∧ Boxed W w.heap.size 22 (.slice none 0 0) ∧ Boxed W B1 4 (.bool false) ∧ (∃ v, Boxed W B3 22 v ∧ k26.R 26 W w.heap.size (fun _ => True) v (pre.map fun x => negOp x.2)) ∧ (∀ x ∈ pre, isLeast x.2 = false)) ∧ Below w.heap.size w W
def NegIx (w : World) (B1 : Nat) (c : Code) (pre : List BackX) (W : World) : Prop :=
  (Boxed W w.heap.size 22 (.slice none 0 0) ∧ Boxed W B1 4 (.bool false) ∧ (∃ x ∈ pre, isLeast x.2 = true) ∧ c = .ret) ∧ Below w.heap.size w W
theorem boxed_step {X Y : World} {row : Option Nat} {B : Nat} {t : TypeId} {v : Value} (h : Boxed X B t v) (hg : X.grownBy Y row) (hr : ∀ r, row = some r → ∃ o : Obj, X.heap[r]? = some o ∧ o.isCells = false) : Boxed Y B t v :=
  h.kept hg fun e => by obtain ⟨o, ho, hc⟩ := hr B e.symm; rw [show X.heap[B]? = _ from h] at ho; cases ho; cases hc
theorem R26_step {X Y : World} {row : Option Nat} {base : Nat} {v : Value} {xs : List S26} (h : k26.R 26 X base (fun _ => True) v xs) (hg : X.grownBy Y row) (hr : ∀ r, row = some r → ∃ o : Obj, X.heap[r]? = some o ∧ o.isCells = false) : k26.R 26 Y base (fun _ => True) v xs := by
  refine R26_grown h hg ?_
  cases hv : v.ownBlock with
  | none => exact .inl rfl
  | some k =>
    refine .inr fun e => ?_
    obtain ⟨o, ho, hc⟩ := hr k e.symm
    exact R_not_obj h ho hc hv.symm
theorem NegI_own (w : World) (B1 B3 B4 B : Nat) (v4 : Value) (hB : w.heap.size ≤ B) : OwnFrom B (NegI w B1 B3 B4 v4) := by
  refine OwnFrom.and (fun s X Y row hs hg hr => ?_) (ownFrom_below (Nat.le_refl _) hB)
  have hr' : ∀ r, row = some r → ∃ o : Obj, X.heap[r]? = some o ∧ o.isCells = false := fun r e => (hr r e).2
  obtain ⟨b0, b1, b2, ⟨v, b3, hR⟩, hp⟩ := hs
  exact ⟨boxed_step b0 hg hr', boxed_step b1 hg hr', boxed_step b2 hg hr', ⟨v, boxed_step b3 hg hr', R26_step hR hg hr'⟩, hp⟩
theorem NegIx_own (w : World) (B1 : Nat) (c : Code) (B : Nat) (hB : w.heap.size ≤ B) : OwnFrom B (NegIx w B1 c) := by
  refine OwnFrom.and (fun s X Y row hs hg hr => ?_) (ownFrom_below (Nat.le_refl _) hB)
  have hr' : ∀ r, row = some r → ∃ o : Obj, X.heap[r]? = some o ∧ o.isCells = false := fun r e => (hr r e).2
  obtain ⟨b1, b2, hp⟩ := hs
  exact ⟨boxed_step b1 hg hr', boxed_step b2 hg hr', hp⟩
theorem NegI_alloc {w : World} {B1 B3 B4 : Nat} {v4 : Value} {pre : List BackX} {W : World} (h : NegI w B1 B3 B4 v4 pre W) (o : Obj) : NegI w B1 B3 B4 v4 pre (W.alloc o) :=
  (NegI_own w B1 B3 B4 w.heap.size v4 (Nat.le_refl _)).alloc o h
theorem below_alloc_at {B : Nat} {w W : World} (hB : B ≤ W.heap.size) (h : Below B w W) (o : Obj) : Below B w (W.alloc o) := h.alloc hB o
theorem own_cells {α : Type} {d : Kd α} {e : Nat} {W : World} {base : Nat} {ok : Nat → Prop} {v : Value} {xs : List α} (h : d.R e W base ok v xs) : ∀ (j : Nat) (o : Obj), v.ownBlock = some j → W.heap[j]? = some o → o.isCells = true := by
  intro j o hj ho
  cases hc : o.isCells with
  | true => rfl
  | false => exact absurd hj.symm (R_not_obj h ho hc)
/-- What one round that goes on leaves. -/
theorem neg_round {w W w3 : World} {B1 B3 B4 N : Nat} {v4 v v1 : Value} {pre : List BackX} {x : BackX} (o1 : w.heap.size < B1) (o2 : B1 < B3) (o3 : B3 < B4) (hI : NegI w B1 B3 B4 v4 pre W)
    (hb3 : Boxed W B3 22 v) (hR : k26.R 26 W w.heap.size (fun _ => True) v (pre.map fun x => negOp x.2)) (hx : isLeast x.2 = false)
    (ho : k26.R 26 w3 w.heap.size (fun _ => True) v1 ((pre.map fun x => negOp x.2) ++ [negOp x.2])) (hg : W.grownBy w3 v.ownBlock) (a : Act) :
    ownPostG N (KpB w.heap.size B4) (NegI w B1 B3 B4 v4) (NegIx w B1) (pre ++ [x]) W .normal a (w3.setCell ⟨B3, 0, none⟩ v1) := by
  obtain ⟨⟨b4, b1, b2, _, hp⟩, hB⟩ := hI
  have hg2 := grownBy_setCell' w3 B3 v1
  have c4 := b4.kept hg (R_not_box hR b4 (by decide))
  have c1 := b1.kept hg (R_not_box hR b1 (by decide))
  have c2 := b2.kept hg (R_not_box hR b2 (by decide))
  have c3 := hb3.kept hg (R_not_box hR hb3 (by decide))
  have hb0 : ∀ k, v.ownBlock = some k → w.heap.size ≤ k := by
    obtain ⟨_, inner, hw, _⟩ := hR
    exact own_base hw
  have hB3 : Below w.heap.size w w3 := hB.grown hg hB.size hb0
  have hW3 : Below w.heap.size W w3 := (Below.refl _ _).grown hg hB.size hb0
  refine ⟨((KeepsOthers.of_grownBy hg (own_cells hR)).trans (KeepsOthers.setCell _ _ _)).from _, ⟨hW3.setCell (p := ⟨B3, 0, none⟩) (by simp; omega) _, ?_⟩, ⟨?_, ?_, ?_, ⟨v1, c3.set v1, ?_⟩, ?_⟩, hB3.setCell (p := ⟨B3, 0, none⟩) (by simp; omega) _⟩
  · rw [show (w3.setCell ⟨B3, 0, none⟩ v1).heap[B4]? = w3.heap[B4]? from hg2.block B4 c4.lt (by simp; omega)]
    exact hg.block B4 b4.lt (R_not_box hR b4 (by decide))
  · exact c4.other (by omega) _
  · exact c1.other (by omega) _
  · exact c2.other (by omega) _
  · rw [List.map_append]
    exact R26_grown ho hg2 (.inr (R_not_box ho c3 (by decide)).symm)
  · intro y hy
    rcases List.mem_append.1 hy with h | h
    · exact hp y h
    · rw [List.mem_singleton] at h; rw [h]; exact hx
/-- What a round that ends the call leaves. -/
theorem neg_stop {w W : World} {B1 B3 B4 N : Nat} {v4 : Value} {pre : List BackX} {x : BackX} (o1 : w.heap.size < B1) (o2 : B1 < B3) (o3 : B3 < B4) (hI : NegI w B1 B3 B4 v4 pre W) (hx : isLeast x.2 = true) (a : Act) :
    ownPostG N (KpB w.heap.size B4) (NegI w B1 B3 B4 v4) (NegIx w B1) (pre ++ [x]) W .ret a ((W.setCell ⟨w.heap.size, 0, none⟩ (.slice none 0 0)).setCell ⟨B1, 0, none⟩ (.bool false)) := by
  obtain ⟨⟨b4, b1, b2, _, hp⟩, hB⟩ := hI
  refine ⟨((KeepsOthers.setCell _ _ _).trans (KeepsOthers.setCell _ _ _)).from _, ⟨?_, ?_, ⟨x, by simp, hx⟩, rfl⟩, (hB.setCell (p := ⟨w.heap.size, 0, none⟩) (Nat.le_refl _) _).setCell (p := ⟨B1, 0, none⟩) (by simp; omega) _⟩
  · exact (b1.set _).other (by omega) _
  · exact (b2.other (by omega) _).set _
theorem boxed_ne {Z : World} {B D : Nat} {t : TypeId} {v : Value} {x : Option (List Deferred)} (hb : Boxed Z B t v) (hd : Z.heap[D]? = some (.deferred x)) : some B ≠ some D := by
  intro e
  injection e with e
  rw [← e, show Z.heap[B]? = _ from hb] at hd
  cases hd
theorem res16 (tmps : Array Value) (W : World) (B0 B1 : Nat) (v : Value) (b : Bool) (h2 : tmps.getD 2 undef = .pointer (some ⟨B0, 0, none⟩)) (h3 : tmps.getD 3 undef = .pointer (some ⟨B1, 0, none⟩)) (c2 : Boxed W B0 22 v) (c3 : Boxed W B1 4 (.bool b)) (hv : ∃ A n c, v = .slice A n c) :
    (results Try.f16 tmps).run Try.prog W = .ok (.tuple #[v, .bool b]) W := by
  have e2 := c2.cell
  have e3 := c3.cell
  obtain ⟨A, n, c, rfl⟩ := hv
  have hr : Try.f16.results = #[.cell 2 22, .cell 3 4] := rfl
  rw [Array.getD_eq_getD_getElem?] at h2 h3
  simp only [results, hr]
  go_simp
/-- A list of additions in a block of four cells. -/
def Blk26 (W : World) (B : Nat) (x : S26) : Prop := W.heap[B]? = some (.cells #[.int .u8 x.f0.f0, .int .u8 x.f0.f1, .int .u8 x.f0.f2, .int .i64 x.f1] 26 (0, 0))

theorem Blk26.cells {W : World} {B : Nat} {x : S26} (h : Blk26 W B x) : W.cell? ⟨B, 0, none⟩ = some (.int .u8 x.f0.f0) ∧ W.cell? ⟨B, 1, none⟩ = some (.int .u8 x.f0.f1) ∧ W.cell? ⟨B, 2, none⟩ = some (.int .u8 x.f0.f2) ∧ W.cell? ⟨B, 3, none⟩ = some (.int .i64 x.f1) :=
  ⟨(blk_cell h 0).trans rfl, (blk_cell h 1).trans rfl, (blk_cell h 2).trans rfl, (blk_cell h 3).trans rfl⟩
/-- The world where the loop begins. -/
def negW (w : World) (A0 : Option Addr) (n c0 : Nat) : World := (((((w.alloc (Obj.cells #[Value.slice none 0 0] 22)).alloc (Obj.cells #[Value.bool false] 4)).alloc (Obj.cells (madeCells #[Value.int IntKind.u8 0, Value.int IntKind.u8 0, Value.int IntKind.u8 0, Value.int IntKind.i64 0] (n * 4)) 26)).alloc (Obj.cells #[Value.slice (some { block := w.heap.size + 1 + 1, off := 0 }) 0 n] 22)).alloc (Obj.cells #[Value.slice A0 n c0] 22))
theorem negW_size (w : World) (A0 : Option Addr) (n c0 : Nat) : (negW w A0 n c0).heap.size = w.heap.size + 5 := by simp [negW]
theorem negW_below (w : World) (A0 : Option Addr) (n c0 : Nat) : Below w.heap.size w (negW w A0 n c0) := below_alloc (below_alloc (below_alloc (below_alloc (below_alloc (Below.refl _ _) _) _) _) _) _
theorem negW_box (w : World) (A0 : Option Addr) (n c0 : Nat) : Boxed (negW w A0 n c0) (w.heap.size + 1 + 1 + 1 + 1) 22 (.slice A0 n c0) := by
  unfold negW
  generalize hv : (((w.alloc (Obj.cells #[Value.slice none 0 0] 22)).alloc (Obj.cells #[Value.bool false] 4)).alloc (Obj.cells (madeCells #[Value.int IntKind.u8 0, Value.int IntKind.u8 0, Value.int IntKind.u8 0, Value.int IntKind.i64 0] (n * 4)) 26)).alloc (Obj.cells #[Value.slice (some { block := w.heap.size + 1 + 1, off := 0 }) 0 n] 22) = v
  have hs : v.heap.size = w.heap.size + 1 + 1 + 1 + 1 := by rw [← hv]; simp
  rw [← hs]
  exact Boxed.new v 22 _
theorem neg_start (w : World) (A0 : Option Addr) (n c0 : Nat) (hn : n ≤ 9223372036854775807) : NegI w (w.heap.size + 1) (w.heap.size + 1 + 1 + 1) (w.heap.size + 1 + 1 + 1 + 1) (.slice A0 n c0) [] (negW w A0 n c0) := by
  have b4 := negW_box w A0 n c0
  unfold negW at b4 ⊢
  generalize hv1 : w.alloc (Obj.cells #[Value.slice none 0 0] 22) = v1 at b4 ⊢
  have s1 : v1.heap.size = w.heap.size + 1 := by rw [← hv1]; simp
  have b1 : Boxed v1 w.heap.size 22 (.slice none 0 0) := by rw [← hv1]; exact Boxed.new w 22 _
  have l1 : Below w.heap.size w v1 := by rw [← hv1]; exact below_alloc (Below.refl _ _) _
  generalize hv2 : v1.alloc (Obj.cells #[Value.bool false] 4) = v2 at b4 ⊢
  have s2 : v2.heap.size = w.heap.size + 1 + 1 := by rw [← hv2]; simp [s1]
  have b2 : Boxed v2 w.heap.size 22 (.slice none 0 0) := by rw [← hv2]; exact b1.alloc _
  have c2 : Boxed v2 (w.heap.size + 1) 4 (.bool false) := by rw [← hv2, ← s1]; exact Boxed.new v1 4 _
  have l2 : Below w.heap.size w v2 := by rw [← hv2]; exact below_alloc l1 _
  generalize hv3 : v2.alloc (Obj.cells (madeCells #[Value.int IntKind.u8 0, Value.int IntKind.u8 0, Value.int IntKind.u8 0, Value.int IntKind.i64 0] (n * 4)) 26) = v3 at b4 ⊢
  have s3 : v3.heap.size = w.heap.size + 1 + 1 + 1 := by rw [← hv3]; simp [s2]
  have r3 : k26.R 26 v3 w.heap.size (fun _ => True) (Value.slice (some { block := w.heap.size + 1 + 1, off := 0 }) 0 n) [] := by
    rw [← hv3, ← s2]
    exact R_made0 k26 26 v2 w.heap.size n _ (by omega) (by simp only [maxLen]; omega)
  have b3 : Boxed v3 w.heap.size 22 (.slice none 0 0) := by rw [← hv3]; exact b2.alloc _
  have c3 : Boxed v3 (w.heap.size + 1) 4 (.bool false) := by rw [← hv3]; exact c2.alloc _
  have l3 : Below w.heap.size w v3 := by rw [← hv3]; exact below_alloc l2 _
  refine ⟨⟨b4, (b3.alloc _).alloc _, (c3.alloc _).alloc _, ⟨_, ?_, Kd.R_alloc (Kd.R_alloc r3 _) _⟩, fun x hx => by simp at hx⟩, below_alloc (below_alloc l3 _) _⟩
  rw [← s3]
  exact (Boxed.new v3 22 _).alloc _
theorem bwTo_all (l : List S26) : (bwTo l l.length).map (fun x => x.2) = l.reverse := by
  apply List.ext_getElem
  · simp [bwTo]
  · intro i h1 h2
    simp only [List.length_map, bwTo_length] at h1
    have hi : ((l.length : Int) - 1 - (i : Int)).toNat = l.length - 1 - i := by omega
    simp only [bwTo, List.getElem_map, List.getElem_range, List.getElem_reverse, rd_T26, hi, List.getD_eq_getElem?_getD]
    rw [List.getElem?_eq_getElem (by omega)]
    rfl
theorem neg_yes (d : Int) (w : World) (h : (d == -9223372036854775808) = true) : Calls Try.prog 29 #[.int .i64 d] w fun e w' => e = .returned (.tuple #[.int .i64 0, .bool false]) ∧ w = w' := by
  go_enter Try.func29, Try.ntmps29
  go_wp2
  go_ret2
  exact ⟨rfl, rfl⟩
theorem neg_no (d : Int) (w : World) (h : (d == -9223372036854775808) = false) : Calls Try.prog 29 #[.int .i64 d] w fun e w' => e = .returned (.tuple #[.int .i64 (wrap64 (-d)), .bool true]) ∧ w = w' := by
  go_enter Try.func29, Try.ntmps29
  go_wp2
  go_ret2
  exact ⟨rfl, rfl⟩

set_option maxRecDepth 100000 in
set_option maxHeartbeats 4000000 in
theorem op_Neg.calls (A0 : Option Addr) (c0 : Nat) (l0 : List (S26)) (r1 : List (S26)) (r2 : Bool) (w : World) (hr0 : Kd.C k26 w A0 l0.length l0) (hc0 : l0.length ≤ c0) (h : op_Neg.f l0 = some (r1, r2)) :
    Calls Try.prog 16 #[.slice A0 l0.length c0] w fun e w' => ∃ v0_ : Value, e = .returned (.tuple #[v0_, .bool r2]) ∧ Kd.R k26 26 w' w.heap.size (fun _ => True) v0_ r1 ∧ Below w.heap.size w w' := by
  have hu26 := Try.underlying26
  have hu24 := Try.underlying24
  unfold op_Neg.f at h
  split at h
  case isFalse => simp at h
  rename_i hlen
  simp only [Option.some.injEq] at h
  have H := Aside0.mk h
  have HR0 := Aside0.mk hr0
  have hAb : ∀ ad, A0 = some ad → 0 < l0.length → ad.block < w.heap.size := by
    intro ad e hl
    obtain ⟨ad', e', hx, _⟩ := at_T26 hr0 0 (by omega) (by omega)
    rw [e] at e'; cases e'
    have := World.block_lt_of_cell? w _ hx
    simpa [Addr.add] using this
  have HA := Aside0.mk hAb
  clear hr0 h hAb
  obtain ⟨i0, hi0, hzz⟩ := Option.map_eq_some_iff.1 info26
  simp only [Prod.mk.injEq] at hzz
  obtain ⟨hz0, hz1, hz2⟩ := hzz
  have hmk : ∀ W : World, (Instr.makeSlice 22 (.int .i64 0) (.int .i64 (l0.length : Int))).run Try.prog W = .ok (.slice (some ⟨W.heap.size, 0, none⟩) 0 l0.length) (W.alloc (.cells (madeCells #[.int .u8 0, .int .u8 0, .int .u8 0, .int .i64 0] (l0.length * 4)) 26)) := by
    intro W
    have := run_make (P := Try.prog) W 22 26 i0 _ Try.underlying22 hi0 hz0 .i64 .i64 0 (l0.length : Int) (by omega) (by omega) (by rw [hz2]; omega) (by omega)
    rw [hz1] at this
    simpa [Value.cells] using this
  clear hz0 hz1 hz2 hi0
  refine (callsIn_wide (n := 6)).1 ?_
  refine callsIn_of_wp_marks Try.func16 rfl trivial ?_ rfl
  simp only [Try.ntmps16, List.size_toArray, List.length_cons, List.length_nil, Nat.reduceAdd, Nat.reduceSub, Array.replicate_succ, Array.replicate_zero, List.push_toArray, List.append_toArray, List.nil_append, List.cons_append]
  gi_wp2_with (refine ⟨trivial, ?_⟩; gi_at_call 28; refine (back_in Fence.wide 5 trivial rfl _ _ _ _).mono ?_; rintro e w' ⟨rfl, rfl⟩)
  -- the world where the loop begins
  change Code.wpIn _ _ _ _ _ _ (negW w A0 l0.length c0)
  have hI0 := neg_start w A0 l0.length c0 (by omega)
  have hsz := negW_size w A0 l0.length c0
  have hbw := negW_below w A0 l0.length c0
  have hbox := negW_box w A0 l0.length c0
  generalize negW w A0 l0.length c0 = w1 at hI0 hsz hbw hbox
  generalize hB4 : w.heap.size + 1 + 1 + 1 + 1 = B4 at hbox hI0
  generalize hB3 : w.heap.size + 1 + 1 + 1 = B3 at hI0
  generalize hB1 : w.heap.size + 1 = B1 at hI0
  have o1 : w.heap.size < B1 := by omega
  have o2 : B1 < B3 := by omega
  have o3 : B3 < B4 := by omega
  have o4 : B4 < w1.heap.size := by omega
  clear hB1 hB3 hB4 hsz
  refine wpIn_rangeFunc_ownH rfl (by omega) (gf := 38) (lb := #[.pointer (some ⟨B4, 0, none⟩)]) rfl trivial (enters_of Try.func38 (by kernel_rfl) rfl)
    (back_stops Fence.wide 5 trivial rfl (by omega) B4 w.heap.size A0 c0 l0 w1 hbox.cell (Kd.C_below HR0.out hbw) HA.out) (fun h k => KpB.trans h k) ?hKb (Below.refl _ _) (fun _ => rfl)
    (NegI w B1 B3 B4 (.slice A0 l0.length c0)) (NegIx w B1) (NegI_own w B1 B3 B4 _ _ (by omega)) (fun c => NegIx_own w B1 c _ (by omega)) hI0
    (fun x a' W => ∃ Bx, B4 < Bx ∧ Blk26 W Bx x.2 ∧ a' = { tmps := #[.slice A0 l0.length c0, undef, .pointer (some ⟨w.heap.size, 0, none⟩), .pointer (some ⟨B1, 0, none⟩), .pointer (some ⟨B3, 0, none⟩), undef, .pointer (some ⟨Bx, 0, none⟩), undef, undef, .slice A0 l0.length c0, .int .i64 l0.length, .slice (some ⟨B1 + 1, 0, none⟩) 0 l0.length, .slice A0 l0.length c0, .func (.func 38) #[] #[.pointer (some ⟨B4, 0, none⟩)], .int .i64 x.1, .agg #[.int .u8 x.2.f0.f0, .int .u8 x.2.f0.f1, .int .u8 x.2.f0.f2, .int .i64 x.2.f1], undef, undef, undef, undef, undef, undef, undef, undef, undef, undef, undef, undef, undef, undef, undef, undef], defers := [] })
    ?hAx ?assign ?body ?done ?stop
  case hKb =>
    intro W l o o' hl ho hc hw
    refine ⟨belowK_b (by omega) W l o o' hl ho hc hw, ?_⟩
    exact World.putObj_heap_other (by omega)
  case hAx =>
    intro x a' s X Y row hs hg hr
    obtain ⟨Bx, h1, h2, h3⟩ := hs
    refine ⟨Bx, h1, ?_, h3⟩
    exact (hg.block Bx (Array.getElem?_eq_some_iff.1 h2).1 (fun e => by obtain ⟨_, o, ho, hc⟩ := hr Bx e.symm; rw [show X.heap[Bx]? = _ from h2] at ho; cases ho; cases hc)).trans h2
  case assign =>
    intro l pre x W K hI hK
    have hlt := hI.1.1.lt
    simp only [encB, List.zip_toArray, List.foldl_toArray, List.zip_cons_cons, List.zip_nil_left, List.foldl_cons, List.foldl_nil, List.setIfInBounds_toArray, List.set_cons_succ, List.set_cons_zero]
    gi_wp2
    refine hK _ _ ((KeepsOthers.alloc _ _).from _) ⟨below_alloc_at hI.2.size (Below.refl _ _) _, Below.heap_alloc _ _ _ hlt⟩ (NegI_alloc hI _) ⟨W.heap.size, hlt, ?_, rfl⟩
    exact World.alloc_heap_new W _
  case body =>
    rintro l pre x a' W hl hr hI ⟨Bx, hBx, bX, rfl⟩ hlp
    have HI := Aside0.mk hI
    obtain ⟨⟨b4, b1, b2, ⟨v, b3, hR⟩, hpre⟩, hB⟩ := hI
    have hb3c := b3.cell
    have hb3f := b3.frozen
    obtain ⟨hx0, hx1, hx2, hx3⟩ := bX.cells
    have HP := Aside0.mk hpre
    have HRr := Aside0.mk hR
    have HBr := Aside0.mk hB
    have BX := Aside0.mk b3
    have BX4 := Aside0.mk b4
    have BX1 := Aside0.mk b1
    have BX2 := Aside0.mk b2
    have hlt4 := b4.lt
    clear hpre hR hB b3 b4 hr bX
    by_cases hk : (x.2.f1 == -9223372036854775808) = true
    · have hb1c := b1.cell
      have hb1f := b1.frozen
      have hb2c := b2.cell
      have hb2f := b2.frozen
      clear b1 b2
      gi_wp2_with (refine ⟨trivial, ?_⟩; gi_at_call 29; refine (CallsIn.inRound l (callsIn_wide.2 (neg_yes _ _ hk))).mono ?_; rintro e w2 ⟨rfl, rfl⟩)
      exact neg_stop o1 o2 o3 HI.out hk _
    · have hkf : (x.2.f1 == -9223372036854775808) = false := by simpa using hk
      clear b1 b2 hk
      gi_wp2_with (first
        | (refine ⟨trivial, ?_⟩; gi_at_call 29; refine (CallsIn.inRound l (callsIn_wide.2 (neg_no _ _ hkf))).mono ?_; rintro e w2 ⟨rfl, rfl⟩)
        | (gi_at_builtin; refine R_append_in k26 (w0 := w) w.heap.size rfl (.tmp 24) (.tmp 29) 22 26 (.agg #[.int .u8 0, .int .u8 0, .int .u8 0, .int .i64 0]) 16 rfl Try.underlying22 info26 rfl (by decide) (by omega) v (pre.map fun x => negOp x.2) (negOp x.2) [.int .u8 x.2.f0.f0, .int .u8 x.2.f0.f1, .int .u8 x.2.f0.f2, .int .i64 (wrap64 (-x.2.f1))] (fun _ => True) (fun _ => False) rfl rfl ?aP (fun _ hk => hk.elim) (fun _ _ => trivial) ?aO ?aB ?aS ?aL ?_; (case aP => exact k26_mkM _ _ _ (negOp x.2)); (case aO => exact HRr.out); (case aB => exact HBr.out); (case aS => exact HBr.out.size); (case aL => simp; omega); intro v1 w3 ho hb hg hat hg2; have c3 := BX.out.kept hg (R_not_box HRr.out BX.out (by decide)); have c3c := c3.cell; have c3f := c3.frozen; have HO := Aside0.mk ho; have HG := Aside0.mk hg; clear c3 ho hb hg hat hg2; obtain ⟨A1, k1, e1, _, _⟩ := Kd.R_reads HO.out; cases e1))
      exact neg_round o1 o2 o3 HI.out BX.out HRr.out hkf (by have h_ := HO.out; rwa [List.length_append, List.length_map, List.length_singleton] at h_) HG.out _
  case done =>
    rintro D ys W hD rfl hI hK
    obtain ⟨⟨b4, b1, b2, ⟨v, b3, hR⟩, hp⟩, hB⟩ := hI
    have hb1c := b1.cell
    have hb1f := b1.frozen
    have hb2c := b2.cell
    have hb2f := b2.frozen
    have hb3c := b3.cell
    have e0 : l0.any isLeast = false := by
      rw [← List.any_reverse, ← bwTo_all, List.any_map]
      rw [List.any_eq_false]
      intro x hx; simpa using hp x hx
    have HE := Aside0.mk e0
    have HR := Aside0.mk hR
    have HB := Aside0.mk hB
    have b1' := Aside0.mk b1
    have b2' := Aside0.mk b2
    have b3' := Aside0.mk b3
    obtain ⟨A1, k1, rfl, _, _⟩ := Kd.R_reads hR
    clear e0 hR hB b1 b2 b3 b4 hp
    gi_wp2
    have k1' : Boxed ((W.setCell ⟨w.heap.size, 0, none⟩ (.slice A1 (bwTo l0 l0.length).length k1)).setCell ⟨B1, 0, none⟩ (.bool true)) w.heap.size 22 (.slice A1 (bwTo l0 l0.length).length k1) := (b1'.out.set _).other (by omega) _
    have k2' : Boxed ((W.setCell ⟨w.heap.size, 0, none⟩ (.slice A1 (bwTo l0 l0.length).length k1)).setCell ⟨B1, 0, none⟩ (.bool true)) B1 4 (.bool true) := (b2'.out.other (by omega) _).set _
    have hK2 : ((W.setCell ⟨w.heap.size, 0, none⟩ (.slice A1 (bwTo l0 l0.length).length k1)).setCell ⟨B1, 0, none⟩ (.bool true)).heap[D]? = some (.deferred (some [])) := ((KeepsOthers.setCell _ _ _).trans (KeepsOthers.setCell _ _ _)).same D _ hK rfl
    have hl : (bwTo l0 l0.length).length = (List.map (fun x => negOp x.2) (bwTo l0 l0.length)).length := by simp
    have hR2 := R26_grown (R26_grown HR.out (grownBy_setCell' W w.heap.size (.slice A1 (bwTo l0 l0.length).length k1)) (.inr (R_not_box HR.out b1'.out (by decide)).symm)) (grownBy_setCell' _ B1 (.bool true)) (.inr (R_not_box HR.out b2'.out (by decide)).symm)
    have hBB := (HB.out.setCell (p := ⟨w.heap.size, 0, none⟩) (Nat.le_refl _) (.slice A1 (bwTo l0 l0.length).length k1)).setCell (p := ⟨B1, 0, none⟩) (by simp; omega) (.bool true)
    rw [← hl] at hR2
    generalize (W.setCell ⟨w.heap.size, 0, none⟩ (.slice A1 (bwTo l0 l0.length).length k1)).setCell ⟨B1, 0, none⟩ (.bool true) = Z at k1' k2' hK2 hR2 hBB ⊢
    refine ⟨by simp, .inl ⟨_, _, rfl, run_takeDeferred hK2, ?_⟩⟩
    have hgZ := grownBy_putObj' Z D (.deferred none)
    have hne : ∀ B t v, Boxed Z B t v → some B ≠ some D := fun B t v hb => boxed_ne hb hK2
    refine ⟨_, res16 _ _ w.heap.size B1 _ true rfl rfl (k1'.kept hgZ (hne _ _ _ k1')) (k2'.kept hgZ (hne _ _ _ k2')) ⟨_, _, _, rfl⟩, ?_⟩
    have hH := H.out
    rw [negR, HE.out] at hH
    simp only [Bool.false_eq_true, if_false, Prod.mk.injEq] at hH
    obtain ⟨rfl, rfl⟩ := hH
    refine ⟨_, rfl, ?_, hBB.grown hgZ hBB.size (fun k e => by cases e; omega)⟩
    have hR3 := R26_grown hR2 hgZ (.inr (fun e => (R_not_obj hR2 hK2 rfl) e.symm))
    rw [show l0.reverse.map negOp = (bwTo l0 l0.length).map (fun x => negOp x.2) from by rw [← bwTo_all, List.map_map]; rfl]
    exact hR3
  case stop =>
    rintro D c pre W hD hpre hI hK
    obtain ⟨⟨b1, b2, hex, rfl⟩, hB⟩ := hI
    have e0 : l0.any isLeast = true := by
      rw [← List.any_reverse, ← bwTo_all, List.any_map, List.any_eq_true]
      obtain ⟨x, hx, hl⟩ := hex
      exact ⟨x, hpre.subset hx, hl⟩
    have hH := H.out
    rw [negR, if_pos e0] at hH
    simp only [Prod.mk.injEq] at hH
    obtain ⟨rfl, rfl⟩ := hH
    clear e0 hex hpre
    gi_wp2
    refine ⟨by simp, .inl ⟨_, _, rfl, run_takeDeferred hK, ?_⟩⟩
    have hgZ := grownBy_putObj' W D (.deferred none)
    have hne : ∀ B t v, Boxed W B t v → some B ≠ some D := fun B t v hb => boxed_ne hb hK
    exact ⟨_, res16 _ _ w.heap.size B1 _ false rfl rfl (b1.kept hgZ (hne _ _ _ b1)) (b2.kept hgZ (hne _ _ _ b2)) ⟨_, _, _, rfl⟩, _, rfl, Kd.R_nil _ _ _ _ _, hB.grown hgZ hB.size (fun k e => by cases e; omega)⟩
end Go.Proofs.Ytilgdojnbecglaa.X
