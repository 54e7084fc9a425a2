/- The keys of a map, in order: maps.Keys, slices.Collect, slices.SortedFunc over keys that are structs of three small numbers. -/
import Derived.Test.YtignfgefbhkecaaKMap
import Derived.Test.YtignfgefbhkecaaHIn
import Derived.Test.YtignfgefbhkecaaX1
import Derived.RangeFuncNested
import Derived.RangeFuncBound
import Derived.RangeFuncCalls
import Derived.RangeFuncLeaves
import Derived.RangeFuncBox
import Derived.Shelf.Abstract
import Derived.Shelf.RegionOpen
import Derived.OwnWalkIn
import Derived.TacticsInMore
import Derived.LoopNIn
import Derived.LoopIn
namespace Go.Proofs.Ytignfgefbhkecaa.X
open Go.RowKit Go.Shelf Go.Proofs.YtignfgefbhkecaaW.PrintWords Go.Proofs.YtignfgefbhkecaaW.PrintLast Go.Proofs.YtignfgefbhkecaaW.PrintMore Go.Proofs.Ytignfgefbhkecaa.KMap
attribute [local go_sem] Oper.semAt_some
set_option linter.unusedVariables false
set_option linter.unusedSimpArgs false

def encK (x : S32) : Value := .agg #[.int .u8 x.f0, .int .u8 x.f1, .int .u8 x.f2]
theorem S32.ext' {a b : S32} (h0 : a.f0 = b.f0) (h1 : a.f1 = b.f1) (h2 : a.f2 = b.f2) : a = b := by
  cases a; cases b; simp_all
instance : DecidableEq S32 := fun a b => if h : a.f0 = b.f0 ∧ a.f1 = b.f1 ∧ a.f2 = b.f2 then .isTrue (S32.ext' h.1 h.2.1 h.2.2) else .isFalse fun e => h ⟨by rw [e], by rw [e], by rw [e]⟩
theorem keyLaws : KeyLaws Try.prog 32 encK where
  check em x w := by unfold encK; kernel_rfl
  eq x y w := by
    have h := eqA32 9998 w x.f0 y.f0 x.f1 y.f1 x.f2 y.f2
    have e : (x.f0 == y.f0 && (x.f1 == y.f1 && x.f2 == y.f2)) = decide (x = y) := by
      rw [Bool.eq_iff_iff]
      simp only [Bool.and_eq_true, beq_iff_eq, decide_eq_true_eq]
      exact ⟨fun h => S32.ext' h.1 h.2.1 h.2.2, fun h => by rw [h]; exact ⟨rfl, rfl, rfl⟩⟩
    rw [e] at h
    exact h
  stays x w := by
    unfold encK
    simp [Instr.keyThatStays, Instr.sameBits]
  desc := ⟨_, Try.underlying32, fun x y => rfl⟩

set_option maxRecDepth 100000 in
set_option maxHeartbeats 2000000 in
/-- The iterator that maps.Keys makes: the keys come, each once, in some order. -/
theorem keys1_in (F : Fence) (n : Nat) (h1 : F.fn 31) (hro : F.round = none) (hn : 1 ≤ n) (l Bm b : Nat) (es : List (S32 × Value)) (J Jx : List S32 → World → Prop)
    (hY : ∀ pre x W, J pre W → pre.length < es.length → YieldAt F (n - 1) Try.prog l #[encK x] W fun e W' => (e = .returned (.bool true) ∧ J (pre ++ [x]) W' ∧ KeepsWalks W W') ∨ (e = .returned (.bool false) ∧ Jx (pre ++ [x]) W'))
    (W : World) (hJ : AbidesFrom W.heap.size J) (hm : W.cell? ⟨Bm, 0, none⟩ = some (.map (some b))) (hM : MapAt encK W b es) (h0 : J [] W) :
    CallsIn F n Try.prog 31 #[.func (.yield l) #[] #[], .pointer (some ⟨Bm, 0, none⟩)] W fun e W' => (∃ v, e = .returned v) ∧ ((∃ ks, ks.Perm (es.map Prod.fst) ∧ J ks W') ∨ (∃ pre, True ∧ Jx pre W')) := by
  have hu := Try.underlying32
  have HM := Aside0.mk hM
  clear hM
  refine callsIn_of_wp Try.func31 rfl h1 ?_ hro
  simp only [Try.ntmps31, List.size_toArray, List.length_cons, List.length_nil, Nat.reduceAdd, Nat.reduceSub, Array.replicate_succ, Array.replicate_zero, List.push_toArray, List.append_toArray, List.nil_append, List.cons_append]
  gi_wp2_with (first
    | (gi_at_range; refine wpListIn_range_k rfl (.tmp 4) 55 rfl Try.underlying55 rfl HM.out ?_; intro w0 hit0 hg0 hs0; have HIT := Aside0.mk hit0; have HG0 := Aside0.mk hg0; clear hit0 hg0)
    | gi_in)
  go_frame
  gi_loopw [3] (fun _ wr => ∃ (left : List (S32 × Value)) (ks : List S32), Aside0 (IterAt encK wr b W.heap.size es left) ∧ Aside0 ((ks ++ left.map Prod.fst).Perm (es.map Prod.fst)) ∧ Aside0 (J ks wr) ∧ Aside0 (W.heap.size < wr.heap.size))
    (fun _ wr => wr.rangeLeft b W.heap.size)
  case atStart =>
    exact ⟨es, [], HIT, ⟨List.Perm.refl _⟩, ⟨hJ [] W w0 none h0 HG0.out (fun r e => by cases e)⟩, ⟨by omega⟩⟩
  case round =>
    obtain ⟨left, ks, hit, hP, hJs, hsz⟩ := hrel
    gi_wp2_with (first
      | (gi_at_next; refine wpListIn_next_k rfl (.tmp 5) rfl rfl hit.out ?_ ?_)
      | gi_in)
    · intro hl0
      have HP := hP.out
      rw [hl0] at HP
      simp only [List.map_nil, List.append_nil] at HP
      gi_wp2
      go_end0
      exact ⟨⟨_, rfl⟩, .inl ⟨ks, HP, hJs.out⟩⟩
    · intro pk pv left' w2 hp hit2 hg2 hs2 hen
      have HEN := Aside0.mk hen
      have hJ2 : J ks w2 := hJ ks wr w2 (some W.heap.size) hJs.out hg2 (fun r e => by cases e; exact ⟨Nat.le_refl _, hit.out.obj⟩)
      have hlen : ks.length < es.length := by
        have h1 := hP.out.length_eq
        have h2 := hp.length_eq
        simp only [List.length_append, List.length_map, List.length_cons] at h1 h2
        omega
      have hJ3 : J ks (w2.alloc (.cells #[.int .u8 pk.f0, .int .u8 pk.f1, .int .u8 pk.f2] 32)) := hJ ks w2 _ none hJ2 (World.grownBy_alloc _ _ _) (fun r e => by cases e)
      obtain ⟨fn, tmps, assign, body, hy, hR⟩ := hY ks pk _ hJ3 hlen
      have HIT2 := Aside0.mk hit2
      have HP2 := Aside0.mk hp
      have HM1 := Aside0.mk hit.out.measure
      clear hit2 hg2 hp hJ2 hJ3
      unfold encK at hen hy
      gi_wp2
      refine hR.mono ?_
      rintro e W3 (⟨rfl, hJ4, hk3⟩ | ⟨rfl, hJx3⟩)
      · have hit3 := (HIT2.out.walks (KeepsWalks.alloc _ _)).walks hk3
        have HIT3 := Aside0.mk hit3
        have hm3 := Aside0.mk hit3.measure
        have HSZ := Aside0.mk hk3.size
        clear hit3
        gi_wp2
        go_roundw
        case rel =>
          refine ⟨left', ks ++ [pk], HIT3, ⟨?_⟩, ⟨hJ4⟩, ⟨?_⟩⟩
          · refine List.Perm.trans ?_ hP.out
            rw [List.append_assoc]
            exact List.Perm.append_left ks (HP2.out.map Prod.fst).symm
          · have h1 := HSZ.out; have h2 := hsz.out; simp at h1; omega
        case measure =>
          rw [hm3.out, HM1.out]
          have := HP2.out.length_eq
          simp at this
          omega
      · gi_wp2
        refine bodyPost_ret (results_none rfl _ _ _) rfl ?_
        exact ⟨⟨_, rfl⟩, .inr ⟨_, trivial, hJx3⟩⟩

/-- maps.Keys(m) hands back a value whose rounds bring the keys, each once. -/
theorem keys_stops (F : Fence) (n : Nat) (h1 : F.fn 31) (hro : F.round = none) (hn : 1 ≤ n) (Bm b : Nat) (es : List (S32 × Value)) (w : World) (hm : w.cell? ⟨Bm, 0, none⟩ = some (.map (some b))) (hM : MapAt encK w b es) :
    SeqStopsK F n Try.prog 31 #[.pointer (some ⟨Bm, 0, none⟩)] (fun x => #[encK x]) KeepsWalks (fun ks => ks.Perm (es.map Prod.fst)) (fun _ => True) es.length w := fun l J Jx W hW hJ _ hY h0 =>
  keys1_in F n h1 hro hn l Bm b es J Jx hY W hJ ((hW.cell (World.block_lt_of_cell? w _ hm)).trans hm) (hM.below hW) h0
set_option maxHeartbeats 1000000 in
theorem keys_in (F : Fence) (n : Nat) (h1 : F.fn 23) (hro : F.round = none) (m : Option Nat) (w : World) :
    CallsIn F n Try.prog 23 #[.map m] w fun e w' => e = .returned (.func (.func 31) #[] #[.pointer (some ⟨w.heap.size, 0, none⟩)]) ∧ w' = w.alloc (.cells #[.map m] 55) := by
  refine callsIn_of_wp Try.func23 rfl h1 ?_ hro
  simp only [Try.ntmps23, List.size_toArray, List.length_cons, List.length_nil, Nat.reduceAdd, Nat.reduceSub, Array.replicate_succ, Array.replicate_zero, List.push_toArray, List.append_toArray, List.nil_append, List.cons_append]
  gi_wp2
  go_ret
  exact ⟨rfl, rfl⟩

/-- What AppendSeq holds between two rounds. -/
def AppI (w : World) (Bs : Nat) (pre : List S32) (W : World) : Prop :=
  (∃ v, Boxed W Bs 27 v ∧ k32.R 32 W w.heap.size (fun _ => True) v pre ∧ (v = .slice none 0 0 ↔ pre = [])) ∧ Below w.heap.size w W
theorem MK32 (w w1 : World) (base : Nat) (ok ok' : Nat → Prop) (x : S32) (cs : List Value) (h : k32.M w base ok x cs) : k32.M w1 base ok' x cs := by
  obtain rfl := k32_openM h
  exact k32_mkM _ _ _ _
theorem RK_grown {w w1 : World} {base : Nat} {v : Value} {xs : List S32} {row : Option Nat} (h : k32.R 32 w base (fun _ => True) v xs) (hg : w.grownBy w1 row) (hne : v.ownBlock = none ∨ v.ownBlock ≠ row) : k32.R 32 w1 base (fun _ => True) v xs := by
  obtain ⟨h0, inner, ho, hr⟩ := h
  exact ⟨h0, inner, ho.kept hg hne, hr.imp_ (fun _ _ hq => MK32 _ _ _ _ _ _ _ hq)⟩
theorem RK_step {X Y : World} {row : Option Nat} {base : Nat} {v : Value} {xs : List S32} (h : k32.R 32 X base (fun _ => True) v xs) (hg : X.grownBy Y row) (hr : ∀ r, row = some r → ∃ o : Obj, X.heap[r]? = some o ∧ o.isCells = false) : k32.R 32 Y base (fun _ => True) v xs := by
  refine RK_grown h hg ?_
  cases hv : v.ownBlock with
  | none => exact .inl rfl
  | some k =>
    refine .inr fun e => ?_
    obtain ⟨o, ho, hc⟩ := hr k e.symm
    exact R_not_obj h ho hc hv.symm
theorem AppI_own (w : World) (Bs B : Nat) (hB : w.heap.size ≤ B) : OwnFrom B (AppI w Bs) := by
  refine OwnFrom.and (fun s X Y row hs hg hr => ?_) (ownFrom_below (Nat.le_refl _) hB)
  have hr' : ∀ r, row = some r → ∃ o : Obj, X.heap[r]? = some o ∧ o.isCells = false := fun r e => (hr r e).2
  obtain ⟨v, b1, hR, hn⟩ := hs
  refine ⟨v, b1.kept hg (fun e => ?_), RK_step hR hg hr', hn⟩
  obtain ⟨o, ho, hc⟩ := hr' Bs e.symm
  rw [show X.heap[Bs]? = _ from b1] at ho
  cases ho; cases hc
theorem own_cellsK {W : World} {base : Nat} {ok : Nat → Prop} {v : Value} {xs : List S32} (h : k32.R 32 W base ok v xs) : ∀ (j : Nat) (o : Obj), v.ownBlock = some j → W.heap[j]? = some o → o.isCells = true := by
  intro j o hj ho
  cases hc : o.isCells with
  | true => rfl
  | false => exact absurd hj.symm (R_not_obj h ho hc)
theorem app_round {w W w3 : World} {Bs N : Nat} {v v1 : Value} {pre : List S32} {x : S32} (hBs : w.heap.size ≤ Bs) (hB : Below w.heap.size w W) (hb : Boxed W Bs 27 v) (hR : k32.R 32 W w.heap.size (fun _ => True) v pre)
    (ho : k32.R 32 w3 w.heap.size (fun _ => True) v1 (pre ++ [x])) (hg : W.grownBy w3 v.ownBlock) (a : Act) :
    ownPostG N KeepsWalks (AppI w Bs) (fun _ _ _ => False) (pre ++ [x]) W .normal a (w3.setCell ⟨Bs, 0, none⟩ v1) := by
  have c3 := hb.kept hg (R_not_box hR hb (by decide))
  have hb0 : ∀ k, v.ownBlock = some k → w.heap.size ≤ k := by
    obtain ⟨_, inner, hw, _⟩ := hR
    exact own_base hw
  have hk : KeepsOthers W (w3.setCell ⟨Bs, 0, none⟩ v1) := (KeepsOthers.of_grownBy hg (own_cellsK hR)).trans (KeepsOthers.setCell _ _ _)
  refine ⟨hk.from _, hk.walks, ⟨v1, c3.set v1, RK_grown ho (grownBy_setCell' w3 Bs v1) (.inr (R_not_box ho c3 (by decide)).symm), ?_⟩, (hB.grown hg hB.size hb0).setCell (p := ⟨Bs, 0, none⟩) hBs _⟩
  constructor
  · rintro rfl
    have := (Kd.R_reads' ho).1
    simp at this
  · intro h; simp at h

set_option maxRecDepth 100000 in
set_option maxHeartbeats 2000000 in
/-- slices.AppendSeq(nil, seq), over whatever such value. -/
theorem appendSeq_in (F : Fence) (n : Nat) (h1 : F.fn 33) (hro : F.round = none) (hn : 3 ≤ n) (gf : Nat) (lb : Array Value) (hgf : F.fn gf) (eg : ∀ args w, (callFunc gf args).run Try.prog w = .ok (.enter gf args) w) (S Sp : List S32 → Prop) (N : Nat) (hN : N < 8796093022207) (w : World)
    (hseq : ∀ W, Below w.heap.size w W → SeqStopsK F (n - 1) Try.prog gf lb (fun x => #[encK x]) KeepsWalks S Sp N W) :
    CallsIn F n Try.prog 33 #[.slice none 0 0, .func (.func gf) #[] lb] w fun e w' => ∃ v ks, e = .returned v ∧ S ks ∧ k32.R 32 w' w.heap.size (fun _ => True) v ks ∧ (v = .slice none 0 0 ↔ ks = []) ∧ Below w.heap.size w w' := by
  have hu := Try.underlying32
  refine callsIn_of_wp_marks Try.func33 rfl h1 ?_ hro
  simp only [Try.ntmps33, List.size_toArray, List.length_cons, List.length_nil, Nat.reduceAdd, Nat.reduceSub, Array.replicate_succ, Array.replicate_zero, List.push_toArray, List.append_toArray, List.nil_append, List.cons_append]
  gi_wp2
  have hI0 : AppI w w.heap.size [] (w.alloc (Obj.cells #[Value.slice none 0 0] 27)) := ⟨⟨_, Boxed.new w 27 _, Kd.R_nil _ _ _ _ _, by simp⟩, below_alloc (Below.refl _ _) _⟩
  have hbw : Below w.heap.size w (w.alloc (Obj.cells #[Value.slice none 0 0] 27)) := below_alloc (Below.refl _ _) _
  have hsz : (w.alloc (Obj.cells #[Value.slice none 0 0] 27)).heap.size = w.heap.size + 1 := by simp
  generalize w.alloc (Obj.cells #[Value.slice none 0 0] 27) = w1 at hI0 hbw hsz
  have o1 : w.heap.size < w1.heap.size := by omega
  clear hsz
  refine wpIn_rangeFunc_ownH hro (by omega) (gf := gf) (lb := lb) rfl hgf eg (hseq w1 hbw) (fun h k => walksK_t h k) (fun W l o o' hl ho hc hw => walksK_b (w := w1) W l o o' hl ho hc hw) (Below.refl _ _) (fun _ => rfl)
    (AppI w w.heap.size) (fun _ _ _ => False) (AppI_own w w.heap.size _ (by omega)) (fun c s X Y row hs hg hr => hs) hI0
    (fun x a' W => ∃ Bx, w.heap.size < Bx ∧ W.heap[Bx]? = some (.cells #[.int .u8 x.f0, .int .u8 x.f1, .int .u8 x.f2] 32 (0, 0)) ∧ a' = { tmps := #[.slice none 0 0, .func (.func gf) #[] lb, .pointer (some ⟨w.heap.size, 0, none⟩), undef, .slice none 0 0, .pointer (some ⟨Bx, 0, none⟩), .func (.func gf) #[] lb, .agg #[.int .u8 x.f0, .int .u8 x.f1, .int .u8 x.f2], undef, undef, undef, undef, undef], defers := [] })
    ?hAx ?assign ?body ?done ?stop
  case hAx =>
    intro x a' s X Y row hs hg hr
    obtain ⟨Bx, h1, h2, h3⟩ := hs
    refine ⟨Bx, h1, ?_, h3⟩
    refine (hg.block Bx (Array.getElem?_eq_some_iff.1 h2).1 (fun e => ?_)).trans h2
    obtain ⟨_, o, ho, hc⟩ := hr Bx e.symm
    rw [h2] at ho
    cases ho; cases hc
  case assign =>
    intro l pre x W K hI hK
    have hlt := hI.1
    obtain ⟨v, hb, _⟩ := hlt
    have hbl := hb.lt
    simp only [encK, List.zip_toArray, List.foldl_toArray, List.zip_cons_cons, List.zip_nil_left, List.foldl_cons, List.foldl_nil, List.setIfInBounds_toArray, List.set_cons_succ, List.set_cons_zero]
    gi_wp2
    refine hK _ _ ((KeepsOthers.alloc _ _).from _) (KeepsWalks.alloc _ _) ((AppI_own w w.heap.size w.heap.size (Nat.le_refl _)).alloc _ hI) ⟨W.heap.size, hbl, World.alloc_heap_new W _, rfl⟩
  case body =>
    rintro l pre x a' W hl hr ⟨⟨v, hb, hR, hn⟩, hB⟩ ⟨Bx, hBx, bX, rfl⟩ hlp
    have hbc := hb.cell
    have hbf := hb.frozen
    have hx0 : W.cell? ⟨Bx, 0, none⟩ = some (.int .u8 x.f0) := (blk_cell bX 0).trans rfl
    have hx1 : W.cell? ⟨Bx, 1, none⟩ = some (.int .u8 x.f1) := (blk_cell bX 1).trans rfl
    have hx2 : W.cell? ⟨Bx, 2, none⟩ = some (.int .u8 x.f2) := (blk_cell bX 2).trans rfl
    have HRr := Aside0.mk hR
    have HBr := Aside0.mk hB
    have BX := Aside0.mk hb
    clear hR hB hb hr bX hn
    gi_wp2_with (first
      | (gi_at_builtin; refine R_append_in k32 (w0 := w) w.heap.size rfl (.tmp 8) (.tmp 10) 27 32 (.agg #[.int .u8 0, .int .u8 0, .int .u8 0]) 3 rfl Try.underlying27 info32 rfl (by decide) (by omega) v pre x [.int .u8 x.f0, .int .u8 x.f1, .int .u8 x.f2] (fun _ => True) (fun _ => False) rfl rfl ?aP (fun _ hk => hk.elim) (fun _ _ => trivial) ?aO ?aB ?aS ?aL ?_; (case aP => exact k32_mkM _ _ _ x); (case aO => exact HRr.out); (case aB => exact HBr.out); (case aS => exact HBr.out.size); (case aL => omega); intro v1 w3 ho hb hg hat hg2; have c3 := BX.out.kept hg (R_not_box HRr.out BX.out (by decide)); have c3c := c3.cell; have c3f := c3.frozen; have HO := Aside0.mk ho; have HG := Aside0.mk hg; clear c3 ho hb hg hat hg2; obtain ⟨A1, k1, e1, _, _⟩ := Kd.R_reads HO.out; cases e1))
    exact app_round (Nat.le_refl _) HBr.out BX.out HRr.out (by have h_ := HO.out; rwa [List.length_append, List.length_singleton] at h_) HG.out _
  case done =>
    rintro D ks W hD hS ⟨⟨v, hb, hR, hn⟩, hB⟩ hK
    have hbc := hb.cell
    have HB := Aside0.mk hB
    have HR := Aside0.mk hR
    have HN := Aside0.mk hn
    obtain ⟨A1, k1, rfl, _, _⟩ := Kd.R_reads hR
    clear hB hR hb hn
    gi_wp2
    refine ⟨by simp, .inl ⟨_, _, rfl, run_takeDeferred hK, ?_⟩⟩
    have hgZ := grownBy_putObj' W D (.deferred none)
    refine ⟨.slice A1 ks.length k1, results_tmp (t := 4) rfl _ _ _, .slice A1 ks.length k1, ks, rfl, hS, RK_step HR.out hgZ (fun r e => by cases e; exact ⟨_, hK, rfl⟩), HN.out, HB.out.grown hgZ HB.out.size (fun k e => by cases e; omega)⟩
  case stop =>
    rintro D c pre W hD _ h _
    exact h.elim

set_option maxRecDepth 100000 in
set_option maxHeartbeats 2000000 in
/-- slices.Collect(seq). -/
theorem collect_in (F : Fence) (n : Nat) (h0 : F.fn 29) (h1 : F.fn 33) (hro : F.round = none) (hn : 4 ≤ n) (gf : Nat) (lb : Array Value) (hgf : F.fn gf) (eg : ∀ args w, (callFunc gf args).run Try.prog w = .ok (.enter gf args) w) (S Sp : List S32 → Prop) (N : Nat) (hN : N < 8796093022207) (w : World)
    (hseq : ∀ W, Below w.heap.size w W → SeqStopsK F (n - 1 - 1) Try.prog gf lb (fun x => #[encK x]) KeepsWalks S Sp N W) :
    CallsIn F n Try.prog 29 #[.func (.func gf) #[] lb] w fun e w' => ∃ v ks, e = .returned v ∧ S ks ∧ k32.R 32 w' w.heap.size (fun _ => True) v ks ∧ (v = .slice none 0 0 ↔ ks = []) ∧ Below w.heap.size w w' := by
  refine callsIn_of_wp Try.func29 rfl h0 ?_ hro
  simp only [Try.ntmps29, List.size_toArray, List.length_cons, List.length_nil, Nat.reduceAdd, Nat.reduceSub, Array.replicate_succ, Array.replicate_zero, List.push_toArray, List.append_toArray, List.nil_append, List.cons_append]
  gi_wp2_with (refine ⟨fun _ => by omega, ?_⟩; gi_at_call 33; refine (appendSeq_in F (n - 1) h1 hro (by omega) gf lb hgf eg S Sp N hN _ hseq).mono ?_; rintro e w1 ⟨v, ks, rfl, hS, hR, hN2, hB⟩; have HS := Aside0.mk hS; have HR := Aside0.mk hR; have HN2 := Aside0.mk hN2; have HB := Aside0.mk hB; clear hS hR hN2 hB)
  go_ret
  exact ⟨v, ks, rfl, HS.out, HR.out, HN2.out, HB.out⟩
end Go.Proofs.Ytignfgefbhkecaa.X
