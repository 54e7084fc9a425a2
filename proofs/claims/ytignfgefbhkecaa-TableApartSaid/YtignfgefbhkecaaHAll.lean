/- Table.All: its rounds bring the keys in order, each with what stands there. -/
import Derived.Test.YtignfgefbhkecaaHRise
import Derived.RangeFuncNested
import Derived.RangeFuncBound
import Derived.RangeFuncCalls
import Derived.RangeFuncLeaves
import Derived.RangeFuncBox
import Derived.OwnWalkIn
import Derived.TacticsInMore
import Derived.LoopNIn
import Derived.LoopIn
namespace Go.Proofs.Ytignfgefbhkecaa.X
open Go.RowKit Go.Shelf Go.Proofs.YtignfgefbhkecaaW.PrintWords Go.Proofs.YtignfgefbhkecaaW.PrintLast Go.Proofs.YtignfgefbhkecaaW.PrintMore Go.Proofs.Ytignfgefbhkecaa.KMap
attribute [local go_sem] Oper.semAt_some
set_option linter.unusedVariables false
set_option linter.unusedSimpArgs false
def encQ (p : S32 × Int) : Array Value := #[encK p.1, .int .i64 p.2]
/-- What stands in a table, in order. -/
def rowsOf (es : Ents) : List (S32 × Int) := (sortK (es.map Prod.fst)).map fun k => (k, iget es k)
/-- Rows and maps from b0 on stay. -/
structure KeepsUp (b0 : Nat) (W W' : World) : Prop where
  size : W.heap.size ≤ W'.heap.size
  same : ∀ (j : Nat) (o : Obj), b0 ≤ j → W.heap[j]? = some o → (o.isCells = true ∨ o.isWalk = true) → W'.heap[j]? = some o
theorem KeepsUp.refl (b0 : Nat) (W : World) : KeepsUp b0 W W := ⟨Nat.le_refl _, fun _ _ _ h _ => h⟩
theorem KeepsUp.trans {b0 : Nat} {A B C : World} (h : KeepsUp b0 A B) (k : KeepsUp b0 B C) : KeepsUp b0 A C := ⟨Nat.le_trans h.size k.size, fun j o hj ho hc => k.same j o hj (h.same j o hj ho hc) hc⟩
theorem KeepsUp.below {b0 : Nat} {A B : World} (h : Below A.heap.size A B) : KeepsUp b0 A B := ⟨h.size, fun j o _ ho _ => (h.block j (Array.getElem?_eq_some_iff.1 ho).1).trans ho⟩
theorem TabAt.keeps {w w' : World} {T b b0 : Nat} {es : Ents} (h : TabAt w T b es) (hT : b0 ≤ T) (hb : b0 ≤ b) (hk : KeepsUp b0 w w') : TabAt w' T b es := by
  refine ⟨hk.same T _ hT h.box (.inl rfl), ?_, h.ints⟩
  have hm := h.map
  obtain ⟨arr, clock, hb1, r⟩ := hm
  exact ⟨arr, clock, hk.same b _ hb hb1 (.inr rfl), r⟩
theorem R_keeps {w w' : World} {b0 base : Nat} {v : Value} {xs : List S32} (h : k32.R 32 w base (fun _ => True) v xs) (h0 : b0 ≤ base) (hk : KeepsUp b0 w w') : k32.R 32 w' base (fun _ => True) v xs := by
  have h1 := Kd.R_bound h
  refine Kd.R_mono (Kd.R_move h1 (fun j hj => ?_)) (fun _ _ => trivial)
  obtain ⟨_, hb, hl, q, hq, cells, hc⟩ := hj
  rw [hc]
  exact hk.same j _ (Nat.le_trans h0 hb) hc (.inl rfl)
theorem perm_iget {es es' : Ents} (h : es'.Perm es) (hn : (es.map Prod.fst).Nodup) (k : S32) : iget es' k = iget es k := by
  have hn' : (es'.map Prod.fst).Nodup := (h.map Prod.fst).nodup_iff.2 hn
  have hk : kget es' k = kget es k := by
    cases h1 : kget es' k with
    | none =>
      have h2 := kget_none h1
      cases h3 : kget es k with
      | none => rfl
      | some v =>
        obtain ⟨j, hj⟩ := kget_some h3
        exact absurd ((h.map Prod.fst).mem_iff.2 (List.mem_map.2 ⟨_, List.mem_of_getElem? hj, rfl⟩)) h2
    | some v =>
      obtain ⟨j, hj⟩ := kget_some h1
      have hm : (k, v) ∈ es := h.mem_iff.1 (List.mem_of_getElem? hj)
      cases h3 : kget es k with
      | none => exact absurd (List.mem_map.2 ⟨_, hm, rfl⟩) (kget_none h3)
      | some v' =>
        obtain ⟨j', hj'⟩ := kget_some h3
        have hm' : (k, v') ∈ es := List.mem_of_getElem? hj'
        obtain ⟨i1, hi1, e1⟩ := List.getElem_of_mem hm
        obtain ⟨i2, hi2, e2⟩ := List.getElem_of_mem hm'
        have : i1 = i2 := by
          refine (List.getElem_inj (h₀ := by simpa using hi1) (h₁ := by simpa using hi2) hn).1 ?_
          simp [e1, e2]
        subst this
        rw [e1] at e2
        cases e2
        rfl
  unfold iget
  rw [hk]
set_option maxHeartbeats 4000000 in
set_option maxRecDepth 100000 in
/-- The rounds over a table. -/
theorem all_stops (n : Nat) (hn : 6 ≤ n) (B : Nat) (w : World) {T b : Nat} {es : Ents} (hB : w.cell? ⟨B, 0, none⟩ = some (.pointer (some ⟨T, 0, none⟩))) (hT : TabAt w T b es) (hN : es.length < 8796093022207) :
    SeqStopsK Fence.wide n Try.prog 27 #[.pointer (some ⟨B, 0, none⟩)] encQ (KeepsUp w.heap.size) (fun ps => ps = rowsOf es) (fun pre => ∃ j, pre = (rowsOf es).take j) es.length w := by
  intro l J Jx W hW hJ hJx hY h0
  have hu32 := Try.underlying32
  have hc : W.cell? ⟨B, 0, none⟩ = some (.pointer (some ⟨T, 0, none⟩)) := (hW.cell (World.block_lt_of_cell? w _ hB)).trans hB
  have HT := Aside0.mk (hT.below hW)
  have HWS := Aside0.mk hW.size
  clear hB
  show CallsIn Fence.wide n Try.prog 27 #[.func (.yield l) #[] #[], .pointer (some ⟨B, 0, none⟩)] W _
  refine callsIn_of_wp Try.func27 rfl trivial ?_ rfl
  simp only [Try.ntmps27, List.size_toArray, List.length_cons, List.length_nil, Nat.reduceAdd, Nat.reduceSub, Array.replicate_succ, Array.replicate_zero, List.push_toArray, List.append_toArray, List.nil_append, List.cons_append]
  gi_wp2_with (first
    | (refine ⟨trivial, fun _ => by omega, ?_⟩; gi_at_call 15; refine (callsIn_wide.2 (copy_calls HT.out)).mono ?_; rintro e w1 ⟨T1, b1, es1, rfl, hT1, hp1, hl1, hl2, hb1⟩; have HT1 := Aside0.mk hT1; have HP1 := Aside0.mk hp1; have HB1 := Aside0.mk hb1; have HL1 := Aside0.mk (And.intro hl1 hl2); clear hT1 hp1 hl1 hl2 hb1)
    | (refine ⟨trivial, fun _ => by omega, ?_⟩; gi_at_call 8; refine (callsIn_wide.2 (keys_calls HT1.out (by have := HP1.out.length_eq; omega))).mono ?_; rintro e w2 ⟨v, rfl, hR, hb2⟩; obtain ⟨A, c, rfl, hcc, hC⟩ := Kd.R_reads hR; have HR := Aside0.mk hR; have HT2 := Aside0.mk (HT1.out.below hb2); have HB2 := Aside0.mk (below_step HB1.out hb2); clear hR hb2 hC))
  have hks : sortK (es1.map Prod.fst) = sortK (es.map Prod.fst) := sortK_perm (HP1.out.map Prod.fst)
  have hgi : ∀ k, iget es1 k = iget es k := perm_iget HP1.out HT.out.map.nodup
  have hro : rowsOf es = (sortK (es.map Prod.fst)).map fun k => (k, iget es k) := rfl
  have hkl : (sortK (es.map Prod.fst)).length = es.length := by rw [sortK_len, List.length_map]
  have hlen2 : es.length < 8796093022207 := hN
  rw [hks] at HR hcc ⊢
  generalize sortK (es.map Prod.fst) = ks at HR hcc hro hkl ⊢
  have HRO := Aside0.mk hro
  have HKL := Aside0.mk hkl
  have HGI := Aside0.mk hgi
  have HN := Aside0.mk hlen2
  clear hks hgi hro hkl hN hlen2
  gi_loopw [13] (fun v13 wr => ∃ i : Nat, v13 = .int .i64 (i : Int) ∧ i ≤ ks.length ∧ Aside0 (KeepsUp w.heap.size w2 wr) ∧ Aside0 (W.heap.size ≤ wr.heap.size) ∧ Aside0 (J ((rowsOf es).take i) wr)) (fun v13 _ => ks.length - (Lib.intOf v13).toNat)
  case atStart => exact ⟨0, rfl, Nat.zero_le _, ⟨KeepsUp.refl _ _⟩, ⟨HB2.out.size⟩, ⟨by rw [List.take_zero]; exact hJ [] W w2 none h0 (grownBy_of_below HB2.out none) (fun r e => by cases e)⟩⟩
  case round =>
    obtain ⟨i, rfl, hi, HK, HSZ, HJ⟩ := hrel
    by_cases hlt : i < ks.length
    · have hRw := R_keeps HR.out (Nat.le_trans HWS.out HB1.out.size) HK.out
      obtain ⟨hn1, hn2, hCw⟩ := Kd.R_reads' hRw
      obtain ⟨ad, e, hx0, hx1, hx2⟩ := at_T32 hCw (i : Int) (by omega) (by omega)
      cases e
      have hrd : rd_T32 ks (i : Int) = ks[i] := by simp [rd_T32, List.getD_eq_getElem?_getD, hlt]
      have htk : (rowsOf es).take (i + 1) = (rowsOf es).take i ++ [(ks[i], iget es ks[i])] := by
        rw [HRO.out, List.take_succ_eq_append_getElem (by rw [List.length_map]; exact hlt)]
        simp
      have hpl : ((rowsOf es).take i).length < es.length := by
        rw [List.length_take, HRO.out, List.length_map, ← HKL.out]
        omega
      rw [hrd] at hx0 hx1 hx2
      simp only [Int.toNat_natCast] at hx0 hx1 hx2
      have HTK := Aside0.mk htk
      have HPL := Aside0.mk hpl
      have hgx := HGI.out ks[i]
      generalize ks[i] = x at hx0 hx1 hx2 HTK hgx
      have hTw := HT2.out.keeps (Nat.le_trans HWS.out HL1.out.1) (Nat.le_trans HWS.out HL1.out.2) HK.out
      have hgc := get_calls (hTw.grown (World.grownBy_alloc wr (.cells #[.int .u8 x.f0, .int .u8 x.f1, .int .u8 x.f2] 32) none) (by simp) (by simp)) x
      rw [hgx] at hgc
      dsimp only [encK] at hgc
      have HG := Aside0.mk hgc
      have HLT := Aside0.mk hlt
      have hbx := blk_new wr (.cells #[.int .u8 x.f0, .int .u8 x.f1, .int .u8 x.f2] 32)
      have HBX := Aside0.mk hbx
      have hib : i < 9223372036854775807 := by have := HN.out; have := HKL.out; omega
      clear hRw hn1 hn2 hCw hrd htk hpl hgx hTw hgc hbx
      gi_wp2_with (first
        | (refine ⟨trivial, fun _ => by omega, ?_⟩; gi_at_call 9; refine (callsIn_wide.2 HG.out).mono ?_; rintro e w3 ⟨rfl, hb⟩; have hB3 := below_step (below_alloc (Below.refl wr.heap.size wr) _) hb; have hk0 := (blk_cell (blk_below HBX.out hb) 0).trans rfl; have hk1 := (blk_cell (blk_below HBX.out hb) 1).trans rfl; have hk2 := (blk_cell (blk_below HBX.out hb) 2).trans rfl; have HK3 := Aside0.mk (HK.out.trans (KeepsUp.below (b0 := w.heap.size) hB3)); have HSZ3 := Aside0.mk (Nat.le_trans HSZ.out hB3.size); obtain ⟨fn, tmps, assign, body, hy, hRun⟩ := hY ((rowsOf es).take i) (x, iget es x) w3 (hJ _ wr w3 none HJ.out (grownBy_of_below hB3 none) (fun r e => by cases e)) HPL.out; dsimp only [encQ, encK] at hy; clear hb hB3))
      refine ⟨fun _ => by omega, hRun.mono ?_⟩
      rintro e W4 (⟨rfl, hJ4, hk4⟩ | ⟨rfl, hJx4⟩)
      · have HJ4 := Aside0.mk hJ4
        have HK4 := Aside0.mk hk4
        clear hJ4 hk4 hRun hy
        gi_wp2
        go_roundw
        case rel => exact ⟨i + 1, by go_num, by have := HLT.out; omega, ⟨HK3.out.trans HK4.out⟩, ⟨Nat.le_trans HSZ3.out HK4.out.size⟩, ⟨by rw [HTK.out]; exact HJ4.out⟩⟩
        case measure =>
          have := HLT.out
          simp only [Lib.intOf]
          omega
      · have HJx4 := Aside0.mk hJx4
        clear hJx4 hRun hy
        gi_wp2
        refine bodyPost_ret (results_none rfl _ _ _) rfl ?_
        exact ⟨⟨_, rfl⟩, .inr ⟨_, ⟨i + 1, HTK.out.symm⟩, HJx4.out⟩⟩
    · gi_wp2
      go_end0
      have hall : (rowsOf es).take i = rowsOf es := List.take_of_length_le (by rw [HRO.out, List.length_map]; omega)
      rw [hall] at HJ
      exact ⟨⟨_, rfl⟩, .inl ⟨_, rfl, HJ.out⟩⟩
end Go.Proofs.Ytignfgefbhkecaa.X
