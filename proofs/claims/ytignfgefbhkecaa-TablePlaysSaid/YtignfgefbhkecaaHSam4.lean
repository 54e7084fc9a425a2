/- same, walked: a table has just these rows. -/
import Derived.Test.YtignfgefbhkecaaHAll
import Derived.Test.YtignfgefbhkecaaHRound
namespace Go.Proofs.Ytignfgefbhkecaa.X
open Go.RowKit Go.Shelf Go.Proofs.YtignfgefbhkecaaW.PrintWords Go.Proofs.YtignfgefbhkecaaW.PrintLast Go.Proofs.YtignfgefbhkecaaW.PrintMore Go.Proofs.Ytignfgefbhkecaa.KMap
attribute [local go_sem] Oper.semAt_some
attribute [local go_sem high] eqA32
set_option linter.unusedVariables false
set_option linter.unusedSimpArgs false
theorem rget_mem {rows : List S61} (h : Rise rows) {r : S61} (hr : r ∈ rows) : rget rows r.f0 = some r.f1 := by
  induction rows with
  | nil => simp at hr
  | cons q rs ih =>
    unfold Rise at h
    rw [List.pairwise_cons] at h
    rw [rget_cons]
    rcases List.mem_cons.1 hr with rfl | hr
    · rw [if_pos rfl]
    · have hlt := h.1 r hr
      rw [if_neg (fun e => by rw [e, ltK_irr] at hlt; cases hlt)]
      exact ih h.2 hr
theorem rget_none {rows : List S61} {k : S32} (h : k ∉ rows.map (·.f0)) : rget rows k = none := by
  induction rows with
  | nil => rfl
  | cons q rs ih =>
    rw [List.map_cons, List.mem_cons, not_or] at h
    rw [rget_cons, if_neg (fun e => h.1 e.symm)]
    exact ih h.2
/-- A table's keys are its rows' keys. -/
theorem rel_keys {es : Ents} {rows : List S61} (h : TRel es rows) (hn : (es.map Prod.fst).Nodup) : sortK (es.map Prod.fst) = rows.map (·.f0) := by
  have hs : (rows.map (·.f0)).Pairwise (fun a b => ltK a b = true) := by
    rw [List.pairwise_map]
    exact h.rise
  have hn2 : (rows.map (·.f0)).Nodup := hs.imp (fun {a b} h e => by subst e; rw [ltK_irr] at h; cases h)
  refine sortK_eq ((List.perm_ext_iff_of_nodup hn hn2).2 (fun k => ?_)) (hs.imp (fun {a b} h => lt_le h))
  rw [← kget_isSome, h.get k]
  constructor
  · intro h1
    cases hr : rget rows k with
    | none => rw [hr] at h1; cases h1
    | some v =>
      by_cases hk : k ∈ rows.map (·.f0)
      · exact hk
      · rw [rget_none hk] at hr; cases hr
  · intro hk
    obtain ⟨r, hr, rfl⟩ := List.mem_map.1 hk
    rw [rget_mem h.rise hr]
    rfl
theorem rel_rows {es : Ents} {rows : List S61} (h : TRel es rows) (hn : (es.map Prod.fst).Nodup) : rowsOf es = rows.map fun r => (r.f0, r.f1) := by
  unfold rowsOf
  rw [rel_keys h hn, List.map_map]
  apply List.map_congr_left
  intro r hr
  have : iget es r.f0 = r.f1 := by
    unfold iget
    rw [h.get, rget_mem h.rise hr]
    rfl
  simp only [Function.comp, this]
theorem rel_len {es : Ents} {rows : List S61} (h : TRel es rows) (hn : (es.map Prod.fst).Nodup) : es.length = rows.length := by
  have := congrArg List.length (rel_keys h hn)
  rw [sortK_len, List.length_map, List.length_map] at this
  exact this

/-- What same holds between two rounds. -/
def SameI (w0 : World) (B3 Br B5 B7 : Nat) (A : Option Addr) (c : Nat) (A1 : Option Addr) (c1 : Nat) (rows : List S61) (pre : List (S32 × Int)) (W : World) : Prop :=
  (W.heap[B3]? = some (.cells #[.slice A rows.length c] 24 (0, 0)) ∧ W.heap[Br]? = some (.cells #[.bool false] 4 (0, 0)) ∧ W.heap[B5]? = some (.cells #[.slice A1 rows.length c1] 27 (0, 0)) ∧ W.heap[B7]? = some (.cells #[.int .i64 (pre.length : Nat)] 3 (0, 0)) ∧
    k32.R 32 W w0.heap.size (fun _ => True) (.slice A1 rows.length c1) (rows.map (·.f0)) ∧ pre = (rows.map fun r => (r.f0, r.f1)).take pre.length) ∧ Below w0.heap.size w0 W
theorem SameI_own (w0 : World) (B3 Br B5 B7 : Nat) (A : Option Addr) (c : Nat) (A1 : Option Addr) (c1 : Nat) (rows : List S61) (B : Nat) (hB : w0.heap.size ≤ B) : OwnFrom B (SameI w0 B3 Br B5 B7 A c A1 c1 rows) := by
  refine OwnFrom.and (fun s X Y row hs hg hr => ?_) (ownFrom_below (Nat.le_refl _) hB)
  obtain ⟨h1, h2, h3, h4, h5, h6⟩ := hs
  have ne : ∀ (b : Nat) (o : Obj), X.heap[b]? = some o → o.isCells = true → some b ≠ row := by
    intro b o hb hc e
    obtain ⟨_, o', ho', hc'⟩ := hr b e.symm
    rw [hb] at ho'
    cases ho'
    rw [hc] at hc'
    cases hc'
  exact ⟨blk_grown h1 hg (ne _ _ h1 rfl), blk_grown h2 hg (ne _ _ h2 rfl), blk_grown h3 hg (ne _ _ h3 rfl), blk_grown h4 hg (ne _ _ h4 rfl), RK_step h5 hg (fun r e => (hr r e).2), h6⟩
theorem KeepsUp.putObj {b0 : Nat} (W : World) (l : Nat) (o o' : Obj) (h : W.heap[l]? = some o) (hc : o.isCells = false) (hw : o.isWalk = false) : KeepsUp b0 W (W.putObj l o') := by
  refine ⟨(grownBy_putObj' W l o').size, fun j q _ hq hk => ?_⟩
  have hne : some j ≠ some l := by
    intro e
    cases e
    rw [h] at hq
    cases hq
    rcases hk with hk | hk
    · rw [hc] at hk; cases hk
    · rw [hw] at hk; cases hk
  exact ((grownBy_putObj' W l o').block j (Array.getElem?_eq_some_iff.1 hq).1 hne).trans hq
theorem wide_fn (f : FuncId) : Fence.wide.fn f = True := rfl
attribute [local simp, local go_sem] wide_fn
theorem func_not_nil2 (p : Array Value) (W : World) : (binOp .eql 47 (.func (.func 27) #[] p) .nilFunc).run Try.prog W = .ok (.bool false) W := by kernel_rfl
theorem res14 (tmps : Array Value) (W : World) (B : Nat) (b : Bool) (h2 : tmps.getD 4 undef = .pointer (some ⟨B, 0, none⟩)) (c2 : W.heap[B]? = some (.cells #[.bool b] 4 (0, 0))) : (results Try.f14 tmps).run Try.prog W = .ok (.bool b) W := by
  have e2 := (blk_cell c2 0).trans rfl
  have hr : Try.f14.results = #[.cell 4 4] := rfl
  rw [Array.getD_eq_getD_getElem?] at h2
  simp only [results, hr]
  go_simp
theorem SameI_next {w : World} {b0 B3 Br B5 B7 : Nat} {A : Option Addr} {c : Nat} {A1 : Option Addr} {c1 : Nat} {rows : List S61} {pre : List (S32 × Int)} {W : World} {x : S32 × Int} {Ix : Code → List (S32 × Int) → World → Prop} {a : Act} (h : SameI w B3 Br B5 B7 A c A1 c1 rows pre W) (hB7 : B7 < b0) (hw : w.heap.size ≤ B7) (hl : pre.length < 100) (hx : pre ++ [x] = (rows.map fun r => (r.f0, r.f1)).take (pre.length + 1)) (nq : Nat) :
    ownPostG b0 (KeepsUp b0) (SameI w B3 Br B5 B7 A c A1 c1 rows) Ix (pre ++ [x]) W .normal a ((W.drewN nq).setCell ⟨B7, 0, none⟩ (.int .i64 (wrap64 ((pre.length : Nat) + 1)))) := by
  obtain ⟨⟨h3, hr, h5, h7, hR, hp⟩, hB⟩ := h
  have e1 : wrap64 ((pre.length : Nat) + 1) = (((pre ++ [x]).length : Nat) : Int) := by unfold wrap64; simp; omega
  have g := grownBy_setCell' (W.drewN nq) B7 (.int .i64 (wrap64 ((pre.length : Nat) + 1)))
  have hsz : W.heap.size ≤ ((W.drewN nq).setCell ⟨B7, 0, none⟩ (.int .i64 (wrap64 ((pre.length : Nat) + 1)))).heap.size := g.size
  have keep : ∀ (k : Nat) (o : Obj), k ≠ B7 → W.heap[k]? = some o → ((W.drewN nq).setCell ⟨B7, 0, none⟩ (.int .i64 (wrap64 ((pre.length : Nat) + 1)))).heap[k]? = some o := fun k o hk ho =>
    (g.block k (blk_lt (blk_drewN ho nq)) (fun e => hk (Option.some.inj e))).trans (blk_drewN ho nq)
  refine ⟨⟨hsz, fun k o hk ho _ => keep k o (by omega) ho⟩, ⟨hsz, fun k o hk ho _ => keep k o (by omega) ho⟩, ⟨?_, ?_, ?_, ?_, ?_, ?_⟩, ?_⟩
  · exact keep _ _ (blk_ne h3 h7 (by decide)) h3
  · exact keep _ _ (blk_ne hr h7 (by decide)) hr
  · exact keep _ _ (blk_ne h5 h7 (by decide)) h5
  · rw [← e1]
    exact blk_set (blk_drewN h7 nq) 0 _
  · refine RK_grown (Kd.R_drewN hR nq) g (.inr ?_)
    intro e
    have hb := Kd.R_bound hR
    obtain ⟨_, _, _, q, hq, cells, hc⟩ := hb.1 _ e
    rw [h7] at hc
    have hq' : q = 32 := by simpa [show k32.E = [] from rfl] using hq
    subst hq'
    cases hc
  · rw [hx]
    congr 1
    rw [List.length_take]
    have := congrArg List.length hx
    rw [List.length_append, List.length_take, List.length_singleton] at this
    omega
  · exact (pw_below_drewN hB nq).setCell (p := ⟨B7, 0, none⟩) (by exact hw) _
theorem not_pre {rows : List S61} {pre : List (S32 × Int)} {x : S32 × Int} (hlt : pre.length < rows.length) (hne : x ≠ ((rows[pre.length]).f0, (rows[pre.length]).f1)) : ¬ ∃ j, pre ++ [x] = (rows.map fun r => (r.f0, r.f1)).take j := by
  rintro ⟨j, h⟩
  have h1 := congrArg (fun l => l[pre.length]?) h
  have h2 := congrArg List.length h
  simp only [List.length_append, List.length_singleton, List.length_take, List.length_map] at h2
  simp only [List.getElem?_append_right (Nat.le_refl _), Nat.sub_self, List.getElem?_cons_zero, List.getElem?_take, List.getElem?_map] at h1
  rw [if_pos (by omega), List.getElem?_eq_getElem hlt] at h1
  exact hne (Option.some.inj h1)
theorem bad_round {w : World} {b0 B3 Br B5 B7 : Nat} {A : Option Addr} {c : Nat} {A1 : Option Addr} {c1 : Nat} {rows : List S61} {pre : List (S32 × Int)} {W : World} {x : S32 × Int} {a : Act} (h : SameI w B3 Br B5 B7 A c A1 c1 rows pre W) (hBr : Br < b0) (hn : ¬ ∃ j, pre ++ [x] = (rows.map fun r => (r.f0, r.f1)).take j) (nq : Nat) :
    ownPostG b0 (KeepsUp b0) (SameI w B3 Br B5 B7 A c A1 c1 rows) (fun _ pre _ => ¬ ∃ j, pre = (rows.map fun r => (r.f0, r.f1)).take j) (pre ++ [x]) W .ret a ((W.drewN nq).setCell ⟨Br, 0, none⟩ (.bool false)) := by
  have g := grownBy_setCell' (W.drewN nq) Br (.bool false)
  exact ⟨⟨g.size, fun k o hk ho _ => (g.block k (blk_lt (blk_drewN ho nq)) (fun e => by cases e; omega)).trans (blk_drewN ho nq)⟩, hn⟩
set_option maxHeartbeats 8000000 in
set_option maxRecDepth 100000 in
theorem same_calls {w : World} {T b : Nat} {es : Ents} {rows : List S61} {A : Option Addr} {c : Nat} (hT : TabAt w T b es) (hC : Kd.C k61 w A rows.length rows) (hc : rows.length ≤ c) (hR : TRel es rows) (hl : rows.length ≤ 60) :
    Calls Try.prog 14 #[.pointer (some ⟨T, 0, none⟩), .slice A rows.length c] w fun e w' => e = .returned (.bool true) ∧ Below w.heap.size w w' := by
  have hu32 := Try.underlying32
  have hu61 := Try.underlying61
  have hfn := func_not_nil2
  have HKEY := Aside0.mk (rel_keys hR hT.map.nodup)
  have HROW := Aside0.mk (rel_rows hR hT.map.nodup)
  have HLEN := Aside0.mk (rel_len hR hT.map.nodup)
  have hT1 := (hT.grown (World.grownBy_alloc w (.cells #[.slice A rows.length c] 24) none) (by simp) (by simp)).grown (World.grownBy_alloc (w.alloc (.cells #[.slice A rows.length c] 24)) (.cells #[.bool false] 4) none) (by simp) (by simp)
  have HT1 := Aside0.mk hT1
  have HL := Aside0.mk hl
  clear hT1 hl
  refine (callsIn_wide (n := 10)).1 ?_
  refine callsIn_of_wp_marks Try.func14 rfl trivial ?_ rfl
  simp only [Try.ntmps14, List.size_toArray, List.length_cons, List.length_nil, Nat.reduceAdd, Nat.reduceSub, Array.replicate_succ, Array.replicate_zero, List.push_toArray, List.append_toArray, List.nil_append, List.cons_append]
  gi_wp2_with (first
    | (gi_at_call 8; refine (callsIn_wide.2 (keys_calls HT1.out (by have := HLEN.out; have := HL.out; omega))).mono ?_; rintro e w1 ⟨v, rfl, hR1, hb⟩; rw [HKEY.out] at hR1; have HT2 := Aside0.mk (HT1.out.below hb); have HR1 := Aside0.mk hR1; have hb1 := blk_below (two0 w (.cells #[.slice A rows.length c] 24) (.cells #[.bool false] 4)) hb; have hb2 := blk_below (two1 w (.cells #[.slice A rows.length c] 24) (.cells #[.bool false] 4)) hb; have HBX := Aside0.mk (And.intro hb1 hb2); have hk3 := (blk_cell hb1 0).trans rfl; obtain ⟨A1, c1, rfl, hc1, _⟩ := Kd.R_reads hR1; have HB1 := Aside0.mk (below_step (below_alloc (below_alloc (Below.refl _ _) _) _) hb); clear hR1 hb hb1 hb2))
  have hT3 : ∀ n, TabAt ((w1.alloc (.cells #[.slice A1 rows.length c1] 27)).drewN n) T b es := fun n => (HT2.out.grown (World.grownBy_alloc w1 _ none) (by simp) (by simp)).below (pw_below_drewN (Below.refl _ _) n)
  have HT3 := Aside0.mk hT3
  have hln : ∀ n, Calls Try.prog 11 #[.pointer (some ⟨T, 0, none⟩)] ((w1.alloc (.cells #[.slice A1 rows.length c1] 27)).drewN n) fun e w' => e = .returned (.int .i64 (rows.length : Nat)) ∧ w' = (w1.alloc (.cells #[.slice A1 rows.length c1] 27)).drewN n := fun n => by
    have h := len_calls (hT3 n)
    rw [HLEN.out] at h
    exact h
  have HLN := Aside0.mk hln
  have h5 := (blk_cell (blk_new w1 (.cells #[.slice A1 rows.length c1] 27)) 0).trans rfl
  have hk3' : (w1.alloc (.cells #[.slice A1 rows.length c1] 27)).cell? ⟨w.heap.size, 0, none⟩ = some (.slice A rows.length c) := (blk_cell (blk_alloc HBX.out.1 _) 0).trans rfl
  have h5' : (w1.alloc (.cells #[.slice A1 rows.length c1] 27)).cell? ⟨w1.heap.size, 0, none⟩ = some (.slice A1 rows.length c1) := h5
  have HBX2 := Aside0.mk (And.intro (blk_alloc HBX.out.1 (.cells #[.slice A1 rows.length c1] 27)) (And.intro (blk_alloc HBX.out.2 (.cells #[.slice A1 rows.length c1] 27)) (blk_new w1 (.cells #[.slice A1 rows.length c1] 27))))
  have HB2 := Aside0.mk (below_alloc HB1.out (.cells #[.slice A1 rows.length c1] 27))
  have hsl : w.heap.size + 1 < w1.heap.size := blk_lt HBX.out.2
  clear hT3 hln
  have HR2 := Aside0.mk (Kd.R_alloc (Kd.R_lower HR1.out (show w.heap.size ≤ ((w.alloc (.cells #[.slice A rows.length c] 24)).alloc (.cells #[.bool false] 4)).heap.size by simp; omega)) (.cells #[.slice A1 rows.length c1] 27))
  clear h5 hk3
  generalize w1.alloc (.cells #[.slice A1 rows.length c1] 27) = w2 at hk3' h5' HBX2 HB2 HLN HT3 HR2 ⊢
  generalize w1.heap.size = B5 at h5' HBX2 hsl ⊢
  gi_quiet (exact (callsIn_wide.2 (HLN.out _)).mono (fun e w' h => ⟨h.1, _, h.2⟩))
  have hk3 : (w2.drewN nq).cell? ⟨w.heap.size, 0, none⟩ = some (.slice A rows.length c) := hk3'
  have h5 : (w2.drewN nq).cell? ⟨B5, 0, none⟩ = some (.slice A1 rows.length c1) := h5'
  have HBX3 := Aside0.mk (show _ ∧ _ ∧ _ from (⟨blk_drewN HBX2.out.1 nq, blk_drewN HBX2.out.2.1 nq, blk_drewN HBX2.out.2.2 nq⟩))
  have HB3 := Aside0.mk (pw_below_drewN HB2.out nq)
  have HT4 := Aside0.mk (HT3.out nq)
  have HR3 := Aside0.mk (Kd.R_drewN HR2.out nq)
  clear hk3' h5' HBX2 HB2 HT3 HLN HR2
  generalize w2.drewN nq = wq at hk3 h5 HBX3 HB3 HT4 HR3 ⊢
  gi_wp2_with (first
    | (gi_at_call 18; refine (callsIn_wide.2 (all_calls _ (some ⟨T, 0, none⟩))).mono ?_; rintro e w2 ⟨rfl, rfl⟩))
  have hBn : (wq.alloc (.cells #[.pointer (some ⟨T, 0, none⟩)] 23)).heap.size = wq.heap.size + 1 := by simp
  have hI0 : SameI w w.heap.size (w.heap.size + 1) B5 (wq.heap.size + 1) A c A1 c1 rows [] ((wq.alloc (.cells #[.pointer (some ⟨T, 0, none⟩)] 23)).alloc (.cells #[.int .i64 0] 3)) := by
    refine ⟨⟨blk_alloc (blk_alloc HBX3.out.1 _) _, blk_alloc (blk_alloc HBX3.out.2.1 _) _, blk_alloc (blk_alloc HBX3.out.2.2 _) _, ?_, ?_, rfl⟩, below_alloc (below_alloc HB3.out _) _⟩
    · exact two1 wq _ _
    · have h := Kd.R_alloc (Kd.R_alloc HR3.out (.cells #[.pointer (some ⟨T, 0, none⟩)] 23)) (.cells #[.int .i64 0] 3)
      rw [List.length_map] at h
      exact h
  have hcell : ((wq.alloc (.cells #[.pointer (some ⟨T, 0, none⟩)] 23)).alloc (.cells #[.int .i64 0] 3)).cell? ⟨wq.heap.size, 0, none⟩ = some (.pointer (some ⟨T, 0, none⟩)) := (blk_cell (blk_alloc (blk_new wq _) _) 0).trans rfl
  have hTr : TabAt ((wq.alloc (.cells #[.pointer (some ⟨T, 0, none⟩)] 23)).alloc (.cells #[.int .i64 0] 3)) T b es := (HT4.out.grown (World.grownBy_alloc wq _ none) (by simp) (by simp)).grown (World.grownBy_alloc _ _ none) (by simp) (by simp)
  have hsz : w.heap.size ≤ ((wq.alloc (.cells #[.pointer (some ⟨T, 0, none⟩)] 23)).alloc (.cells #[.int .i64 0] 3)).heap.size := by have := HB3.out.size; simp; omega
  have hBtw := HB3.out.size
  generalize ((wq.alloc (.cells #[.pointer (some ⟨T, 0, none⟩)] 23)).alloc (.cells #[.int .i64 0] 3)) = w3 at hI0 hcell hTr hsz ⊢
  generalize wq.heap.size = Bt at hI0 hcell hBtw ⊢
  have HBT := Aside0.mk (And.intro (blk_lt hI0.1.2.2.2.1) (And.intro (blk_lt hI0.1.2.1) (show w.heap.size ≤ Bt + 1 by omega)))
  clear hBtw
  refine wpIn_rangeFunc_ownH rfl (by omega) (gf := 27) (lb := #[.pointer (some ⟨Bt, 0, none⟩)]) rfl trivial (enters_of Try.func27 (by kernel_rfl) rfl) (all_stops 9 (by omega) _ w3 hcell hTr (by have := HLEN.out; have := HL.out; omega)) (fun h k => h.trans k) (fun W l o o' hl ho hc hw => KeepsUp.putObj W l o o' ho hc hw) (Below.refl _ _) (fun _ => rfl)
    (SameI w w.heap.size (w.heap.size + 1) B5 (Bt + 1) A c A1 c1 rows) (fun _ pre _ => ¬ ∃ j, pre = (rows.map fun r => (r.f0, r.f1)).take j) (SameI_own _ _ _ _ _ _ _ _ _ _ _ hsz) (fun c s X Y row hs hg hr => hs) hI0
    (fun p a' W => ∃ Bx, W.heap[Bx]? = some (.cells #[.int .u8 p.1.f0, .int .u8 p.1.f1, .int .u8 p.1.f2] 32 (0, 0)) ∧ a' = { tmps := #[.pointer (some ⟨T, 0, none⟩), .slice A rows.length c, undef, .pointer (some ⟨w.heap.size, 0, none⟩), .pointer (some ⟨w.heap.size + 1, 0, none⟩), .pointer (some ⟨B5, 0, none⟩), .func (.func 27) #[] #[.pointer (some ⟨Bt, 0, none⟩)], .pointer (some ⟨Bt + 1, 0, none⟩), .pointer (some ⟨Bx, 0, none⟩), .int .i64 p.2, .pointer (some ⟨T, 0, none⟩), .slice A1 rows.length c1, .pointer (some ⟨T, 0, none⟩), .int .i64 (rows.length : Nat), .slice A rows.length c, .int .i64 (rows.length : Nat), .bool false, .bool false, .slice A1 rows.length c1, .int .i64 (rows.length : Nat), .slice A rows.length c, .int .i64 (rows.length : Nat), .bool false, .bool false, .pointer (some ⟨T, 0, none⟩), .func (.func 27) #[] #[.pointer (some ⟨Bt, 0, none⟩)], .func (.func 27) #[] #[.pointer (some ⟨Bt, 0, none⟩)], .bool false, .func (.func 27) #[] #[.pointer (some ⟨Bt, 0, none⟩)], .agg #[.int .u8 p.1.f0, .int .u8 p.1.f1, .int .u8 p.1.f2], .int .i64 p.2, undef, undef, undef, undef, undef, undef, undef, undef, undef, undef, undef, undef, undef, undef, undef, undef, undef, undef, undef, undef, undef, undef, undef, undef, undef, undef, undef, undef, undef, undef, undef, undef, undef, undef, undef, undef], defers := [] }) ?hAx ?assign ?body ?done ?stop
  case hAx =>
    intro x a' s X Y row hs hg hr
    obtain ⟨Bx, h2, h3⟩ := hs
    refine ⟨Bx, ?_, h3⟩
    exact blk_grown h2 hg (fun e => by
      obtain ⟨_, o, ho, hc⟩ := hr Bx e.symm
      rw [h2] at ho
      cases ho; cases hc)
  case stop =>
    rintro D c pre W hD hp h _
    rw [HROW.out] at hp
    exact absurd hp h
  case assign =>
    intro l pre x W K hI hK
    have hlt := blk_lt hI.1.1
    simp only [encQ, encK, List.zip_toArray, List.foldl_toArray, List.zip_cons_cons, List.zip_nil_left, List.foldl_cons, List.foldl_nil, List.setIfInBounds_toArray, List.set_cons_succ, List.set_cons_zero]
    gi_wp2
    exact hK _ _ ((KeepsOthers.alloc _ _).from _) (KeepsUp.below (below_alloc (Below.refl _ _) _)) ((SameI_own w _ _ _ _ _ _ _ _ _ w.heap.size (Nat.le_refl _)).alloc _ hI) ⟨W.heap.size, World.alloc_heap_new W _, rfl⟩
  case done =>
    rintro D xs W hD hxs ⟨⟨hb3, hbr, hb5, hb7, hRk, hpre⟩, hB⟩ hK
    have hlenx : xs.length = rows.length := by rw [hxs, HROW.out, List.length_map]
    rw [hlenx] at hb7
    have hk3 := (blk_cell hb3 0).trans rfl
    have hk7 := (blk_cell hb7 0).trans rfl
    have hkr := (blk_cell hbr 0).trans rfl
    have hkf := blk_frozen hbr 0
    have HBR := Aside0.mk hbr
    have HK := Aside0.mk hK
    have HB := Aside0.mk hB
    have hsz' := Aside0.mk hsz
    clear hb3 hbr hb5 hb7 hRk hpre hB hK hxs hlenx
    gi_wp2_with fail
    have hne : D ≠ w.heap.size + 1 := by
      rintro rfl
      have h1 := HK.out
      rw [HBR.out] at h1
      cases h1
    have hR2 := blk_set HBR.out 0 (.bool true)
    have hK2 : (W.setCell ⟨w.heap.size + 1, 0, none⟩ (.bool true)).heap[D]? = some (.deferred (some [])) := (Below.heap_setCell W ⟨w.heap.size + 1, 0, none⟩ (.bool true) D hne).trans HK.out
    have hBB := HB.out.setCell (p := ⟨w.heap.size + 1, 0, none⟩) (by simp) (.bool true)
    generalize W.setCell ⟨w.heap.size + 1, 0, none⟩ (.bool true) = Z at hR2 hK2 hBB ⊢
    refine ⟨by simp, .inl ⟨_, _, rfl, run_takeDeferred hK2, ?_⟩⟩
    have hgZ := grownBy_putObj' Z D (.deferred none)
    have hD0 : w.heap.size ≤ D := Nat.le_trans hsz hD
    refine ⟨.bool true, res14 _ _ (w.heap.size + 1) true rfl (blk_grown hR2 hgZ (fun e => hne (Option.some.inj e).symm)), rfl, hBB.grown hgZ hBB.size (fun k e => by cases e; exact hD0)⟩
  case body =>
    rintro l pre x a' W hl hr hI ⟨Bx, bX, rfl⟩ hlp
    have HI := Aside0.mk hI
    obtain ⟨⟨hb3, hbr, hb5, hb7, hRk, hpre⟩, hB⟩ := hI
    have hlt : pre.length < rows.length := by have := HLEN.out; omega
    have hCW := Kd.C_below hC hB
    obtain ⟨ad, e, hy0, hy1, hy2, hy3⟩ := at_T61 hCW ((pre.length : Nat) : Int) (by omega) (by omega)
    cases e
    obtain ⟨ak, e2, hz0, hz1, hz2⟩ := at_T32 (Kd.R_reads' hRk).2.2 ((pre.length : Nat) : Int) (by omega) (by simp; omega)
    cases e2
    have hrd : rd_T32 (rows.map (·.f0)) ((pre.length : Nat) : Int) = (rows[pre.length]).f0 := by simp [rd_T32, List.getD_eq_getElem?_getD, hlt]
    rw [rd61_nat rows _ hlt] at hy0 hy1 hy2 hy3
    rw [hrd] at hz0 hz1 hz2
    simp only [Int.toNat_natCast] at hy0 hy1 hy2 hy3 hz0 hz1 hz2
    have hx0 := (blk_cell bX 0).trans rfl
    have hx1 := (blk_cell bX 1).trans rfl
    have hx2 := (blk_cell bX 2).trans rfl
    have h3 := (blk_cell hb3 0).trans rfl
    have h5 := (blk_cell hb5 0).trans rfl
    have h7 := (blk_cell hb7 0).trans rfl
    have h7f := blk_frozen hb7 0
    have hbrc := (blk_cell hbr 0).trans rfl
    have hbrf := blk_frozen hbr 0
    have hge : decide (rows.length ≤ pre.length) = false := decide_eq_false (by omega)
    have hge2 : decide ((rows.length : Int) ≤ (pre.length : Int)) = false := decide_eq_false (by omega)
    have hge3 : decide ((pre.length : Int) ≥ (rows.length : Int)) = false := decide_eq_false (by omega)
    obtain ⟨xk, xv⟩ := x
    by_cases hk : xk = (rows[pre.length]).f0
    · by_cases hv : xv = (rows[pre.length]).f1
      · have htk : pre ++ [((rows[pre.length]).f0, (rows[pre.length]).f1)] = (rows.map fun r => (r.f0, r.f1)).take (pre.length + 1) := by
          rw [List.take_succ_eq_append_getElem (by rw [List.length_map]; exact hlt), ← hpre]
          simp
        have HTK := Aside0.mk htk
        have HLT := Aside0.mk (show pre.length < 100 by have := HL.out; omega)
        subst hk hv
        clear htk
        generalize rows[pre.length] = r at hy0 hy1 hy2 hy3 hz0 hz1 hz2 hx0 hx1 hx2 HTK ⊢
        clear hb3 hbr hb5 hb7 hRk hpre hB hCW hrd bX
        gi_wp2_with fail
        refine wpIn_region_quiet_round (F := Fence.wide) rfl (by kernel_rfl) (by kernel_rfl) (by intro o ho c hc; simp only [List.mem_cons, List.not_mem_nil, or_false] at ho; rcases ho with rfl | rfl | rfl | rfl | rfl | rfl | rfl | rfl | rfl | rfl | rfl | rfl | rfl | rfl | rfl | rfl | rfl | rfl | rfl | rfl | rfl | rfl | rfl | rfl | rfl | rfl | rfl | rfl | rfl | rfl <;> cases hc) ?_
        repeat (gi_big_quiet_step (fail))
        refine wpQuietIn_nil ?_
        rintro w' ⟨nq, rfl⟩
        gi_wp2_with fail
        exact SameI_next HI.out HBT.out.1 HBT.out.2.2 HLT.out HTK.out nq
      · have HNP := Aside0.mk (not_pre hlt (x := (xk, xv)) (fun e => hv (by cases e; rfl)))
        subst hk
        have hv2 : (xv == (rows[pre.length]).f1) = false := by simpa using hv
        have hv3 : (xv != (rows[pre.length]).f1) = true := by simpa using hv
        have hv4 : decide (xv = (rows[pre.length]).f1) = false := by simpa using hv
        generalize rows[pre.length] = r at hy0 hy1 hy2 hy3 hz0 hz1 hz2 hx0 hx1 hx2 hv hv2 hv3 hv4 HNP ⊢
        clear hb3 hbr hb5 hb7 hRk hpre hB hCW hrd bX
        gi_wp2_with fail
        refine wpIn_region_quiet_round (F := Fence.wide) rfl (by kernel_rfl) (by kernel_rfl) (by intro o ho c hc; simp only [List.mem_cons, List.not_mem_nil, or_false] at ho; rcases ho with rfl | rfl | rfl | rfl | rfl | rfl | rfl | rfl | rfl | rfl | rfl | rfl | rfl | rfl | rfl | rfl | rfl | rfl | rfl | rfl | rfl | rfl | rfl | rfl | rfl | rfl | rfl | rfl | rfl | rfl <;> cases hc) ?_
        repeat (gi_big_quiet_step (fail))
        refine wpQuietIn_nil ?_
        rintro w' ⟨nq, rfl⟩
        gi_wp2_with fail
        exact bad_round HI.out HBT.out.2.1 HNP.out nq
    · have HNP := Aside0.mk (not_pre hlt (x := (xk, xv)) (fun e => hk (by cases e; rfl)))
      generalize rows[pre.length] = r at hy0 hy1 hy2 hy3 hz0 hz1 hz2 hx0 hx1 hx2 hk HNP ⊢
      have hkk : (xk.f0 == r.f0.f0 && (xk.f1 == r.f0.f1 && (xk.f2 == r.f0.f2))) = false := by
        rw [Bool.eq_false_iff]
        intro e
        simp only [Bool.and_eq_true, beq_iff_eq] at e
        apply hk
        cases xk
        cases hr0 : r.f0
        rw [hr0] at e
        simp only at e
        rw [e.1, e.2.1, e.2.2]
      clear hb3 hbr hb5 hb7 hRk hpre hB hCW hrd bX
      gi_wp2_with fail
      refine wpIn_region_quiet_round (F := Fence.wide) rfl (by kernel_rfl) (by kernel_rfl) (by intro o ho c hc; simp only [List.mem_cons, List.not_mem_nil, or_false] at ho; rcases ho with rfl | rfl | rfl | rfl | rfl | rfl | rfl | rfl | rfl | rfl | rfl | rfl | rfl | rfl | rfl | rfl | rfl | rfl | rfl | rfl | rfl | rfl | rfl | rfl | rfl | rfl | rfl | rfl | rfl | rfl <;> cases hc) ?_
      repeat (gi_big_quiet_step (fail))
      refine wpQuietIn_nil ?_
      rintro w' ⟨nq, rfl⟩
      gi_wp2_with fail
      exact bad_round HI.out HBT.out.2.1 HNP.out nq
end Go.Proofs.Ytignfgefbhkecaa.X
