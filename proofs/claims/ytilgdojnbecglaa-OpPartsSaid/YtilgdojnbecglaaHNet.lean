/- op.Net: what additions come to, key by key, in order. -/
import Derived.Test.YtilgdojnbecglaaHSorted
import Derived.Test.YtilgdojnbecglaaHSum
import Derived.Test.YtilgdojnbecglaaHParts
import Derived.Carry
namespace Go.Proofs.Ytilgdojnbecglaa.X
open Go.RowKit Go.Shelf Go.Proofs.YtilgdojnbecglaaW.PrintWords Go.Proofs.YtilgdojnbecglaaW.PrintLast Go.Proofs.YtilgdojnbecglaaW.PrintMore Go.Proofs.Ytilgdojnbecglaa.KMap
set_option linter.unusedVariables false
set_option linter.unusedSimpArgs false

theorem snocInd {α : Type} {p : List α → Prop} (h0 : p []) (h1 : ∀ l x, p l → p (l ++ [x])) (l : List α) : p l := by
  rw [← List.reverse_reverse l]
  induction l.reverse with
  | nil => exact h0
  | cons x r ih =>
    rw [List.reverse_cons]
    exact h1 _ _ ih
/-- The keys, in the order of their first coming. -/
def keysOf (l : List S26) : List S24 := l.foldl (fun acc o => if o.f0 ∈ acc then acc else acc ++ [o.f0]) []
/-- The deltas at a key. -/
def atOf (l : List S26) (k : S24) : List Int := (l.filter fun o => decide (o.f0 = k)).map fun o => o.f1
def netGo (l : List S26) : List S24 → List S26 → List S26 × Bool
  | [], acc => (acc, true)
  | k :: ks, acc => if I64 (atOf l k).sum then (if (atOf l k).sum = 0 then netGo l ks acc else netGo l ks (acc ++ [⟨k, (atOf l k).sum⟩])) else ([], false)
def netR (l : List S26) : List S26 × Bool := netGo l (sortK (keysOf l)) []
def op_Net.f (l0 : List (S26)) : Option ((List (S26)) × Bool) := if l0.length < 8796093022207 ∧ ∀ o ∈ l0, I64 o.f1 then some (netR l0) else none

theorem keysOf_snoc (l : List S26) (o : S26) : keysOf (l ++ [o]) = if o.f0 ∈ keysOf l then keysOf l else keysOf l ++ [o.f0] := by
  unfold keysOf
  rw [List.foldl_append]
  rfl
theorem keysOf_len (l : List S26) : (keysOf l).length ≤ l.length := by
  refine snocInd (p := fun l => (keysOf l).length ≤ l.length) (by simp [keysOf]) (fun l o ih => ?_) l
  rw [keysOf_snoc]
  split <;> simp <;> omega
theorem atOf_snoc (l : List S26) (o : S26) (k : S24) : atOf (l ++ [o]) k = if o.f0 = k then atOf l k ++ [o.f1] else atOf l k := by
  unfold atOf
  rw [List.filter_append, List.map_append]
  by_cases h : o.f0 = k <;> simp [h]
theorem atOf_len (l : List S26) (k : S24) : (atOf l k).length ≤ l.length := by
  simp only [atOf, List.length_map]
  exact List.length_filter_le _ _
theorem atOf_i64 {l : List S26} (h : ∀ o ∈ l, I64 o.f1) (k : S24) : ∀ x ∈ atOf l k, I64 x := by
  intro x hx
  obtain ⟨o, ho, rfl⟩ := List.mem_map.1 hx
  exact h o (List.mem_filter.1 ho).1

theorem kget_kput {es : List (S24 × Value)} (hn : (es.map Prod.fst).Nodup) (x y : S24) (v : Value) : kget (kput es x v) y = if y = x then some v else kget es y := by
  unfold kput
  split
  · rename_i hx
    induction es with
    | nil => simp at hx
    | cons p r ih =>
      rw [List.map_cons, List.nodup_cons] at hn
      by_cases hp : p.1 = x
      · have hr : r.map (fun q : S24 × Value => if q.1 = x then (q.1, v) else q) = r := by
          rw [List.map_congr_left (g := id), List.map_id]
          intro q hq
          rw [if_neg]
          · rfl
          · intro e
            exact hn.1 (by rw [hp, ← e]; exact List.mem_map.2 ⟨q, hq, rfl⟩)
        simp only [List.map_cons, hp, if_true, hr]
        by_cases hy : y = x
        · simp [kget, hy]
        · simp only [kget, if_neg hy]
          rw [List.find?_cons_of_neg (by simpa using fun e => hy e.symm), List.find?_cons_of_neg (by simp [hp]; exact fun e => hy e.symm)]
      · have hx' : x ∈ r.map Prod.fst := by
          rw [List.map_cons, List.mem_cons] at hx
          rcases hx with h | h
          · exact absurd h.symm hp
          · exact h
        have ih' := ih hn.2 hx'
        simp only [List.map_cons, if_neg hp]
        by_cases hy : p.1 = y
        · have : y ≠ x := fun e => hp (hy.trans e)
          simp [kget, hy, this]
        · simp only [kget] at ih' ⊢
          rw [List.find?_cons_of_neg (by simpa using hy), List.find?_cons_of_neg (by simpa using hy)]
          exact ih'
  · rename_i hx
    simp only [kget, List.find?_append, Option.map_or]
    by_cases hy : y = x
    · subst hy
      have : es.find? (fun p => decide (p.1 = y)) = none := by
        rw [List.find?_eq_none]
        intro p hp e
        exact hx (by rw [← of_decide_eq_true e]; exact List.mem_map.2 ⟨p, hp, rfl⟩)
      simp [this]
    · rw [if_neg hy]
      have : ([(x, v)] : List (S24 × Value)).find? (fun p => decide (p.1 = y)) = none := by simp; exact fun e => hy e.symm
      rw [this]
      simp
theorem kput_keys (es : List (S24 × Value)) (x : S24) (v : Value) : (kput es x v).map Prod.fst = if x ∈ es.map Prod.fst then es.map Prod.fst else es.map Prod.fst ++ [x] := by
  unfold kput
  split
  · rw [List.map_map]
    apply List.map_congr_left
    intro p _
    simp only [Function.comp]
    split <;> rfl
  · simp

/-- A row of numbers stays where another block was written. -/
theorem RI_grown {w w1 : World} {base : Nat} {v : Value} {xs : List Int} {row : Option Nat} (h : (Kd.int .i64).R 2 w base (fun _ => True) v xs) (hg : w.grownBy w1 row) (hne : v.ownBlock = none ∨ v.ownBlock ≠ row) : (Kd.int .i64).R 2 w1 base (fun _ => True) v xs := by
  obtain ⟨h0, inner, ho, hr⟩ := h
  exact ⟨h0, inner, ho.kept hg hne, hr.imp_ (fun _ _ hq => hq)⟩
/-- What stands in the map: at each key that came its deltas, in rows of their own. -/
structure Rows (w : World) (base : Nat) (es : List (S24 × Value)) (l : List S26) : Prop where
  keys : es.map Prod.fst = keysOf l
  row : ∀ k v, kget es k = some v → (Kd.int .i64).R 2 w base (fun _ => True) v (atOf l k)
  apart : ∀ k v k' v' b, kget es k = some v → kget es k' = some v' → k ≠ k' → v.ownBlock = some b → v'.ownBlock ≠ some b
theorem Rows.grown {w w1 : World} {base : Nat} {es : List (S24 × Value)} {l : List S26} (h : Rows w base es l) {row : Option Nat} (hg : w.grownBy w1 row) (hr : ∀ r, row = some r → ∃ o : Obj, w.heap[r]? = some o ∧ o.isCells = false) : Rows w1 base es l := by
  refine ⟨h.keys, fun k v hk => RI_grown (h.row k v hk) hg ?_, h.apart⟩
  cases hv : v.ownBlock with
  | none => exact .inl rfl
  | some j =>
    refine .inr fun e => ?_
    obtain ⟨o, ho, hc⟩ := hr j e.symm
    exact R_not_obj (h.row k v hk) ho hc hv.symm
theorem Rows.below {w w1 : World} {base : Nat} {es : List (S24 × Value)} {l : List S26} (h : Rows w base es l) (hb : Below w.heap.size w w1) : Rows w1 base es l :=
  ⟨h.keys, fun k v hk => Kd.R_below (h.row k v hk) hb, h.apart⟩
theorem kget_mem {es : List (S24 × Value)} {k : S24} (h : k ∈ es.map Prod.fst) : ∃ v, kget es k = some v := by
  cases hk : kget es k with
  | some v => exact ⟨v, rfl⟩
  | none => exact absurd h (kget_none hk)
theorem atOf_none {l : List S26} {k : S24} : k ∉ keysOf l → atOf l k = [] := by
  refine snocInd (p := fun l => k ∉ keysOf l → atOf l k = []) (fun _ => rfl) (fun l o ih h => ?_) l
  rw [keysOf_snoc] at h
  rw [atOf_snoc]
  by_cases ho : o.f0 ∈ keysOf l
  · rw [if_pos ho] at h
    rw [if_neg (by rintro rfl; exact h ho)]
    exact ih h
  · rw [if_neg ho] at h
    simp only [List.mem_append, List.mem_singleton, not_or] at h
    rw [if_neg (fun e => h.2 e.symm)]
    exact ih h.1
/-- What stands at a key, or nothing. -/
theorem Rows.at_ {w : World} {base : Nat} {es : List (S24 × Value)} {l : List S26} (h : Rows w base es l) (k : S24) : (Kd.int .i64).R 2 w base (fun _ => True) ((kget es k).getD (.slice none 0 0)) (atOf l k) := by
  cases hk : kget es k with
  | some v => exact h.row k v hk
  | none =>
    rw [atOf_none (by rw [← h.keys]; exact kget_none hk)]
    exact Kd.R_nil _ _ _ _ _
theorem Rows.put {w w1 : World} {base : Nat} {es : List (S24 × Value)} {l : List S26} (hn : (es.map Prod.fst).Nodup) (h : Rows w base es l) (o : S26) {v1 : Value} (hR : (Kd.int .i64).R 2 w1 base (fun _ => True) v1 (atOf l o.f0 ++ [o.f1]))
    (hg : w.grownBy w1 ((kget es o.f0).getD (.slice none 0 0)).ownBlock) (hat : v1.ownBlock = ((kget es o.f0).getD (.slice none 0 0)).ownBlock ∨ ∃ b, v1.ownBlock = some b ∧ w.heap.size ≤ b) : Rows w1 base (kput es o.f0 v1) (l ++ [o]) := by
  have hother : ∀ k v, k ≠ o.f0 → kget es k = some v → v.ownBlock = none ∨ v.ownBlock ≠ ((kget es o.f0).getD (.slice none 0 0)).ownBlock := by
    intro k v hk hv
    cases hb : v.ownBlock with
    | none => exact .inl rfl
    | some b =>
      refine .inr ?_
      cases h0 : kget es o.f0 with
      | none => simp [Value.ownBlock]
      | some v0 => exact fun e => h.apart k v o.f0 v0 b hv h0 hk hb e.symm
  have hapart : ∀ k v, k ≠ o.f0 → kget es k = some v → ∀ b, v.ownBlock = some b → v1.ownBlock ≠ some b := by
    intro k v hk hv b hb e
    rcases hat with e1 | ⟨b1, e1, hb1⟩
    · rcases hother k v hk hv with h1 | h1
      · rw [h1] at hb; cases hb
      · exact h1 (by rw [hb, ← e1, e])
    · rw [e1] at e
      injection e with e
      subst e
      obtain ⟨_, inner, ho, _⟩ := h.row k v hv
      have := own_lt ho _ hb
      omega
  refine ⟨?_, ?_, ?_⟩
  · rw [kput_keys, keysOf_snoc, h.keys]
  · intro k v hk
    rw [kget_kput hn] at hk
    rw [atOf_snoc]
    by_cases e : k = o.f0
    · rw [if_pos e] at hk
      cases hk
      rw [if_pos e.symm, e]
      exact hR
    · rw [if_neg e] at hk
      rw [if_neg (fun e1 => e e1.symm)]
      exact RI_grown (h.row k v hk) hg (hother k v e hk)
  · intro k v k' v' b hk hk' hne hb
    rw [kget_kput hn] at hk hk'
    by_cases e : k = o.f0
    · rw [if_pos e] at hk
      cases hk
      have e' : k' ≠ o.f0 := fun e1 => hne (e.trans e1.symm)
      rw [if_neg e'] at hk'
      intro hb'
      exact hapart k' v' e' hk' b hb' hb
    · rw [if_neg e] at hk
      by_cases e' : k' = o.f0
      · rw [if_pos e'] at hk'
        cases hk'
        exact hapart k v e hk b hb
      · rw [if_neg e'] at hk'
        exact h.apart k v k' v' b hk hk' hne hb

theorem c1_grown (wr : World) (o : Obj) (d : Int) {w2 : World} {b : Nat} (hg : ((wr.alloc o).alloc (.cells #[.int .i64 d] 2)).grownBy w2 (some b)) (hb : b < wr.heap.size) : Kd.C (Kd.int .i64) w2 (some ⟨wr.heap.size + 1, 0, none⟩) 1 [d] := by
  refine Kd.C_of_reads (d := (0 : Int)) ⟨rfl, by omega, fun _ => ⟨_, rfl, fun j hj => ?_⟩⟩
  have h0 : ((wr.alloc o).alloc (.cells #[.int .i64 d] 2)).heap[wr.heap.size + 1]? = some (.cells #[.int .i64 d] 2) := two1 wr o _
  have h1 := blk_grown h0 hg (by intro e; cases e; omega)
  obtain rfl : j = 0 := by omega
  exact (blk_cell h1 0).trans rfl
set_option maxHeartbeats 4000000 in
set_option maxRecDepth 100000 in
theorem op_Net.calls (A0 : Option Addr) (c0 : Nat) (l0 : List (S26)) (r1 : List (S26)) (r2 : Bool) (w : World) (hr0 : Kd.C k26 w A0 l0.length l0) (hc0 : l0.length ≤ c0) (h : op_Net.f l0 = some (r1, r2)) :
    Calls Try.prog 7 #[.slice A0 l0.length c0] w fun e w' => ∃ v0_ : Value, e = .returned (.tuple #[v0_, .bool r2]) ∧ Kd.R k26 26 w' w.heap.size (fun _ => True) v0_ r1 ∧ Below w.heap.size w w' := by
  have hu24 := Try.underlying24
  have hu26 := Try.underlying26
  have HR0 := Aside0.mk hr0
  have hlen : l0.length ≤ 9223372036854775807 := hr0.2.1
  clear hr0
  unfold op_Net.f at h
  split at h
  case isFalse => simp at h
  rename_i hall0
  have HL := Aside0.mk hall0.1
  have hall := Aside0.mk hall0.2
  simp only [Option.some.injEq] at h
  have H := Aside0.mk h
  clear h hall0
  have hmm := @run_makeMap Try.prog
  go_enter Try.func7, Try.ntmps7
  go_wp2_with fail
  go_loopg [15] l0.length (fun gg v15 wr => ∃ (i : Nat) (es : List (S24 × Value)), v15 = .int .i64 (i : Int) ∧ i ≤ l0.length ∧ l0.length - i ≤ gg ∧ Aside0 (MapAt encK wr w.heap.size es) ∧ Aside0 (Rows wr w.heap.size es (l0.take i)) ∧ Aside0 (Below w.heap.size w wr))
  case atStart => exact ⟨0, [], rfl, by omega, by omega, ⟨MapAt.made w⟩, ⟨⟨rfl, fun k v hk => by simp [kget] at hk, fun k v k' v' b hk => by simp [kget] at hk⟩⟩, ⟨below_alloc (Below.refl _ _) _⟩⟩
  case round =>
    obtain ⟨i, es, rfl, hi1, hi2, HM, HRW, HB⟩ := hrel
    by_cases hlt : i < l0.length
    · obtain ⟨ad, e, hx0, hx1, hx2, hx3⟩ := at_T26 HR0.out (i : Int) (by omega) (by omega)
      cases e
      replace hx0 := pw_cell_below HB.out hx0
      replace hx1 := pw_cell_below HB.out hx1
      replace hx2 := pw_cell_below HB.out hx2
      replace hx3 := pw_cell_below HB.out hx3
      simp only [Int.toNat_natCast] at hx0 hx1 hx2 hx3
      have HT := Aside0.mk (take_T26 l0 i hlt)
      generalize rd_T26 l0 (i : Int) = x at hx0 hx1 hx2 hx3 HT
      obtain ⟨V, hV⟩ : ∃ V, V = (kget es x.f0).getD (.slice none 0 0) := ⟨_, rfl⟩
      have HV := Aside0.mk hV
      clear hV
      have HVR : Aside0 ((Kd.int .i64).R 2 wr w.heap.size (fun _ => True) V (atOf (l0.take i) x.f0)) := ⟨by rw [HV.out]; exact HRW.out.at_ x.f0⟩
      have hbl := HM.out.lt
      go_wp2_with (first
        | ((with_reducible refine gate_dst (N := 26) rfl ?_); refine wpList_mapEntry_k rfl (.tmp 19) (.tmp 21) 38 rfl keyLaws Try.underlying38 (z := .slice none 0 0) Try.zeroValue35 (b := w.heap.size) (es := es) rfl ((HM.out.alloc _).alloc _) x.f0 rfl ?_; intro w2 s es' j hS hj hput hg hsz; rw [← HV.out];
           have hrw2 := ((HRW.out.grown (World.grownBy_alloc wr _ none) (fun r e => by cases e)).grown (World.grownBy_alloc _ _ none) (fun r e => by cases e)).grown hg (fun r e => by cases e; exact ((HM.out.alloc _).alloc _).obj);
           have hlit : Kd.C (Kd.int .i64) w2 (some ⟨wr.heap.size + 1, 0, none⟩) 1 [x.f1] := c1_grown wr _ x.f1 hg (by omega);
           have hB2 : Below w.heap.size w w2 := Below.grown (below_alloc (below_alloc HB.out _) _) hg (below_alloc (below_alloc HB.out _) _).size (fun k e => by cases e; exact Nat.le_refl _);
           have HRW2 := Aside0.mk hrw2; have HLIT := Aside0.mk hlit; have HB2 := Aside0.mk hB2;
           have HVR2 : Aside0 ((Kd.int .i64).R 2 w2 w.heap.size (fun _ => True) V (atOf (l0.take i) x.f0)) := ⟨by rw [HV.out]; exact hrw2.at_ x.f0⟩;
           have HS := Aside0.mk hS; have HJ := Aside0.mk hj; have HPUT := Aside0.mk hput; clear hS hj hput hg hsz hrw2 hlit hB2)
        | ((with_reducible refine gate_dst (N := 27) rfl ?_); at_builtin; refine Kd.R_append_row (Value.int .i64) (0 : Int) (h1 := fun _ => rfl) (w0 := w) w.heap.size rfl (.tmp 22) (.tmp 25) 35 2 (.int .i64 0) 8 rfl Try.underlying35 info2 rfl (by omega) V (atOf (l0.take i) x.f0) [x.f1] (some ⟨wr.heap.size + 1, 0, none⟩) 1 1 (fun _ => True) rfl rfl (fun _ _ => trivial) HVR2.out HLIT.out HB2.out HB2.out.size ?aL ?_;
           (case aL => have := atOf_len (l0.take i) x.f0; have := HL.out; have := List.length_take_le i l0; omega);
           intro v1 w3 hR3 hB3 hg3 hat3;
           have hne3 : some w.heap.size ≠ V.ownBlock := by { obtain ⟨o, ho, hc⟩ := HS.out.at_.obj; exact R_not_obj HVR2.out ho hc };
           have hS3 := HS.out.kept hg3 hne3;
           have hrw3 := HRW2.out.put HM.out.nodup x hR3 (by rw [← HV.out]; exact hg3) (by rw [← HV.out]; exact hat3);
           have HS3 := Aside0.mk hS3; have HRW3 := Aside0.mk hrw3; have HB3 := Aside0.mk hB3; clear hR3 hB3 hg3 hat3 hne3 hS3 hrw3)
        | (refine wpList_entryStore_k rfl (.tmp 19) (.tmp 28) (.tmp 27) 38 rfl (b := w.heap.size) rfl HS3.out HJ.out rfl ?_; intro w4 hM4 hg4 hsz4;
           have hrw4 := HRW3.out.grown hg4 (fun r e => by cases e; exact HS3.out.at_.obj);
           have hB4 : Below w.heap.size w w4 := HB3.out.grown hg4 HB3.out.size (fun k e => by cases e; exact Nat.le_refl _);
           rw [HPUT.out] at hM4; have HM4 := Aside0.mk hM4; have HRW4 := Aside0.mk hrw4; have HB4 := Aside0.mk hB4; clear hM4 hg4 hsz4 hrw4 hB4))
      go_roundg (l0.length - (i + 1))
      case measure => omega
      case rel => exact ⟨i + 1, _, by go_num, by omega, by omega, ⟨HM4.out⟩, ⟨by rw [HT.out]; exact HRW4.out⟩, ⟨HB4.out⟩⟩
    · have hts : l0.take i = l0 := List.take_of_length_le (by omega)
      rw [hts] at HRW
      have hmem : ∀ k, k ∈ sortK (es.map Prod.fst) → k ∈ es.map Prod.fst := fun k hk => (List.mergeSort_perm _ _).mem_iff.1 hk
      have hksl : (sortK (es.map Prod.fst)).length ≤ l0.length := by rw [sortK_len, HRW.out.keys]; exact keysOf_len l0
      have hnet : netGo l0 (sortK (es.map Prod.fst)) [] = (r1, r2) := by rw [HRW.out.keys]; exact H.out
      have hesl : es.length ≤ l0.length := by have h1 := sortK_len (es.map Prod.fst); rw [List.length_map] at h1; omega
      have hsorted := sorted_keys (w := wr.alloc (.cells #[.map (some w.heap.size)] 38)) wr.heap.size w.heap.size es ((blk_cell (blk_new wr _) 0).trans rfl) (HM.out.alloc _) (by have := HL.out; omega)
      generalize sortK (es.map Prod.fst) = ks at hmem hksl hnet hsorted
      have HMEM := Aside0.mk hmem
      have HNET := Aside0.mk hnet
      have HSO := Lib.hid hsorted
      clear hmem hnet hsorted
      go_wp2_with (first
        | (go_at_call 19; refine (callsIn_wide.1 (keys_in Fence.wide 1 trivial rfl (some w.heap.size) wr)).mono ?_; rintro e w1 ⟨rfl, rfl⟩)
        | (go_at_call 18; refine HSO.out.mono ?_; rintro e w2 ⟨v, rfl, hRk, hBk⟩; obtain ⟨Ak, ck, rfl, hck, hCk⟩ := Kd.R_reads hRk;
           have HM2 := Aside0.mk ((HM.out.alloc _).below hBk); have HRW2 := Aside0.mk ((HRW.out.grown (World.grownBy_alloc wr _ none) (fun r e => by cases e)).below hBk);
           have HB2 := Aside0.mk (below_step (below_alloc HB.out _) hBk); have HCK := Aside0.mk hCk; have HBL2 := Aside0.mk hBk.size; clear hRk hBk hCk))
      go_loopg [7, 34] ks.length (fun gg v7 v34 wr2 => ∃ (j : Nat) (acc : List S26), v34 = .int .i64 (j : Int) ∧ j ≤ ks.length ∧ ks.length - j ≤ gg ∧ Aside0 (acc.length ≤ j) ∧ Aside0 (netGo l0 (ks.drop j) acc = (r1, r2)) ∧ Aside0 (Kd.R k26 26 wr2 w2.heap.size (fun _ => True) v7 acc) ∧ Aside0 (Below w2.heap.size w2 wr2))
      case atStart => exact ⟨0, [], rfl, by omega, by omega, ⟨Nat.le_refl _⟩, ⟨HNET.out⟩, ⟨Kd.R_nil _ _ _ _ _⟩, ⟨Below.refl _ _⟩⟩
      case round =>
        obtain ⟨j, acc, rfl, hj1, hj2, HACC, HN, HO, HB3⟩ := hrel
        by_cases hjl : j < ks.length
        · obtain ⟨ad, e, hy0, hy1, hy2⟩ := at_T24 HCK.out (j : Int) (by omega) (by omega)
          cases e
          replace hy0 := pw_cell_below HB3.out hy0
          replace hy1 := pw_cell_below HB3.out hy1
          replace hy2 := pw_cell_below HB3.out hy2
          simp only [Int.toNat_natCast] at hy0 hy1 hy2
          have hdr : ks.drop j = rd_T24 ks (j : Int) :: ks.drop (j + 1) := by
            rw [List.drop_eq_getElem_cons hjl]
            simp [rd_T24, List.getD_eq_getElem?_getD, hjl]
          generalize rd_T24 ks (j : Int) = x at hy0 hy1 hy2 hdr
          have HNx := HN.out
          rw [hdr] at HNx
          clear hdr
          unfold netGo at HNx
          have hSall := atOf_i64 hall.out x
          obtain ⟨Av, cv, hVs, hcv, hCv⟩ := Kd.R_reads (HRW2.out.at_ x)
          have HVS := Aside0.mk hVs
          have hlo := HBL2.out
          have hlb := HM.out.lt
          clear hVs
          generalize hats : atOf l0 x = at_ at HNx hSall hCv hcv HVS
          clear hats
          generalize hsm : at_.sum = sm at HNx
          by_cases hI : I64 sm
          · rw [if_pos hI] at HNx
            have hSum : calc_Sum.f at_ = some (sm, true) := by unfold calc_Sum.f sumR; rw [if_pos hSall, hsm, if_pos hI]
            by_cases h0 : sm = 0
            · rw [if_pos h0] at HNx
              have HN2 := Aside0.mk HNx
              clear HNx hsm
              subst h0
              go_wp2_with (first
                | ((with_reducible refine gate_dst (N := 41) rfl ?_); refine wpList_lookup_k rfl (.tmp 39) (.tmp 40) 38 false rfl keyLaws Try.underlying38 (z := .slice none 0 0) Try.zeroValue35 (b := w.heap.size) (es := es) rfl ((HM2.out.below HB3.out).alloc _) x rfl ?_; rw [if_neg Bool.false_ne_true, HVS.out])
                | (go_at_call 21; refine (calc_Sum.calls Av cv at_ _ _ _ (Kd.C_below hCv (below_alloc HB3.out _)) hcv hSum).mono ?_; rintro e w3 ⟨rfl, hb3⟩; have HB3' := Aside0.mk hb3; clear hb3))
              go_roundg (ks.length - (j + 1))
              case measure => omega
              case rel => exact ⟨j + 1, acc, by go_num, by omega, by omega, ⟨by have := HACC.out; omega⟩, ⟨HN2.out⟩, ⟨Kd.R_below (Kd.R_alloc HO.out _) HB3'.out⟩, ⟨below_step (below_alloc HB3.out _) HB3'.out⟩⟩
            · rw [if_neg h0] at HNx
              have HN2 := Aside0.mk HNx
              have h0b : (sm == 0) = false := by simpa using h0
              clear HNx hsm h0
              go_wp2_with (first
                | ((with_reducible refine gate_dst (N := 41) rfl ?_); refine wpList_lookup_k rfl (.tmp 39) (.tmp 40) 38 false rfl keyLaws Try.underlying38 (z := .slice none 0 0) Try.zeroValue35 (b := w.heap.size) (es := es) rfl ((HM2.out.below HB3.out).alloc _) x rfl ?_; rw [if_neg Bool.false_ne_true, HVS.out])
                | (go_at_call 21; refine (calc_Sum.calls Av cv at_ _ _ _ (Kd.C_below hCv (below_alloc HB3.out _)) hcv hSum).mono ?_; rintro e w3 ⟨rfl, hb3⟩; have hbk := blk_below (blk_new wr (.cells #[.int .u8 x.f0, .int .u8 x.f1, .int .u8 x.f2] 24)) hb3; have k0 := (blk_cell hbk 0).trans rfl; have k1 := (blk_cell hbk 1).trans rfl; have k2 := (blk_cell hbk 2).trans rfl; clear hbk; have HB3' := Aside0.mk hb3; clear hb3)
                | (at_builtin; refine Kd.R_append k26 (w0 := w2) w2.heap.size rfl (.tmp 49) (.tmp 53) 22 26 (.agg #[.int .u8 0, .int .u8 0, .int .u8 0, .int .i64 0]) 16 rfl Try.underlying22 info26 rfl (by decide) (by omega) u7 acc ⟨x, sm⟩ [.int .u8 x.f0, .int .u8 x.f1, .int .u8 x.f2, .int .i64 sm] (fun _ => True) (fun _ => False) rfl ?aX ?aP (fun _ hk => hk.elim) ?aF ?aO ?aB ?aS ?aL ?_; (case aX => rfl); (case aP => exact k26_mkM _ _ _ ⟨x, sm⟩); (case aF => exact (fun _ _ => trivial)); (case aO => exact Kd.R_below (Kd.R_alloc HO.out _) HB3'.out); (case aB => exact below_step (below_alloc HB3.out _) HB3'.out); (case aS => exact (below_step (below_alloc HB3.out _) HB3'.out).size); (case aL => have := HACC.out; have := HL.out; omega); intro v1 w4 ho4 hb4 hg4 hat4; have HO4 := Aside0.mk ho4; have HB4 := Aside0.mk hb4; clear ho4 hb4 hg4 hat4))
              go_roundg (ks.length - (j + 1))
              case measure => omega
              case rel => exact ⟨j + 1, acc ++ [⟨x, sm⟩], by go_num, by omega, by omega, ⟨by have := HACC.out; simp; omega⟩, ⟨HN2.out⟩, ⟨HO4.out⟩, ⟨HB4.out⟩⟩
          · rw [if_neg hI] at HNx
            have hSum : calc_Sum.f at_ = some (0, false) := by unfold calc_Sum.f sumR; rw [if_pos hSall, hsm, if_neg hI]
            have HN2 := Aside0.mk HNx
            clear HNx hsm
            go_wp2_with (first
                | ((with_reducible refine gate_dst (N := 41) rfl ?_); refine wpList_lookup_k rfl (.tmp 39) (.tmp 40) 38 false rfl keyLaws Try.underlying38 (z := .slice none 0 0) Try.zeroValue35 (b := w.heap.size) (es := es) rfl ((HM2.out.below HB3.out).alloc _) x rfl ?_; rw [if_neg Bool.false_ne_true, HVS.out])
                | (go_at_call 21; refine (calc_Sum.calls Av cv at_ _ _ _ (Kd.C_below hCv (below_alloc HB3.out _)) hcv hSum).mono ?_; rintro e w3 ⟨rfl, hb3⟩; have HB3' := Aside0.mk hb3; clear hb3))
            go_ret2
            have hn2 := HN2.out
            cases hn2
            exact ⟨_, rfl, Kd.R_nil _ _ _ _ _, below_step HB2.out (below_step (below_alloc HB3.out _) HB3'.out)⟩
        · have hd : ks.drop j = [] := List.drop_eq_nil_of_le (by omega)
          have HNx := HN.out
          rw [hd] at HNx
          unfold netGo at HNx
          have HN2 := Aside0.mk HNx
          clear HNx hd
          go_wp2_with fail
          go_ret2
          have hn2 := HN2.out
          cases hn2
          exact ⟨_, rfl, Kd.R_lower HO.out HB2.out.size, below_step HB2.out HB3.out⟩
end Go.Proofs.Ytilgdojnbecglaa.X
