/- op.Low and op.High: the sum of the deltas at a key that are below (above) nought; for every list of additions. -/
import Derived.Test.YtilgdojnbecglaaX0
import Derived.Test.YtilgdojnbecglaaX1
import Derived.Test.YtilgdojnbecglaaHSum
namespace Go.Proofs.Ytilgdojnbecglaa.X
open Go.RowKit Go.Proofs.YtilgdojnbecglaaW.PrintWords Go.Proofs.YtilgdojnbecglaaW.PrintLast Go.Proofs.YtilgdojnbecglaaW.PrintMore
attribute [local go_sem high] eqA24
set_option linter.unusedVariables false
set_option linter.unusedSimpArgs false

/-- Is an addition at this key? -/
def atKey (o : S26) (a b c : Int) : Bool := o.f0.f0 == a && (o.f0.f1 == b && (o.f0.f2 == c))
/-- The deltas at a key that are wanted. -/
def sel (p : Int → Bool) (l : List S26) (a b c : Int) : List Int := (l.filter fun o => atKey o a b c && p o.f1).map fun o => o.f1
def someR (p : Int → Bool) (l : List S26) (a b c : Int) : Option (Int × Bool) := if l.length < 17592186044416 ∧ ∀ o ∈ l, I64 o.f1 then some (sumR (sel p l a b c).sum) else none
theorem sel_i64 {p : Int → Bool} {l : List S26} {a b c : Int} (h : ∀ o ∈ l, I64 o.f1) : ∀ x ∈ sel p l a b c, I64 x := by
  intro x hx
  obtain ⟨o, ho, rfl⟩ := List.mem_map.1 hx
  exact h o (List.mem_filter.1 ho).1
theorem take_T26 (l : List S26) (i : Nat) (h : i < l.length) : l.take (i + 1) = l.take i ++ [rd_T26 l i] := by
  rw [List.take_succ_eq_append_getElem h]
  simp [rd_T26, List.getD_eq_getElem?_getD, h]
theorem sel_yes {p : Int → Bool} {l : List S26} {a b c : Int} {i : Nat} (h : i < l.length) (h1 : atKey (rd_T26 l i) a b c = true) (h2 : p (rd_T26 l i).f1 = true) : sel p (l.take (i + 1)) a b c = sel p (l.take i) a b c ++ [(rd_T26 l i).f1] := by
  rw [take_T26 l i h]
  simp [sel, List.filter_append, h1, h2]
theorem sel_no {p : Int → Bool} {l : List S26} {a b c : Int} {i : Nat} (h : i < l.length) (h1 : (atKey (rd_T26 l i) a b c && p (rd_T26 l i).f1) = false) : sel p (l.take (i + 1)) a b c = sel p (l.take i) a b c := by
  rw [take_T26 l i h]
  simp only [sel, List.filter_append, List.map_append]
  rw [List.filter_cons_of_neg (by rw [h1]; simp)]
  simp
theorem sel_len (p : Int → Bool) (l : List S26) (a b c : Int) (i : Nat) : (sel p (l.take i) a b c).length ≤ l.length := by
  simp only [sel, List.length_map]
  exact Nat.le_trans (List.length_filter_le _ _) (by simp; omega)

theorem want23 (d : Int) (w : World) : Calls Try.prog 23 #[.int .i64 d] w fun e w' => e = .returned (.bool (decide (d < 0))) ∧ w = w' := by
  go_enter Try.func23, Try.ntmps23
  go_wp2
  go_ret
  exact ⟨rfl, rfl⟩
set_option maxHeartbeats 2000000 in
theorem some23.calls (A0 : Option Addr) (c0 : Nat) (l0 : List (S26)) (a1_0 : Int) (a1_1 : Int) (a1_2 : Int) (r1 : Int) (r2 : Bool) (w : World) (hr0 : Kd.C k26 w A0 l0.length l0) (hc0 : l0.length ≤ c0) (h : someR (fun d => decide (d < 0)) l0 a1_0 a1_1 a1_2 = some (r1, r2)) :
    Calls Try.prog 22 #[.slice A0 l0.length c0, .agg #[.int .u8 a1_0, .int .u8 a1_1, .int .u8 a1_2], .func (.func 23) #[] #[]] w fun e w' => e = .returned (.tuple #[.int .i64 r1, .bool r2]) ∧ Below w.heap.size w w' := by
  have hu24 := Try.underlying24
  have hu26 := Try.underlying26
  have HR0 := Aside0.mk hr0
  have hlen : l0.length ≤ 9223372036854775807 := hr0.2.1
  clear hr0
  unfold someR at h
  split at h
  case isFalse => simp at h
  rename_i hall0
  have HL := Aside0.mk hall0.1
  have hall := Aside0.mk hall0.2
  simp only [Option.some.injEq] at h
  have H := Aside0.mk h
  clear h hall0
  obtain ⟨p, hp⟩ : ∃ p : Int → Bool, p = fun d => decide (d < 0) := ⟨_, rfl⟩
  rw [← hp] at H
  have HP := Aside0.mk hp
  clear hp
  go_enter Try.func22, Try.ntmps22
  go_wp2_with fail
  go_loopg [8, 13] l0.length (fun gg v8 v13 wr => ∃ i : Nat, v13 = .int .i64 (i : Int) ∧ i ≤ l0.length ∧ l0.length - i ≤ gg ∧ Aside0 (Kd.R (Kd.int .i64) 2 wr w.heap.size (fun _ => True) v8 (sel p (l0.take i) a1_0 a1_1 a1_2)) ∧ Aside0 (wr.heap[w.heap.size]? = some (.cells #[.int .u8 a1_0, .int .u8 a1_1, .int .u8 a1_2] 24 (0, 0))) ∧ Aside0 (Below w.heap.size w wr))
  case atStart => exact ⟨0, rfl, by omega, by omega, ⟨Kd.R_nil _ _ _ _ _⟩, ⟨heap_alloc_new w _⟩, ⟨below_alloc (Below.refl _ _) _⟩⟩
  case round =>
    obtain ⟨i, rfl, hi1, hi2, HO, BK, HB⟩ := hrel
    have hkc0 : wr.cell? ⟨w.heap.size, 0, none⟩ = some (.int .u8 a1_0) := (blk_cell BK.out 0).trans rfl
    have hkc1 : wr.cell? ⟨w.heap.size, 1, none⟩ = some (.int .u8 a1_1) := (blk_cell BK.out 1).trans rfl
    have hkc2 : wr.cell? ⟨w.heap.size, 2, none⟩ = some (.int .u8 a1_2) := (blk_cell BK.out 2).trans rfl
    have hlt0 : w.heap.size < wr.heap.size := blk_lt BK.out
    by_cases hlt : i < l0.length
    · obtain ⟨ad, e, hx0, hx1, hx2, hx3⟩ := at_T26 HR0.out (i : Int) (by omega) (by omega)
      cases e
      replace hx0 := pw_cell_below HB.out hx0
      replace hx1 := pw_cell_below HB.out hx1
      replace hx2 := pw_cell_below HB.out hx2
      replace hx3 := pw_cell_below HB.out hx3
      simp only [Int.toNat_natCast] at hx0 hx1 hx2 hx3
      have hy := Aside0.mk (@sel_yes p l0 a1_0 a1_1 a1_2 i hlt)
      have hn := Aside0.mk (@sel_no p l0 a1_0 a1_1 a1_2 i hlt)
      have hsl := Aside0.mk (sel_len p l0 a1_0 a1_1 a1_2 i)
      generalize rd_T26 l0 (i : Int) = x at hx0 hx1 hx2 hx3 hy hn
      generalize hys : sel p (l0.take (i + 1)) a1_0 a1_1 a1_2 = ys at hy hn
      generalize hxs : sel p (l0.take i) a1_0 a1_1 a1_2 = xs at hy hn HO hsl
      have HYS := Aside0.mk hys
      clear hys hxs
      by_cases hk : (x.f0.f0 == a1_0 && (x.f0.f1 == a1_1 && (x.f0.f2 == a1_2))) = true
      · by_cases hd : x.f1 < 0
        · have hdb : decide (x.f1 < 0) = true := decide_eq_true hd
          have hyy := Aside0.mk (hy.out hk (by rw [HP.out]; exact hdb))
          clear hd
          go_wp2_with (first
            | (go_at_call 23; refine (want23 _ _).mono ?_; rintro e w1 ⟨rfl, rfl⟩)
            | (at_builtin; refine Kd.R_append (Kd.int .i64) (w0 := w) w.heap.size rfl (.tmp 27) (.tmp 30) 35 2 (.int .i64 0) 8 rfl Try.underlying35 info2 rfl (by decide) (by omega) u8 xs x.f1 [.int .i64 x.f1] (fun _ => True) (fun _ => False) rfl ?aX ?aP (fun _ hk => hk.elim) ?aF ?aO ?aB ?aS ?aL ?_; (case aX => simp [Act.eval]); (case aP => exact rfl); (case aF => exact (fun _ _ => trivial)); (case aO => exact Kd.R_alloc HO.out _); (case aB => exact below_alloc HB.out _); (case aS => simp; omega); (case aL => have := hsl.out; have := HL.out; omega); intro v1 w2 ho hb hg hat; have ho2 := Aside0.mk ho; have hb2 := Aside0.mk hb; have bk2 := Aside0.mk (blk_grown (blk_alloc BK.out _) hg (Kd.R_ne HO.out BK.out (by decide))); clear ho hb hg hat))
          go_roundg (l0.length - (i + 1))
          case measure => omega
          case rel => exact ⟨i + 1, by go_num, by omega, by omega, ⟨by rw [HYS.out, hyy.out]; exact ho2.out⟩, ⟨bk2.out⟩, ⟨hb2.out⟩⟩
        · have hdb : decide (x.f1 < 0) = false := decide_eq_false hd
          have hyy := Aside0.mk (hn.out (by rw [HP.out]; simp only [hdb, Bool.and_false]))
          clear hd
          go_wp2_with (first
            | (go_at_call 23; refine (want23 _ _).mono ?_; rintro e w1 ⟨rfl, rfl⟩))
          go_roundg (l0.length - (i + 1))
          case measure => omega
          case rel => exact ⟨i + 1, by go_num, by omega, by omega, ⟨by rw [HYS.out, hyy.out]; exact Kd.R_alloc HO.out _⟩, ⟨blk_alloc BK.out _⟩, ⟨below_alloc HB.out _⟩⟩
      · have hkb : (x.f0.f0 == a1_0 && (x.f0.f1 == a1_1 && (x.f0.f2 == a1_2))) = false := by simpa using hk
        have hyy := Aside0.mk (hn.out (by unfold atKey; rw [hkb]; rfl))
        clear hk
        go_wp2_with fail
        go_roundg (l0.length - (i + 1))
        case measure => omega
        case rel => exact ⟨i + 1, by go_num, by omega, by omega, ⟨by rw [HYS.out, hyy.out]; exact Kd.R_alloc HO.out _⟩, ⟨blk_alloc BK.out _⟩, ⟨below_alloc HB.out _⟩⟩
    · have hts : l0.take i = l0 := List.take_of_length_le (by omega)
      rw [hts] at HO
      clear hts
      obtain ⟨A1, c1, rfl, hc1, hr1⟩ := Kd.R_reads HO.out
      have hcall := calc_Sum.calls A1 c1 (sel p l0 a1_0 a1_1 a1_2) r1 r2 wr hr1 hc1 (by unfold calc_Sum.f; rw [if_pos (sel_i64 hall.out), H.out])
      go_wp2_with (first | (go_at_call 21; refine hcall.mono ?_; rintro e w1 ⟨rfl, hb1⟩; have HB1 := Aside0.mk hb1; clear hb1))
      go_ret2
      exact ⟨rfl, below_then HB.out HB.out.size HB1.out⟩
/-- Low -/
def op_Low.f (l0 : List (S26)) (a1_0 : Int) (a1_1 : Int) (a1_2 : Int) : Option (Int × Bool) := someR (fun d => decide (d < 0)) l0 a1_0 a1_1 a1_2
theorem op_Low.calls (A0 : Option Addr) (c0 : Nat) (l0 : List (S26)) (a1_0 : Int) (a1_1 : Int) (a1_2 : Int) (r1 : Int) (r2 : Bool) (w : World) (hr0 : Kd.C k26 w A0 l0.length l0) (hc0 : l0.length ≤ c0) (h : op_Low.f l0 a1_0 a1_1 a1_2 = some (r1, r2)) :
    Calls Try.prog 10 #[.slice A0 l0.length c0, .agg #[.int .u8 a1_0, .int .u8 a1_1, .int .u8 a1_2]] w fun e w' => e = .returned (.tuple #[.int .i64 r1, .bool r2]) ∧ Below w.heap.size w w' := by
  have hu24 := Try.underlying24
  have hcall := fun W (hb : Below w.heap.size w W) => some23.calls A0 c0 l0 a1_0 a1_1 a1_2 r1 r2 W (Kd.C_below hr0 hb) hc0 h
  have HC := Lib.hid hcall
  clear hcall hr0 h
  go_enter Try.func10, Try.ntmps10
  go_wp2_with (first | (go_at_call 22; refine (HC.out _ (below_alloc (Below.refl _ _) _)).mono ?_; rintro e w1 ⟨rfl, hb1⟩; have HB1 := Aside0.mk hb1; clear hb1))
  go_ret2
  exact ⟨rfl, below_then (below_alloc (Below.refl _ _) _) (by simp) HB1.out⟩

theorem want25 (d : Int) (w : World) : Calls Try.prog 25 #[.int .i64 d] w fun e w' => e = .returned (.bool (decide (0 < d))) ∧ w = w' := by
  go_enter Try.func25, Try.ntmps25
  go_wp2
  go_ret
  exact ⟨rfl, rfl⟩
set_option maxHeartbeats 2000000 in
theorem some25.calls (A0 : Option Addr) (c0 : Nat) (l0 : List (S26)) (a1_0 : Int) (a1_1 : Int) (a1_2 : Int) (r1 : Int) (r2 : Bool) (w : World) (hr0 : Kd.C k26 w A0 l0.length l0) (hc0 : l0.length ≤ c0) (h : someR (fun d => decide (0 < d)) l0 a1_0 a1_1 a1_2 = some (r1, r2)) :
    Calls Try.prog 22 #[.slice A0 l0.length c0, .agg #[.int .u8 a1_0, .int .u8 a1_1, .int .u8 a1_2], .func (.func 25) #[] #[]] w fun e w' => e = .returned (.tuple #[.int .i64 r1, .bool r2]) ∧ Below w.heap.size w w' := by
  have hu24 := Try.underlying24
  have hu26 := Try.underlying26
  have HR0 := Aside0.mk hr0
  have hlen : l0.length ≤ 9223372036854775807 := hr0.2.1
  clear hr0
  unfold someR at h
  split at h
  case isFalse => simp at h
  rename_i hall0
  have HL := Aside0.mk hall0.1
  have hall := Aside0.mk hall0.2
  simp only [Option.some.injEq] at h
  have H := Aside0.mk h
  clear h hall0
  obtain ⟨p, hp⟩ : ∃ p : Int → Bool, p = fun d => decide (0 < d) := ⟨_, rfl⟩
  rw [← hp] at H
  have HP := Aside0.mk hp
  clear hp
  go_enter Try.func22, Try.ntmps22
  go_wp2_with fail
  go_loopg [8, 13] l0.length (fun gg v8 v13 wr => ∃ i : Nat, v13 = .int .i64 (i : Int) ∧ i ≤ l0.length ∧ l0.length - i ≤ gg ∧ Aside0 (Kd.R (Kd.int .i64) 2 wr w.heap.size (fun _ => True) v8 (sel p (l0.take i) a1_0 a1_1 a1_2)) ∧ Aside0 (wr.heap[w.heap.size]? = some (.cells #[.int .u8 a1_0, .int .u8 a1_1, .int .u8 a1_2] 24 (0, 0))) ∧ Aside0 (Below w.heap.size w wr))
  case atStart => exact ⟨0, rfl, by omega, by omega, ⟨Kd.R_nil _ _ _ _ _⟩, ⟨heap_alloc_new w _⟩, ⟨below_alloc (Below.refl _ _) _⟩⟩
  case round =>
    obtain ⟨i, rfl, hi1, hi2, HO, BK, HB⟩ := hrel
    have hkc0 : wr.cell? ⟨w.heap.size, 0, none⟩ = some (.int .u8 a1_0) := (blk_cell BK.out 0).trans rfl
    have hkc1 : wr.cell? ⟨w.heap.size, 1, none⟩ = some (.int .u8 a1_1) := (blk_cell BK.out 1).trans rfl
    have hkc2 : wr.cell? ⟨w.heap.size, 2, none⟩ = some (.int .u8 a1_2) := (blk_cell BK.out 2).trans rfl
    have hlt0 : w.heap.size < wr.heap.size := blk_lt BK.out
    by_cases hlt : i < l0.length
    · obtain ⟨ad, e, hx0, hx1, hx2, hx3⟩ := at_T26 HR0.out (i : Int) (by omega) (by omega)
      cases e
      replace hx0 := pw_cell_below HB.out hx0
      replace hx1 := pw_cell_below HB.out hx1
      replace hx2 := pw_cell_below HB.out hx2
      replace hx3 := pw_cell_below HB.out hx3
      simp only [Int.toNat_natCast] at hx0 hx1 hx2 hx3
      have hy := Aside0.mk (@sel_yes p l0 a1_0 a1_1 a1_2 i hlt)
      have hn := Aside0.mk (@sel_no p l0 a1_0 a1_1 a1_2 i hlt)
      have hsl := Aside0.mk (sel_len p l0 a1_0 a1_1 a1_2 i)
      generalize rd_T26 l0 (i : Int) = x at hx0 hx1 hx2 hx3 hy hn
      generalize hys : sel p (l0.take (i + 1)) a1_0 a1_1 a1_2 = ys at hy hn
      generalize hxs : sel p (l0.take i) a1_0 a1_1 a1_2 = xs at hy hn HO hsl
      have HYS := Aside0.mk hys
      clear hys hxs
      by_cases hk : (x.f0.f0 == a1_0 && (x.f0.f1 == a1_1 && (x.f0.f2 == a1_2))) = true
      · by_cases hd : 0 < x.f1
        · have hdb : decide (0 < x.f1) = true := decide_eq_true hd
          have hyy := Aside0.mk (hy.out hk (by rw [HP.out]; exact hdb))
          clear hd
          go_wp2_with (first
            | (go_at_call 25; refine (want25 _ _).mono ?_; rintro e w1 ⟨rfl, rfl⟩)
            | (at_builtin; refine Kd.R_append (Kd.int .i64) (w0 := w) w.heap.size rfl (.tmp 27) (.tmp 30) 35 2 (.int .i64 0) 8 rfl Try.underlying35 info2 rfl (by decide) (by omega) u8 xs x.f1 [.int .i64 x.f1] (fun _ => True) (fun _ => False) rfl ?aX ?aP (fun _ hk => hk.elim) ?aF ?aO ?aB ?aS ?aL ?_; (case aX => simp [Act.eval]); (case aP => exact rfl); (case aF => exact (fun _ _ => trivial)); (case aO => exact Kd.R_alloc HO.out _); (case aB => exact below_alloc HB.out _); (case aS => simp; omega); (case aL => have := hsl.out; have := HL.out; omega); intro v1 w2 ho hb hg hat; have ho2 := Aside0.mk ho; have hb2 := Aside0.mk hb; have bk2 := Aside0.mk (blk_grown (blk_alloc BK.out _) hg (Kd.R_ne HO.out BK.out (by decide))); clear ho hb hg hat))
          go_roundg (l0.length - (i + 1))
          case measure => omega
          case rel => exact ⟨i + 1, by go_num, by omega, by omega, ⟨by rw [HYS.out, hyy.out]; exact ho2.out⟩, ⟨bk2.out⟩, ⟨hb2.out⟩⟩
        · have hdb : decide (0 < x.f1) = false := decide_eq_false hd
          have hyy := Aside0.mk (hn.out (by rw [HP.out]; simp only [hdb, Bool.and_false]))
          clear hd
          go_wp2_with (first
            | (go_at_call 25; refine (want25 _ _).mono ?_; rintro e w1 ⟨rfl, rfl⟩))
          go_roundg (l0.length - (i + 1))
          case measure => omega
          case rel => exact ⟨i + 1, by go_num, by omega, by omega, ⟨by rw [HYS.out, hyy.out]; exact Kd.R_alloc HO.out _⟩, ⟨blk_alloc BK.out _⟩, ⟨below_alloc HB.out _⟩⟩
      · have hkb : (x.f0.f0 == a1_0 && (x.f0.f1 == a1_1 && (x.f0.f2 == a1_2))) = false := by simpa using hk
        have hyy := Aside0.mk (hn.out (by unfold atKey; rw [hkb]; rfl))
        clear hk
        go_wp2_with fail
        go_roundg (l0.length - (i + 1))
        case measure => omega
        case rel => exact ⟨i + 1, by go_num, by omega, by omega, ⟨by rw [HYS.out, hyy.out]; exact Kd.R_alloc HO.out _⟩, ⟨blk_alloc BK.out _⟩, ⟨below_alloc HB.out _⟩⟩
    · have hts : l0.take i = l0 := List.take_of_length_le (by omega)
      rw [hts] at HO
      clear hts
      obtain ⟨A1, c1, rfl, hc1, hr1⟩ := Kd.R_reads HO.out
      have hcall := calc_Sum.calls A1 c1 (sel p l0 a1_0 a1_1 a1_2) r1 r2 wr hr1 hc1 (by unfold calc_Sum.f; rw [if_pos (sel_i64 hall.out), H.out])
      go_wp2_with (first | (go_at_call 21; refine hcall.mono ?_; rintro e w1 ⟨rfl, hb1⟩; have HB1 := Aside0.mk hb1; clear hb1))
      go_ret2
      exact ⟨rfl, below_then HB.out HB.out.size HB1.out⟩
/-- High -/
def op_High.f (l0 : List (S26)) (a1_0 : Int) (a1_1 : Int) (a1_2 : Int) : Option (Int × Bool) := someR (fun d => decide (0 < d)) l0 a1_0 a1_1 a1_2
theorem op_High.calls (A0 : Option Addr) (c0 : Nat) (l0 : List (S26)) (a1_0 : Int) (a1_1 : Int) (a1_2 : Int) (r1 : Int) (r2 : Bool) (w : World) (hr0 : Kd.C k26 w A0 l0.length l0) (hc0 : l0.length ≤ c0) (h : op_High.f l0 a1_0 a1_1 a1_2 = some (r1, r2)) :
    Calls Try.prog 13 #[.slice A0 l0.length c0, .agg #[.int .u8 a1_0, .int .u8 a1_1, .int .u8 a1_2]] w fun e w' => e = .returned (.tuple #[.int .i64 r1, .bool r2]) ∧ Below w.heap.size w w' := by
  have hu24 := Try.underlying24
  have hcall := fun W (hb : Below w.heap.size w W) => some25.calls A0 c0 l0 a1_0 a1_1 a1_2 r1 r2 W (Kd.C_below hr0 hb) hc0 h
  have HC := Lib.hid hcall
  clear hcall hr0 h
  go_enter Try.func13, Try.ntmps13
  go_wp2_with (first | (go_at_call 22; refine (HC.out _ (below_alloc (Below.refl _ _) _)).mono ?_; rintro e w1 ⟨rfl, hb1⟩; have HB1 := Aside0.mk hb1; clear hb1))
  go_ret2
  exact ⟨rfl, below_then (below_alloc (Below.refl _ _) _) (by simp) HB1.out⟩
end Go.Proofs.Ytilgdojnbecglaa.X
