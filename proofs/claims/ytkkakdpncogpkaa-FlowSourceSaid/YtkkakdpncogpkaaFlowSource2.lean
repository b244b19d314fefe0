/- Parts of the proof of a law about flows (see the law's own text): Fdialtoneref27Supplied, Fdialtonelaw27FlowSource. Conditions: each theorem's own. -/
import Derived.Test.YtkkakdpncogpkaaBase5
import Derived.Test.YtkkakdpncogpkaaBase4
import Derived.Test.YtkkakdpncogpkaaBase6
import Derived.Test.YtkkakdpncogpkaaBase27
import Derived.Test.YtkkakdpncogpkaaBase28
import Derived.Test.YtkkakdpncogpkaaBase16
import Derived.Test.YtkkakdpncogpkaaBase23
section
namespace Go.Proofs.Ytkkakdpncogpkaa.D
open Go.RowKit Go.Proofs.YtkkakdpncogpkaaW.PrintWords Go.Proofs.YtkkakdpncogpkaaW.PrintLast Go.Proofs.YtkkakdpncogpkaaW.PrintMore
attribute [local go_sem] max2_int min2_int max_two min_two max_three min_three max_four min_four   -- for this text's walks alone
set_option linter.unusedVariables false
set_option linter.unusedSimpArgs false

/-! ### dialtoneref27_Supplied: function 45 -/
def dialtoneref27_Supplied.l0 : Nat → List Int → List Int → Int → Int → Int → List (S72) → Option (List Int)
 | 0, _, _, _, _, _, _ => none
 | k + 1, x1, x5, x6, x7, x426000, x426001 => if (wrap64 (x7 + 1)) < x426000 then (if x7 < (x1.length : Int) then (if 0 ≤ x7 then ((dialtoneref27_pick.f (rd x1 x7) 25).bind fun t430 => (if x7 < (x5.length : Int) then ((some (x5.set (x7 : Int).toNat (wrap64 (t430 - 12)) : List Int)).bind fun y431 => (dialtoneref27_Supplied.l0 k x1 y431 (wrap64 (x6 + (rd y431 x7))) (wrap64 (x7 + 1)) x426000 x426001)) else (none))) else (none)) else (if 0 ≤ x7 then (if x7 < (x5.length : Int) then (dialtoneref27_Supplied.l0 k x1 x5 (wrap64 (x6 + (rd x5 x7))) (wrap64 (x7 + 1)) x426000 x426001) else (none)) else (none))) else (if x426000 > 0 then (if 0 ≤ (wrap64 (x426000 - 1)) then (if (wrap64 (x426000 - 1)) < (x5.length : Int) then (some (x5.set ((wrap64 (x426000 - 1)) : Int).toNat (wrap64 (-x6)))) else (none)) else (none)) else (some x5))
def dialtoneref27_Supplied.f (k : Nat) (a0_0 : Int) (l0_1 : List (S72)) (l1 : List Int) : Option (List Int) := if 0 ≤ a0_0 then (if (a0_0 : Int).toNat ≤ 35184372088832 then (dialtoneref27_Supplied.l0 k l1 (List.replicate (a0_0 : Int).toNat 0) 0 0 a0_0 l0_1) else (none)) else (none)
theorem dialtoneref27_Supplied.mono_l : ∀ k, (∀ y0 y1 y2 y3 y4 y5, LeO (dialtoneref27_Supplied.l0 k y0 y1 y2 y3 y4 y5) (dialtoneref27_Supplied.l0 (k + 1) y0 y1 y2 y3 y4 y5))
 | 0 => fun _ _ _ _ _ _ r h => by simp [dialtoneref27_Supplied.l0] at h
 | k + 1 => by
  have ih0 := dialtoneref27_Supplied.mono_l k
  ·
   intro y0 y1 y2 y3 y4 y5
   unfold dialtoneref27_Supplied.l0
   repeat' first
   | (with_reducible exact ih0 _ _ _ _ _ _)
   | (with_reducible exact LeO.refl _)
   | (with_reducible exact LeO.none _)
   | (with_reducible refine LeO.ite ?_ ?_)
   | (with_reducible refine LeO.bind ?_ (fun _ => ?_))
   | exact ih0 _ _ _ _ _ _
   | exact LeO.none _
   | refine LeO.ite ?_ ?_
   | refine LeO.bind ?_ (fun _ => ?_)
theorem dialtoneref27_Supplied.mono : ∀ a0 a1 a2 k, LeO (dialtoneref27_Supplied.f k a0 a1 a2) (dialtoneref27_Supplied.f (k + 1) a0 a1 a2) := by
 intro a0 a1 a2 k
 have ih0 := dialtoneref27_Supplied.mono_l k
 unfold dialtoneref27_Supplied.f
 repeat' first
   | (with_reducible exact ih0 _ _ _ _ _ _)
   | (with_reducible exact LeO.refl _)
   | (with_reducible exact LeO.none _)
   | (with_reducible refine LeO.ite ?_ ?_)
   | (with_reducible refine LeO.bind ?_ (fun _ => ?_))
   | exact ih0 _ _ _ _ _ _
   | exact LeO.none _
   | refine LeO.ite ?_ ?_
   | refine LeO.bind ?_ (fun _ => ?_)
set_option maxHeartbeats 8000000 in
set_option maxRecDepth 100000 in
theorem dialtoneref27_Supplied.calls (k : Nat) (a0_0 : Int) (A0_1 : Option Addr) (c0_1 : Nat) (l0_1 : List (S72)) (A1 : Option Addr) (c1 : Nat) (l1 : List Int) (r : List Int) (w : World) (hr0_1 : Kd.C k72 w A0_1 l0_1.length l0_1) (hc0_1 : l0_1.length ≤ c0_1) (hr1 : Kd.C (Kd.int .i64) w A1 l1.length l1) (hc1 : l1.length ≤ c1) (h : dialtoneref27_Supplied.f k a0_0 l0_1 l1 = some r) :
  Calls Try.prog 45 #[.agg #[.int .i64 a0_0, .slice A0_1 l0_1.length c0_1], .slice A1 l1.length c1] w fun e w' => ∃ v0_ : Value, e = .returned (v0_) ∧ Kd.R (Kd.int .i64) 3 w' w.heap.size (fun _ => True) v0_ r ∧ Below w.heap.size w w' := by
 have hu26 := Try.underlying26
 have HR0_1 := Aside0.mk hr0_1
 have HC0_1 := Aside0.mk hc0_1
 clear hr0_1 hc0_1
 have HR1 := Aside0.mk hr1
 have HC1 := Aside0.mk hc1
 clear hr1 hc1
 have HB := Aside0.mk (Below.refl w.heap.size w)
 have H : (if 0 ≤ a0_0 then (if (a0_0 : Int).toNat ≤ 35184372088832 then (dialtoneref27_Supplied.l0 k l1 (List.replicate (a0_0 : Int).toNat 0) 0 0 a0_0 l0_1) else (none)) else (none)) = some r := h
 clear h
 by_cases c3 : 0 ≤ a0_0
 ·
  rw [if_pos c3] at H
  have c3b0 := eq_true c3
  have c3b1 : decide (0 ≤ a0_0) = true := decide_eq_true c3
  clear c3
  by_cases c4 : (a0_0 : Int).toNat ≤ 35184372088832
  ·
   rw [if_pos c4] at H
   have c4b0 := eq_true c4
   have c4b1 : decide ((a0_0 : Int).toNat ≤ 35184372088832) = true := decide_eq_true c4
   clear c4
   obtain ⟨y426, hy426⟩ : ∃ y_ : List Int, y_ = (List.replicate (a0_0 : Int).toNat 0) := ⟨_, rfl⟩
   replace H : (dialtoneref27_Supplied.l0 k l1 y426 0 0 a0_0 l0_1) = some r := by first | (rw [hy426]; with_reducible exact H) | (have H2_ := (Option.bind_some _ _).symm.trans H; rw [hy426]; with_reducible exact H2_) | (have H2_ := (Option.bind_some _ _).symm.trans H; with_reducible exact H2_) | with_reducible exact H | (rw [hy426]; exact H) | exact H
   have Ny426 := Aside0.mk hy426
   clear hy426
   have H' := Aside0.mk H
   clear H
   go_enter Try.func45, Try.ntmps45
   go_wp2_with (first | ((with_reducible refine gate_dst (N := 2) rfl ?_); refine box_event rfl (N := 2) rfl (cs := #[.int .i64 a0_0, .slice A0_1 l0_1.length c0_1]) (t := 26) qh ?_; intro gb425 hg w5 hbox hb; have BK425 := Aside0.mk (hbox); have GW425 := qg HB hg; have GE425 := qg HB hg; replace HB := qS HB hb; clear hb hbox hg; obtain ⟨hcz6_0, hcz6_1, hfz6_0, hfz6_1⟩ := qc2 BK425.out) | ((with_reducible refine gate_dst (N := 10) rfl ?_); refine Kd.R_make (Kd.int .i64) _ 3 rfl (N := 10) rfl 27 _ _ rfl a0_0 rfl rfl Try.underlying27 (.int .i64 0) 8 info3 rfl (by decide) (by omega) 0 (ok := fun _ => True) (okp := fun _ => True) rfl (fun _ hk => hk) trivial (of_decide_eq_true (by first | (with_reducible assumption) | assumption)) (Nat.le_trans (Nat.mul_le_mul_right _ (of_decide_eq_true (by first | (with_reducible assumption) | assumption) : a0_0.toNat ≤ 35184372088832)) (by omega)) (Below.refl _ _) (Nat.le_refl _) ?_; intro v427 w7 ho8 hb hg_ hnew_; clear hg_ hnew_; (first | rw [← Ny426.out] at ho8 | (simp only [Int.reduceToNat] at ho8; rw [← Ny426.out] at ho8)); have HO428 := Aside0.mk (Kd.R_lower ho8 (below_size (qb))); replace BK425 := qB BK425 hb; replace HB := qS HB hb; clear hb ho8))
   go_loopg [6, 7] k (fun kq v6 v7 w' => ∃ (x5_1 : List Int) (x6_1 : Int) (x7_1 : Int), v6 = .int .i64 x6_1 ∧ v7 = .int .i64 x7_1 ∧ Aside0 (dialtoneref27_Supplied.l0 kq l1 x5_1 x6_1 x7_1 a0_0 l0_1 = some r) ∧ Aside0 (kq ≤ k) ∧ Aside0 (Kd.R (Kd.int .i64) 3 w' w.heap.size (fun _ => True) v427 x5_1) ∧ Aside0 (w'.heap[gb425]? = some (.cells #[.int .i64 a0_0, (.slice A0_1 l0_1.length c0_1)] 26 (0, 0))) ∧ Aside0 (Below w.heap.size w w'))
   case atStart => exact ⟨(y426), (0), (0), (by first | rfl | (simp; done) | (simp [*]; done)), (by first | rfl | (simp; done) | (simp [*]; done)), H', ⟨Nat.le_refl _⟩, ⟨by (with_reducible repeat (first | apply Kd.R_alloc | apply Kd.R_drewN | apply Kd.R_drew)); exact HO428.out⟩, ⟨by (with_reducible repeat (first | refine blk_drewN ?_ _ | refine blk_drew ?_ | refine blk_alloc ?_ _)); exact BK425.out⟩, ⟨qb⟩⟩
   case round =>
    clear H'
    try clear c1
    try clear p2
    try clear c3
    try clear c3b0
    try clear c3b1
    try clear c4
    try clear c4b0
    try clear c4b1
    try clear hcz6_0
    try clear hcz6_1
    try clear hfz6_0
    try clear hfz6_1
    obtain ⟨x5_1, x6_1, x7_1, rfl, rfl, HA, HK1, HO_5, BK425, HB⟩ := hrel
    cases gk with
    | zero => exact absurd HA.out (by simp [dialtoneref27_Supplied.l0])
    | succ k1 =>
     have H := HA.out
     clear HA
     simp only [dialtoneref27_Supplied.l0] at H
     by_cases c9 : (wrap64 (x7_1 + 1)) < a0_0
     ·
      rw [if_pos c9] at H
      have c9b0 : decide ((wrap64 (x7_1 + 1)) < a0_0) = true := decide_eq_true c9
      clear c9
      by_cases c10 : x7_1 < (l1.length : Int)
      ·
       rw [if_pos c10] at H
       have c10b0 : decide (x7_1 < (l1.length : Int)) = true := decide_eq_true c10
       clear c10
       by_cases c11 : 0 ≤ x7_1
       ·
        rw [if_pos c11] at H
        have c11b0 : decide (0 ≤ x7_1) = true := decide_eq_true c11
        clear c11
        replace H := Option.bind_eq_some_iff.mp H
        obtain ⟨t430, A120, H⟩ := H
        (try dsimp only at H)
        have A12 := Aside0.mk A120
        clear A120
        by_cases c13 : x7_1 < (x5_1.length : Int)
        ·
         rw [if_pos c13] at H
         have c13b0 : decide (x7_1 < (x5_1.length : Int)) = true := decide_eq_true c13
         clear c13
         obtain ⟨y431, hy431⟩ : ∃ y_ : List Int, y_ = (x5_1.set (x7_1 : Int).toNat (wrap64 (t430 - 12))) := ⟨_, rfl⟩
         replace H : (dialtoneref27_Supplied.l0 k1 l1 y431 (wrap64 (x6_1 + (rd y431 x7_1))) (wrap64 (x7_1 + 1)) a0_0 l0_1) = some r := by first | (rw [hy431]; with_reducible exact H) | (have H2_ := (Option.bind_some _ _).symm.trans H; rw [hy431]; with_reducible exact H2_) | (have H2_ := (Option.bind_some _ _).symm.trans H; with_reducible exact H2_) | with_reducible exact H | (rw [hy431]; exact H) | exact H
         have Ny431 := Aside0.mk hy431
         clear hy431
         have H' := Aside0.mk H
         clear H
         obtain ⟨hcz15_0, hcz15_1, hfz15_0, hfz15_1⟩ := qc2 BK425.out
         have p429 : 0 ≤ (x7_1 : Int) := of_decide_eq_true (by first | (with_reducible assumption) | assumption)
         have q429 : x7_1 < (l1.length : Int) := of_decide_eq_true (by first | (with_reducible assumption) | assumption)
         obtain ⟨ad429, e429, hx429_0⟩ := Kd.at_int HR1.out x7_1 p429 q429
         cases e429
         replace hx429_0 := (HB.out.cell (World.block_lt_of_cell? w _ hx429_0)).trans hx429_0
         replace p429 := eq_true p429
         replace q429 := eq_true q429
         go_wp2_with (first | ((with_reducible refine gate_callee (f := 68) rfl ?_); refine goesL_ (some 28) rfl rfl Try.func68 qq rfl #[.int .i64 (rd l1 x7_1), .int .i64 25] rfl qa ?_; (with_reducible refine (dialtoneref27_pick.calls (rd l1 x7_1) 25 t430 _ A12.out).mono ?_); rintro e w' ⟨rfl, ⟨nd, rfl⟩⟩; refine ⟨_, rfl, ?_⟩; (try (rw [drewN_self wr]; generalize hq_ : World.drewN wr _ = wr; have n0_ : Aside0 (Kd.R (Kd.int .i64) 3 wr w.heap.size (fun _ => True) v427 x5_1) := ⟨by rw [← hq_]; exact (qr HO_5.out)⟩; have n1_ : Aside0 (wr.heap[gb425]? = some (.cells #[.int .i64 a0_0, .slice A0_1 l0_1.length c0_1] 26 (0, 0))) := ⟨by rw [← hq_]; exact (qk BK425.out)⟩; have n2_ : Aside0 (Below w.heap.size w wr) := ⟨by rw [← hq_]; exact (qb)⟩; clear HO_5 BK425 HB hq_; have HO_5 := n0_; have BK425 := n1_; have HB := n2_; clear n0_ n1_ n2_; have hcz16_0 : wr.cell? ⟨gb425, 0, none⟩ = some (.int .i64 a0_0) := (blk_cell BK425.out 0).trans rfl; have hfz16_0 := blk_frozen BK425.out 0; have hcz16_1 : wr.cell? ⟨gb425, 1, none⟩ = some (.slice A0_1 l0_1.length c0_1) := (blk_cell BK425.out 1).trans rfl; have hfz16_1 := blk_frozen BK425.out 1)); have p14 : 0 ≤ (x7_1 : Int) := of_decide_eq_true (by first | (with_reducible assumption) | assumption); have q14 : (x7_1 : Int) < ((x5_1.length : Int) : Int) := of_decide_eq_true (by first | (with_reducible assumption) | assumption); obtain ⟨go14, co14, eo14, gb14, gl14, cl14, HG14⟩ := Kd.R_form HO_5.out (by omega); (first | cases eo14 | (injection eo14 with ea_ en_ ec_; (first | subst ea_ | (injection ea_ with ea_; subst ea_)); subst ec_; clear en_)); have GB14 := Aside0.mk gb14; have GG14 := Aside0.mk HG14; clear gb14 gl14 HG14; obtain ⟨hx14_0, hf14_0⟩ := Kd.R_celln 0 HO_5.out (x7_1 : Int) p14 q14; replace p14 := eq_true p14; replace q14 := eq_true q14; obtain ⟨hy17_, hz17_⟩ := Kd.R_celln 0 HO_5.out (x7_1 : Int) (of_decide_eq_true (by first | (with_reducible assumption) | assumption)) (of_decide_eq_true (by first | (with_reducible assumption) | assumption)); have HP17 := Kd.R_putg HO_5.out (x7_1 : Int) (wrap64 (t430 - 12))) | ((with_reducible refine gate_store (t := 3) (p := 30) rfl ?_); refine store_event (t := 3) (p := 30) (v := ?vo_w18) (w1 := (wr.setCell ⟨go14, (x7_1 : Int).toNat, none⟩ (.int .i64 (wrap64 (t430 - 12))))) ?hg ?ho ?hn ?hr ?_; (case ho => rfl); (case hg => rfl); (case hn => rfl); (case hr => first | (go_simp; done) | (go_simp; rfl)); intro w18 hw; have hg : wr.grownBy w18 (some go14) := (by rw [hw]; exact HP17.2); have hp_ : Kd.R (Kd.int .i64) 3 w18 w.heap.size (fun _ => True) (.slice (some ⟨go14, 0, none⟩) x5_1.length co14) y431 := (by rw [hw, Ny431.out]; exact HP17.1); clear HP17; replace BK425 := Aside0.mk (blk_grown (g := gb425) (o := .cells #[.int .i64 a0_0, .slice A0_1 l0_1.length c0_1] 26 (0, 0)) (qk BK425.out) hg (Kd.R_ne HO_5.out BK425.out (by decide))); replace HO_5 := Aside0.mk (hp_); replace HB := Aside0.mk ((by rw [hw]; exact below_set (HB.out) GB14.out : Below w.heap.size w w18)); clear hg hw hp_; have p432 : 0 ≤ (x7_1 : Int) := of_decide_eq_true (by first | (with_reducible assumption) | assumption); have q432 : x7_1 < (y431.length : Int) := (by have h_ : (x7_1 : Int) < ((x5_1.length : Int) : Int) := of_decide_eq_true (by first | (with_reducible assumption) | assumption); first | (have e_ := (Kd.R_reads' HO_5.out).1; omega) | simpa only [Ny431.out, List.length_set] using h_); have ql432 : ((x7_1 : Int) < ((x5_1.length : Int) : Int)) = True := eq_true (of_decide_eq_true (by first | (with_reducible assumption) | assumption)); obtain ⟨ad432, e432, hx432_0⟩ := Kd.at_int (Kd.R_reads' HO_5.out).2.2 x7_1 p432 q432; obtain rfl : (⟨go14, 0, none⟩ : Addr) = ad432 := (by injection e432); (first | simp only [add_plain] at hx432_0 | simp only [add_at] at hx432_0 | simp only [Addr.add, Nat.zero_add] at hx432_0 | skip); replace p432 := eq_true p432; replace q432 := eq_true q432))
         go_roundg k1
         case measure => have := HK1.out; omega
         case rel => exact ⟨(y431), (wrap64 (x6_1 + (rd y431 x7_1))), (wrap64 (x7_1 + 1)), (by first | rfl | (simp; done) | (simp [*]; done)), (by first | rfl | (simp; done) | (simp [*]; done)), H', ⟨by have := HK1.out; omega⟩, ⟨by (with_reducible repeat (first | apply Kd.R_alloc | apply Kd.R_drewN | apply Kd.R_drew)); exact HO_5.out⟩, ⟨by (with_reducible repeat (first | refine blk_drewN ?_ _ | refine blk_drew ?_ | refine blk_alloc ?_ _)); exact BK425.out⟩, ⟨qb⟩⟩
        ·
         rw [if_neg c13] at H
         exact absurd H (by simp)
       ·
        rw [if_neg c11] at H
        exact absurd H (by simp)
      ·
       rw [if_neg c10] at H
       have c10b0 : decide (x7_1 < (l1.length : Int)) = false := decide_eq_false c10
       clear c10
       by_cases c19 : 0 ≤ x7_1
       ·
        rw [if_pos c19] at H
        have c19b0 : decide (0 ≤ x7_1) = true := decide_eq_true c19
        clear c19
        by_cases c20 : x7_1 < (x5_1.length : Int)
        ·
         rw [if_pos c20] at H
         have c20b0 : decide (x7_1 < (x5_1.length : Int)) = true := decide_eq_true c20
         clear c20
         have H' := Aside0.mk H
         clear H
         obtain ⟨hcz21_0, hcz21_1, hfz21_0, hfz21_1⟩ := qc2 BK425.out
         obtain ⟨Ao22, co22, eo22⟩ := Kd.R_slice HO_5.out
         subst eo22
         have p433 : 0 ≤ (x7_1 : Int) := of_decide_eq_true (by first | (with_reducible assumption) | assumption)
         have q433 : x7_1 < (x5_1.length : Int) := of_decide_eq_true (by first | (with_reducible assumption) | assumption)
         obtain ⟨ad433, e433, hx433_0⟩ := Kd.at_int (Kd.R_reads' HO_5.out).2.2 x7_1 p433 q433
         cases e433
         replace p433 := eq_true p433
         replace q433 := eq_true q433
         go_wp2
         go_roundg k1
         case measure => have := HK1.out; omega
         case rel => exact ⟨(x5_1), (wrap64 (x6_1 + (rd x5_1 x7_1))), (wrap64 (x7_1 + 1)), (by first | rfl | (simp; done) | (simp [*]; done)), (by first | rfl | (simp; done) | (simp [*]; done)), H', ⟨by have := HK1.out; omega⟩, ⟨by (with_reducible repeat (first | apply Kd.R_alloc | apply Kd.R_drewN | apply Kd.R_drew)); exact HO_5.out⟩, ⟨by (with_reducible repeat (first | refine blk_drewN ?_ _ | refine blk_drew ?_ | refine blk_alloc ?_ _)); exact BK425.out⟩, ⟨qb⟩⟩
        ·
         rw [if_neg c20] at H
         exact absurd H (by simp)
       ·
        rw [if_neg c19] at H
        exact absurd H (by simp)
     ·
      rw [if_neg c9] at H
      have c9b0 : decide ((wrap64 (x7_1 + 1)) < a0_0) = false := decide_eq_false c9
      clear c9
      by_cases c23 : a0_0 > 0
      ·
       rw [if_pos c23] at H
       have c23b0 : decide (0 < a0_0) = true := decide_eq_true c23
       clear c23
       obtain ⟨ji24, hji24⟩ : ∃ j_ : Int, (wrap64 (a0_0 - 1)) = j_ := ⟨_, rfl⟩
       replace H : (if 0 ≤ (ji24) then (if (ji24) < (x5_1.length : Int) then (some (x5_1.set ((ji24) : Int).toNat (wrap64 (-x6_1)))) else (none)) else (none)) = some r := by first | (rw [hji24] at H; exact H) | (simp only [hji24] at H ⊢; exact H)
       have hji24w : (IntKind.i64.wrap (a0_0 - 1)) = ji24 := (i64_w _).trans hji24
       by_cases c25 : 0 ≤ (ji24)
       ·
        rw [if_pos c25] at H
        have c25b0 : decide (0 ≤ (ji24)) = true := decide_eq_true c25
        clear c25
        by_cases c26 : (ji24) < (x5_1.length : Int)
        ·
         rw [if_pos c26] at H
         have c26b0 : decide ((ji24) < (x5_1.length : Int)) = true := decide_eq_true c26
         clear c26
         obtain ⟨y434, hy434⟩ : ∃ y_ : List Int, y_ = (x5_1.set ((ji24) : Int).toNat (wrap64 (-x6_1))) := ⟨_, rfl⟩
         replace H : (some y434) = some r := by first | (rw [hy434]; with_reducible exact H) | (have H2_ := (Option.bind_some _ _).symm.trans H; rw [hy434]; with_reducible exact H2_) | (have H2_ := (Option.bind_some _ _).symm.trans H; with_reducible exact H2_) | with_reducible exact H | (rw [hy434]; exact H) | exact H
         have Ny434 := Aside0.mk hy434
         clear hy434
         obtain rfl := Option.some.inj H
         obtain ⟨hcz28_0, hcz28_1, hfz28_0, hfz28_1⟩ := qc2 BK425.out
         have p27 : 0 ≤ ((ji24) : Int) := of_decide_eq_true (by first | (with_reducible assumption) | assumption)
         have q27 : ((ji24) : Int) < ((x5_1.length : Int) : Int) := of_decide_eq_true (by first | (with_reducible assumption) | assumption)
         obtain ⟨go27, co27, eo27, gb27, gl27, cl27, HG27⟩ := Kd.R_form HO_5.out (by omega)
         (first | cases eo27 | (injection eo27 with ea_ en_ ec_; (first | subst ea_ | (injection ea_ with ea_; subst ea_)); subst ec_; clear en_))
         have GB27 := Aside0.mk gb27
         have GG27 := Aside0.mk HG27
         clear gb27 gl27 HG27
         obtain ⟨hx27_0, hf27_0⟩ := Kd.R_celln 0 HO_5.out ((ji24) : Int) p27 q27
         replace p27 := eq_true p27
         replace q27 := eq_true q27
         have HP29 := Kd.R_putg HO_5.out ((ji24) : Int) (wrap64 (-x6_1))
         go_wp2_with (first | ((with_reducible refine gate_store (t := 3) (p := 46) rfl ?_); refine store_event (t := 3) (p := 46) (v := ?vo_w30) (w1 := (wr.setCell ⟨go27, ((ji24) : Int).toNat, none⟩ (.int .i64 (wrap64 (-x6_1))))) ?hg ?ho ?hn ?hr ?_; (case ho => rfl); (case hg => rfl); (case hn => rfl); (case hr => first | (go_simp; done) | (go_simp; rfl)); intro w30 hw; have hg : wr.grownBy w30 (some go27) := (by rw [hw]; exact HP29.2); have hp_ : Kd.R (Kd.int .i64) 3 w30 w.heap.size (fun _ => True) (.slice (some ⟨go27, 0, none⟩) x5_1.length co27) y434 := (by rw [hw, Ny434.out]; exact HP29.1); clear HP29; replace BK425 := Aside0.mk (blk_grown (g := gb425) (o := .cells #[.int .i64 a0_0, .slice A0_1 l0_1.length c0_1] 26 (0, 0)) (qk BK425.out) hg (Kd.R_ne HO_5.out BK425.out (by decide))); replace HO_5 := Aside0.mk (hp_); replace HB := Aside0.mk ((by rw [hw]; exact below_set (HB.out) GB27.out : Below w.heap.size w w30)); clear hg hw hp_))
         go_ret
         exact ⟨_, by first | rfl | (simp [errW_none, errW_some] <;> rfl) | (simp only [← hji24]; first | rfl | (simp [errW_none, errW_some] <;> rfl)) | (simp [*, errW_none, errW_some] <;> rfl), by (with_reducible repeat (first | apply Kd.R_alloc | apply Kd.R_drewN | apply Kd.R_drew)); exact HO_5.out, qb⟩
        ·
         rw [if_neg c26] at H
         exact absurd H (by simp)
       ·
        rw [if_neg c25] at H
        exact absurd H (by simp)
      ·
       rw [if_neg c23] at H
       have c23b0 : decide (0 < a0_0) = false := decide_eq_false c23
       clear c23
       obtain rfl := Option.some.inj H
       obtain ⟨hcz31_0, hcz31_1, hfz31_0, hfz31_1⟩ := qc2 BK425.out
       go_wp2
       go_ret
       exact ⟨_, qe, by (with_reducible repeat (first | apply Kd.R_alloc | apply Kd.R_drewN | apply Kd.R_drew)); exact HO_5.out, qb⟩
  ·
   rw [if_neg c4] at H
   exact absurd H (by simp)
 ·
  rw [if_neg c3] at H
  exact absurd H (by simp)

end Go.Proofs.Ytkkakdpncogpkaa.D
end
section
namespace Go.Proofs.Ytkkakdpncogpkaa.D
open Go.RowKit Go.Proofs.YtkkakdpncogpkaaW.PrintWords Go.Proofs.YtkkakdpncogpkaaW.PrintLast Go.Proofs.YtkkakdpncogpkaaW.PrintMore
attribute [local go_sem] max2_int min2_int max_two min_two max_three min_three max_four min_four   -- for this text's walks alone
set_option linter.unusedVariables false
set_option linter.unusedSimpArgs false

/-! ### dialtonelaw27_FlowSource: function 12 -/
def dialtonelaw27_FlowSource.l0 : Nat → Int → Int → Int → Bool → List Int → Int → Int → Int → List (S72) → Option (Bool)
 | 0, _, _, _, _, _, _, _, _, _ => none
 | k + 1, x12, x13, x14, x16, x49, x50, x51, x1019000, x1019001 => if x51 < x50 then (if 0 ≤ x51 then (if x51 < (x49.length : Int) then (if 0 ≤ x1019000 then (if (x1019000 : Int).toNat ≤ 35184372088832 then ((some (List.replicate (x1019000 : Int).toNat 0 : List Int)).bind fun y1029 => (if 0 ≤ x12 then (if x12 < (y1029.length : Int) then (if 0 ≤ x13 then (if x13 < (y1029.length : Int) then ((flow_Meet.f x1019000 x1019001 ((y1029.set (x12 : Int).toNat (rd x49 x51)).set (x13 : Int).toNat (wrap64 (-(rd x49 x51))))).bind fun bt1034 => (if bt1034.2.2.2 = 0 then (if (bt1034.1 != (decide ((rd x49 x51) ≤ x14))) = true then (some false) else (if bt1034.1 = true then ((flow_CheckFlow.f k x1019000 x1019001 x12 x13 bt1034.2.1).bind fun bt1041 => (if bt1041.2 = true then (if bt1041.1 = (rd x49 x51) then (dialtonelaw27_FlowSource.l0 k x12 x13 x14 x16 x49 x50 (wrap64 (x51 + 1)) x1019000 x1019001) else (some false)) else (none))) else (dialtonelaw27_FlowSource.l0 k x12 x13 x14 x16 x49 x50 (wrap64 (x51 + 1)) x1019000 x1019001))) else (none))) else (none)) else (none)) else (none)) else (none))) else (none)) else (none)) else (none)) else (none)) else (some x16)
def dialtonelaw27_FlowSource.f (k : Nat) (a0 : Int) (l1 : List (S23)) (a2 : Int) (a3 : Int) (a4 : Int) : Option (Bool) := (dialtonelaw27_sane.f k).bind fun t1013 => (if t1013 = true then ((dialtoneref27_Made.f k a0 l1).bind fun bt1014 => ((dialtonelaw27_ends.f bt1014.1 bt1014.2 a2 a3).bind fun bt1019 => ((dialtonelaw27_greatest.f k bt1014.1 bt1014.2 bt1019.1 bt1019.2).bind fun bt1021 => (if bt1021.2.2 = true then ((dialtonelaw27_pick.f a4 60).bind fun t1024 => ((some (([t1024, bt1021.1, wrap64 (bt1021.1 + 1)] : List Int) : List Int)).bind fun y1025 => (dialtonelaw27_FlowSource.l0 k bt1019.1 bt1019.2 bt1021.1 bt1021.2.2 y1025 (y1025.length : Int) 0 bt1014.1 bt1014.2))) else (none))))) else (none))
set_option maxHeartbeats 8000000 in
set_option maxRecDepth 100000 in
theorem dialtonelaw27_FlowSource.calls (k : Nat) (a0 : Int) (A1 : Option Addr) (c1 : Nat) (l1 : List (S23)) (a2 : Int) (a3 : Int) (a4 : Int) (r : Bool) (w : World) (hr1 : Kd.C k23 w A1 l1.length l1) (hc1 : l1.length ≤ c1) (h : dialtonelaw27_FlowSource.f k a0 l1 a2 a3 a4 = some r) :
  Calls Try.prog 12 #[.int .i64 a0, .slice A1 l1.length c1, .int .i64 a2, .int .i64 a3, .int .i64 a4] w fun e w' => e = .returned (.bool r) ∧ Below w.heap.size w w' := by
 have hu26 := Try.underlying26
 have hu55 := Try.underlying55
 have HR1 := Aside0.mk hr1
 have HC1 := Aside0.mk hc1
 clear hr1 hc1
 have HB := Aside0.mk (Below.refl w.heap.size w)
 have H : ((dialtonelaw27_sane.f k).bind fun t1013 => (if t1013 = true then ((dialtoneref27_Made.f k a0 l1).bind fun bt1014 => ((dialtonelaw27_ends.f bt1014.1 bt1014.2 a2 a3).bind fun bt1019 => ((dialtonelaw27_greatest.f k bt1014.1 bt1014.2 bt1019.1 bt1019.2).bind fun bt1021 => (if bt1021.2.2 = true then ((dialtonelaw27_pick.f a4 60).bind fun t1024 => ((some (([t1024, bt1021.1, wrap64 (bt1021.1 + 1)] : List Int) : List Int)).bind fun y1025 => (dialtonelaw27_FlowSource.l0 k bt1019.1 bt1019.2 bt1021.1 bt1021.2.2 y1025 (y1025.length : Int) 0 bt1014.1 bt1014.2))) else (none))))) else (none))) = some r := h
 clear h
 replace H := Option.bind_eq_some_iff.mp H
 obtain ⟨t1013, A60, H⟩ := H
 (try dsimp only at H)
 have A6 := Aside0.mk A60
 clear A60
 by_cases c7 : t1013 = true
 ·
  subst c7
  rw [if_pos rfl] at H
  replace H := Option.bind_eq_some_iff.mp H
  obtain ⟨⟨t1014, t1015⟩, A80, H⟩ := H
  (try dsimp only at H)
  have A8 := Aside0.mk A80
  clear A80
  replace H := Option.bind_eq_some_iff.mp H
  obtain ⟨⟨t1019, t1020⟩, A90, H⟩ := H
  (try dsimp only at H)
  have A9 := Aside0.mk A90
  clear A90
  replace H := Option.bind_eq_some_iff.mp H
  obtain ⟨⟨t1021, t1022, t1023⟩, A100, H⟩ := H
  (try dsimp only at H)
  have A10 := Aside0.mk A100
  clear A100
  by_cases c11 : t1023 = true
  ·
   subst c11
   rw [if_pos rfl] at H
   replace H := Option.bind_eq_some_iff.mp H
   obtain ⟨t1024, A120, H⟩ := H
   (try dsimp only at H)
   have A12 := Aside0.mk A120
   clear A120
   obtain ⟨y1025, hy1025⟩ : ∃ y_ : List Int, y_ = (([t1024, t1021, wrap64 (t1021 + 1)] : List Int)) := ⟨_, rfl⟩
   replace H : (dialtonelaw27_FlowSource.l0 k t1019 t1020 t1021 true y1025 (y1025.length : Int) 0 t1014 t1015) = some r := by first | (rw [hy1025]; with_reducible exact H) | (have H2_ := (Option.bind_some _ _).symm.trans H; rw [hy1025]; with_reducible exact H2_) | (have H2_ := (Option.bind_some _ _).symm.trans H; with_reducible exact H2_) | with_reducible exact H | (rw [hy1025]; exact H) | exact H
   have Ny1025 := Aside0.mk hy1025
   clear hy1025
   have H' := Aside0.mk H
   clear H
   go_enter Try.func12, Try.ntmps12
   go_wp2_with (first | ((with_reducible refine gate_callee (f := 22) rfl ?_); refine goesL_ (some 24) rfl rfl Try.func22 qq rfl #[] rfl qa ?_; (with_reducible refine (dialtonelaw27_sane.calls k  true _ A6.out).mono ?_); rintro e w13 ⟨rfl, hb⟩; refine ⟨_, rfl, ?_⟩; replace HB := qS HB hb; (try clear hb); (try clear hb2); (try clear hk); (try clear hi)) | ((with_reducible refine gate_callee (f := 23) rfl ?_); refine goesL_ (some 28) rfl rfl Try.func23 qq rfl #[.int .i64 a0, .slice A1 l1.length c1] rfl qa ?_; (with_reducible refine (dialtoneref27_Made.calls k a0 _ _ l1 t1014 t1015 _ ?side1 ?side2 A8.out).mono ?_); (case side1 => exact qC (Kd.C_below HR1.out HB.out)); (case side2 => exact HC1.out); rintro e w14 ⟨v1016, rfl, ho0, hb⟩; refine ⟨_, rfl, ?_⟩; have HO1017 := qL HB ho0; replace HB := qS HB hb; (try clear hb); (try clear hb2); (try clear hk); (try clear hi); (try clear ho0)) | ((with_reducible refine gate_dst (N := 11) rfl ?_); refine box_event rfl (N := 11) rfl (cs := #[.int .i64 0, .slice none 0 0]) (t := 26) qh ?_; intro gb1018 hg w15 hbox hb; replace HO1017 := qR HO1017 hb; have BK1018 := Aside0.mk (hbox); have GW1018 := qg HB hg; have GE1018 := qg HB hg; replace HB := qS HB hb; clear hb hbox hg; obtain ⟨hcz16_0, hcz16_1, hfz16_0, hfz16_1⟩ := qc2 BK1018.out; obtain ⟨Ao17, co17, eo17⟩ := Kd.R_slice HO1017.out; subst eo17) | ((with_reducible refine gate_callee (f := 24) rfl ?_); refine goesL_ (some 33) rfl rfl Try.func24 qq rfl #[.agg #[.int .i64 t1014, .slice Ao17 t1015.length co17], .int .i64 a2, .int .i64 a3] rfl qa ?_; (with_reducible refine (dialtonelaw27_ends.calls t1014 _ _ t1015 a2 a3 t1019 t1020 _ ?side1 ?side2 A9.out).mono ?_); (case side1 => refine (Kd.R_reads' (e := 72) (base := w.heap.size) (ok := fun k_ => True) (n := t1015.length) (c := co17) ?_).2.2; exact (qr (Kd.R_mono (Kd.R_far (p := ⟨gb1018, 1, none⟩) (Kd.R_far (p := ⟨gb1018, 0, none⟩) (Kd.R_types HO1017.out BK1018.out (by decide)) (fun _ hk => hk.2) (.int .i64 t1014)) (fun _ hk => hk.2) (.slice Ao17 t1015.length co17)) (fun _ h_ => h_.1)))); (case side2 => exact (Kd.R_reads' HO1017.out).2.1); rintro e w18 ⟨rfl, hb⟩; refine ⟨_, rfl, ?_⟩; replace HO1017 := Aside0.mk (Kd.R_below (qr (Kd.R_mono (Kd.R_far (p := ⟨gb1018, 1, none⟩) (Kd.R_far (p := ⟨gb1018, 0, none⟩) (Kd.R_types HO1017.out BK1018.out (by decide)) (fun _ hk => hk.2) (.int .i64 t1014)) (fun _ hk => hk.2) (.slice Ao17 t1015.length co17)) (fun _ h_ => h_.1))) hb); replace BK1018 := Aside0.mk (blk_below (g := gb1018) (o := .cells #[.int .i64 t1014, .slice Ao17 t1015.length co17] 26 (0, 0)) (by (with_reducible repeat (first | refine blk_drewN ?_ _ | refine blk_drew ?_ | refine blk_alloc ?_ _)); refine blk_put (cs := #[.int .i64 t1014, .slice none 0 0]) ?_ 1 _ rfl; (with_reducible repeat (first | refine blk_drewN ?_ _ | refine blk_drew ?_ | refine blk_alloc ?_ _)); refine blk_put (cs := #[.int .i64 0, .slice none 0 0]) ?_ 0 _ rfl; (with_reducible repeat (first | refine blk_drewN ?_ _ | refine blk_drew ?_ | refine blk_alloc ?_ _)); exact BK1018.out) hb); replace HB := qS HB hb; (try clear hb); (try clear hb2); (try clear hk); (try clear hi); obtain ⟨hcz19_0, hcz19_1, hfz19_0, hfz19_1⟩ := qc2 BK1018.out) | ((with_reducible refine gate_callee (f := 51) rfl ?_); refine goesL_ (some 40) rfl rfl Try.func51 qq rfl #[.agg #[.int .i64 t1014, .slice Ao17 t1015.length co17], .int .i64 t1019, .int .i64 t1020] rfl qa ?_; (with_reducible refine (dialtonelaw27_greatest.calls k t1014 _ _ t1015 t1019 t1020 t1021 t1022 true _ ?side1 ?side2 A10.out).mono ?_); (case side1 => exact qC (Kd.R_reads' HO1017.out).2.2); (case side2 => exact (Kd.R_reads' HO1017.out).2.1); rintro e w20 ⟨rfl, hb⟩; refine ⟨_, rfl, ?_⟩; replace HO1017 := qR HO1017 hb; replace BK1018 := qB BK1018 hb; replace HB := qS HB hb; (try clear hb); (try clear hb2); (try clear hk); (try clear hi)) | ((with_reducible refine gate_callee (f := 35) rfl ?_); refine goesL_ (some 45) rfl rfl Try.func35 qq rfl #[.int .i64 a4, .int .i64 60] rfl qa ?_; (with_reducible refine (dialtonelaw27_pick.calls a4 60 t1024 _ A12.out).mono ?_); rintro e w' ⟨rfl, ⟨nd, rfl⟩⟩; refine ⟨_, rfl, ?_⟩) | ((with_reducible refine gate_dst (N := 49) rfl ?_); refine Kd.R_lit (Kd.int .i64) _ 3 ?hg (N := 49) ?hd (xs := ([t1024, t1021, wrap64 (t1021 + 1)] : List Int)) (inner := [.int .i64 t1024, .int .i64 t1021, .int .i64 (wrap64 (t1021 + 1))]) (ok := fun _ => True) (okp := fun _ => True) ?hr ?hp (fun _ hk => hk) trivial (Below.refl _ _) (Nat.le_refl _) (by simp) ?_; (case hd => rfl); (case hg => rfl); (case hr => first | (go_simp; done) | (go_simp; rfl)); (case hp => exact (Reps.one (show Kd.M (Kd.int .i64) _ _ _ t1024 [.int .i64 t1024] from rfl) (Reps.one (show Kd.M (Kd.int .i64) _ _ _ t1021 [.int .i64 t1021] from rfl) (Reps.one (show Kd.M (Kd.int .i64) _ _ _ (wrap64 (t1021 + 1)) [.int .i64 (wrap64 (t1021 + 1))] from rfl) (Reps.none _ _))))); intro v1026 w21 ho22 hb hg_ hnew_; clear hg_ hnew_; (first | rw [← Ny1025.out] at ho22 | (simp only [Int.reduceToNat] at ho22; rw [← Ny1025.out] at ho22)); replace HO1017 := qR HO1017 hb; have HO1027 := Aside0.mk (Kd.R_lower ho22 (below_size (qb))); replace BK1018 := qB BK1018 hb; replace HB := qS HB hb; clear hb ho22; obtain ⟨Ao23, co23, eo23⟩ := Kd.R_slice HO1027.out; subst eo23))
   go_loopg [51] k (fun kq v51 w' => ∃ (x49_1 : List Int) (x51_1 : Int), v51 = .int .i64 x51_1 ∧ Aside0 (dialtonelaw27_FlowSource.l0 kq t1019 t1020 t1021 true x49_1 (y1025.length : Int) x51_1 t1014 t1015 = some r) ∧ Aside0 (kq ≤ k) ∧ Aside0 (Kd.R (Kd.int .i64) 3 w' w.heap.size (fun _ => True) (.slice Ao23 y1025.length co23) x49_1) ∧ Aside0 (Kd.R k72 72 w' w.heap.size (fun _ => True) (.slice Ao17 t1015.length co17) t1015) ∧ Aside0 (w'.heap[gb1018]? = some (.cells #[.int .i64 t1014, (.slice Ao17 t1015.length co17)] 26 (0, 0))) ∧ Aside0 (Below w.heap.size w w'))
   case atStart => exact ⟨(y1025), (0), (by first | rfl | (simp; done) | (simp [*]; done)), H', ⟨Nat.le_refl _⟩, ⟨by (with_reducible repeat (first | apply Kd.R_alloc | apply Kd.R_drewN | apply Kd.R_drew)); exact HO1027.out⟩, ⟨by (with_reducible repeat (first | apply Kd.R_alloc | apply Kd.R_drewN | apply Kd.R_drew)); exact HO1017.out⟩, ⟨by (with_reducible repeat (first | refine blk_drewN ?_ _ | refine blk_drew ?_ | refine blk_alloc ?_ _)); exact BK1018.out⟩, ⟨qb⟩⟩
   case round =>
    clear H'
    try clear c1
    try clear c2
    try clear p2
    try clear c3
    try clear c5
    try clear p6
    try clear c7
    try clear c11
    try clear c12
    try clear c22
    try clear c23
    try clear hcz16_0
    try clear hcz16_1
    try clear hcz19_0
    try clear hcz19_1
    try clear hfz16_0
    try clear hfz16_1
    try clear hfz19_0
    try clear hfz19_1
    obtain ⟨x49_1, x51_1, rfl, HA, HK1, HO_49, HO_1019001, BK1018, HB⟩ := hrel
    have hl49_1 := (Kd.R_reads' HO_49.out).1
    rw [hl49_1] at HO_49
    (try simp only [hl49_1])
    (try simp only [hl49_1] at BK1018)
    (try simp only [hl49_1] at HO_1019001)
    cases gk with
    | zero => exact absurd HA.out (by simp [dialtonelaw27_FlowSource.l0])
    | succ k1 =>
     have H := HA.out
     clear HA
     simp only [dialtonelaw27_FlowSource.l0] at H
     by_cases c24 : x51_1 < (y1025.length : Int)
     ·
      rw [if_pos c24] at H
      have c24b0 : decide (x51_1 < (y1025.length : Int)) = true := decide_eq_true c24
      clear c24
      (try simp only [hl49_1] at c24b0)
      by_cases c25 : 0 ≤ x51_1
      ·
       rw [if_pos c25] at H
       have c25b0 : decide (0 ≤ x51_1) = true := decide_eq_true c25
       clear c25
       by_cases c26 : x51_1 < (x49_1.length : Int)
       ·
        rw [if_pos c26] at H
        have c26b0 : decide (x51_1 < (x49_1.length : Int)) = true := decide_eq_true c26
        clear c26
        (try simp only [hl49_1] at c26b0)
        by_cases c27 : 0 ≤ t1014
        ·
         rw [if_pos c27] at H
         have c27b0 := eq_true c27
         have c27b1 : decide (0 ≤ t1014) = true := decide_eq_true c27
         clear c27
         by_cases c28 : (t1014 : Int).toNat ≤ 35184372088832
         ·
          rw [if_pos c28] at H
          have c28b0 := eq_true c28
          have c28b1 : decide ((t1014 : Int).toNat ≤ 35184372088832) = true := decide_eq_true c28
          clear c28
          obtain ⟨y1029, hy1029⟩ : ∃ y_ : List Int, y_ = (List.replicate (t1014 : Int).toNat 0) := ⟨_, rfl⟩
          replace H : (if 0 ≤ t1019 then (if t1019 < (y1029.length : Int) then (if 0 ≤ t1020 then (if t1020 < (y1029.length : Int) then ((flow_Meet.f t1014 t1015 ((y1029.set (t1019 : Int).toNat (rd x49_1 x51_1)).set (t1020 : Int).toNat (wrap64 (-(rd x49_1 x51_1))))).bind fun bt1034 => (if bt1034.2.2.2 = 0 then (if (bt1034.1 != (decide ((rd x49_1 x51_1) ≤ t1021))) = true then (some false) else (if bt1034.1 = true then ((flow_CheckFlow.f k1 t1014 t1015 t1019 t1020 bt1034.2.1).bind fun bt1041 => (if bt1041.2 = true then (if bt1041.1 = (rd x49_1 x51_1) then (dialtonelaw27_FlowSource.l0 k1 t1019 t1020 t1021 true x49_1 (y1025.length : Int) (wrap64 (x51_1 + 1)) t1014 t1015) else (some false)) else (none))) else (dialtonelaw27_FlowSource.l0 k1 t1019 t1020 t1021 true x49_1 (y1025.length : Int) (wrap64 (x51_1 + 1)) t1014 t1015))) else (none))) else (none)) else (none)) else (none)) else (none)) = some r := by first | (rw [hy1029]; with_reducible exact H) | (have H2_ := (Option.bind_some _ _).symm.trans H; rw [hy1029]; with_reducible exact H2_) | (have H2_ := (Option.bind_some _ _).symm.trans H; with_reducible exact H2_) | with_reducible exact H | (rw [hy1029]; exact H) | exact H
          have Ny1029 := Aside0.mk hy1029
          clear hy1029
          by_cases c29 : 0 ≤ t1019
          ·
           rw [if_pos c29] at H
           have c29b0 : decide (0 ≤ t1019) = true := decide_eq_true c29
           clear c29
           by_cases c30 : t1019 < (y1029.length : Int)
           ·
            rw [if_pos c30] at H
            have c30b0 : decide (t1019 < (y1029.length : Int)) = true := decide_eq_true c30
            clear c30
            (try simp only [hl49_1] at c30b0)
            obtain ⟨y1032, hy1032⟩ : ∃ y_ : List Int, y_ = (y1029.set (t1019 : Int).toNat (rd x49_1 x51_1)) := ⟨_, rfl⟩
            replace H : (if 0 ≤ t1020 then (if t1020 < (y1029.length : Int) then ((flow_Meet.f t1014 t1015 (y1032.set (t1020 : Int).toNat (wrap64 (-(rd x49_1 x51_1))))).bind fun bt1034 => (if bt1034.2.2.2 = 0 then (if (bt1034.1 != (decide ((rd x49_1 x51_1) ≤ t1021))) = true then (some false) else (if bt1034.1 = true then ((flow_CheckFlow.f k1 t1014 t1015 t1019 t1020 bt1034.2.1).bind fun bt1041 => (if bt1041.2 = true then (if bt1041.1 = (rd x49_1 x51_1) then (dialtonelaw27_FlowSource.l0 k1 t1019 t1020 t1021 true x49_1 (y1025.length : Int) (wrap64 (x51_1 + 1)) t1014 t1015) else (some false)) else (none))) else (dialtonelaw27_FlowSource.l0 k1 t1019 t1020 t1021 true x49_1 (y1025.length : Int) (wrap64 (x51_1 + 1)) t1014 t1015))) else (none))) else (none)) else (none)) = some r := by first | (rw [hy1032]; with_reducible exact H) | (have H2_ := (Option.bind_some _ _).symm.trans H; rw [hy1032]; with_reducible exact H2_) | (have H2_ := (Option.bind_some _ _).symm.trans H; with_reducible exact H2_) | with_reducible exact H | (rw [hy1032]; exact H) | exact H
            have Ny1032 := Aside0.mk hy1032
            clear hy1032
            by_cases c32 : 0 ≤ t1020
            ·
             rw [if_pos c32] at H
             have c32b0 : decide (0 ≤ t1020) = true := decide_eq_true c32
             clear c32
             by_cases c33 : t1020 < (y1029.length : Int)
             ·
              rw [if_pos c33] at H
              have c33b0 : decide (t1020 < (y1029.length : Int)) = true := decide_eq_true c33
              clear c33
              (try simp only [hl49_1] at c33b0)
              obtain ⟨y1033, hy1033⟩ : ∃ y_ : List Int, y_ = (y1032.set (t1020 : Int).toNat (wrap64 (-(rd x49_1 x51_1)))) := ⟨_, rfl⟩
              replace H : ((flow_Meet.f t1014 t1015 y1033).bind fun bt1034 => (if bt1034.2.2.2 = 0 then (if (bt1034.1 != (decide ((rd x49_1 x51_1) ≤ t1021))) = true then (some false) else (if bt1034.1 = true then ((flow_CheckFlow.f k1 t1014 t1015 t1019 t1020 bt1034.2.1).bind fun bt1041 => (if bt1041.2 = true then (if bt1041.1 = (rd x49_1 x51_1) then (dialtonelaw27_FlowSource.l0 k1 t1019 t1020 t1021 true x49_1 (y1025.length : Int) (wrap64 (x51_1 + 1)) t1014 t1015) else (some false)) else (none))) else (dialtonelaw27_FlowSource.l0 k1 t1019 t1020 t1021 true x49_1 (y1025.length : Int) (wrap64 (x51_1 + 1)) t1014 t1015))) else (none))) = some r := by first | (rw [hy1033]; with_reducible exact H) | (have H2_ := (Option.bind_some _ _).symm.trans H; rw [hy1033]; with_reducible exact H2_) | (have H2_ := (Option.bind_some _ _).symm.trans H; with_reducible exact H2_) | with_reducible exact H | (rw [hy1033]; exact H) | exact H
              have Ny1033 := Aside0.mk hy1033
              clear hy1033
              replace H := Option.bind_eq_some_iff.mp H
              obtain ⟨⟨t1034, t1035, t1038, t1039⟩, A350, H⟩ := H
              (try dsimp only at H)
              have A35 := Aside0.mk A350
              clear A350
              by_cases c36 : t1039 = 0
              ·
               rw [if_pos c36] at H
               obtain ⟨c36b0, c36b1⟩ := qt c36
               clear c36
               by_cases c37 : (t1034 != (decide ((rd x49_1 x51_1) ≤ t1021))) = true
               ·
                rw [if_pos c37] at H
                have c37b0 : (t1034 != (decide ((rd x49_1 x51_1) ≤ t1021))) = true := c37
                (try (have c37b1 : decide (t1034 = (decide ((rd x49_1 x51_1) ≤ t1021))) = false := by simpa using c37))
                (try (have c37b2 : (t1034 == (decide ((rd x49_1 x51_1) ≤ t1021))) = false := by simpa using c37))
                (try (have c37b3 : ¬ (t1034 = (decide ((rd x49_1 x51_1) ≤ t1021))) := by simpa using c37))
                clear c37
                obtain rfl := Option.some.inj H
                have p1028 : 0 ≤ (x51_1 : Int) := of_decide_eq_true (by first | (with_reducible assumption) | assumption)
                have q1028 : x51_1 < (x49_1.length : Int) := of_decide_eq_true (by first | (with_reducible assumption) | assumption)
                obtain ⟨ad1028, e1028, hx1028_0⟩ := Kd.at_int (Kd.R_reads' HO_49.out).2.2 x51_1 p1028 q1028
                cases e1028
                replace p1028 := eq_true p1028
                replace q1028 := eq_true q1028
                obtain ⟨hcz38_0, hcz38_1, hfz38_0, hfz38_1⟩ := qc2 BK1018.out
                go_wp2_with (first | ((with_reducible refine gate_dst (N := 57) rfl ?_); refine Kd.R_make (Kd.int .i64) _ 3 rfl (N := 57) rfl 27 _ _ rfl t1014 rfl rfl Try.underlying27 (.int .i64 0) 8 info3 rfl (by decide) (by omega) 0 (ok := fun _ => True) (okp := fun _ => True) rfl (fun _ hk => hk) trivial (of_decide_eq_true (by first | (with_reducible assumption) | assumption)) (Nat.le_trans (Nat.mul_le_mul_right _ (of_decide_eq_true (by first | (with_reducible assumption) | assumption) : t1014.toNat ≤ 35184372088832)) (by omega)) (Below.refl _ _) (Nat.le_refl _) ?_; intro v1030 w39 ho40 hb hg_ hnew_; clear hg_ hnew_; (first | rw [← Ny1029.out] at ho40 | (simp only [Int.reduceToNat] at ho40; rw [← Ny1029.out] at ho40)); replace HO_1019001 := qR HO_1019001 hb; have HO1031 := Aside0.mk (Kd.R_lower (Kd.R_new' ho40 (Kd.R_lt (qr HO_49.out))) (below_size (qb))); replace HO_49 := Aside0.mk (Kd.R_elder' (qr HO_49.out) (Kd.R_base ho40) hb); replace BK1018 := qB BK1018 hb; replace HB := qS HB hb; clear hb ho40; have p31 : 0 ≤ (t1019 : Int) := of_decide_eq_true (by first | (with_reducible assumption) | assumption); have q31 : (t1019 : Int) < ((y1029.length : Int) : Int) := of_decide_eq_true (by first | (with_reducible assumption) | assumption); obtain ⟨go31, co31, eo31, gb31, gl31, cl31, HG31⟩ := Kd.R_form HO1031.out (by omega); (first | cases eo31 | (injection eo31 with ea_ en_ ec_; (first | subst ea_ | (injection ea_ with ea_; subst ea_)); subst ec_; clear en_)); have GB31 := Aside0.mk gb31; have GG31 := Aside0.mk HG31; clear gb31 gl31 HG31; obtain ⟨hx31_0, hf31_0⟩ := Kd.R_celln 0 HO1031.out (t1019 : Int) p31 q31; replace p31 := eq_true p31; replace q31 := eq_true q31; have n_ := Aside0.mk (Kd.R_mono (ok' := (fun k_ => some k_ ≠ (.slice (some ad1028) x49_1.length co23 : Value).ownBlock)) HO1031.out (fun k_ hk => hk.2)); clear HO1031; have HO1031 := n_; clear n_; obtain ⟨hy41_, hz41_⟩ := Kd.R_celln 0 HO1031.out (t1019 : Int) (of_decide_eq_true (by first | (with_reducible assumption) | assumption)) (of_decide_eq_true (by first | (with_reducible assumption) | assumption)); have HP41 := Kd.R_putg HO1031.out (t1019 : Int) (rd x49_1 x51_1)) | ((with_reducible refine gate_store (t := 3) (p := 61) rfl ?_); refine store_event (t := 3) (p := 61) (v := ?vo_w42) (w1 := (w39.setCell ⟨go31, (t1019 : Int).toNat, none⟩ (.int .i64 (rd x49_1 x51_1)))) ?hg ?ho ?hn ?hr ?_; (case ho => rfl); (case hg => rfl); (case hn => rfl); (case hr => first | (go_simp; done) | (go_simp; rfl)); intro w42 hw; have hg : w39.grownBy w42 (some go31) := (by rw [hw]; exact HP41.2); have hp_ : Kd.R (Kd.int .i64) 3 w42 w.heap.size (fun k_ => some k_ ≠ (.slice (some ad1028) x49_1.length co23 : Value).ownBlock) (.slice (some ⟨go31, 0, none⟩) y1029.length co31) y1032 := (by rw [hw, Ny1032.out]; exact HP41.1); clear HP41; replace HO_49 := Aside0.mk (Kd.R_after (v := (.slice (some ⟨go31, 0, none⟩) y1029.length co31)) (v1 := (.slice (some ⟨go31, 0, none⟩) y1029.length co31)) (ok := (fun _ => True)) (qr HO_49.out) hg (.inl rfl)); replace HO_1019001 := Aside0.mk (Kd.R_over' (v := (.slice (some ⟨go31, 0, none⟩) y1029.length co31)) (qr HO_1019001.out) (Kd.R_typed HO1031.out) (by decide) hg); replace BK1018 := Aside0.mk (blk_grown (g := gb1018) (o := .cells #[.int .i64 t1014, .slice Ao17 t1015.length co17] 26 (0, 0)) (qk BK1018.out) hg (Kd.R_ne HO1031.out BK1018.out (by decide))); replace HO1031 := Aside0.mk (hp_); replace HB := Aside0.mk ((by rw [hw]; exact below_set (HB.out) GB31.out : Below w.heap.size w w42)); clear hg hw hp_; have p34 : 0 ≤ (t1020 : Int) := of_decide_eq_true (by first | (with_reducible assumption) | assumption); have q34 : (t1020 : Int) < ((y1029.length : Int) : Int) := of_decide_eq_true (by first | (with_reducible assumption) | assumption); obtain ⟨hx34_0, hf34_0⟩ := Kd.R_celln 0 HO1031.out (t1020 : Int) p34 q34; replace p34 := eq_true p34; replace q34 := eq_true q34; obtain ⟨hy43_, hz43_⟩ := Kd.R_celln 0 HO1031.out (t1020 : Int) (of_decide_eq_true (by first | (with_reducible assumption) | assumption)) (of_decide_eq_true (by first | (with_reducible assumption) | assumption)); have HP43 := Kd.R_putg HO1031.out (t1020 : Int) (wrap64 (-(rd x49_1 x51_1)))) | ((with_reducible refine gate_store (t := 3) (p := 66) rfl ?_); refine store_event (t := 3) (p := 66) (v := ?vo_w44) (w1 := (w42.setCell ⟨go31, (t1020 : Int).toNat, none⟩ (.int .i64 (wrap64 (-(rd x49_1 x51_1)))))) ?hg ?ho ?hn ?hr ?_; (case ho => rfl); (case hg => rfl); (case hn => rfl); (case hr => first | (go_simp; done) | (go_simp; rfl)); intro w44 hw; have hg : w42.grownBy w44 (some go31) := (by rw [hw]; exact HP43.2); have hp_ : Kd.R (Kd.int .i64) 3 w44 w.heap.size (fun k_ => some k_ ≠ (.slice (some ad1028) x49_1.length co23 : Value).ownBlock) (.slice (some ⟨go31, 0, none⟩) y1029.length co31) y1033 := (by rw [hw, Ny1033.out]; exact HP43.1); clear HP43; replace HO_49 := Aside0.mk (Kd.R_after (v := (.slice (some ⟨go31, 0, none⟩) y1029.length co31)) (v1 := (.slice (some ⟨go31, 0, none⟩) y1029.length co31)) (ok := (fun _ => True)) (qr HO_49.out) hg (.inl rfl)); replace HO_1019001 := Aside0.mk (Kd.R_over' (v := (.slice (some ⟨go31, 0, none⟩) y1029.length co31)) (qr HO_1019001.out) (Kd.R_typed HO1031.out) (by decide) hg); replace BK1018 := Aside0.mk (blk_grown (g := gb1018) (o := .cells #[.int .i64 t1014, .slice Ao17 t1015.length co17] 26 (0, 0)) (qk BK1018.out) hg (Kd.R_ne HO1031.out BK1018.out (by decide))); replace HO1031 := Aside0.mk (hp_); replace HB := Aside0.mk ((by rw [hw]; exact below_set (HB.out) GB31.out : Below w.heap.size w w44)); clear hg hw hp_; obtain ⟨hcz45_0, hcz45_1, hfz45_0, hfz45_1⟩ := qc2 BK1018.out) | ((with_reducible refine gate_callee (f := 46) rfl ?_); refine goesL_ (some 70) rfl rfl Try.func46 qq rfl #[.agg #[.int .i64 t1014, .slice Ao17 t1015.length co17], .slice (some ⟨go31, 0, none⟩) y1033.length co31] rfl (by (try simp only [List.map_toArray, List.map_cons, List.map_nil]); first | done | (rw [show y1033.length = y1029.length from (Kd.R_reads' HO1031.out).1.symm] <;> rfl) | rfl | (simp only [List.length_drop, List.length_take]; rfl)) ?_; (with_reducible refine (flow_Meet.calls t1014 _ _ t1015 _ _ y1033 t1034 t1035 t1038 t1039 _ ?side1 ?side2 ?side3 ?side4 A35.out).mono ?_); (case side1 => exact qC (Kd.R_reads' HO_1019001.out).2.2); (case side2 => exact (Kd.R_reads' HO_1019001.out).2.1); (case side3 => exact qC (Kd.R_reads' HO1031.out).2.2); (case side4 => rw [show y1033.length = y1029.length from (Kd.R_reads' HO1031.out).1.symm]; exact (Kd.R_reads' HO1031.out).2.1); rintro e w46 ⟨v1036, rfl, ho0, hb⟩; refine ⟨_, rfl, ?_⟩; replace HO_1019001 := qR HO_1019001 hb; have HO1037 := Aside0.mk (Kd.R_lower (Kd.R_new' (Kd.R_new' ho0 (Kd.R_lt (qr HO_49.out))) (Kd.R_lt (qr HO1031.out))) (below_size (qb))); replace HO_49 := Aside0.mk (Kd.R_elder' (qr HO_49.out) (Kd.R_base ho0) hb); replace HO1031 := Aside0.mk (Kd.R_elder' (qr HO1031.out) (Kd.R_base ho0) hb); replace BK1018 := qB BK1018 hb; replace HB := qS HB hb; (try clear hb); (try clear hb2); (try clear hk); (try clear hi); (try clear ho0)) | ((with_reducible refine gate_dst (N := 20) rfl ?_); refine box_event rfl (N := 20) rfl (cs := #[.bool false, .slice none 0 0, .int .i64 0]) (t := 55) qh ?_; intro gb1040 hg w47 hbox hb; replace HO_49 := qR HO_49 hb; replace HO_1019001 := qR HO_1019001 hb; replace HO1031 := qR HO1031 hb; replace HO1037 := qR HO1037 hb; have BK1040 := Aside0.mk (hbox); have GW1040 := qg HB hg; have GE1040 := qg HB hg; replace HB := qS HB hb; have NB1018_1040 := qn BK1018 hg; have NB1040_1018 := qm BK1018 hg; replace BK1018 := qB BK1018 hb; clear hb hbox hg; have hnb48 := NB1040_1018.out; have hnc48 := NB1018_1040.out; obtain ⟨hcz49_0, hcz49_1, hcz49_2, hfz49_0, hfz49_1, hfz49_2⟩ := qc3 BK1040.out; obtain ⟨Ao50, co50, eo50⟩ := Kd.R_slice HO1037.out; subst eo50))
                go_ret
                exact ⟨qe, qb⟩
               ·
                rw [if_neg c37] at H
                have c37b0 : (t1034 != (decide ((rd x49_1 x51_1) ≤ t1021))) = false := by simpa using c37
                (try (have c37b1 : decide (t1034 = (decide ((rd x49_1 x51_1) ≤ t1021))) = true := by simpa using c37))
                (try (have c37b2 : (t1034 == (decide ((rd x49_1 x51_1) ≤ t1021))) = true := by simpa using c37))
                clear c37
                by_cases c51 : t1034 = true
                ·
                 subst c51
                 rw [if_pos rfl] at H
                 replace H := Option.bind_eq_some_iff.mp H
                 obtain ⟨⟨t1041, t1042⟩, A520, H⟩ := H
                 (try dsimp only at H)
                 have A52 := Aside0.mk A520
                 clear A520
                 by_cases c53 : t1042 = true
                 ·
                  subst c53
                  rw [if_pos rfl] at H
                  by_cases c54 : t1041 = (rd x49_1 x51_1)
                  ·
                   rw [if_pos c54] at H
                   obtain ⟨c54b0, c54b1⟩ := qt c54
                   clear c54
                   have H' := Aside0.mk H
                   clear H
                   have p1028 : 0 ≤ (x51_1 : Int) := of_decide_eq_true (by first | (with_reducible assumption) | assumption)
                   have q1028 : x51_1 < (x49_1.length : Int) := of_decide_eq_true (by first | (with_reducible assumption) | assumption)
                   obtain ⟨ad1028, e1028, hx1028_0⟩ := Kd.at_int (Kd.R_reads' HO_49.out).2.2 x51_1 p1028 q1028
                   cases e1028
                   replace p1028 := eq_true p1028
                   replace q1028 := eq_true q1028
                   obtain ⟨hcz55_0, hcz55_1, hfz55_0, hfz55_1⟩ := qc2 BK1018.out
                   go_wp2_with (first | ((with_reducible refine gate_dst (N := 57) rfl ?_); refine Kd.R_make (Kd.int .i64) _ 3 rfl (N := 57) rfl 27 _ _ rfl t1014 rfl rfl Try.underlying27 (.int .i64 0) 8 info3 rfl (by decide) (by omega) 0 (ok := fun _ => True) (okp := fun _ => True) rfl (fun _ hk => hk) trivial (of_decide_eq_true (by first | (with_reducible assumption) | assumption)) (Nat.le_trans (Nat.mul_le_mul_right _ (of_decide_eq_true (by first | (with_reducible assumption) | assumption) : t1014.toNat ≤ 35184372088832)) (by omega)) (Below.refl _ _) (Nat.le_refl _) ?_; intro v1030 w56 ho57 hb hg_ hnew_; clear hg_ hnew_; (first | rw [← Ny1029.out] at ho57 | (simp only [Int.reduceToNat] at ho57; rw [← Ny1029.out] at ho57)); replace HO_1019001 := qR HO_1019001 hb; have HO1031 := Aside0.mk (Kd.R_lower (Kd.R_new' ho57 (Kd.R_lt (qr HO_49.out))) (below_size (qb))); replace HO_49 := Aside0.mk (Kd.R_elder' (qr HO_49.out) (Kd.R_base ho57) hb); replace BK1018 := qB BK1018 hb; replace HB := qS HB hb; clear hb ho57; have p31 : 0 ≤ (t1019 : Int) := of_decide_eq_true (by first | (with_reducible assumption) | assumption); have q31 : (t1019 : Int) < ((y1029.length : Int) : Int) := of_decide_eq_true (by first | (with_reducible assumption) | assumption); obtain ⟨go31, co31, eo31, gb31, gl31, cl31, HG31⟩ := Kd.R_form HO1031.out (by omega); (first | cases eo31 | (injection eo31 with ea_ en_ ec_; (first | subst ea_ | (injection ea_ with ea_; subst ea_)); subst ec_; clear en_)); have GB31 := Aside0.mk gb31; have GG31 := Aside0.mk HG31; clear gb31 gl31 HG31; obtain ⟨hx31_0, hf31_0⟩ := Kd.R_celln 0 HO1031.out (t1019 : Int) p31 q31; replace p31 := eq_true p31; replace q31 := eq_true q31; have n_ := Aside0.mk (Kd.R_mono (ok' := (fun k_ => some k_ ≠ (.slice (some ad1028) x49_1.length co23 : Value).ownBlock)) HO1031.out (fun k_ hk => hk.2)); clear HO1031; have HO1031 := n_; clear n_; obtain ⟨hy58_, hz58_⟩ := Kd.R_celln 0 HO1031.out (t1019 : Int) (of_decide_eq_true (by first | (with_reducible assumption) | assumption)) (of_decide_eq_true (by first | (with_reducible assumption) | assumption)); have HP58 := Kd.R_putg HO1031.out (t1019 : Int) (rd x49_1 x51_1)) | ((with_reducible refine gate_store (t := 3) (p := 61) rfl ?_); refine store_event (t := 3) (p := 61) (v := ?vo_w59) (w1 := (w56.setCell ⟨go31, (t1019 : Int).toNat, none⟩ (.int .i64 (rd x49_1 x51_1)))) ?hg ?ho ?hn ?hr ?_; (case ho => rfl); (case hg => rfl); (case hn => rfl); (case hr => first | (go_simp; done) | (go_simp; rfl)); intro w59 hw; have hg : w56.grownBy w59 (some go31) := (by rw [hw]; exact HP58.2); have hp_ : Kd.R (Kd.int .i64) 3 w59 w.heap.size (fun k_ => some k_ ≠ (.slice (some ad1028) x49_1.length co23 : Value).ownBlock) (.slice (some ⟨go31, 0, none⟩) y1029.length co31) y1032 := (by rw [hw, Ny1032.out]; exact HP58.1); clear HP58; replace HO_49 := Aside0.mk (Kd.R_after (v := (.slice (some ⟨go31, 0, none⟩) y1029.length co31)) (v1 := (.slice (some ⟨go31, 0, none⟩) y1029.length co31)) (ok := (fun _ => True)) (qr HO_49.out) hg (.inl rfl)); replace HO_1019001 := Aside0.mk (Kd.R_over' (v := (.slice (some ⟨go31, 0, none⟩) y1029.length co31)) (qr HO_1019001.out) (Kd.R_typed HO1031.out) (by decide) hg); replace BK1018 := Aside0.mk (blk_grown (g := gb1018) (o := .cells #[.int .i64 t1014, .slice Ao17 t1015.length co17] 26 (0, 0)) (qk BK1018.out) hg (Kd.R_ne HO1031.out BK1018.out (by decide))); replace HO1031 := Aside0.mk (hp_); replace HB := Aside0.mk ((by rw [hw]; exact below_set (HB.out) GB31.out : Below w.heap.size w w59)); clear hg hw hp_; have p34 : 0 ≤ (t1020 : Int) := of_decide_eq_true (by first | (with_reducible assumption) | assumption); have q34 : (t1020 : Int) < ((y1029.length : Int) : Int) := of_decide_eq_true (by first | (with_reducible assumption) | assumption); obtain ⟨hx34_0, hf34_0⟩ := Kd.R_celln 0 HO1031.out (t1020 : Int) p34 q34; replace p34 := eq_true p34; replace q34 := eq_true q34; obtain ⟨hy60_, hz60_⟩ := Kd.R_celln 0 HO1031.out (t1020 : Int) (of_decide_eq_true (by first | (with_reducible assumption) | assumption)) (of_decide_eq_true (by first | (with_reducible assumption) | assumption)); have HP60 := Kd.R_putg HO1031.out (t1020 : Int) (wrap64 (-(rd x49_1 x51_1)))) | ((with_reducible refine gate_store (t := 3) (p := 66) rfl ?_); refine store_event (t := 3) (p := 66) (v := ?vo_w61) (w1 := (w59.setCell ⟨go31, (t1020 : Int).toNat, none⟩ (.int .i64 (wrap64 (-(rd x49_1 x51_1)))))) ?hg ?ho ?hn ?hr ?_; (case ho => rfl); (case hg => rfl); (case hn => rfl); (case hr => first | (go_simp; done) | (go_simp; rfl)); intro w61 hw; have hg : w59.grownBy w61 (some go31) := (by rw [hw]; exact HP60.2); have hp_ : Kd.R (Kd.int .i64) 3 w61 w.heap.size (fun k_ => some k_ ≠ (.slice (some ad1028) x49_1.length co23 : Value).ownBlock) (.slice (some ⟨go31, 0, none⟩) y1029.length co31) y1033 := (by rw [hw, Ny1033.out]; exact HP60.1); clear HP60; replace HO_49 := Aside0.mk (Kd.R_after (v := (.slice (some ⟨go31, 0, none⟩) y1029.length co31)) (v1 := (.slice (some ⟨go31, 0, none⟩) y1029.length co31)) (ok := (fun _ => True)) (qr HO_49.out) hg (.inl rfl)); replace HO_1019001 := Aside0.mk (Kd.R_over' (v := (.slice (some ⟨go31, 0, none⟩) y1029.length co31)) (qr HO_1019001.out) (Kd.R_typed HO1031.out) (by decide) hg); replace BK1018 := Aside0.mk (blk_grown (g := gb1018) (o := .cells #[.int .i64 t1014, .slice Ao17 t1015.length co17] 26 (0, 0)) (qk BK1018.out) hg (Kd.R_ne HO1031.out BK1018.out (by decide))); replace HO1031 := Aside0.mk (hp_); replace HB := Aside0.mk ((by rw [hw]; exact below_set (HB.out) GB31.out : Below w.heap.size w w61)); clear hg hw hp_; obtain ⟨hcz62_0, hcz62_1, hfz62_0, hfz62_1⟩ := qc2 BK1018.out) | ((with_reducible refine gate_callee (f := 46) rfl ?_); refine goesL_ (some 70) rfl rfl Try.func46 qq rfl #[.agg #[.int .i64 t1014, .slice Ao17 t1015.length co17], .slice (some ⟨go31, 0, none⟩) y1033.length co31] rfl (by (try simp only [List.map_toArray, List.map_cons, List.map_nil]); first | done | (rw [show y1033.length = y1029.length from (Kd.R_reads' HO1031.out).1.symm] <;> rfl) | rfl | (simp only [List.length_drop, List.length_take]; rfl)) ?_; (with_reducible refine (flow_Meet.calls t1014 _ _ t1015 _ _ y1033 true t1035 t1038 t1039 _ ?side1 ?side2 ?side3 ?side4 A35.out).mono ?_); (case side1 => exact qC (Kd.R_reads' HO_1019001.out).2.2); (case side2 => exact (Kd.R_reads' HO_1019001.out).2.1); (case side3 => exact qC (Kd.R_reads' HO1031.out).2.2); (case side4 => rw [show y1033.length = y1029.length from (Kd.R_reads' HO1031.out).1.symm]; exact (Kd.R_reads' HO1031.out).2.1); rintro e w63 ⟨v1036, rfl, ho0, hb⟩; refine ⟨_, rfl, ?_⟩; replace HO_1019001 := qR HO_1019001 hb; have HO1037 := Aside0.mk (Kd.R_lower (Kd.R_new' (Kd.R_new' ho0 (Kd.R_lt (qr HO_49.out))) (Kd.R_lt (qr HO1031.out))) (below_size (qb))); replace HO_49 := Aside0.mk (Kd.R_elder' (qr HO_49.out) (Kd.R_base ho0) hb); replace HO1031 := Aside0.mk (Kd.R_elder' (qr HO1031.out) (Kd.R_base ho0) hb); replace BK1018 := qB BK1018 hb; replace HB := qS HB hb; (try clear hb); (try clear hb2); (try clear hk); (try clear hi); (try clear ho0)) | ((with_reducible refine gate_dst (N := 20) rfl ?_); refine box_event rfl (N := 20) rfl (cs := #[.bool false, .slice none 0 0, .int .i64 0]) (t := 55) qh ?_; intro gb1040 hg w64 hbox hb; replace HO_49 := qR HO_49 hb; replace HO_1019001 := qR HO_1019001 hb; replace HO1031 := qR HO1031 hb; replace HO1037 := qR HO1037 hb; have BK1040 := Aside0.mk (hbox); have GW1040 := qg HB hg; have GE1040 := qg HB hg; replace HB := qS HB hb; have NB1018_1040 := qn BK1018 hg; have NB1040_1018 := qm BK1018 hg; replace BK1018 := qB BK1018 hb; clear hb hbox hg; have hnb65 := NB1040_1018.out; have hnc65 := NB1018_1040.out; obtain ⟨hcz66_0, hcz66_1, hcz66_2, hfz66_0, hfz66_1, hfz66_2⟩ := qc3 BK1040.out; obtain ⟨Ao67, co67, eo67⟩ := Kd.R_slice HO1037.out; subst eo67; obtain ⟨hcz68_0, hcz68_1, hfz68_0, hfz68_1⟩ := qc2 BK1018.out) | ((with_reducible refine gate_callee (f := 34) rfl ?_); refine goesL_ (some 91) rfl rfl Try.func34 qq rfl #[.agg #[.int .i64 t1014, .slice Ao17 t1015.length co17], .int .i64 t1019, .int .i64 t1020, .slice Ao67 t1035.length co67] rfl qa ?_; (with_reducible refine (flow_CheckFlow.calls k1 t1014 _ _ t1015 t1019 t1020 _ _ t1035 t1041 true _ ?side1 ?side2 ?side3 ?side4 A52.out).mono ?_); (case side1 => refine (Kd.R_reads' (e := 72) (base := w.heap.size) (ok := fun k_ => True) (n := t1015.length) (c := co17) ?_).2.2; exact (qr (Kd.R_mono (Kd.R_far (p := ⟨gb1040, 2, none⟩) (Kd.R_far (p := ⟨gb1040, 1, none⟩) (Kd.R_far (p := ⟨gb1040, 0, none⟩) (Kd.R_types HO_1019001.out BK1040.out (by decide)) (fun _ hk => hk.2) (.bool true)) (fun _ hk => hk.2) (.slice Ao67 t1035.length co67)) (fun _ hk => hk.2) (.int .i64 t1038)) (fun _ h_ => h_.1)))); (case side2 => exact (Kd.R_reads' HO_1019001.out).2.1); (case side3 => refine (Kd.R_reads' (e := 3) (base := w.heap.size) (ok := fun k_ => ((True ∧ some k_ ≠ (.slice (some ad1028) x49_1.length co23 : Value).ownBlock) ∧ some k_ ≠ (.slice (some ⟨go31, 0, none⟩) y1029.length co31 : Value).ownBlock)) (n := t1035.length) (c := co67) ?_).2.2; exact (qr (Kd.R_mono (Kd.R_far (p := ⟨gb1040, 2, none⟩) (Kd.R_far (p := ⟨gb1040, 1, none⟩) (Kd.R_far (p := ⟨gb1040, 0, none⟩) (Kd.R_types HO1037.out BK1040.out (by decide)) (fun _ hk => hk.2) (.bool true)) (fun _ hk => hk.2) (.slice Ao67 t1035.length co67)) (fun _ hk => hk.2) (.int .i64 t1038)) (fun _ h_ => h_.1)))); (case side4 => exact (Kd.R_reads' HO1037.out).2.1); rintro e w69 ⟨rfl, hb⟩; refine ⟨_, rfl, ?_⟩; replace HO_49 := Aside0.mk (Kd.R_below (qr (Kd.R_mono (Kd.R_far (p := ⟨gb1040, 2, none⟩) (Kd.R_far (p := ⟨gb1040, 1, none⟩) (Kd.R_far (p := ⟨gb1040, 0, none⟩) (Kd.R_types HO_49.out BK1040.out (by decide)) (fun _ hk => hk.2) (.bool true)) (fun _ hk => hk.2) (.slice Ao67 t1035.length co67)) (fun _ hk => hk.2) (.int .i64 t1038)) (fun _ h_ => h_.1))) hb); replace HO_1019001 := Aside0.mk (Kd.R_below (qr (Kd.R_mono (Kd.R_far (p := ⟨gb1040, 2, none⟩) (Kd.R_far (p := ⟨gb1040, 1, none⟩) (Kd.R_far (p := ⟨gb1040, 0, none⟩) (Kd.R_types HO_1019001.out BK1040.out (by decide)) (fun _ hk => hk.2) (.bool true)) (fun _ hk => hk.2) (.slice Ao67 t1035.length co67)) (fun _ hk => hk.2) (.int .i64 t1038)) (fun _ h_ => h_.1))) hb); replace HO1031 := Aside0.mk (Kd.R_below (qr (Kd.R_mono (Kd.R_far (p := ⟨gb1040, 2, none⟩) (Kd.R_far (p := ⟨gb1040, 1, none⟩) (Kd.R_far (p := ⟨gb1040, 0, none⟩) (Kd.R_types HO1031.out BK1040.out (by decide)) (fun _ hk => hk.2) (.bool true)) (fun _ hk => hk.2) (.slice Ao67 t1035.length co67)) (fun _ hk => hk.2) (.int .i64 t1038)) (fun _ h_ => h_.1))) hb); replace HO1037 := Aside0.mk (Kd.R_below (qr (Kd.R_mono (Kd.R_far (p := ⟨gb1040, 2, none⟩) (Kd.R_far (p := ⟨gb1040, 1, none⟩) (Kd.R_far (p := ⟨gb1040, 0, none⟩) (Kd.R_types HO1037.out BK1040.out (by decide)) (fun _ hk => hk.2) (.bool true)) (fun _ hk => hk.2) (.slice Ao67 t1035.length co67)) (fun _ hk => hk.2) (.int .i64 t1038)) (fun _ h_ => h_.1))) hb); replace BK1018 := Aside0.mk (blk_below (g := gb1018) (o := .cells #[.int .i64 t1014, .slice Ao17 t1015.length co17] 26 (0, 0)) (by (with_reducible repeat (first | refine blk_drewN ?_ _ | refine blk_drew ?_ | refine blk_alloc ?_ _)); refine blk_far ?_ NB1018_1040.out _; (with_reducible repeat (first | refine blk_drewN ?_ _ | refine blk_drew ?_ | refine blk_alloc ?_ _)); refine blk_far ?_ NB1018_1040.out _; (with_reducible repeat (first | refine blk_drewN ?_ _ | refine blk_drew ?_ | refine blk_alloc ?_ _)); refine blk_far ?_ NB1018_1040.out _; (with_reducible repeat (first | refine blk_drewN ?_ _ | refine blk_drew ?_ | refine blk_alloc ?_ _)); exact BK1018.out) hb); replace BK1040 := Aside0.mk (blk_below (g := gb1040) (o := .cells #[.bool true, .slice Ao67 t1035.length co67, .int .i64 t1038] 55 (0, 0)) (by (with_reducible repeat (first | refine blk_drewN ?_ _ | refine blk_drew ?_ | refine blk_alloc ?_ _)); refine blk_put (cs := #[.bool true, .slice Ao67 t1035.length co67, .int .i64 0]) ?_ 2 _ rfl; (with_reducible repeat (first | refine blk_drewN ?_ _ | refine blk_drew ?_ | refine blk_alloc ?_ _)); refine blk_put (cs := #[.bool true, .slice none 0 0, .int .i64 0]) ?_ 1 _ rfl; (with_reducible repeat (first | refine blk_drewN ?_ _ | refine blk_drew ?_ | refine blk_alloc ?_ _)); refine blk_put (cs := #[.bool false, .slice none 0 0, .int .i64 0]) ?_ 0 _ rfl; (with_reducible repeat (first | refine blk_drewN ?_ _ | refine blk_drew ?_ | refine blk_alloc ?_ _)); exact BK1040.out) hb); replace HB := qS HB hb; (try clear hb); (try clear hb2); (try clear hk); (try clear hi)))
                   (try simp only [← hl49_1])
                   go_roundg k1
                   case measure => have := HK1.out; omega
                   case rel => exact ⟨(x49_1), (wrap64 (x51_1 + 1)), (by first | rfl | (simp; done) | (simp [*]; done)), H', ⟨by have := HK1.out; omega⟩, ⟨by (try simp only [hl49_1]); (with_reducible repeat (first | apply Kd.R_alloc | apply Kd.R_drewN | apply Kd.R_drew)); exact Kd.R_mono HO_49.out (fun _ hk => trivial)⟩, ⟨by (try simp only [hl49_1]); (with_reducible repeat (first | apply Kd.R_alloc | apply Kd.R_drewN | apply Kd.R_drew)); exact HO_1019001.out⟩, ⟨by (try simp only [hl49_1]); (with_reducible repeat (first | refine blk_drewN ?_ _ | refine blk_drew ?_ | refine blk_alloc ?_ _)); exact BK1018.out⟩, ⟨qb⟩⟩
                  ·
                   rw [if_neg c54] at H
                   obtain ⟨c54b0, c54b1⟩ := qf c54
                   obtain rfl := Option.some.inj H
                   have p1028 : 0 ≤ (x51_1 : Int) := of_decide_eq_true (by first | (with_reducible assumption) | assumption)
                   have q1028 : x51_1 < (x49_1.length : Int) := of_decide_eq_true (by first | (with_reducible assumption) | assumption)
                   obtain ⟨ad1028, e1028, hx1028_0⟩ := Kd.at_int (Kd.R_reads' HO_49.out).2.2 x51_1 p1028 q1028
                   cases e1028
                   replace p1028 := eq_true p1028
                   replace q1028 := eq_true q1028
                   obtain ⟨hcz70_0, hcz70_1, hfz70_0, hfz70_1⟩ := qc2 BK1018.out
                   go_wp2_with (first | ((with_reducible refine gate_dst (N := 57) rfl ?_); refine Kd.R_make (Kd.int .i64) _ 3 rfl (N := 57) rfl 27 _ _ rfl t1014 rfl rfl Try.underlying27 (.int .i64 0) 8 info3 rfl (by decide) (by omega) 0 (ok := fun _ => True) (okp := fun _ => True) rfl (fun _ hk => hk) trivial (of_decide_eq_true (by first | (with_reducible assumption) | assumption)) (Nat.le_trans (Nat.mul_le_mul_right _ (of_decide_eq_true (by first | (with_reducible assumption) | assumption) : t1014.toNat ≤ 35184372088832)) (by omega)) (Below.refl _ _) (Nat.le_refl _) ?_; intro v1030 w71 ho72 hb hg_ hnew_; clear hg_ hnew_; (first | rw [← Ny1029.out] at ho72 | (simp only [Int.reduceToNat] at ho72; rw [← Ny1029.out] at ho72)); replace HO_1019001 := qR HO_1019001 hb; have HO1031 := Aside0.mk (Kd.R_lower (Kd.R_new' ho72 (Kd.R_lt (qr HO_49.out))) (below_size (qb))); replace HO_49 := Aside0.mk (Kd.R_elder' (qr HO_49.out) (Kd.R_base ho72) hb); replace BK1018 := qB BK1018 hb; replace HB := qS HB hb; clear hb ho72; have p31 : 0 ≤ (t1019 : Int) := of_decide_eq_true (by first | (with_reducible assumption) | assumption); have q31 : (t1019 : Int) < ((y1029.length : Int) : Int) := of_decide_eq_true (by first | (with_reducible assumption) | assumption); obtain ⟨go31, co31, eo31, gb31, gl31, cl31, HG31⟩ := Kd.R_form HO1031.out (by omega); (first | cases eo31 | (injection eo31 with ea_ en_ ec_; (first | subst ea_ | (injection ea_ with ea_; subst ea_)); subst ec_; clear en_)); have GB31 := Aside0.mk gb31; have GG31 := Aside0.mk HG31; clear gb31 gl31 HG31; obtain ⟨hx31_0, hf31_0⟩ := Kd.R_celln 0 HO1031.out (t1019 : Int) p31 q31; replace p31 := eq_true p31; replace q31 := eq_true q31; have n_ := Aside0.mk (Kd.R_mono (ok' := (fun k_ => some k_ ≠ (.slice (some ad1028) x49_1.length co23 : Value).ownBlock)) HO1031.out (fun k_ hk => hk.2)); clear HO1031; have HO1031 := n_; clear n_; obtain ⟨hy73_, hz73_⟩ := Kd.R_celln 0 HO1031.out (t1019 : Int) (of_decide_eq_true (by first | (with_reducible assumption) | assumption)) (of_decide_eq_true (by first | (with_reducible assumption) | assumption)); have HP73 := Kd.R_putg HO1031.out (t1019 : Int) (rd x49_1 x51_1)) | ((with_reducible refine gate_store (t := 3) (p := 61) rfl ?_); refine store_event (t := 3) (p := 61) (v := ?vo_w74) (w1 := (w71.setCell ⟨go31, (t1019 : Int).toNat, none⟩ (.int .i64 (rd x49_1 x51_1)))) ?hg ?ho ?hn ?hr ?_; (case ho => rfl); (case hg => rfl); (case hn => rfl); (case hr => first | (go_simp; done) | (go_simp; rfl)); intro w74 hw; have hg : w71.grownBy w74 (some go31) := (by rw [hw]; exact HP73.2); have hp_ : Kd.R (Kd.int .i64) 3 w74 w.heap.size (fun k_ => some k_ ≠ (.slice (some ad1028) x49_1.length co23 : Value).ownBlock) (.slice (some ⟨go31, 0, none⟩) y1029.length co31) y1032 := (by rw [hw, Ny1032.out]; exact HP73.1); clear HP73; replace HO_49 := Aside0.mk (Kd.R_after (v := (.slice (some ⟨go31, 0, none⟩) y1029.length co31)) (v1 := (.slice (some ⟨go31, 0, none⟩) y1029.length co31)) (ok := (fun _ => True)) (qr HO_49.out) hg (.inl rfl)); replace HO_1019001 := Aside0.mk (Kd.R_over' (v := (.slice (some ⟨go31, 0, none⟩) y1029.length co31)) (qr HO_1019001.out) (Kd.R_typed HO1031.out) (by decide) hg); replace BK1018 := Aside0.mk (blk_grown (g := gb1018) (o := .cells #[.int .i64 t1014, .slice Ao17 t1015.length co17] 26 (0, 0)) (qk BK1018.out) hg (Kd.R_ne HO1031.out BK1018.out (by decide))); replace HO1031 := Aside0.mk (hp_); replace HB := Aside0.mk ((by rw [hw]; exact below_set (HB.out) GB31.out : Below w.heap.size w w74)); clear hg hw hp_; have p34 : 0 ≤ (t1020 : Int) := of_decide_eq_true (by first | (with_reducible assumption) | assumption); have q34 : (t1020 : Int) < ((y1029.length : Int) : Int) := of_decide_eq_true (by first | (with_reducible assumption) | assumption); obtain ⟨hx34_0, hf34_0⟩ := Kd.R_celln 0 HO1031.out (t1020 : Int) p34 q34; replace p34 := eq_true p34; replace q34 := eq_true q34; obtain ⟨hy75_, hz75_⟩ := Kd.R_celln 0 HO1031.out (t1020 : Int) (of_decide_eq_true (by first | (with_reducible assumption) | assumption)) (of_decide_eq_true (by first | (with_reducible assumption) | assumption)); have HP75 := Kd.R_putg HO1031.out (t1020 : Int) (wrap64 (-(rd x49_1 x51_1)))) | ((with_reducible refine gate_store (t := 3) (p := 66) rfl ?_); refine store_event (t := 3) (p := 66) (v := ?vo_w76) (w1 := (w74.setCell ⟨go31, (t1020 : Int).toNat, none⟩ (.int .i64 (wrap64 (-(rd x49_1 x51_1)))))) ?hg ?ho ?hn ?hr ?_; (case ho => rfl); (case hg => rfl); (case hn => rfl); (case hr => first | (go_simp; done) | (go_simp; rfl)); intro w76 hw; have hg : w74.grownBy w76 (some go31) := (by rw [hw]; exact HP75.2); have hp_ : Kd.R (Kd.int .i64) 3 w76 w.heap.size (fun k_ => some k_ ≠ (.slice (some ad1028) x49_1.length co23 : Value).ownBlock) (.slice (some ⟨go31, 0, none⟩) y1029.length co31) y1033 := (by rw [hw, Ny1033.out]; exact HP75.1); clear HP75; replace HO_49 := Aside0.mk (Kd.R_after (v := (.slice (some ⟨go31, 0, none⟩) y1029.length co31)) (v1 := (.slice (some ⟨go31, 0, none⟩) y1029.length co31)) (ok := (fun _ => True)) (qr HO_49.out) hg (.inl rfl)); replace HO_1019001 := Aside0.mk (Kd.R_over' (v := (.slice (some ⟨go31, 0, none⟩) y1029.length co31)) (qr HO_1019001.out) (Kd.R_typed HO1031.out) (by decide) hg); replace BK1018 := Aside0.mk (blk_grown (g := gb1018) (o := .cells #[.int .i64 t1014, .slice Ao17 t1015.length co17] 26 (0, 0)) (qk BK1018.out) hg (Kd.R_ne HO1031.out BK1018.out (by decide))); replace HO1031 := Aside0.mk (hp_); replace HB := Aside0.mk ((by rw [hw]; exact below_set (HB.out) GB31.out : Below w.heap.size w w76)); clear hg hw hp_; obtain ⟨hcz77_0, hcz77_1, hfz77_0, hfz77_1⟩ := qc2 BK1018.out) | ((with_reducible refine gate_callee (f := 46) rfl ?_); refine goesL_ (some 70) rfl rfl Try.func46 qq rfl #[.agg #[.int .i64 t1014, .slice Ao17 t1015.length co17], .slice (some ⟨go31, 0, none⟩) y1033.length co31] rfl (by (try simp only [List.map_toArray, List.map_cons, List.map_nil]); first | done | (rw [show y1033.length = y1029.length from (Kd.R_reads' HO1031.out).1.symm] <;> rfl) | rfl | (simp only [List.length_drop, List.length_take]; rfl)) ?_; (with_reducible refine (flow_Meet.calls t1014 _ _ t1015 _ _ y1033 true t1035 t1038 t1039 _ ?side1 ?side2 ?side3 ?side4 A35.out).mono ?_); (case side1 => exact qC (Kd.R_reads' HO_1019001.out).2.2); (case side2 => exact (Kd.R_reads' HO_1019001.out).2.1); (case side3 => exact qC (Kd.R_reads' HO1031.out).2.2); (case side4 => rw [show y1033.length = y1029.length from (Kd.R_reads' HO1031.out).1.symm]; exact (Kd.R_reads' HO1031.out).2.1); rintro e w78 ⟨v1036, rfl, ho0, hb⟩; refine ⟨_, rfl, ?_⟩; replace HO_1019001 := qR HO_1019001 hb; have HO1037 := Aside0.mk (Kd.R_lower (Kd.R_new' (Kd.R_new' ho0 (Kd.R_lt (qr HO_49.out))) (Kd.R_lt (qr HO1031.out))) (below_size (qb))); replace HO_49 := Aside0.mk (Kd.R_elder' (qr HO_49.out) (Kd.R_base ho0) hb); replace HO1031 := Aside0.mk (Kd.R_elder' (qr HO1031.out) (Kd.R_base ho0) hb); replace BK1018 := qB BK1018 hb; replace HB := qS HB hb; (try clear hb); (try clear hb2); (try clear hk); (try clear hi); (try clear ho0)) | ((with_reducible refine gate_dst (N := 20) rfl ?_); refine box_event rfl (N := 20) rfl (cs := #[.bool false, .slice none 0 0, .int .i64 0]) (t := 55) qh ?_; intro gb1040 hg w79 hbox hb; replace HO_49 := qR HO_49 hb; replace HO_1019001 := qR HO_1019001 hb; replace HO1031 := qR HO1031 hb; replace HO1037 := qR HO1037 hb; have BK1040 := Aside0.mk (hbox); have GW1040 := qg HB hg; have GE1040 := qg HB hg; replace HB := qS HB hb; have NB1018_1040 := qn BK1018 hg; have NB1040_1018 := qm BK1018 hg; replace BK1018 := qB BK1018 hb; clear hb hbox hg; have hnb80 := NB1040_1018.out; have hnc80 := NB1018_1040.out; obtain ⟨hcz81_0, hcz81_1, hcz81_2, hfz81_0, hfz81_1, hfz81_2⟩ := qc3 BK1040.out; obtain ⟨Ao82, co82, eo82⟩ := Kd.R_slice HO1037.out; subst eo82; obtain ⟨hcz83_0, hcz83_1, hfz83_0, hfz83_1⟩ := qc2 BK1018.out) | ((with_reducible refine gate_callee (f := 34) rfl ?_); refine goesL_ (some 91) rfl rfl Try.func34 qq rfl #[.agg #[.int .i64 t1014, .slice Ao17 t1015.length co17], .int .i64 t1019, .int .i64 t1020, .slice Ao82 t1035.length co82] rfl qa ?_; (with_reducible refine (flow_CheckFlow.calls k1 t1014 _ _ t1015 t1019 t1020 _ _ t1035 t1041 true _ ?side1 ?side2 ?side3 ?side4 A52.out).mono ?_); (case side1 => refine (Kd.R_reads' (e := 72) (base := w.heap.size) (ok := fun k_ => True) (n := t1015.length) (c := co17) ?_).2.2; exact (qr (Kd.R_mono (Kd.R_far (p := ⟨gb1040, 2, none⟩) (Kd.R_far (p := ⟨gb1040, 1, none⟩) (Kd.R_far (p := ⟨gb1040, 0, none⟩) (Kd.R_types HO_1019001.out BK1040.out (by decide)) (fun _ hk => hk.2) (.bool true)) (fun _ hk => hk.2) (.slice Ao82 t1035.length co82)) (fun _ hk => hk.2) (.int .i64 t1038)) (fun _ h_ => h_.1)))); (case side2 => exact (Kd.R_reads' HO_1019001.out).2.1); (case side3 => refine (Kd.R_reads' (e := 3) (base := w.heap.size) (ok := fun k_ => ((True ∧ some k_ ≠ (.slice (some ad1028) x49_1.length co23 : Value).ownBlock) ∧ some k_ ≠ (.slice (some ⟨go31, 0, none⟩) y1029.length co31 : Value).ownBlock)) (n := t1035.length) (c := co82) ?_).2.2; exact (qr (Kd.R_mono (Kd.R_far (p := ⟨gb1040, 2, none⟩) (Kd.R_far (p := ⟨gb1040, 1, none⟩) (Kd.R_far (p := ⟨gb1040, 0, none⟩) (Kd.R_types HO1037.out BK1040.out (by decide)) (fun _ hk => hk.2) (.bool true)) (fun _ hk => hk.2) (.slice Ao82 t1035.length co82)) (fun _ hk => hk.2) (.int .i64 t1038)) (fun _ h_ => h_.1)))); (case side4 => exact (Kd.R_reads' HO1037.out).2.1); rintro e w84 ⟨rfl, hb⟩; refine ⟨_, rfl, ?_⟩; replace HO_49 := Aside0.mk (Kd.R_below (qr (Kd.R_mono (Kd.R_far (p := ⟨gb1040, 2, none⟩) (Kd.R_far (p := ⟨gb1040, 1, none⟩) (Kd.R_far (p := ⟨gb1040, 0, none⟩) (Kd.R_types HO_49.out BK1040.out (by decide)) (fun _ hk => hk.2) (.bool true)) (fun _ hk => hk.2) (.slice Ao82 t1035.length co82)) (fun _ hk => hk.2) (.int .i64 t1038)) (fun _ h_ => h_.1))) hb); replace HO_1019001 := Aside0.mk (Kd.R_below (qr (Kd.R_mono (Kd.R_far (p := ⟨gb1040, 2, none⟩) (Kd.R_far (p := ⟨gb1040, 1, none⟩) (Kd.R_far (p := ⟨gb1040, 0, none⟩) (Kd.R_types HO_1019001.out BK1040.out (by decide)) (fun _ hk => hk.2) (.bool true)) (fun _ hk => hk.2) (.slice Ao82 t1035.length co82)) (fun _ hk => hk.2) (.int .i64 t1038)) (fun _ h_ => h_.1))) hb); replace HO1031 := Aside0.mk (Kd.R_below (qr (Kd.R_mono (Kd.R_far (p := ⟨gb1040, 2, none⟩) (Kd.R_far (p := ⟨gb1040, 1, none⟩) (Kd.R_far (p := ⟨gb1040, 0, none⟩) (Kd.R_types HO1031.out BK1040.out (by decide)) (fun _ hk => hk.2) (.bool true)) (fun _ hk => hk.2) (.slice Ao82 t1035.length co82)) (fun _ hk => hk.2) (.int .i64 t1038)) (fun _ h_ => h_.1))) hb); replace HO1037 := Aside0.mk (Kd.R_below (qr (Kd.R_mono (Kd.R_far (p := ⟨gb1040, 2, none⟩) (Kd.R_far (p := ⟨gb1040, 1, none⟩) (Kd.R_far (p := ⟨gb1040, 0, none⟩) (Kd.R_types HO1037.out BK1040.out (by decide)) (fun _ hk => hk.2) (.bool true)) (fun _ hk => hk.2) (.slice Ao82 t1035.length co82)) (fun _ hk => hk.2) (.int .i64 t1038)) (fun _ h_ => h_.1))) hb); replace BK1018 := Aside0.mk (blk_below (g := gb1018) (o := .cells #[.int .i64 t1014, .slice Ao17 t1015.length co17] 26 (0, 0)) (by (with_reducible repeat (first | refine blk_drewN ?_ _ | refine blk_drew ?_ | refine blk_alloc ?_ _)); refine blk_far ?_ NB1018_1040.out _; (with_reducible repeat (first | refine blk_drewN ?_ _ | refine blk_drew ?_ | refine blk_alloc ?_ _)); refine blk_far ?_ NB1018_1040.out _; (with_reducible repeat (first | refine blk_drewN ?_ _ | refine blk_drew ?_ | refine blk_alloc ?_ _)); refine blk_far ?_ NB1018_1040.out _; (with_reducible repeat (first | refine blk_drewN ?_ _ | refine blk_drew ?_ | refine blk_alloc ?_ _)); exact BK1018.out) hb); replace BK1040 := Aside0.mk (blk_below (g := gb1040) (o := .cells #[.bool true, .slice Ao82 t1035.length co82, .int .i64 t1038] 55 (0, 0)) (by (with_reducible repeat (first | refine blk_drewN ?_ _ | refine blk_drew ?_ | refine blk_alloc ?_ _)); refine blk_put (cs := #[.bool true, .slice Ao82 t1035.length co82, .int .i64 0]) ?_ 2 _ rfl; (with_reducible repeat (first | refine blk_drewN ?_ _ | refine blk_drew ?_ | refine blk_alloc ?_ _)); refine blk_put (cs := #[.bool true, .slice none 0 0, .int .i64 0]) ?_ 1 _ rfl; (with_reducible repeat (first | refine blk_drewN ?_ _ | refine blk_drew ?_ | refine blk_alloc ?_ _)); refine blk_put (cs := #[.bool false, .slice none 0 0, .int .i64 0]) ?_ 0 _ rfl; (with_reducible repeat (first | refine blk_drewN ?_ _ | refine blk_drew ?_ | refine blk_alloc ?_ _)); exact BK1040.out) hb); replace HB := qS HB hb; (try clear hb); (try clear hb2); (try clear hk); (try clear hi)))
                   go_ret
                   exact ⟨qe, qb⟩
                 ·
                  replace c53 := Bool.eq_false_iff.mpr c53
                  subst c53
                  rw [if_neg (show ¬ (false = true) by decide)] at H
                  exact absurd H (by simp)
                ·
                 replace c51 := Bool.eq_false_iff.mpr c51
                 subst c51
                 rw [if_neg (show ¬ (false = true) by decide)] at H
                 have H' := Aside0.mk H
                 clear H
                 have p1028 : 0 ≤ (x51_1 : Int) := of_decide_eq_true (by first | (with_reducible assumption) | assumption)
                 have q1028 : x51_1 < (x49_1.length : Int) := of_decide_eq_true (by first | (with_reducible assumption) | assumption)
                 obtain ⟨ad1028, e1028, hx1028_0⟩ := Kd.at_int (Kd.R_reads' HO_49.out).2.2 x51_1 p1028 q1028
                 cases e1028
                 replace p1028 := eq_true p1028
                 replace q1028 := eq_true q1028
                 obtain ⟨hcz85_0, hcz85_1, hfz85_0, hfz85_1⟩ := qc2 BK1018.out
                 go_wp2_with (first | ((with_reducible refine gate_dst (N := 57) rfl ?_); refine Kd.R_make (Kd.int .i64) _ 3 rfl (N := 57) rfl 27 _ _ rfl t1014 rfl rfl Try.underlying27 (.int .i64 0) 8 info3 rfl (by decide) (by omega) 0 (ok := fun _ => True) (okp := fun _ => True) rfl (fun _ hk => hk) trivial (of_decide_eq_true (by first | (with_reducible assumption) | assumption)) (Nat.le_trans (Nat.mul_le_mul_right _ (of_decide_eq_true (by first | (with_reducible assumption) | assumption) : t1014.toNat ≤ 35184372088832)) (by omega)) (Below.refl _ _) (Nat.le_refl _) ?_; intro v1030 w86 ho87 hb hg_ hnew_; clear hg_ hnew_; (first | rw [← Ny1029.out] at ho87 | (simp only [Int.reduceToNat] at ho87; rw [← Ny1029.out] at ho87)); replace HO_1019001 := qR HO_1019001 hb; have HO1031 := Aside0.mk (Kd.R_lower (Kd.R_new' ho87 (Kd.R_lt (qr HO_49.out))) (below_size (qb))); replace HO_49 := Aside0.mk (Kd.R_elder' (qr HO_49.out) (Kd.R_base ho87) hb); replace BK1018 := qB BK1018 hb; replace HB := qS HB hb; clear hb ho87; have p31 : 0 ≤ (t1019 : Int) := of_decide_eq_true (by first | (with_reducible assumption) | assumption); have q31 : (t1019 : Int) < ((y1029.length : Int) : Int) := of_decide_eq_true (by first | (with_reducible assumption) | assumption); obtain ⟨go31, co31, eo31, gb31, gl31, cl31, HG31⟩ := Kd.R_form HO1031.out (by omega); (first | cases eo31 | (injection eo31 with ea_ en_ ec_; (first | subst ea_ | (injection ea_ with ea_; subst ea_)); subst ec_; clear en_)); have GB31 := Aside0.mk gb31; have GG31 := Aside0.mk HG31; clear gb31 gl31 HG31; obtain ⟨hx31_0, hf31_0⟩ := Kd.R_celln 0 HO1031.out (t1019 : Int) p31 q31; replace p31 := eq_true p31; replace q31 := eq_true q31; have n_ := Aside0.mk (Kd.R_mono (ok' := (fun k_ => some k_ ≠ (.slice (some ad1028) x49_1.length co23 : Value).ownBlock)) HO1031.out (fun k_ hk => hk.2)); clear HO1031; have HO1031 := n_; clear n_; obtain ⟨hy88_, hz88_⟩ := Kd.R_celln 0 HO1031.out (t1019 : Int) (of_decide_eq_true (by first | (with_reducible assumption) | assumption)) (of_decide_eq_true (by first | (with_reducible assumption) | assumption)); have HP88 := Kd.R_putg HO1031.out (t1019 : Int) (rd x49_1 x51_1)) | ((with_reducible refine gate_store (t := 3) (p := 61) rfl ?_); refine store_event (t := 3) (p := 61) (v := ?vo_w89) (w1 := (w86.setCell ⟨go31, (t1019 : Int).toNat, none⟩ (.int .i64 (rd x49_1 x51_1)))) ?hg ?ho ?hn ?hr ?_; (case ho => rfl); (case hg => rfl); (case hn => rfl); (case hr => first | (go_simp; done) | (go_simp; rfl)); intro w89 hw; have hg : w86.grownBy w89 (some go31) := (by rw [hw]; exact HP88.2); have hp_ : Kd.R (Kd.int .i64) 3 w89 w.heap.size (fun k_ => some k_ ≠ (.slice (some ad1028) x49_1.length co23 : Value).ownBlock) (.slice (some ⟨go31, 0, none⟩) y1029.length co31) y1032 := (by rw [hw, Ny1032.out]; exact HP88.1); clear HP88; replace HO_49 := Aside0.mk (Kd.R_after (v := (.slice (some ⟨go31, 0, none⟩) y1029.length co31)) (v1 := (.slice (some ⟨go31, 0, none⟩) y1029.length co31)) (ok := (fun _ => True)) (qr HO_49.out) hg (.inl rfl)); replace HO_1019001 := Aside0.mk (Kd.R_over' (v := (.slice (some ⟨go31, 0, none⟩) y1029.length co31)) (qr HO_1019001.out) (Kd.R_typed HO1031.out) (by decide) hg); replace BK1018 := Aside0.mk (blk_grown (g := gb1018) (o := .cells #[.int .i64 t1014, .slice Ao17 t1015.length co17] 26 (0, 0)) (qk BK1018.out) hg (Kd.R_ne HO1031.out BK1018.out (by decide))); replace HO1031 := Aside0.mk (hp_); replace HB := Aside0.mk ((by rw [hw]; exact below_set (HB.out) GB31.out : Below w.heap.size w w89)); clear hg hw hp_; have p34 : 0 ≤ (t1020 : Int) := of_decide_eq_true (by first | (with_reducible assumption) | assumption); have q34 : (t1020 : Int) < ((y1029.length : Int) : Int) := of_decide_eq_true (by first | (with_reducible assumption) | assumption); obtain ⟨hx34_0, hf34_0⟩ := Kd.R_celln 0 HO1031.out (t1020 : Int) p34 q34; replace p34 := eq_true p34; replace q34 := eq_true q34; obtain ⟨hy90_, hz90_⟩ := Kd.R_celln 0 HO1031.out (t1020 : Int) (of_decide_eq_true (by first | (with_reducible assumption) | assumption)) (of_decide_eq_true (by first | (with_reducible assumption) | assumption)); have HP90 := Kd.R_putg HO1031.out (t1020 : Int) (wrap64 (-(rd x49_1 x51_1)))) | ((with_reducible refine gate_store (t := 3) (p := 66) rfl ?_); refine store_event (t := 3) (p := 66) (v := ?vo_w91) (w1 := (w89.setCell ⟨go31, (t1020 : Int).toNat, none⟩ (.int .i64 (wrap64 (-(rd x49_1 x51_1)))))) ?hg ?ho ?hn ?hr ?_; (case ho => rfl); (case hg => rfl); (case hn => rfl); (case hr => first | (go_simp; done) | (go_simp; rfl)); intro w91 hw; have hg : w89.grownBy w91 (some go31) := (by rw [hw]; exact HP90.2); have hp_ : Kd.R (Kd.int .i64) 3 w91 w.heap.size (fun k_ => some k_ ≠ (.slice (some ad1028) x49_1.length co23 : Value).ownBlock) (.slice (some ⟨go31, 0, none⟩) y1029.length co31) y1033 := (by rw [hw, Ny1033.out]; exact HP90.1); clear HP90; replace HO_49 := Aside0.mk (Kd.R_after (v := (.slice (some ⟨go31, 0, none⟩) y1029.length co31)) (v1 := (.slice (some ⟨go31, 0, none⟩) y1029.length co31)) (ok := (fun _ => True)) (qr HO_49.out) hg (.inl rfl)); replace HO_1019001 := Aside0.mk (Kd.R_over' (v := (.slice (some ⟨go31, 0, none⟩) y1029.length co31)) (qr HO_1019001.out) (Kd.R_typed HO1031.out) (by decide) hg); replace BK1018 := Aside0.mk (blk_grown (g := gb1018) (o := .cells #[.int .i64 t1014, .slice Ao17 t1015.length co17] 26 (0, 0)) (qk BK1018.out) hg (Kd.R_ne HO1031.out BK1018.out (by decide))); replace HO1031 := Aside0.mk (hp_); replace HB := Aside0.mk ((by rw [hw]; exact below_set (HB.out) GB31.out : Below w.heap.size w w91)); clear hg hw hp_; obtain ⟨hcz92_0, hcz92_1, hfz92_0, hfz92_1⟩ := qc2 BK1018.out) | ((with_reducible refine gate_callee (f := 46) rfl ?_); refine goesL_ (some 70) rfl rfl Try.func46 qq rfl #[.agg #[.int .i64 t1014, .slice Ao17 t1015.length co17], .slice (some ⟨go31, 0, none⟩) y1033.length co31] rfl (by (try simp only [List.map_toArray, List.map_cons, List.map_nil]); first | done | (rw [show y1033.length = y1029.length from (Kd.R_reads' HO1031.out).1.symm] <;> rfl) | rfl | (simp only [List.length_drop, List.length_take]; rfl)) ?_; (with_reducible refine (flow_Meet.calls t1014 _ _ t1015 _ _ y1033 false t1035 t1038 t1039 _ ?side1 ?side2 ?side3 ?side4 A35.out).mono ?_); (case side1 => exact qC (Kd.R_reads' HO_1019001.out).2.2); (case side2 => exact (Kd.R_reads' HO_1019001.out).2.1); (case side3 => exact qC (Kd.R_reads' HO1031.out).2.2); (case side4 => rw [show y1033.length = y1029.length from (Kd.R_reads' HO1031.out).1.symm]; exact (Kd.R_reads' HO1031.out).2.1); rintro e w93 ⟨v1036, rfl, ho0, hb⟩; refine ⟨_, rfl, ?_⟩; replace HO_1019001 := qR HO_1019001 hb; have HO1037 := Aside0.mk (Kd.R_lower (Kd.R_new' (Kd.R_new' ho0 (Kd.R_lt (qr HO_49.out))) (Kd.R_lt (qr HO1031.out))) (below_size (qb))); replace HO_49 := Aside0.mk (Kd.R_elder' (qr HO_49.out) (Kd.R_base ho0) hb); replace HO1031 := Aside0.mk (Kd.R_elder' (qr HO1031.out) (Kd.R_base ho0) hb); replace BK1018 := qB BK1018 hb; replace HB := qS HB hb; (try clear hb); (try clear hb2); (try clear hk); (try clear hi); (try clear ho0)) | ((with_reducible refine gate_dst (N := 20) rfl ?_); refine box_event rfl (N := 20) rfl (cs := #[.bool false, .slice none 0 0, .int .i64 0]) (t := 55) qh ?_; intro gb1040 hg w94 hbox hb; replace HO_49 := qR HO_49 hb; replace HO_1019001 := qR HO_1019001 hb; replace HO1031 := qR HO1031 hb; replace HO1037 := qR HO1037 hb; have BK1040 := Aside0.mk (hbox); have GW1040 := qg HB hg; have GE1040 := qg HB hg; replace HB := qS HB hb; have NB1018_1040 := qn BK1018 hg; have NB1040_1018 := qm BK1018 hg; replace BK1018 := qB BK1018 hb; clear hb hbox hg; have hnb95 := NB1040_1018.out; have hnc95 := NB1018_1040.out; obtain ⟨hcz96_0, hcz96_1, hcz96_2, hfz96_0, hfz96_1, hfz96_2⟩ := qc3 BK1040.out; obtain ⟨Ao97, co97, eo97⟩ := Kd.R_slice HO1037.out; subst eo97))
                 (try simp only [← hl49_1])
                 go_roundg k1
                 case measure => have := HK1.out; omega
                 case rel => exact ⟨(x49_1), (wrap64 (x51_1 + 1)), (by first | rfl | (simp; done) | (simp [*]; done)), H', ⟨by have := HK1.out; omega⟩, ⟨by (try simp only [hl49_1]); (with_reducible repeat (first | apply Kd.R_alloc | apply Kd.R_drewN | apply Kd.R_drew)); exact Kd.R_mono (Kd.R_far (p := ⟨gb1040, 2, none⟩) (Kd.R_far (p := ⟨gb1040, 1, none⟩) (Kd.R_far (p := ⟨gb1040, 0, none⟩) (Kd.R_types HO_49.out BK1040.out (by decide)) (fun _ hk => hk.2) (.bool false)) (fun _ hk => hk.2) (.slice Ao97 t1035.length co97)) (fun _ hk => hk.2) (.int .i64 t1038)) (fun _ hk => trivial)⟩, ⟨by (try simp only [hl49_1]); (with_reducible repeat (first | apply Kd.R_alloc | apply Kd.R_drewN | apply Kd.R_drew)); exact Kd.R_mono (Kd.R_far (p := ⟨gb1040, 2, none⟩) (Kd.R_far (p := ⟨gb1040, 1, none⟩) (Kd.R_far (p := ⟨gb1040, 0, none⟩) (Kd.R_types HO_1019001.out BK1040.out (by decide)) (fun _ hk => hk.2) (.bool false)) (fun _ hk => hk.2) (.slice Ao97 t1035.length co97)) (fun _ hk => hk.2) (.int .i64 t1038)) (fun _ hk => trivial)⟩, ⟨by (try simp only [hl49_1]); (with_reducible repeat (first | refine blk_drewN ?_ _ | refine blk_drew ?_ | refine blk_alloc ?_ _)); refine blk_far ?_ NB1018_1040.out _; (with_reducible repeat (first | refine blk_drewN ?_ _ | refine blk_drew ?_ | refine blk_alloc ?_ _)); refine blk_far ?_ NB1018_1040.out _; (with_reducible repeat (first | refine blk_drewN ?_ _ | refine blk_drew ?_ | refine blk_alloc ?_ _)); refine blk_far ?_ NB1018_1040.out _; (with_reducible repeat (first | refine blk_drewN ?_ _ | refine blk_drew ?_ | refine blk_alloc ?_ _)); exact BK1018.out⟩, ⟨qb⟩⟩
              ·
               rw [if_neg c36] at H
               exact absurd H (by simp)
             ·
              rw [if_neg c33] at H
              exact absurd H (by simp)
            ·
             rw [if_neg c32] at H
             exact absurd H (by simp)
           ·
            rw [if_neg c30] at H
            exact absurd H (by simp)
          ·
           rw [if_neg c29] at H
           exact absurd H (by simp)
         ·
          rw [if_neg c28] at H
          exact absurd H (by simp)
        ·
         rw [if_neg c27] at H
         exact absurd H (by simp)
       ·
        rw [if_neg c26] at H
        exact absurd H (by simp)
      ·
       rw [if_neg c25] at H
       exact absurd H (by simp)
     ·
      rw [if_neg c24] at H
      have c24b0 : decide (x51_1 < (y1025.length : Int)) = false := decide_eq_false c24
      clear c24
      (try simp only [hl49_1] at c24b0)
      obtain rfl := Option.some.inj H
      go_wp2
      go_ret
      exact ⟨qe, qb⟩
  ·
   replace c11 := Bool.eq_false_iff.mpr c11
   subst c11
   rw [if_neg (show ¬ (false = true) by decide)] at H
   exact absurd H (by simp)
 ·
  replace c7 := Bool.eq_false_iff.mpr c7
  subst c7
  rw [if_neg (show ¬ (false = true) by decide)] at H
  exact absurd H (by simp)

end Go.Proofs.Ytkkakdpncogpkaa.D
end
