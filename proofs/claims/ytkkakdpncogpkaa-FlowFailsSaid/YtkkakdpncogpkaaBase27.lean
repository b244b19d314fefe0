/- Parts of the proof of a law about flows (see the law's own text): FflowWithout, Fdialtonelaw27greatest, FflowCheckWorst. Conditions: each theorem's own. -/
import Derived.Test.YtkkakdpncogpkaaBase5
import Derived.Test.YtkkakdpncogpkaaBase4
import Derived.Test.YtkkakdpncogpkaaBase6
import Derived.Test.YtkkakdpncogpkaaBase8
import Derived.Test.YtkkakdpncogpkaaBase20
import Derived.Test.YtkkakdpncogpkaaBase16
import Derived.Test.YtkkakdpncogpkaaBase21
import Derived.Test.YtkkakdpncogpkaaBase22
section
namespace Go.Proofs.Ytkkakdpncogpkaa.D
open Go.RowKit Go.Proofs.YtkkakdpncogpkaaW.PrintWords Go.Proofs.YtkkakdpncogpkaaW.PrintLast Go.Proofs.YtkkakdpncogpkaaW.PrintMore
attribute [local go_sem] max2_int min2_int max_two min_two max_three min_three max_four min_four   -- for this text's walks alone
set_option linter.unusedVariables false
set_option linter.unusedSimpArgs false

/-! ### flow_Without: function 38 -/
def flow_Without.f (a0_0 : Int) (l0_1 : List (S72)) (a1 : Int) : Option (Int × (List (S72)) × Int) := (flow_Valid.f a0_0 l0_1).bind fun t134 => (if t134 = true then ((flow_isIn.f a1 0 (wrap64 ((shl .i64 1 (l0_1.length : Int)) - 1))).bind fun t135 => (if t135 = true then ((flow_without.f a0_0 l0_1 a1).bind fun bt136 => (some (bt136.1, bt136.2, 0))) else (some (0, ([] : List (S72)), 270)))) else (some (0, ([] : List (S72)), 270)))
set_option maxHeartbeats 8000000 in
set_option maxRecDepth 100000 in
theorem flow_Without.calls (a0_0 : Int) (A0_1 : Option Addr) (c0_1 : Nat) (l0_1 : List (S72)) (a1 : Int) (r1 : Int) (r2 : List (S72)) (r3 : Int) (w : World) (hr0_1 : Kd.C k72 w A0_1 l0_1.length l0_1) (hc0_1 : l0_1.length ≤ c0_1) (h : flow_Without.f a0_0 l0_1 a1 = some (r1, r2, r3)) :
  Calls Try.prog 38 #[.agg #[.int .i64 a0_0, .slice A0_1 l0_1.length c0_1], .int .i64 a1] w fun e w' => ∃ v1_ : Value, e = .returned (.tuple #[.agg #[.int .i64 r1, v1_], .int .i64 r3]) ∧ Kd.R k72 72 w' w.heap.size (fun _ => True) v1_ r2 ∧ Below w.heap.size w w' := by
 have hu26 := Try.underlying26
 have HR0_1 := Aside0.mk hr0_1
 have HC0_1 := Aside0.mk hc0_1
 clear hr0_1 hc0_1
 have HB := Aside0.mk (Below.refl w.heap.size w)
 have H : ((flow_Valid.f a0_0 l0_1).bind fun t134 => (if t134 = true then ((flow_isIn.f a1 0 (wrap64 ((shl .i64 1 (l0_1.length : Int)) - 1))).bind fun t135 => (if t135 = true then ((flow_without.f a0_0 l0_1 a1).bind fun bt136 => (some (bt136.1, bt136.2, 0))) else (some (0, ([] : List (S72)), 270)))) else (some (0, ([] : List (S72)), 270)))) = some (r1, r2, r3) := h
 clear h
 replace H := Option.bind_eq_some_iff.mp H
 obtain ⟨t134, A30, H⟩ := H
 (try dsimp only at H)
 have A3 := Aside0.mk A30
 clear A30
 by_cases c4 : t134 = true
 ·
  subst c4
  rw [if_pos rfl] at H
  obtain ⟨ji5, hji5⟩ : ∃ j_ : Int, (shl .i64 1 (l0_1.length : Int)) = j_ := ⟨_, rfl⟩
  replace H : ((flow_isIn.f a1 0 (wrap64 ((ji5) - 1))).bind fun t135 => (if t135 = true then ((flow_without.f a0_0 l0_1 a1).bind fun bt136 => (some (bt136.1, bt136.2, 0))) else (some (0, ([] : List (S72)), 270)))) = some (r1, r2, r3) := by first | (rw [hji5] at H; exact H) | (simp only [hji5] at H ⊢; exact H)
  (try rw [hji5] at A3)
  have hji5_ : (IntKind.i64.wrap (1 * 2 ^ min (l0_1.length : Int).toNat 64)) = ji5 := hji5
  have hji5z : (l0_1.length : Int) ≤ 64 → (IntKind.i64.wrap (1 * 2 ^ (l0_1.length : Int).toNat)) = ji5 := shl_small hji5
  have hji5p : (IntKind.i64.wrap (1 * 2 ^ min l0_1.length 64)) = ji5 := hji5_
  have hji5q : (l0_1.length : Int) ≤ 64 → (IntKind.i64.wrap (1 * 2 ^ l0_1.length)) = ji5 := hji5z
  have hji5r : (IntKind.i64.wrap (2 ^ min l0_1.length 64)) = ji5 := by have h_ := hji5p; rw [Int.one_mul] at h_; exact h_
  have hji5s : (l0_1.length : Int) ≤ 64 → (IntKind.i64.wrap (2 ^ l0_1.length)) = ji5 := fun hle_ => by have h_ := hji5q hle_; rw [Int.one_mul] at h_; exact h_
  have hji5u : (IntKind.i64.wrap (2 ^ min (l0_1.length : Int).toNat 64)) = ji5 := by have h_ := hji5_; rw [Int.one_mul] at h_; exact h_
  have hji5v : (l0_1.length : Int) ≤ 64 → (IntKind.i64.wrap (2 ^ (l0_1.length : Int).toNat)) = ji5 := fun hle_ => by have h_ := hji5z hle_; rw [Int.one_mul] at h_; exact h_
  have hji5y : (wrap64 (1 * 2 ^ min (l0_1.length : Int).toNat 64)) = ji5 := (i64_w _).symm.trans hji5_
  have hji5x : (l0_1.length : Int) ≤ 64 → (wrap64 (1 * 2 ^ (l0_1.length : Int).toNat)) = ji5 := fun h_ => (i64_w _).symm.trans (hji5z h_)
  replace H := Option.bind_eq_some_iff.mp H
  obtain ⟨t135, A60, H⟩ := H
  (try dsimp only at H)
  have A6 := Aside0.mk A60
  clear A60
  by_cases c7 : t135 = true
  ·
   subst c7
   rw [if_pos rfl] at H
   replace H := Option.bind_eq_some_iff.mp H
   obtain ⟨⟨t136, t137⟩, A80, H⟩ := H
   (try dsimp only at H)
   have A8 := Aside0.mk A80
   clear A80
   simp only [Option.some.injEq, Prod.mk.injEq] at H
   obtain ⟨rfl, rfl, rfl⟩ := H
   go_enter Try.func38, Try.ntmps38
   go_wp2_with (first | ((with_reducible refine gate_dst (N := 2) rfl ?_); (try (refine gate_guard (by rfl) ?_; dsimp only)); refine box_event rfl (N := 2) rfl (cs := #[.int .i64 a0_0, .slice A0_1 l0_1.length c0_1]) (t := 26) qh ?_; intro gb132 hg w9 hbox hb; have BK132 := Aside0.mk (hbox); have GW132 := qg HB hg; have GE132 := qg HB hg; replace HB := qS HB hb; clear hb hbox hg) | ((with_reducible refine gate_dst (N := 4) rfl ?_); (try (refine gate_guard (by rfl) ?_; dsimp only)); refine box_event rfl (N := 4) rfl (cs := #[.int .i64 0, .slice none 0 0]) (t := 26) qh ?_; intro gb133 hg w10 hbox hb; have BK133 := Aside0.mk (hbox); have GW133 := qg HB hg; have GE133 := qg HB hg; replace HB := qS HB hb; have NB132_133 := qn BK132 hg; have NB133_132 := qm BK132 hg; replace BK132 := qB BK132 hb; clear hb hbox hg; have hnb11 := NB132_133.out; have hnc11 := NB133_132.out; obtain ⟨hcz12_0, hcz12_1, hfz12_0, hfz12_1⟩ := qc2 BK132.out) | ((with_reducible refine gate_callee (f := 27) rfl ?_); refine goesL_ (some 7) rfl rfl Try.func27 qq rfl #[.agg #[.int .i64 a0_0, .slice A0_1 l0_1.length c0_1]] rfl qa ?_; (with_reducible refine (flow_Valid.calls a0_0 _ _ l0_1 true _ ?side1 ?side2 A3.out).mono ?_); (case side1 => exact qC (Kd.C_below HR0_1.out HB.out)); (case side2 => exact HC0_1.out); rintro e w13 ⟨rfl, hb⟩; refine ⟨_, rfl, ?_⟩; replace BK132 := qB BK132 hb; replace BK133 := qB BK133 hb; replace HB := qS HB hb; (try clear hb); (try clear hb2); (try clear hk); (try clear hi); obtain ⟨hcz14_0, hcz14_1, hfz14_0, hfz14_1⟩ := qc2 BK132.out) | (go_at_call 69; (with_reducible refine (flow_isIn.calls a1 0 (wrap64 ((ji5) - 1)) true _ A6.out).mono ?_); rintro e w' ⟨rfl, ⟨nd, rfl⟩⟩; (try (rw [drewN_self w13]; generalize hq_ : World.drewN w13 _ = w13; have n0_ : Aside0 (w13.heap[gb132]? = some (.cells #[.int .i64 a0_0, .slice A0_1 l0_1.length c0_1] 26 (0, 0))) := ⟨by rw [← hq_]; exact (qk BK132.out)⟩; have n1_ : Aside0 (w13.heap[gb133]? = some (.cells #[.int .i64 0, .slice none 0 0] 26 (0, 0))) := ⟨by rw [← hq_]; exact (qk BK133.out)⟩; have n2_ : Aside0 (Below w.heap.size w w13) := ⟨by rw [← hq_]; exact (qb)⟩; clear BK132 BK133 HB hq_; have BK132 := n0_; have BK133 := n1_; have HB := n2_; clear n0_ n1_ n2_; have hcz15_0 : w13.cell? ⟨gb132, 0, none⟩ = some (.int .i64 a0_0) := (blk_cell BK132.out 0).trans rfl; have hfz15_0 := blk_frozen BK132.out 0; have hcz15_1 : w13.cell? ⟨gb132, 1, none⟩ = some (.slice A0_1 l0_1.length c0_1) := (blk_cell BK132.out 1).trans rfl; have hfz15_1 := blk_frozen BK132.out 1))) | ((with_reducible refine gate_callee (f := 83) rfl ?_); refine goesL_ (some 22) rfl rfl Try.func83 qq rfl #[.agg #[.int .i64 a0_0, .slice A0_1 l0_1.length c0_1], .int .i64 a1] rfl qa ?_; (with_reducible refine (flow_without.calls a0_0 _ _ l0_1 a1 t136 t137 _ ?side1 ?side2 A8.out).mono ?_); (case side1 => exact qC (Kd.C_below HR0_1.out HB.out)); (case side2 => exact HC0_1.out); rintro e w16 ⟨v138, rfl, ho0, hb⟩; refine ⟨_, rfl, ?_⟩; have HO139 := qL HB ho0; replace BK132 := qB BK132 hb; replace BK133 := qB BK133 hb; replace HB := qS HB hb; (try clear hb); (try clear hb2); (try clear hk); (try clear hi); (try clear ho0); obtain ⟨hcz17_0, hcz17_1, hfz17_0, hfz17_1⟩ := qc2 BK133.out; obtain ⟨Ao18, co18, eo18⟩ := Kd.R_slice HO139.out; subst eo18))
   refine bodyPost_ret (results_ct rfl _ _ gb133 26 #[.int .i64 t136, .slice Ao18 t137.length co18] (0, 0) _ rfl (by (with_reducible repeat (first | refine blk_drewN ?_ _ | refine blk_drew ?_ | refine blk_alloc ?_ _)); refine blk_put (cs := #[.int .i64 t136, .slice none 0 0]) ?_ 1 _ rfl; (with_reducible repeat (first | refine blk_drewN ?_ _ | refine blk_drew ?_ | refine blk_alloc ?_ _)); refine blk_put (cs := #[.int .i64 0, .slice none 0 0]) ?_ 0 _ rfl; (with_reducible repeat (first | refine blk_drewN ?_ _ | refine blk_drew ?_ | refine blk_alloc ?_ _)); exact BK133.out) Try.underlying26 rfl qq) rfl ?_
   exact ⟨_, by first | rfl | (simp [errW_none, errW_some] <;> rfl) | (simp only [← hji5]; first | rfl | (simp [errW_none, errW_some] <;> rfl)) | (simp [*, errW_none, errW_some] <;> rfl), by (with_reducible repeat (first | apply Kd.R_alloc | apply Kd.R_drewN | apply Kd.R_drew)); exact Kd.R_mono (Kd.R_far (p := ⟨gb133, 1, none⟩) (Kd.R_far (p := ⟨gb133, 0, none⟩) (Kd.R_types HO139.out BK133.out (by decide)) (fun _ hk => hk.2) (.int .i64 t136)) (fun _ hk => hk.2) (.slice Ao18 t137.length co18)) (fun _ hk => trivial), qb⟩
  ·
   replace c7 := Bool.eq_false_iff.mpr c7
   subst c7
   rw [if_neg (show ¬ (false = true) by decide)] at H
   simp only [Option.some.injEq, Prod.mk.injEq] at H
   obtain ⟨rfl, rfl, rfl⟩ := H
   go_enter Try.func38, Try.ntmps38
   go_wp2_with (first | ((with_reducible refine gate_dst (N := 2) rfl ?_); (try (refine gate_guard (by rfl) ?_; dsimp only)); refine box_event rfl (N := 2) rfl (cs := #[.int .i64 a0_0, .slice A0_1 l0_1.length c0_1]) (t := 26) qh ?_; intro gb132 hg w19 hbox hb; have BK132 := Aside0.mk (hbox); have GW132 := qg HB hg; have GE132 := qg HB hg; replace HB := qS HB hb; clear hb hbox hg) | ((with_reducible refine gate_dst (N := 4) rfl ?_); (try (refine gate_guard (by rfl) ?_; dsimp only)); refine box_event rfl (N := 4) rfl (cs := #[.int .i64 0, .slice none 0 0]) (t := 26) qh ?_; intro gb133 hg w20 hbox hb; have BK133 := Aside0.mk (hbox); have GW133 := qg HB hg; have GE133 := qg HB hg; replace HB := qS HB hb; have NB132_133 := qn BK132 hg; have NB133_132 := qm BK132 hg; replace BK132 := qB BK132 hb; clear hb hbox hg; have hnb21 := NB132_133.out; have hnc21 := NB133_132.out; obtain ⟨hcz22_0, hcz22_1, hfz22_0, hfz22_1⟩ := qc2 BK132.out) | ((with_reducible refine gate_callee (f := 27) rfl ?_); refine goesL_ (some 7) rfl rfl Try.func27 qq rfl #[.agg #[.int .i64 a0_0, .slice A0_1 l0_1.length c0_1]] rfl qa ?_; (with_reducible refine (flow_Valid.calls a0_0 _ _ l0_1 true _ ?side1 ?side2 A3.out).mono ?_); (case side1 => exact qC (Kd.C_below HR0_1.out HB.out)); (case side2 => exact HC0_1.out); rintro e w23 ⟨rfl, hb⟩; refine ⟨_, rfl, ?_⟩; replace BK132 := qB BK132 hb; replace BK133 := qB BK133 hb; replace HB := qS HB hb; (try clear hb); (try clear hb2); (try clear hk); (try clear hi); obtain ⟨hcz24_0, hcz24_1, hfz24_0, hfz24_1⟩ := qc2 BK132.out) | (go_at_call 69; (with_reducible refine (flow_isIn.calls a1 0 (wrap64 ((ji5) - 1)) false _ A6.out).mono ?_); rintro e w' ⟨rfl, ⟨nd, rfl⟩⟩; (try (rw [drewN_self w23]; generalize hq_ : World.drewN w23 _ = w23; have n0_ : Aside0 (w23.heap[gb132]? = some (.cells #[.int .i64 a0_0, .slice A0_1 l0_1.length c0_1] 26 (0, 0))) := ⟨by rw [← hq_]; exact (qk BK132.out)⟩; have n1_ : Aside0 (w23.heap[gb133]? = some (.cells #[.int .i64 0, .slice none 0 0] 26 (0, 0))) := ⟨by rw [← hq_]; exact (qk BK133.out)⟩; have n2_ : Aside0 (Below w.heap.size w w23) := ⟨by rw [← hq_]; exact (qb)⟩; clear BK132 BK133 HB hq_; have BK132 := n0_; have BK133 := n1_; have HB := n2_; clear n0_ n1_ n2_; have hcz25_0 : w23.cell? ⟨gb132, 0, none⟩ = some (.int .i64 a0_0) := (blk_cell BK132.out 0).trans rfl; have hfz25_0 := blk_frozen BK132.out 0; have hcz25_1 : w23.cell? ⟨gb132, 1, none⟩ = some (.slice A0_1 l0_1.length c0_1) := (blk_cell BK132.out 1).trans rfl; have hfz25_1 := blk_frozen BK132.out 1)); obtain ⟨hcz26_0, hcz26_1, hfz26_0, hfz26_1⟩ := qc2 BK133.out))
   refine bodyPost_ret (results_ct rfl _ _ gb133 26 #[.int .i64 0, .slice none 0 0] (0, 0) _ rfl (by (with_reducible repeat (first | refine blk_drewN ?_ _ | refine blk_drew ?_ | refine blk_alloc ?_ _)); refine blk_put (cs := #[.int .i64 0, .slice none 0 0]) ?_ 1 _ rfl; (with_reducible repeat (first | refine blk_drewN ?_ _ | refine blk_drew ?_ | refine blk_alloc ?_ _)); refine blk_put (cs := #[.int .i64 0, .slice none 0 0]) ?_ 0 _ rfl; (with_reducible repeat (first | refine blk_drewN ?_ _ | refine blk_drew ?_ | refine blk_alloc ?_ _)); exact BK133.out) Try.underlying26 rfl qq) rfl ?_
   exact ⟨_, by first | rfl | (simp [errW_none, errW_some] <;> rfl) | (simp only [← hji5]; first | rfl | (simp [errW_none, errW_some] <;> rfl)) | (simp [*, errW_none, errW_some] <;> rfl), by first | exact Kd.R_nil _ _ _ _ _ | exact Kd.N_nil _ _ _ _ _ | exact Kd.V_nil _ _ _ _ _ | exact Kd.Q_nil _ _ _ _ _ | exact Kd.S_nil _ _ _ _ _, qb⟩
 ·
  replace c4 := Bool.eq_false_iff.mpr c4
  subst c4
  rw [if_neg (show ¬ (false = true) by decide)] at H
  simp only [Option.some.injEq, Prod.mk.injEq] at H
  obtain ⟨rfl, rfl, rfl⟩ := H
  go_enter Try.func38, Try.ntmps38
  go_wp2_with (first | ((with_reducible refine gate_dst (N := 2) rfl ?_); (try (refine gate_guard (by rfl) ?_; dsimp only)); refine box_event rfl (N := 2) rfl (cs := #[.int .i64 a0_0, .slice A0_1 l0_1.length c0_1]) (t := 26) qh ?_; intro gb132 hg w27 hbox hb; have BK132 := Aside0.mk (hbox); have GW132 := qg HB hg; have GE132 := qg HB hg; replace HB := qS HB hb; clear hb hbox hg) | ((with_reducible refine gate_dst (N := 4) rfl ?_); (try (refine gate_guard (by rfl) ?_; dsimp only)); refine box_event rfl (N := 4) rfl (cs := #[.int .i64 0, .slice none 0 0]) (t := 26) qh ?_; intro gb133 hg w28 hbox hb; have BK133 := Aside0.mk (hbox); have GW133 := qg HB hg; have GE133 := qg HB hg; replace HB := qS HB hb; have NB132_133 := qn BK132 hg; have NB133_132 := qm BK132 hg; replace BK132 := qB BK132 hb; clear hb hbox hg; have hnb29 := NB132_133.out; have hnc29 := NB133_132.out; obtain ⟨hcz30_0, hcz30_1, hfz30_0, hfz30_1⟩ := qc2 BK132.out) | ((with_reducible refine gate_callee (f := 27) rfl ?_); refine goesL_ (some 7) rfl rfl Try.func27 qq rfl #[.agg #[.int .i64 a0_0, .slice A0_1 l0_1.length c0_1]] rfl qa ?_; (with_reducible refine (flow_Valid.calls a0_0 _ _ l0_1 false _ ?side1 ?side2 A3.out).mono ?_); (case side1 => exact qC (Kd.C_below HR0_1.out HB.out)); (case side2 => exact HC0_1.out); rintro e w31 ⟨rfl, hb⟩; refine ⟨_, rfl, ?_⟩; replace BK132 := qB BK132 hb; replace BK133 := qB BK133 hb; replace HB := qS HB hb; (try clear hb); (try clear hb2); (try clear hk); (try clear hi); obtain ⟨hcz32_0, hcz32_1, hfz32_0, hfz32_1⟩ := qc2 BK133.out))
  refine bodyPost_ret (results_ct rfl _ _ gb133 26 #[.int .i64 0, .slice none 0 0] (0, 0) _ rfl (by (with_reducible repeat (first | refine blk_drewN ?_ _ | refine blk_drew ?_ | refine blk_alloc ?_ _)); refine blk_put (cs := #[.int .i64 0, .slice none 0 0]) ?_ 1 _ rfl; (with_reducible repeat (first | refine blk_drewN ?_ _ | refine blk_drew ?_ | refine blk_alloc ?_ _)); refine blk_put (cs := #[.int .i64 0, .slice none 0 0]) ?_ 0 _ rfl; (with_reducible repeat (first | refine blk_drewN ?_ _ | refine blk_drew ?_ | refine blk_alloc ?_ _)); exact BK133.out) Try.underlying26 rfl qq) rfl ?_
  exact ⟨_, qe, by first | exact Kd.R_nil _ _ _ _ _ | exact Kd.N_nil _ _ _ _ _ | exact Kd.V_nil _ _ _ _ _ | exact Kd.Q_nil _ _ _ _ _ | exact Kd.S_nil _ _ _ _ _, qb⟩

end Go.Proofs.Ytkkakdpncogpkaa.D
end
section
namespace Go.Proofs.Ytkkakdpncogpkaa.D
open Go.RowKit Go.Proofs.YtkkakdpncogpkaaW.PrintWords Go.Proofs.YtkkakdpncogpkaaW.PrintLast Go.Proofs.YtkkakdpncogpkaaW.PrintMore
attribute [local go_sem] max2_int min2_int max_two min_two max_three min_three max_four min_four   -- for this text's walks alone
set_option linter.unusedVariables false
set_option linter.unusedSimpArgs false

/-! ### dialtonelaw27_greatest: function 51 -/
def dialtonelaw27_greatest.f (k : Nat) (a0_0 : Int) (l0_1 : List (S72)) (a1 : Int) (a2 : Int) : Option (Int × Int × Bool) := (flow_Max.f a0_0 l0_1 a1 a2).bind fun bt508 => ((flow_CheckFlow.f k a0_0 l0_1 a1 a2 bt508.1).bind fun bt513 => ((flow_CheckCut.f k a0_0 l0_1 a1 a2 bt508.2.1).bind fun bt515 => (if bt508.2.2 = 0 then (if bt513.2 = true then (if bt515.2 = true then (some (bt513.1, bt508.2.1, (bt513.1 == bt515.1))) else (some (bt513.1, bt508.2.1, false))) else (some (bt513.1, bt508.2.1, false))) else (some (bt513.1, bt508.2.1, false)))))
theorem dialtonelaw27_greatest.mono : ∀ a0 a1 a2 a3 k, LeO (dialtonelaw27_greatest.f k a0 a1 a2 a3) (dialtonelaw27_greatest.f (k + 1) a0 a1 a2 a3) := by
 intro a0 a1 a2 a3 k
 unfold dialtonelaw27_greatest.f
 repeat' first
   | (with_reducible exact flow_CheckCut.mono _ _ _ _ _ _)
   | (with_reducible exact flow_CheckFlow.mono _ _ _ _ _ _)
   | (with_reducible exact LeO.refl _)
   | (with_reducible exact LeO.none _)
   | (with_reducible refine LeO.ite ?_ ?_)
   | (with_reducible refine LeO.bind ?_ (fun _ => ?_))
   | exact flow_CheckCut.mono _ _ _ _ _ _
   | exact flow_CheckFlow.mono _ _ _ _ _ _
   | exact LeO.none _
   | refine LeO.ite ?_ ?_
   | refine LeO.bind ?_ (fun _ => ?_)
set_option maxHeartbeats 8000000 in
set_option maxRecDepth 100000 in
theorem dialtonelaw27_greatest.calls (k : Nat) (a0_0 : Int) (A0_1 : Option Addr) (c0_1 : Nat) (l0_1 : List (S72)) (a1 : Int) (a2 : Int) (r1 : Int) (r2 : Int) (r3 : Bool) (w : World) (hr0_1 : Kd.C k72 w A0_1 l0_1.length l0_1) (hc0_1 : l0_1.length ≤ c0_1) (h : dialtonelaw27_greatest.f k a0_0 l0_1 a1 a2 = some (r1, r2, r3)) :
  Calls Try.prog 51 #[.agg #[.int .i64 a0_0, .slice A0_1 l0_1.length c0_1], .int .i64 a1, .int .i64 a2] w fun e w' => e = .returned (.tuple #[.int .i64 r1, .int .i64 r2, .bool r3]) ∧ Below w.heap.size w w' := by
 have hu26 := Try.underlying26
 have HR0_1 := Aside0.mk hr0_1
 have HC0_1 := Aside0.mk hc0_1
 clear hr0_1 hc0_1
 have HB := Aside0.mk (Below.refl w.heap.size w)
 have H : ((flow_Max.f a0_0 l0_1 a1 a2).bind fun bt508 => ((flow_CheckFlow.f k a0_0 l0_1 a1 a2 bt508.1).bind fun bt513 => ((flow_CheckCut.f k a0_0 l0_1 a1 a2 bt508.2.1).bind fun bt515 => (if bt508.2.2 = 0 then (if bt513.2 = true then (if bt515.2 = true then (some (bt513.1, bt508.2.1, (bt513.1 == bt515.1))) else (some (bt513.1, bt508.2.1, false))) else (some (bt513.1, bt508.2.1, false))) else (some (bt513.1, bt508.2.1, false)))))) = some (r1, r2, r3) := h
 clear h
 replace H := Option.bind_eq_some_iff.mp H
 obtain ⟨⟨t508, t511, t512⟩, A40, H⟩ := H
 (try dsimp only at H)
 have A4 := Aside0.mk A40
 clear A40
 replace H := Option.bind_eq_some_iff.mp H
 obtain ⟨⟨t513, t514⟩, A50, H⟩ := H
 (try dsimp only at H)
 have A5 := Aside0.mk A50
 clear A50
 replace H := Option.bind_eq_some_iff.mp H
 obtain ⟨⟨t515, t516⟩, A60, H⟩ := H
 (try dsimp only at H)
 have A6 := Aside0.mk A60
 clear A60
 by_cases c7 : t512 = 0
 ·
  rw [if_pos c7] at H
  obtain ⟨c7b0, c7b1⟩ := qt c7
  clear c7
  by_cases c8 : t514 = true
  ·
   subst c8
   rw [if_pos rfl] at H
   by_cases c9 : t516 = true
   ·
    subst c9
    rw [if_pos rfl] at H
    simp only [Option.some.injEq, Prod.mk.injEq] at H
    obtain ⟨rfl, rfl, rfl⟩ := H
    go_enter Try.func51, Try.ntmps51
    go_wp2_with (first | ((with_reducible refine gate_dst (N := 3) rfl ?_); refine box_event rfl (N := 3) rfl (cs := #[.int .i64 a0_0, .slice A0_1 l0_1.length c0_1]) (t := 26) qh ?_; intro gb507 hg w10 hbox hb; have BK507 := Aside0.mk (hbox); have GW507 := qg HB hg; have GE507 := qg HB hg; replace HB := qS HB hb; clear hb hbox hg; obtain ⟨hcz11_0, hcz11_1, hfz11_0, hfz11_1⟩ := qc2 BK507.out) | ((with_reducible refine gate_callee (f := 29) rfl ?_); refine goesL_ (some 20) rfl rfl Try.func29 qq rfl #[.agg #[.int .i64 a0_0, .slice A0_1 l0_1.length c0_1], .int .i64 a1, .int .i64 a2] rfl qa ?_; (with_reducible refine (flow_Max.calls a0_0 _ _ l0_1 a1 a2 t508 t511 t512 _ ?side1 ?side2 A4.out).mono ?_); (case side1 => exact qC (Kd.C_below HR0_1.out HB.out)); (case side2 => exact HC0_1.out); rintro e w12 ⟨v509, rfl, ho0, hb⟩; refine ⟨_, rfl, ?_⟩; have HO510 := qL HB ho0; replace BK507 := qB BK507 hb; replace HB := qS HB hb; (try clear hb); (try clear hb2); (try clear hk); (try clear hi); (try clear ho0); obtain ⟨hcz13_0, hcz13_1, hfz13_0, hfz13_1⟩ := qc2 BK507.out; obtain ⟨Ao14, co14, eo14⟩ := Kd.R_slice HO510.out; subst eo14) | ((with_reducible refine gate_callee (f := 34) rfl ?_); refine goesL_ (some 29) rfl rfl Try.func34 qq rfl #[.agg #[.int .i64 a0_0, .slice A0_1 l0_1.length c0_1], .int .i64 a1, .int .i64 a2, .slice Ao14 t508.length co14] rfl qa ?_; (with_reducible refine (flow_CheckFlow.calls k a0_0 _ _ l0_1 a1 a2 _ _ t508 t513 true _ ?side1 ?side2 ?side3 ?side4 A5.out).mono ?_); (case side1 => exact qC (Kd.C_below HR0_1.out HB.out)); (case side2 => exact HC0_1.out); (case side3 => exact qC (Kd.R_reads' HO510.out).2.2); (case side4 => exact (Kd.R_reads' HO510.out).2.1); rintro e w15 ⟨rfl, hb⟩; refine ⟨_, rfl, ?_⟩; replace HO510 := qR HO510 hb; replace BK507 := qB BK507 hb; replace HB := qS HB hb; (try clear hb); (try clear hb2); (try clear hk); (try clear hi); obtain ⟨hcz16_0, hcz16_1, hfz16_0, hfz16_1⟩ := qc2 BK507.out) | ((with_reducible refine gate_callee (f := 36) rfl ?_); refine goesL_ (some 37) rfl rfl Try.func36 qq rfl #[.agg #[.int .i64 a0_0, .slice A0_1 l0_1.length c0_1], .int .i64 a1, .int .i64 a2, .int .i64 t511] rfl qa ?_; (with_reducible refine (flow_CheckCut.calls k a0_0 _ _ l0_1 a1 a2 t511 t515 true _ ?side1 ?side2 A6.out).mono ?_); (case side1 => exact qC (Kd.C_below HR0_1.out HB.out)); (case side2 => exact HC0_1.out); rintro e w17 ⟨rfl, hb⟩; refine ⟨_, rfl, ?_⟩; replace HO510 := qR HO510 hb; replace BK507 := qB BK507 hb; replace HB := qS HB hb; (try clear hb); (try clear hb2); (try clear hk); (try clear hi)))
    go_ret3
    exact ⟨qe, qb⟩
   ·
    replace c9 := Bool.eq_false_iff.mpr c9
    subst c9
    rw [if_neg (show ¬ (false = true) by decide)] at H
    simp only [Option.some.injEq, Prod.mk.injEq] at H
    obtain ⟨rfl, rfl, rfl⟩ := H
    go_enter Try.func51, Try.ntmps51
    go_wp2_with (first | ((with_reducible refine gate_dst (N := 3) rfl ?_); refine box_event rfl (N := 3) rfl (cs := #[.int .i64 a0_0, .slice A0_1 l0_1.length c0_1]) (t := 26) qh ?_; intro gb507 hg w18 hbox hb; have BK507 := Aside0.mk (hbox); have GW507 := qg HB hg; have GE507 := qg HB hg; replace HB := qS HB hb; clear hb hbox hg; obtain ⟨hcz19_0, hcz19_1, hfz19_0, hfz19_1⟩ := qc2 BK507.out) | ((with_reducible refine gate_callee (f := 29) rfl ?_); refine goesL_ (some 20) rfl rfl Try.func29 qq rfl #[.agg #[.int .i64 a0_0, .slice A0_1 l0_1.length c0_1], .int .i64 a1, .int .i64 a2] rfl qa ?_; (with_reducible refine (flow_Max.calls a0_0 _ _ l0_1 a1 a2 t508 t511 t512 _ ?side1 ?side2 A4.out).mono ?_); (case side1 => exact qC (Kd.C_below HR0_1.out HB.out)); (case side2 => exact HC0_1.out); rintro e w20 ⟨v509, rfl, ho0, hb⟩; refine ⟨_, rfl, ?_⟩; have HO510 := qL HB ho0; replace BK507 := qB BK507 hb; replace HB := qS HB hb; (try clear hb); (try clear hb2); (try clear hk); (try clear hi); (try clear ho0); obtain ⟨hcz21_0, hcz21_1, hfz21_0, hfz21_1⟩ := qc2 BK507.out; obtain ⟨Ao22, co22, eo22⟩ := Kd.R_slice HO510.out; subst eo22) | ((with_reducible refine gate_callee (f := 34) rfl ?_); refine goesL_ (some 29) rfl rfl Try.func34 qq rfl #[.agg #[.int .i64 a0_0, .slice A0_1 l0_1.length c0_1], .int .i64 a1, .int .i64 a2, .slice Ao22 t508.length co22] rfl qa ?_; (with_reducible refine (flow_CheckFlow.calls k a0_0 _ _ l0_1 a1 a2 _ _ t508 t513 true _ ?side1 ?side2 ?side3 ?side4 A5.out).mono ?_); (case side1 => exact qC (Kd.C_below HR0_1.out HB.out)); (case side2 => exact HC0_1.out); (case side3 => exact qC (Kd.R_reads' HO510.out).2.2); (case side4 => exact (Kd.R_reads' HO510.out).2.1); rintro e w23 ⟨rfl, hb⟩; refine ⟨_, rfl, ?_⟩; replace HO510 := qR HO510 hb; replace BK507 := qB BK507 hb; replace HB := qS HB hb; (try clear hb); (try clear hb2); (try clear hk); (try clear hi); obtain ⟨hcz24_0, hcz24_1, hfz24_0, hfz24_1⟩ := qc2 BK507.out) | ((with_reducible refine gate_callee (f := 36) rfl ?_); refine goesL_ (some 37) rfl rfl Try.func36 qq rfl #[.agg #[.int .i64 a0_0, .slice A0_1 l0_1.length c0_1], .int .i64 a1, .int .i64 a2, .int .i64 t511] rfl qa ?_; (with_reducible refine (flow_CheckCut.calls k a0_0 _ _ l0_1 a1 a2 t511 t515 false _ ?side1 ?side2 A6.out).mono ?_); (case side1 => exact qC (Kd.C_below HR0_1.out HB.out)); (case side2 => exact HC0_1.out); rintro e w25 ⟨rfl, hb⟩; refine ⟨_, rfl, ?_⟩; replace HO510 := qR HO510 hb; replace BK507 := qB BK507 hb; replace HB := qS HB hb; (try clear hb); (try clear hb2); (try clear hk); (try clear hi)))
    go_ret3
    exact ⟨qe, qb⟩
  ·
   replace c8 := Bool.eq_false_iff.mpr c8
   subst c8
   rw [if_neg (show ¬ (false = true) by decide)] at H
   simp only [Option.some.injEq, Prod.mk.injEq] at H
   obtain ⟨rfl, rfl, rfl⟩ := H
   go_enter Try.func51, Try.ntmps51
   go_wp2_with (first | ((with_reducible refine gate_dst (N := 3) rfl ?_); refine box_event rfl (N := 3) rfl (cs := #[.int .i64 a0_0, .slice A0_1 l0_1.length c0_1]) (t := 26) qh ?_; intro gb507 hg w26 hbox hb; have BK507 := Aside0.mk (hbox); have GW507 := qg HB hg; have GE507 := qg HB hg; replace HB := qS HB hb; clear hb hbox hg; obtain ⟨hcz27_0, hcz27_1, hfz27_0, hfz27_1⟩ := qc2 BK507.out) | ((with_reducible refine gate_callee (f := 29) rfl ?_); refine goesL_ (some 20) rfl rfl Try.func29 qq rfl #[.agg #[.int .i64 a0_0, .slice A0_1 l0_1.length c0_1], .int .i64 a1, .int .i64 a2] rfl qa ?_; (with_reducible refine (flow_Max.calls a0_0 _ _ l0_1 a1 a2 t508 t511 t512 _ ?side1 ?side2 A4.out).mono ?_); (case side1 => exact qC (Kd.C_below HR0_1.out HB.out)); (case side2 => exact HC0_1.out); rintro e w28 ⟨v509, rfl, ho0, hb⟩; refine ⟨_, rfl, ?_⟩; have HO510 := qL HB ho0; replace BK507 := qB BK507 hb; replace HB := qS HB hb; (try clear hb); (try clear hb2); (try clear hk); (try clear hi); (try clear ho0); obtain ⟨hcz29_0, hcz29_1, hfz29_0, hfz29_1⟩ := qc2 BK507.out; obtain ⟨Ao30, co30, eo30⟩ := Kd.R_slice HO510.out; subst eo30) | ((with_reducible refine gate_callee (f := 34) rfl ?_); refine goesL_ (some 29) rfl rfl Try.func34 qq rfl #[.agg #[.int .i64 a0_0, .slice A0_1 l0_1.length c0_1], .int .i64 a1, .int .i64 a2, .slice Ao30 t508.length co30] rfl qa ?_; (with_reducible refine (flow_CheckFlow.calls k a0_0 _ _ l0_1 a1 a2 _ _ t508 t513 false _ ?side1 ?side2 ?side3 ?side4 A5.out).mono ?_); (case side1 => exact qC (Kd.C_below HR0_1.out HB.out)); (case side2 => exact HC0_1.out); (case side3 => exact qC (Kd.R_reads' HO510.out).2.2); (case side4 => exact (Kd.R_reads' HO510.out).2.1); rintro e w31 ⟨rfl, hb⟩; refine ⟨_, rfl, ?_⟩; replace HO510 := qR HO510 hb; replace BK507 := qB BK507 hb; replace HB := qS HB hb; (try clear hb); (try clear hb2); (try clear hk); (try clear hi); obtain ⟨hcz32_0, hcz32_1, hfz32_0, hfz32_1⟩ := qc2 BK507.out) | ((with_reducible refine gate_callee (f := 36) rfl ?_); refine goesL_ (some 37) rfl rfl Try.func36 qq rfl #[.agg #[.int .i64 a0_0, .slice A0_1 l0_1.length c0_1], .int .i64 a1, .int .i64 a2, .int .i64 t511] rfl qa ?_; (with_reducible refine (flow_CheckCut.calls k a0_0 _ _ l0_1 a1 a2 t511 t515 t516 _ ?side1 ?side2 A6.out).mono ?_); (case side1 => exact qC (Kd.C_below HR0_1.out HB.out)); (case side2 => exact HC0_1.out); rintro e w33 ⟨rfl, hb⟩; refine ⟨_, rfl, ?_⟩; replace HO510 := qR HO510 hb; replace BK507 := qB BK507 hb; replace HB := qS HB hb; (try clear hb); (try clear hb2); (try clear hk); (try clear hi)))
   go_ret3
   exact ⟨qe, qb⟩
 ·
  rw [if_neg c7] at H
  obtain ⟨c7b0, c7b1⟩ := qf c7
  simp only [Option.some.injEq, Prod.mk.injEq] at H
  obtain ⟨rfl, rfl, rfl⟩ := H
  go_enter Try.func51, Try.ntmps51
  go_wp2_with (first | ((with_reducible refine gate_dst (N := 3) rfl ?_); refine box_event rfl (N := 3) rfl (cs := #[.int .i64 a0_0, .slice A0_1 l0_1.length c0_1]) (t := 26) qh ?_; intro gb507 hg w34 hbox hb; have BK507 := Aside0.mk (hbox); have GW507 := qg HB hg; have GE507 := qg HB hg; replace HB := qS HB hb; clear hb hbox hg; obtain ⟨hcz35_0, hcz35_1, hfz35_0, hfz35_1⟩ := qc2 BK507.out) | ((with_reducible refine gate_callee (f := 29) rfl ?_); refine goesL_ (some 20) rfl rfl Try.func29 qq rfl #[.agg #[.int .i64 a0_0, .slice A0_1 l0_1.length c0_1], .int .i64 a1, .int .i64 a2] rfl qa ?_; (with_reducible refine (flow_Max.calls a0_0 _ _ l0_1 a1 a2 t508 t511 t512 _ ?side1 ?side2 A4.out).mono ?_); (case side1 => exact qC (Kd.C_below HR0_1.out HB.out)); (case side2 => exact HC0_1.out); rintro e w36 ⟨v509, rfl, ho0, hb⟩; refine ⟨_, rfl, ?_⟩; have HO510 := qL HB ho0; replace BK507 := qB BK507 hb; replace HB := qS HB hb; (try clear hb); (try clear hb2); (try clear hk); (try clear hi); (try clear ho0); obtain ⟨hcz37_0, hcz37_1, hfz37_0, hfz37_1⟩ := qc2 BK507.out; obtain ⟨Ao38, co38, eo38⟩ := Kd.R_slice HO510.out; subst eo38) | ((with_reducible refine gate_callee (f := 34) rfl ?_); refine goesL_ (some 29) rfl rfl Try.func34 qq rfl #[.agg #[.int .i64 a0_0, .slice A0_1 l0_1.length c0_1], .int .i64 a1, .int .i64 a2, .slice Ao38 t508.length co38] rfl qa ?_; (with_reducible refine (flow_CheckFlow.calls k a0_0 _ _ l0_1 a1 a2 _ _ t508 t513 t514 _ ?side1 ?side2 ?side3 ?side4 A5.out).mono ?_); (case side1 => exact qC (Kd.C_below HR0_1.out HB.out)); (case side2 => exact HC0_1.out); (case side3 => exact qC (Kd.R_reads' HO510.out).2.2); (case side4 => exact (Kd.R_reads' HO510.out).2.1); rintro e w39 ⟨rfl, hb⟩; refine ⟨_, rfl, ?_⟩; replace HO510 := qR HO510 hb; replace BK507 := qB BK507 hb; replace HB := qS HB hb; (try clear hb); (try clear hb2); (try clear hk); (try clear hi); obtain ⟨hcz40_0, hcz40_1, hfz40_0, hfz40_1⟩ := qc2 BK507.out) | ((with_reducible refine gate_callee (f := 36) rfl ?_); refine goesL_ (some 37) rfl rfl Try.func36 qq rfl #[.agg #[.int .i64 a0_0, .slice A0_1 l0_1.length c0_1], .int .i64 a1, .int .i64 a2, .int .i64 t511] rfl qa ?_; (with_reducible refine (flow_CheckCut.calls k a0_0 _ _ l0_1 a1 a2 t511 t515 t516 _ ?side1 ?side2 A6.out).mono ?_); (case side1 => exact qC (Kd.C_below HR0_1.out HB.out)); (case side2 => exact HC0_1.out); rintro e w41 ⟨rfl, hb⟩; refine ⟨_, rfl, ?_⟩; replace HO510 := qR HO510 hb; replace BK507 := qB BK507 hb; replace HB := qS HB hb; (try clear hb); (try clear hb2); (try clear hk); (try clear hi)))
  go_ret3
  exact ⟨qe, qb⟩

end Go.Proofs.Ytkkakdpncogpkaa.D
end
section
namespace Go.Proofs.Ytkkakdpncogpkaa.D
open Go.RowKit Go.Proofs.YtkkakdpncogpkaaW.PrintWords Go.Proofs.YtkkakdpncogpkaaW.PrintLast Go.Proofs.YtkkakdpncogpkaaW.PrintMore
attribute [local go_sem] max2_int min2_int max_two min_two max_three min_three max_four min_four   -- for this text's walks alone
set_option linter.unusedVariables false
set_option linter.unusedSimpArgs false

/-! ### flow_CheckWorst: function 43 -/
def flow_CheckWorst.j0 : Nat → Int → Int → Bool → Int → Int → Int → Int → List (S72) → Option (Bool)
 | 0, _, _, _, _, _, _, _, _ => none
 | k + 1, x1, x2, x36, x142000, x142001, x142002, x148000, x148001 => if x36 = true then (some false) else ((flow_CheckCut.f k x148000 x148001 x1 x2 x142002).bind fun bt150 => (if bt150.2 = true then (some (bt150.1 == x142001)) else (some false)))
def flow_CheckWorst.f (k : Nat) (a0_0 : Int) (l0_1 : List (S72)) (a1 : Int) (a2 : Int) (a3 : Int) (a4_0 : Int) (a4_1 : Int) (a4_2 : Int) : Option (Bool) := (flow_Without.f a0_0 l0_1 a4_0).bind fun bt142 => (if bt142.2.2 = 0 then ((flow_isIn.f a3 0 3).bind fun t148 => (if t148 = true then ((bits_OnesCount.f (IntKind.u64.wrap (a4_0))).bind fun t149 => (flow_CheckWorst.j0 k a1 a2 (decide (t149 > a3)) a4_0 a4_1 a4_2 bt142.1 bt142.2.1)) else (flow_CheckWorst.j0 k a1 a2 true a4_0 a4_1 a4_2 bt142.1 bt142.2.1))) else (flow_CheckWorst.j0 k a1 a2 true a4_0 a4_1 a4_2 bt142.1 bt142.2.1))
theorem flow_CheckWorst.mono_l : ∀ k, (∀ y0 y1 y2 y3 y4 y5 y6 y7, LeO (flow_CheckWorst.j0 k y0 y1 y2 y3 y4 y5 y6 y7) (flow_CheckWorst.j0 (k + 1) y0 y1 y2 y3 y4 y5 y6 y7))
 | 0 => fun _ _ _ _ _ _ _ _ r h => by simp [flow_CheckWorst.j0] at h
 | k + 1 => by
  have ih0 := flow_CheckWorst.mono_l k
  ·
   intro y0 y1 y2 y3 y4 y5 y6 y7
   unfold flow_CheckWorst.j0
   repeat' first
   | (with_reducible exact ih0 _ _ _ _ _ _ _ _)
   | (with_reducible exact flow_CheckCut.mono _ _ _ _ _ _)
   | (with_reducible exact LeO.refl _)
   | (with_reducible exact LeO.none _)
   | (with_reducible refine LeO.ite ?_ ?_)
   | (with_reducible refine LeO.bind ?_ (fun _ => ?_))
   | exact ih0 _ _ _ _ _ _ _ _
   | exact flow_CheckCut.mono _ _ _ _ _ _
   | exact LeO.none _
   | refine LeO.ite ?_ ?_
   | refine LeO.bind ?_ (fun _ => ?_)
theorem flow_CheckWorst.mono : ∀ a0 a1 a2 a3 a4 a5 a6 a7 k, LeO (flow_CheckWorst.f k a0 a1 a2 a3 a4 a5 a6 a7) (flow_CheckWorst.f (k + 1) a0 a1 a2 a3 a4 a5 a6 a7) := by
 intro a0 a1 a2 a3 a4 a5 a6 a7 k
 have ih0 := flow_CheckWorst.mono_l k
 unfold flow_CheckWorst.f
 repeat' first
   | (with_reducible exact ih0 _ _ _ _ _ _ _ _)
   | (with_reducible exact flow_CheckCut.mono _ _ _ _ _ _)
   | (with_reducible exact LeO.refl _)
   | (with_reducible exact LeO.none _)
   | (with_reducible refine LeO.ite ?_ ?_)
   | (with_reducible refine LeO.bind ?_ (fun _ => ?_))
   | exact ih0 _ _ _ _ _ _ _ _
   | exact flow_CheckCut.mono _ _ _ _ _ _
   | exact LeO.none _
   | refine LeO.ite ?_ ?_
   | refine LeO.bind ?_ (fun _ => ?_)
set_option maxHeartbeats 8000000 in
set_option maxRecDepth 100000 in
theorem flow_CheckWorst.calls (k : Nat) (a0_0 : Int) (A0_1 : Option Addr) (c0_1 : Nat) (l0_1 : List (S72)) (a1 : Int) (a2 : Int) (a3 : Int) (a4_0 : Int) (a4_1 : Int) (a4_2 : Int) (r : Bool) (w : World) (hr0_1 : Kd.C k72 w A0_1 l0_1.length l0_1) (hc0_1 : l0_1.length ≤ c0_1) (h : flow_CheckWorst.f k a0_0 l0_1 a1 a2 a3 a4_0 a4_1 a4_2 = some r) :
  Calls Try.prog 43 #[.agg #[.int .i64 a0_0, .slice A0_1 l0_1.length c0_1], .int .i64 a1, .int .i64 a2, .int .i64 a3, .agg #[.int .i64 a4_0, .int .i64 a4_1, .int .i64 a4_2]] w fun e w' => e = .returned (.bool r) ∧ Below w.heap.size w w' := by
 have hu26 := Try.underlying26
 have hu53 := Try.underlying53
 have HR0_1 := Aside0.mk hr0_1
 have HC0_1 := Aside0.mk hc0_1
 clear hr0_1 hc0_1
 have HB := Aside0.mk (Below.refl w.heap.size w)
 have H : ((flow_Without.f a0_0 l0_1 a4_0).bind fun bt142 => (if bt142.2.2 = 0 then ((flow_isIn.f a3 0 3).bind fun t148 => (if t148 = true then ((bits_OnesCount.f (IntKind.u64.wrap (a4_0))).bind fun t149 => (flow_CheckWorst.j0 k a1 a2 (decide (t149 > a3)) a4_0 a4_1 a4_2 bt142.1 bt142.2.1)) else (flow_CheckWorst.j0 k a1 a2 true a4_0 a4_1 a4_2 bt142.1 bt142.2.1))) else (flow_CheckWorst.j0 k a1 a2 true a4_0 a4_1 a4_2 bt142.1 bt142.2.1))) = some r := h
 clear h
 replace H := Option.bind_eq_some_iff.mp H
 obtain ⟨⟨t142, t143, t146⟩, A60, H⟩ := H
 (try dsimp only at H)
 have A6 := Aside0.mk A60
 clear A60
 have HC7 := Aside0.mk H
 clear H
 go_enter Try.func43, Try.ntmps43
 go_upto_region 2 with (first | ((with_reducible refine gate_dst (N := 5) rfl ?_); refine box_event rfl (N := 5) rfl (cs := #[.int .i64 a0_0, .slice A0_1 l0_1.length c0_1]) (t := 26) qh ?_; intro gb140 hg w8 hbox hb; have BK140 := Aside0.mk (hbox); have GW140 := qg HB hg; have GE140 := qg HB hg; replace HB := qS HB hb; clear hb hbox hg) | ((with_reducible refine gate_dst (N := 9) rfl ?_); refine box_event rfl (N := 9) rfl (cs := #[.int .i64 a4_0, .int .i64 a4_1, .int .i64 a4_2]) (t := 53) qh ?_; intro gb141 hg w9 hbox hb; have BK141 := Aside0.mk (hbox); have GW141 := qg HB hg; have GE141 := qg HB hg; replace HB := qS HB hb; have NB140_141 := qn BK140 hg; have NB141_140 := qm BK140 hg; replace BK140 := qB BK140 hb; clear hb hbox hg; have hnb10 := NB140_141.out; have hnc10 := NB141_140.out; obtain ⟨hcz11_0, hcz11_1, hfz11_0, hfz11_1⟩ := qc2 BK140.out; obtain ⟨hcz12_0, hcz12_1, hcz12_2, hfz12_0, hfz12_1, hfz12_2⟩ := qc3 BK141.out) | ((with_reducible refine gate_callee (f := 38) rfl ?_); refine goesL_ (some 19) rfl rfl Try.func38 qq rfl #[.agg #[.int .i64 a0_0, .slice A0_1 l0_1.length c0_1], .int .i64 a4_0] rfl qa ?_; (with_reducible refine (flow_Without.calls a0_0 _ _ l0_1 a4_0 t142 t143 t146 _ ?side1 ?side2 A6.out).mono ?_); (case side1 => exact qC (Kd.C_below HR0_1.out HB.out)); (case side2 => exact HC0_1.out); rintro e w13 ⟨v144, rfl, ho0, hb⟩; refine ⟨_, rfl, ?_⟩; have HO145 := qL HB ho0; replace BK140 := qB BK140 hb; replace BK141 := qB BK141 hb; replace HB := qS HB hb; (try clear hb); (try clear hb2); (try clear hk); (try clear hi); (try clear ho0)) | ((with_reducible refine gate_dst (N := 11) rfl ?_); refine box_event rfl (N := 11) rfl (cs := #[.int .i64 0, .slice none 0 0]) (t := 26) qh ?_; intro gb147 hg w14 hbox hb; replace HO145 := qR HO145 hb; have BK147 := Aside0.mk (hbox); have GW147 := qg HB hg; have GE147 := qg HB hg; replace HB := qS HB hb; have NB140_147 := qn BK140 hg; have NB147_140 := qm BK140 hg; replace BK140 := qB BK140 hb; have NB141_147 := qn BK141 hg; have NB147_141 := qm BK141 hg; replace BK141 := qB BK141 hb; clear hb hbox hg; have hnb15 := NB147_140.out; have hnc15 := NB140_147.out; have hnb16 := NB147_141.out; have hnc16 := NB141_147.out; obtain ⟨hcz17_0, hcz17_1, hfz17_0, hfz17_1⟩ := qc2 BK147.out; obtain ⟨Ao18, co18, eo18⟩ := Kd.R_slice HO145.out; subst eo18))
 (try simp only [Act.put, List.setIfInBounds_toArray, List.set_cons_zero, List.set_cons_succ])
 go_cut [36] (fun v36 wc => ∃ (kq : Nat) (x36_6 : Bool), v36 = .bool x36_6 ∧ Aside0 (flow_CheckWorst.j0 kq a1 a2 x36_6 a4_0 a4_1 a4_2 t142 t143 = some r) ∧ Aside0 (kq ≤ k) ∧ Aside0 (Kd.R k72 72 wc w.heap.size (fun _ => True) (.slice Ao18 t143.length co18) t143) ∧ Aside0 (wc.heap[gb140]? = some (.cells #[.int .i64 a0_0, (.slice A0_1 l0_1.length c0_1)] 26 (0, 0))) ∧ Aside0 (wc.heap[gb141]? = some (.cells #[.int .i64 a4_0, .int .i64 a4_1, .int .i64 a4_2] 53 (0, 0))) ∧ Aside0 (wc.heap[gb147]? = some (.cells #[.int .i64 t142, (.slice Ao18 t143.length co18)] 26 (0, 0))) ∧ Aside0 (Below w.heap.size w wc))
 case first =>
  have H := HC7.out
  clear HC7
  by_cases c19 : t146 = 0
  ·
   rw [if_pos c19] at H
   obtain ⟨c19b0, c19b1⟩ := qt c19
   clear c19
   (first | rw [c19b0] | (simp only [i64_w, i32_w]; rw [c19b0]) | skip)
   replace H := Option.bind_eq_some_iff.mp H
   obtain ⟨t148, A200, H⟩ := H
   (try dsimp only at H)
   have A20 := Aside0.mk A200
   clear A200
   by_cases c21 : t148 = true
   ·
    subst c21
    rw [if_pos rfl] at H
    replace H := Option.bind_eq_some_iff.mp H
    obtain ⟨t149, A220, H⟩ := H
    (try dsimp only at H)
    have A22 := Aside0.mk A220
    clear A220
    have H' := Aside0.mk H
    clear H
    go_wp2_with (first | (go_at_call 69; (with_reducible refine (flow_isIn.calls a3 0 3 true _ A20.out).mono ?_); rintro e w' ⟨rfl, ⟨nd, rfl⟩⟩; have hnb23 := NB141_140.out; have hnc23 := NB140_141.out; have hnb24 := NB141_147.out; have hnc24 := NB147_141.out; obtain ⟨hcz25_0, hcz25_1, hcz25_2, hfz25_0, hfz25_1, hfz25_2⟩ := qc3 BK141.out) | (go_at_call 89; (with_reducible refine (bits_OnesCount.calls (IntKind.u64.wrap (a4_0)) t149 _ A22.out).mono ?_); rintro e w' ⟨rfl, ⟨nd, rfl⟩⟩))
    go_meet
    case rel => exact ⟨_, (decide (t149 > a3)), (by first | rfl | (simp; done) | (simp [*]; done)), H', ⟨by first | omega | exact Nat.le_refl _⟩, ⟨by (with_reducible repeat (first | apply Kd.R_alloc | apply Kd.R_drewN | apply Kd.R_drew)); exact Kd.R_mono (Kd.R_far (p := ⟨gb147, 1, none⟩) (Kd.R_far (p := ⟨gb147, 0, none⟩) (Kd.R_types HO145.out BK147.out (by decide)) (fun _ hk => hk.2) (.int .i64 t142)) (fun _ hk => hk.2) (.slice Ao18 t143.length co18)) (fun _ hk => trivial)⟩, ⟨by (with_reducible repeat (first | refine blk_drewN ?_ _ | refine blk_drew ?_ | refine blk_alloc ?_ _)); refine blk_far ?_ NB140_147.out _; (with_reducible repeat (first | refine blk_drewN ?_ _ | refine blk_drew ?_ | refine blk_alloc ?_ _)); refine blk_far ?_ NB140_147.out _; (with_reducible repeat (first | refine blk_drewN ?_ _ | refine blk_drew ?_ | refine blk_alloc ?_ _)); exact BK140.out⟩, ⟨by (with_reducible repeat (first | refine blk_drewN ?_ _ | refine blk_drew ?_ | refine blk_alloc ?_ _)); refine blk_far ?_ NB141_147.out _; (with_reducible repeat (first | refine blk_drewN ?_ _ | refine blk_drew ?_ | refine blk_alloc ?_ _)); refine blk_far ?_ NB141_147.out _; (with_reducible repeat (first | refine blk_drewN ?_ _ | refine blk_drew ?_ | refine blk_alloc ?_ _)); exact BK141.out⟩, ⟨by (with_reducible repeat (first | refine blk_drewN ?_ _ | refine blk_drew ?_ | refine blk_alloc ?_ _)); refine blk_put (cs := #[.int .i64 t142, .slice none 0 0]) ?_ 1 _ rfl; (with_reducible repeat (first | refine blk_drewN ?_ _ | refine blk_drew ?_ | refine blk_alloc ?_ _)); refine blk_put (cs := #[.int .i64 0, .slice none 0 0]) ?_ 0 _ rfl; (with_reducible repeat (first | refine blk_drewN ?_ _ | refine blk_drew ?_ | refine blk_alloc ?_ _)); exact BK147.out⟩, ⟨qb⟩⟩
   ·
    replace c21 := Bool.eq_false_iff.mpr c21
    subst c21
    rw [if_neg (show ¬ (false = true) by decide)] at H
    have H' := Aside0.mk H
    clear H
    go_wp2_with (first | (go_at_call 69; (with_reducible refine (flow_isIn.calls a3 0 3 false _ A20.out).mono ?_); rintro e w' ⟨rfl, ⟨nd, rfl⟩⟩))
    go_meet
    case rel => exact ⟨_, (true), (by first | rfl | (simp; done) | (simp [*]; done)), H', ⟨by first | omega | exact Nat.le_refl _⟩, ⟨by (with_reducible repeat (first | apply Kd.R_alloc | apply Kd.R_drewN | apply Kd.R_drew)); exact Kd.R_mono (Kd.R_far (p := ⟨gb147, 1, none⟩) (Kd.R_far (p := ⟨gb147, 0, none⟩) (Kd.R_types HO145.out BK147.out (by decide)) (fun _ hk => hk.2) (.int .i64 t142)) (fun _ hk => hk.2) (.slice Ao18 t143.length co18)) (fun _ hk => trivial)⟩, ⟨by (with_reducible repeat (first | refine blk_drewN ?_ _ | refine blk_drew ?_ | refine blk_alloc ?_ _)); refine blk_far ?_ NB140_147.out _; (with_reducible repeat (first | refine blk_drewN ?_ _ | refine blk_drew ?_ | refine blk_alloc ?_ _)); refine blk_far ?_ NB140_147.out _; (with_reducible repeat (first | refine blk_drewN ?_ _ | refine blk_drew ?_ | refine blk_alloc ?_ _)); exact BK140.out⟩, ⟨by (with_reducible repeat (first | refine blk_drewN ?_ _ | refine blk_drew ?_ | refine blk_alloc ?_ _)); refine blk_far ?_ NB141_147.out _; (with_reducible repeat (first | refine blk_drewN ?_ _ | refine blk_drew ?_ | refine blk_alloc ?_ _)); refine blk_far ?_ NB141_147.out _; (with_reducible repeat (first | refine blk_drewN ?_ _ | refine blk_drew ?_ | refine blk_alloc ?_ _)); exact BK141.out⟩, ⟨by (with_reducible repeat (first | refine blk_drewN ?_ _ | refine blk_drew ?_ | refine blk_alloc ?_ _)); refine blk_put (cs := #[.int .i64 t142, .slice none 0 0]) ?_ 1 _ rfl; (with_reducible repeat (first | refine blk_drewN ?_ _ | refine blk_drew ?_ | refine blk_alloc ?_ _)); refine blk_put (cs := #[.int .i64 0, .slice none 0 0]) ?_ 0 _ rfl; (with_reducible repeat (first | refine blk_drewN ?_ _ | refine blk_drew ?_ | refine blk_alloc ?_ _)); exact BK147.out⟩, ⟨qb⟩⟩
  ·
   rw [if_neg c19] at H
   obtain ⟨c19b0, c19b1⟩ := qf c19
   (first | rw [c19b0] | (simp only [i64_w, i32_w]; rw [c19b0]) | skip)
   have H' := Aside0.mk H
   clear H
   go_wp2
   go_meet
   case rel => exact ⟨_, (true), (by first | rfl | (simp; done) | (simp [*]; done)), H', ⟨by first | omega | exact Nat.le_refl _⟩, ⟨by (with_reducible repeat (first | apply Kd.R_alloc | apply Kd.R_drewN | apply Kd.R_drew)); exact Kd.R_mono (Kd.R_far (p := ⟨gb147, 1, none⟩) (Kd.R_far (p := ⟨gb147, 0, none⟩) (Kd.R_types HO145.out BK147.out (by decide)) (fun _ hk => hk.2) (.int .i64 t142)) (fun _ hk => hk.2) (.slice Ao18 t143.length co18)) (fun _ hk => trivial)⟩, ⟨by (with_reducible repeat (first | refine blk_drewN ?_ _ | refine blk_drew ?_ | refine blk_alloc ?_ _)); refine blk_far ?_ NB140_147.out _; (with_reducible repeat (first | refine blk_drewN ?_ _ | refine blk_drew ?_ | refine blk_alloc ?_ _)); refine blk_far ?_ NB140_147.out _; (with_reducible repeat (first | refine blk_drewN ?_ _ | refine blk_drew ?_ | refine blk_alloc ?_ _)); exact BK140.out⟩, ⟨by (with_reducible repeat (first | refine blk_drewN ?_ _ | refine blk_drew ?_ | refine blk_alloc ?_ _)); refine blk_far ?_ NB141_147.out _; (with_reducible repeat (first | refine blk_drewN ?_ _ | refine blk_drew ?_ | refine blk_alloc ?_ _)); refine blk_far ?_ NB141_147.out _; (with_reducible repeat (first | refine blk_drewN ?_ _ | refine blk_drew ?_ | refine blk_alloc ?_ _)); exact BK141.out⟩, ⟨by (with_reducible repeat (first | refine blk_drewN ?_ _ | refine blk_drew ?_ | refine blk_alloc ?_ _)); refine blk_put (cs := #[.int .i64 t142, .slice none 0 0]) ?_ 1 _ rfl; (with_reducible repeat (first | refine blk_drewN ?_ _ | refine blk_drew ?_ | refine blk_alloc ?_ _)); refine blk_put (cs := #[.int .i64 0, .slice none 0 0]) ?_ 0 _ rfl; (with_reducible repeat (first | refine blk_drewN ?_ _ | refine blk_drew ?_ | refine blk_alloc ?_ _)); exact BK147.out⟩, ⟨qb⟩⟩
 case rest =>
  clear HC7
  try clear c1
  try clear c2
  try clear p2
  try clear c3
  try clear c4
  try clear c10
  try clear c15
  try clear c16
  try clear c19
  try clear c19b0
  try clear c19b1
  try clear c21
  try clear c23
  try clear c24
  try clear hcz11_0
  try clear hcz11_1
  try clear hcz12_0
  try clear hcz12_1
  try clear hcz12_2
  try clear hcz17_0
  try clear hcz17_1
  try clear hcz25_0
  try clear hcz25_1
  try clear hcz25_2
  try clear hfz11_0
  try clear hfz11_1
  try clear hfz12_0
  try clear hfz12_1
  try clear hfz12_2
  try clear hfz17_0
  try clear hfz17_1
  try clear hfz25_0
  try clear hfz25_1
  try clear hfz25_2
  obtain ⟨kq, x36_6, rfl, HA, HJ6, HO_148001, BK140, BK141, BK147, HB⟩ := hcut
  cases kq with
  | zero => exact absurd HA.out (by simp [flow_CheckWorst.j0])
  | succ kj6 =>
   have H := HA.out
   clear HA
   simp only [flow_CheckWorst.j0] at H
   by_cases c26 : x36_6 = true
   ·
    subst c26
    rw [if_pos rfl] at H
    obtain rfl := Option.some.inj H
    go_wp2
    go_ret
    exact ⟨qe, qb⟩
   ·
    replace c26 := Bool.eq_false_iff.mpr c26
    subst c26
    rw [if_neg (show ¬ (false = true) by decide)] at H
    replace H := Option.bind_eq_some_iff.mp H
    obtain ⟨⟨t150, t151⟩, A270, H⟩ := H
    (try dsimp only at H)
    have A27 := Aside0.mk A270
    clear A270
    by_cases c28 : t151 = true
    ·
     subst c28
     rw [if_pos rfl] at H
     obtain rfl := Option.some.inj H
     have hnb29 := NB147_140.out
     have hnc29 := NB140_147.out
     have hnb30 := NB147_141.out
     have hnc30 := NB141_147.out
     obtain ⟨hcz31_0, hcz31_1, hfz31_0, hfz31_1⟩ := qc2 BK147.out
     have hnb32 := NB141_140.out
     have hnc32 := NB140_141.out
     obtain ⟨hcz33_0, hcz33_1, hcz33_2, hfz33_0, hfz33_1, hfz33_2⟩ := qc3 BK141.out
     go_wp2_with (first | ((with_reducible refine gate_callee (f := 36) rfl ?_); refine goesL_ (some 43) rfl rfl Try.func36 qq rfl #[.agg #[.int .i64 t142, .slice Ao18 t143.length co18], .int .i64 a1, .int .i64 a2, .int .i64 a4_2] rfl qa ?_; (with_reducible refine (flow_CheckCut.calls kj6 t142 _ _ t143 a1 a2 a4_2 t150 true _ ?side1 ?side2 A27.out).mono ?_); (case side1 => exact qC (Kd.R_reads' HO_148001.out).2.2); (case side2 => exact (Kd.R_reads' HO_148001.out).2.1); rintro e w34 ⟨rfl, hb⟩; refine ⟨_, rfl, ?_⟩; replace HO_148001 := qR HO_148001 hb; replace BK140 := qB BK140 hb; replace BK141 := qB BK141 hb; replace BK147 := qB BK147 hb; replace HB := qS HB hb; (try clear hb); (try clear hb2); (try clear hk); (try clear hi); obtain ⟨hcz35_0, hcz35_1, hcz35_2, hfz35_0, hfz35_1, hfz35_2⟩ := qc3 BK141.out))
     go_ret
     exact ⟨qe, qb⟩
    ·
     replace c28 := Bool.eq_false_iff.mpr c28
     subst c28
     rw [if_neg (show ¬ (false = true) by decide)] at H
     obtain rfl := Option.some.inj H
     have hnb36 := NB147_140.out
     have hnc36 := NB140_147.out
     have hnb37 := NB147_141.out
     have hnc37 := NB141_147.out
     obtain ⟨hcz38_0, hcz38_1, hfz38_0, hfz38_1⟩ := qc2 BK147.out
     have hnb39 := NB141_140.out
     have hnc39 := NB140_141.out
     obtain ⟨hcz40_0, hcz40_1, hcz40_2, hfz40_0, hfz40_1, hfz40_2⟩ := qc3 BK141.out
     go_wp2_with (first | ((with_reducible refine gate_callee (f := 36) rfl ?_); refine goesL_ (some 43) rfl rfl Try.func36 qq rfl #[.agg #[.int .i64 t142, .slice Ao18 t143.length co18], .int .i64 a1, .int .i64 a2, .int .i64 a4_2] rfl qa ?_; (with_reducible refine (flow_CheckCut.calls kj6 t142 _ _ t143 a1 a2 a4_2 t150 false _ ?side1 ?side2 A27.out).mono ?_); (case side1 => exact qC (Kd.R_reads' HO_148001.out).2.2); (case side2 => exact (Kd.R_reads' HO_148001.out).2.1); rintro e w41 ⟨rfl, hb⟩; refine ⟨_, rfl, ?_⟩; replace HO_148001 := qR HO_148001 hb; replace BK140 := qB BK140 hb; replace BK141 := qB BK141 hb; replace BK147 := qB BK147 hb; replace HB := qS HB hb; (try clear hb); (try clear hb2); (try clear hk); (try clear hi)))
     go_ret
     exact ⟨qe, qb⟩

end Go.Proofs.Ytkkakdpncogpkaa.D
end
