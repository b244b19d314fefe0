/- Parts of the proof of a law about flows (see the law's own text): Fdialtonelaw27FlowThrough. Conditions: each theorem's own. -/
import Derived.Test.YtkkakdpncogpkaaBase4
import Derived.Test.YtkkakdpncogpkaaBase25
import Derived.Test.YtkkakdpncogpkaaBase26
section
namespace Go.Proofs.Ytkkakdpncogpkaa.D
open Go.RowKit Go.Proofs.YtkkakdpncogpkaaW.PrintWords Go.Proofs.YtkkakdpncogpkaaW.PrintLast Go.Proofs.YtkkakdpncogpkaaW.PrintMore
attribute [local go_sem] max2_int min2_int max_two min_two max_three min_three max_four min_four   -- for this text's walks alone
set_option linter.unusedVariables false
set_option linter.unusedSimpArgs false

/-! ### dialtonelaw27_FlowThrough: function 15 -/
def dialtonelaw27_FlowThrough.j0 : Nat → Int → Int → Int → Int → Bool → Bool → Int → List (S72) → Option (Bool)
 | 0, _, _, _, _, _, _, _, _ => none
 | k + 1, x12, x13, x14, x15, x17, x55, x1117000, x1117001 => if x55 = true then (some x17) else ((dialtonelaw27_greatest.f k x1117000 x1117001 x12 x14).bind fun bt1123 => (if bt1123.2.2 = true then ((dialtonelaw27_greatest.f k x1117000 x1117001 x14 x13).bind fun bt1126 => (if bt1126.2.2 = true then (if x17 = true then (some (decide (x15 ≥ (mn bt1123.1 bt1126.1)))) else (some false)) else (none))) else (none)))
def dialtonelaw27_FlowThrough.f (k : Nat) (a0 : Int) (l1 : List (S23)) (a2 : Int) (a3 : Int) (a4 : Int) : Option (Bool) := (dialtonelaw27_sane.f k).bind fun t1111 => (if t1111 = true then ((dialtoneref27_Made.f k a0 l1).bind fun bt1112 => ((dialtonelaw27_ends.f bt1112.1 bt1112.2 a2 a3).bind fun bt1117 => ((dialtonelaw27_pick.f a4 bt1112.1).bind fun t1119 => ((dialtonelaw27_greatest.f k bt1112.1 bt1112.2 bt1117.1 bt1117.2).bind fun bt1120 => (if bt1120.2.2 = true then (if t1119 = bt1117.1 then (dialtonelaw27_FlowThrough.j0 k bt1117.1 bt1117.2 t1119 bt1120.1 bt1120.2.2 true bt1112.1 bt1112.2) else (dialtonelaw27_FlowThrough.j0 k bt1117.1 bt1117.2 t1119 bt1120.1 bt1120.2.2 (t1119 == bt1117.2) bt1112.1 bt1112.2)) else (none)))))) else (none))
set_option maxHeartbeats 8000000 in
set_option maxRecDepth 100000 in
theorem dialtonelaw27_FlowThrough.calls (k : Nat) (a0 : Int) (A1 : Option Addr) (c1 : Nat) (l1 : List (S23)) (a2 : Int) (a3 : Int) (a4 : Int) (r : Bool) (w : World) (hr1 : Kd.C k23 w A1 l1.length l1) (hc1 : l1.length ≤ c1) (h : dialtonelaw27_FlowThrough.f k a0 l1 a2 a3 a4 = some r) :
  Calls Try.prog 15 #[.int .i64 a0, .slice A1 l1.length c1, .int .i64 a2, .int .i64 a3, .int .i64 a4] w fun e w' => e = .returned (.bool r) ∧ Below w.heap.size w w' := by
 have hu26 := Try.underlying26
 have HR1 := Aside0.mk hr1
 have HC1 := Aside0.mk hc1
 clear hr1 hc1
 have HB := Aside0.mk (Below.refl w.heap.size w)
 have H : ((dialtonelaw27_sane.f k).bind fun t1111 => (if t1111 = true then ((dialtoneref27_Made.f k a0 l1).bind fun bt1112 => ((dialtonelaw27_ends.f bt1112.1 bt1112.2 a2 a3).bind fun bt1117 => ((dialtonelaw27_pick.f a4 bt1112.1).bind fun t1119 => ((dialtonelaw27_greatest.f k bt1112.1 bt1112.2 bt1117.1 bt1117.2).bind fun bt1120 => (if bt1120.2.2 = true then (if t1119 = bt1117.1 then (dialtonelaw27_FlowThrough.j0 k bt1117.1 bt1117.2 t1119 bt1120.1 bt1120.2.2 true bt1112.1 bt1112.2) else (dialtonelaw27_FlowThrough.j0 k bt1117.1 bt1117.2 t1119 bt1120.1 bt1120.2.2 (t1119 == bt1117.2) bt1112.1 bt1112.2)) else (none)))))) else (none))) = some r := h
 clear h
 replace H := Option.bind_eq_some_iff.mp H
 obtain ⟨t1111, A60, H⟩ := H
 replace H : (if t1111 = true then ((dialtoneref27_Made.f k a0 l1).bind fun bt1112 => ((dialtonelaw27_ends.f bt1112.1 bt1112.2 a2 a3).bind fun bt1117 => ((dialtonelaw27_pick.f a4 bt1112.1).bind fun t1119 => ((dialtonelaw27_greatest.f k bt1112.1 bt1112.2 bt1117.1 bt1117.2).bind fun bt1120 => (if bt1120.2.2 = true then (if t1119 = bt1117.1 then (dialtonelaw27_FlowThrough.j0 k bt1117.1 bt1117.2 t1119 bt1120.1 bt1120.2.2 true bt1112.1 bt1112.2) else (dialtonelaw27_FlowThrough.j0 k bt1117.1 bt1117.2 t1119 bt1120.1 bt1120.2.2 (t1119 == bt1117.2) bt1112.1 bt1112.2)) else (none)))))) else (none)) = some r := H
 have A6 := Aside0.mk A60
 clear A60
 by_cases c7 : t1111 = true
 ·
  subst c7
  have H1 : ((dialtoneref27_Made.f k a0 l1).bind fun bt1112 => ((dialtonelaw27_ends.f bt1112.1 bt1112.2 a2 a3).bind fun bt1117 => ((dialtonelaw27_pick.f a4 bt1112.1).bind fun t1119 => ((dialtonelaw27_greatest.f k bt1112.1 bt1112.2 bt1117.1 bt1117.2).bind fun bt1120 => (if bt1120.2.2 = true then (if t1119 = bt1117.1 then (dialtonelaw27_FlowThrough.j0 k bt1117.1 bt1117.2 t1119 bt1120.1 bt1120.2.2 true bt1112.1 bt1112.2) else (dialtonelaw27_FlowThrough.j0 k bt1117.1 bt1117.2 t1119 bt1120.1 bt1120.2.2 (t1119 == bt1117.2) bt1112.1 bt1112.2)) else (none)))))) = some r := by rw [if_pos rfl] at H; exact H
  clear H
  have H := H1
  clear H1
  replace H := Option.bind_eq_some_iff.mp H
  obtain ⟨⟨t1112, t1113⟩, A80, H⟩ := H
  replace H : ((dialtonelaw27_ends.f t1112 t1113 a2 a3).bind fun bt1117 => ((dialtonelaw27_pick.f a4 t1112).bind fun t1119 => ((dialtonelaw27_greatest.f k t1112 t1113 bt1117.1 bt1117.2).bind fun bt1120 => (if bt1120.2.2 = true then (if t1119 = bt1117.1 then (dialtonelaw27_FlowThrough.j0 k bt1117.1 bt1117.2 t1119 bt1120.1 bt1120.2.2 true t1112 t1113) else (dialtonelaw27_FlowThrough.j0 k bt1117.1 bt1117.2 t1119 bt1120.1 bt1120.2.2 (t1119 == bt1117.2) t1112 t1113)) else (none))))) = some r := H
  have A8 := Aside0.mk A80
  clear A80
  replace H := Option.bind_eq_some_iff.mp H
  obtain ⟨⟨t1117, t1118⟩, A90, H⟩ := H
  replace H : ((dialtonelaw27_pick.f a4 t1112).bind fun t1119 => ((dialtonelaw27_greatest.f k t1112 t1113 t1117 t1118).bind fun bt1120 => (if bt1120.2.2 = true then (if t1119 = t1117 then (dialtonelaw27_FlowThrough.j0 k t1117 t1118 t1119 bt1120.1 bt1120.2.2 true t1112 t1113) else (dialtonelaw27_FlowThrough.j0 k t1117 t1118 t1119 bt1120.1 bt1120.2.2 (t1119 == t1118) t1112 t1113)) else (none)))) = some r := H
  have A9 := Aside0.mk A90
  clear A90
  replace H := Option.bind_eq_some_iff.mp H
  obtain ⟨t1119, A100, H⟩ := H
  replace H : ((dialtonelaw27_greatest.f k t1112 t1113 t1117 t1118).bind fun bt1120 => (if bt1120.2.2 = true then (if t1119 = t1117 then (dialtonelaw27_FlowThrough.j0 k t1117 t1118 t1119 bt1120.1 bt1120.2.2 true t1112 t1113) else (dialtonelaw27_FlowThrough.j0 k t1117 t1118 t1119 bt1120.1 bt1120.2.2 (t1119 == t1118) t1112 t1113)) else (none))) = some r := H
  have A10 := Aside0.mk A100
  clear A100
  replace H := Option.bind_eq_some_iff.mp H
  obtain ⟨⟨t1120, t1121, t1122⟩, A110, H⟩ := H
  replace H : (if t1122 = true then (if t1119 = t1117 then (dialtonelaw27_FlowThrough.j0 k t1117 t1118 t1119 t1120 t1122 true t1112 t1113) else (dialtonelaw27_FlowThrough.j0 k t1117 t1118 t1119 t1120 t1122 (t1119 == t1118) t1112 t1113)) else (none)) = some r := H
  have A11 := Aside0.mk A110
  clear A110
  by_cases c12 : t1122 = true
  ·
   subst c12
   have H1 : (if t1119 = t1117 then (dialtonelaw27_FlowThrough.j0 k t1117 t1118 t1119 t1120 true true t1112 t1113) else (dialtonelaw27_FlowThrough.j0 k t1117 t1118 t1119 t1120 true (t1119 == t1118) t1112 t1113)) = some r := by rw [if_pos rfl] at H; exact H
   clear H
   have H := H1
   clear H1
   have HC13 := Aside0.mk H
   clear H
   go_enter Try.func15, Try.ntmps15
   go_upto_region 7 with (first | ((with_reducible refine gate_callee (f := 22) rfl ?_); refine goesL_ (some 24) rfl rfl Try.func22 (by kernel_rfl) rfl #[] rfl (by (try simp only [List.map_toArray, List.map_cons, List.map_nil]); first | done | rfl | (simp only [List.length_drop, List.length_take]; rfl)) ?_; (with_reducible refine (dialtonelaw27_sane.calls k  true _ A6.out).mono ?_); rintro e w14 ⟨rfl, hb⟩; refine ⟨_, rfl, ?_⟩; have n0_ := Aside0.mk (below_step (by repeat (first | (with_reducible first | exact HB.out | apply below_alloc | apply pw_below_drewN | apply below_drew1) | exact HB.out)) hb); clear HB; have HB := n0_; clear n0_; (try clear hb); (try clear hb2); (try clear hk); (try clear hi)) | ((with_reducible refine gate_callee (f := 23) rfl ?_); refine goesL_ (some 28) rfl rfl Try.func23 (by kernel_rfl) rfl #[.int .i64 a0, .slice A1 l1.length c1] rfl (by (try simp only [List.map_toArray, List.map_cons, List.map_nil]); first | done | rfl | (simp only [List.length_drop, List.length_take]; rfl)) ?_; (with_reducible refine (dialtoneref27_Made.calls k a0 _ _ l1 t1112 t1113 _ ?side1 ?side2 A8.out).mono ?_); (case side1 => repeat (first | exact (Kd.C_below HR1.out HB.out) | (with_reducible refine Kd.C_alloc ?_ _) | (with_reducible refine Kd.C_drewN ?_ _) | (with_reducible refine Kd.C_drew ?_))); (case side2 => exact HC1.out); rintro e w15 ⟨v1114, rfl, ho0, hb⟩; refine ⟨_, rfl, ?_⟩; have n0_ := Aside0.mk (Kd.R_lower ho0 (below_size (by repeat (first | (with_reducible first | exact HB.out | apply below_alloc | apply pw_below_drewN | apply below_drew1) | exact HB.out)))); have n1_ := Aside0.mk (below_step (by repeat (first | (with_reducible first | exact HB.out | apply below_alloc | apply pw_below_drewN | apply below_drew1) | exact HB.out)) hb); clear HB; have HO1115 := n0_; have HB := n1_; clear n0_ n1_; (try clear hb); (try clear hb2); (try clear hk); (try clear hi); (try clear ho0)) | ((with_reducible refine gate_dst (N := 11) rfl ?_); (try (refine gate_guard (by rfl) ?_; dsimp only)); refine box_event ?hg (N := 11) ?hd (cs := #[.int .i64 0, .slice none 0 0]) (t := 26) ?hr ?_; (case hd => rfl); (case hg => rfl); (case hr => first | (go_simp; done) | (go_simp; rfl)); intro gb1116 hg w16 hbox hb; have n0_ := Aside0.mk (Kd.R_below (by (with_reducible repeat (first | apply Kd.R_alloc | apply Kd.R_drewN | apply Kd.R_drew)); exact HO1115.out) hb); have n1_ := Aside0.mk (below_step (by repeat (first | (with_reducible first | exact HB.out | apply below_alloc | apply pw_below_drewN | apply below_drew1) | exact HB.out)) hb); have n2_ := Aside0.mk (hbox); have n3_ := Aside0.mk ((by rw [hg]; exact (below_size (by repeat (first | (with_reducible first | exact HB.out | apply below_alloc | apply pw_below_drewN | apply below_drew1) | exact HB.out))) : w.heap.size ≤ gb1116)); have n4_ := Aside0.mk ((by rw [hg]; exact (below_size (by repeat (first | (with_reducible first | exact HB.out | apply below_alloc | apply pw_below_drewN | apply below_drew1) | exact HB.out))) : w.heap.size ≤ gb1116)); clear HO1115; clear HB; have HO1115 := n0_; have HB := n1_; have BK1116 := n2_; have GW1116 := n3_; have GE1116 := n4_; clear n0_ n1_ n2_ n3_ n4_; clear hb hbox hg; have hcz17_0 : w16.cell? ⟨gb1116, 0, none⟩ = some (.int .i64 0) := (blk_cell BK1116.out 0).trans rfl; have hcz17_1 : w16.cell? ⟨gb1116, 1, none⟩ = some (.slice none 0 0) := (blk_cell BK1116.out 1).trans rfl; have hfz17_0 := blk_frozen BK1116.out 0; have hfz17_1 := blk_frozen BK1116.out 1; obtain ⟨Ao18, co18, eo18⟩ := Kd.R_slice HO1115.out; subst eo18) | ((with_reducible refine gate_callee (f := 24) rfl ?_); refine goesL_ (some 33) rfl rfl Try.func24 (by kernel_rfl) rfl #[.agg #[.int .i64 t1112, .slice Ao18 t1113.length co18], .int .i64 a2, .int .i64 a3] rfl (by (try simp only [List.map_toArray, List.map_cons, List.map_nil]); first | done | rfl | (simp only [List.length_drop, List.length_take]; rfl)) ?_; (with_reducible refine (dialtonelaw27_ends.calls t1112 _ _ t1113 a2 a3 t1117 t1118 _ ?side1 ?side2 A9.out).mono ?_); (case side1 => refine (Kd.R_reads' (e := 72) (base := w.heap.size) (ok := fun k_ => True) (n := t1113.length) (c := co18) ?_).2.2; exact (by (with_reducible repeat (first | apply Kd.R_alloc | apply Kd.R_drewN | apply Kd.R_drew)); exact (Kd.R_mono (Kd.R_far (p := ⟨gb1116, 1, none⟩) (Kd.R_far (p := ⟨gb1116, 0, none⟩) (Kd.R_types HO1115.out BK1116.out (by decide)) (fun _ hk => hk.2) (.int .i64 t1112)) (fun _ hk => hk.2) (.slice Ao18 t1113.length co18)) (fun _ h_ => h_.1)))); (case side2 => exact (Kd.R_reads' HO1115.out).2.1); rintro e w19 ⟨rfl, hb⟩; refine ⟨_, rfl, ?_⟩; have n0_ := Aside0.mk (Kd.R_below (by (with_reducible repeat (first | apply Kd.R_alloc | apply Kd.R_drewN | apply Kd.R_drew)); exact (Kd.R_mono (Kd.R_far (p := ⟨gb1116, 1, none⟩) (Kd.R_far (p := ⟨gb1116, 0, none⟩) (Kd.R_types HO1115.out BK1116.out (by decide)) (fun _ hk => hk.2) (.int .i64 t1112)) (fun _ hk => hk.2) (.slice Ao18 t1113.length co18)) (fun _ h_ => h_.1))) hb); have n1_ := Aside0.mk (blk_below (g := gb1116) (o := .cells #[.int .i64 t1112, .slice Ao18 t1113.length co18] 26 (0, 0)) (by (with_reducible repeat (first | refine blk_drewN ?_ _ | refine blk_drew ?_ | refine blk_alloc ?_ _)); refine blk_put (cs := #[.int .i64 t1112, .slice none 0 0]) ?_ 1 _ rfl; (with_reducible repeat (first | refine blk_drewN ?_ _ | refine blk_drew ?_ | refine blk_alloc ?_ _)); refine blk_put (cs := #[.int .i64 0, .slice none 0 0]) ?_ 0 _ rfl; (with_reducible repeat (first | refine blk_drewN ?_ _ | refine blk_drew ?_ | refine blk_alloc ?_ _)); exact BK1116.out) hb); have n2_ := Aside0.mk (below_step (by repeat (first | (with_reducible first | exact HB.out | apply below_alloc | apply pw_below_drewN | apply below_drew1 | refine below_set ?_ GE1116.out) | exact HB.out)) hb); clear HO1115; clear BK1116; clear HB; have HO1115 := n0_; have BK1116 := n1_; have HB := n2_; clear n0_ n1_ n2_; (try clear hb); (try clear hb2); (try clear hk); (try clear hi); have hcz20_0 : w19.cell? ⟨gb1116, 0, none⟩ = some (.int .i64 t1112) := (blk_cell BK1116.out 0).trans rfl; have hcz20_1 : w19.cell? ⟨gb1116, 1, none⟩ = some (.slice Ao18 t1113.length co18) := (blk_cell BK1116.out 1).trans rfl; have hfz20_0 := blk_frozen BK1116.out 0; have hfz20_1 := blk_frozen BK1116.out 1) | ((with_reducible refine gate_callee (f := 35) rfl ?_); refine goesL_ (some 39) rfl rfl Try.func35 (by kernel_rfl) rfl #[.int .i64 a4, .int .i64 t1112] rfl (by (try simp only [List.map_toArray, List.map_cons, List.map_nil]); first | done | rfl | (simp only [List.length_drop, List.length_take]; rfl)) ?_; (with_reducible refine (dialtonelaw27_pick.calls a4 t1112 t1119 _ A10.out).mono ?_); rintro e w' ⟨rfl, ⟨nd, rfl⟩⟩; refine ⟨_, rfl, ?_⟩) | ((with_reducible refine gate_callee (f := 51) rfl ?_); refine goesL_ (some 44) rfl rfl Try.func51 (by kernel_rfl) rfl #[.agg #[.int .i64 t1112, .slice Ao18 t1113.length co18], .int .i64 t1117, .int .i64 t1118] rfl (by (try simp only [List.map_toArray, List.map_cons, List.map_nil]); first | done | rfl | (simp only [List.length_drop, List.length_take]; rfl)) ?_; (with_reducible refine (dialtonelaw27_greatest.calls k t1112 _ _ t1113 t1117 t1118 t1120 t1121 true _ ?side1 ?side2 A11.out).mono ?_); (case side1 => repeat (first | exact (Kd.R_reads' HO1115.out).2.2 | (with_reducible refine Kd.C_alloc ?_ _) | (with_reducible refine Kd.C_drewN ?_ _) | (with_reducible refine Kd.C_drew ?_))); (case side2 => exact (Kd.R_reads' HO1115.out).2.1); rintro e w21 ⟨rfl, hb⟩; refine ⟨_, rfl, ?_⟩; have n0_ := Aside0.mk (Kd.R_below (by (with_reducible repeat (first | apply Kd.R_alloc | apply Kd.R_drewN | apply Kd.R_drew)); exact HO1115.out) hb); have n1_ := Aside0.mk (blk_below (g := gb1116) (o := .cells #[.int .i64 t1112, .slice Ao18 t1113.length co18] 26 (0, 0)) (by (with_reducible repeat (first | refine blk_drewN ?_ _ | refine blk_drew ?_ | refine blk_alloc ?_ _)); exact BK1116.out) hb); have n2_ := Aside0.mk (below_step (by repeat (first | (with_reducible first | exact HB.out | apply below_alloc | apply pw_below_drewN | apply below_drew1 | refine below_set ?_ GE1116.out) | exact HB.out)) hb); clear HO1115; clear BK1116; clear HB; have HO1115 := n0_; have BK1116 := n1_; have HB := n2_; clear n0_ n1_ n2_; (try clear hb); (try clear hb2); (try clear hk); (try clear hi)))
   (try simp only [Act.put, List.setIfInBounds_toArray, List.set_cons_zero, List.set_cons_succ])
   go_cut [55] (fun v55 wc => ∃ (kq : Nat) (x55_12 : Bool), v55 = .bool x55_12 ∧ Aside0 (dialtonelaw27_FlowThrough.j0 kq t1117 t1118 t1119 t1120 true x55_12 t1112 t1113 = some r) ∧ Aside0 (kq ≤ k) ∧ Aside0 (Kd.R k72 72 wc w.heap.size (fun _ => True) (.slice Ao18 t1113.length co18) t1113) ∧ Aside0 (wc.heap[gb1116]? = some (.cells #[.int .i64 t1112, (.slice Ao18 t1113.length co18)] 26 (0, 0))) ∧ Aside0 (Below w.heap.size w wc))
   case first =>
    have H := HC13.out
    clear HC13
    by_cases c22 : t1119 = t1117
    ·
     rw [if_pos c22] at H
     have c22b0 : (t1119 == t1117) = true := beq_iff_eq.mpr c22
     have c22b1 : (t1119 != t1117) = false := bne_eq_false_iff_eq.mpr c22
     clear c22
     (first | rw [c22b0] | (simp only [i64_w, i32_w]; rw [c22b0]) | skip)
     have H' := Aside0.mk H
     clear H
     go_wp2
     go_meet
     case rel => exact ⟨_, (true), (by first | rfl | (simp; done) | (simp [*]; done)), H', ⟨by first | omega | exact Nat.le_refl _⟩, ⟨by (with_reducible repeat (first | apply Kd.R_alloc | apply Kd.R_drewN | apply Kd.R_drew)); exact HO1115.out⟩, ⟨by (with_reducible repeat (first | refine blk_drewN ?_ _ | refine blk_drew ?_ | refine blk_alloc ?_ _)); exact BK1116.out⟩, ⟨by repeat (first | (with_reducible first | exact HB.out | apply below_alloc | apply pw_below_drewN | apply below_drew1 | refine below_set ?_ GE1116.out) | exact HB.out)⟩⟩
    ·
     rw [if_neg c22] at H
     have c22b0 : (t1119 == t1117) = false := beq_eq_false_iff_ne.mpr c22
     have c22b1 : (t1119 != t1117) = true := bne_iff_ne.mpr c22
     (first | rw [c22b0] | (simp only [i64_w, i32_w]; rw [c22b0]) | skip)
     have H' := Aside0.mk H
     clear H
     go_wp2
     go_meet
     case rel => exact ⟨_, ((t1119 == t1118)), (by first | rfl | (simp; done) | (simp [*]; done)), H', ⟨by first | omega | exact Nat.le_refl _⟩, ⟨by (with_reducible repeat (first | apply Kd.R_alloc | apply Kd.R_drewN | apply Kd.R_drew)); exact HO1115.out⟩, ⟨by (with_reducible repeat (first | refine blk_drewN ?_ _ | refine blk_drew ?_ | refine blk_alloc ?_ _)); exact BK1116.out⟩, ⟨by repeat (first | (with_reducible first | exact HB.out | apply below_alloc | apply pw_below_drewN | apply below_drew1 | refine below_set ?_ GE1116.out) | exact HB.out)⟩⟩
   case rest =>
    clear HC13
    try clear c1
    try clear c2
    try clear p2
    try clear c3
    try clear c5
    try clear c7
    try clear c12
    try clear c15
    try clear c22
    try clear c22b0
    try clear c22b1
    try clear hcz17_0
    try clear hcz17_1
    try clear hcz20_0
    try clear hcz20_1
    try clear hfz17_0
    try clear hfz17_1
    try clear hfz20_0
    try clear hfz20_1
    obtain ⟨kq, x55_12, rfl, HA, HJ12, HO_1117001, BK1116, HB⟩ := hcut
    cases kq with
    | zero => exact absurd HA.out (by simp [dialtonelaw27_FlowThrough.j0])
    | succ kj12 =>
     have H := HA.out
     clear HA
     simp only [dialtonelaw27_FlowThrough.j0] at H
     by_cases c23 : x55_12 = true
     ·
      subst c23
      have H1 : (some true) = some r := by rw [if_pos rfl] at H; exact H
      clear H
      have H := H1
      clear H1
      obtain rfl := Option.some.inj H
      go_wp2
      go_ret
      exact ⟨by first | rfl | (simp [errW_none, errW_some] <;> rfl) | (simp [*, errW_none, errW_some] <;> rfl), by repeat (first | (with_reducible first | exact HB.out | apply below_alloc | apply pw_below_drewN | apply below_drew1 | refine below_set ?_ GE1116.out) | exact HB.out)⟩
     ·
      replace c23 := Bool.eq_false_iff.mpr c23
      subst c23
      have H1 : ((dialtonelaw27_greatest.f kj12 t1112 t1113 t1117 t1119).bind fun bt1123 => (if bt1123.2.2 = true then ((dialtonelaw27_greatest.f kj12 t1112 t1113 t1119 t1118).bind fun bt1126 => (if bt1126.2.2 = true then (if true = true then (some (decide (t1120 ≥ (mn bt1123.1 bt1126.1)))) else (some false)) else (none))) else (none))) = some r := by rw [if_neg (show ¬ (false = true) by decide)] at H; exact H
      clear H
      have H := H1
      clear H1
      replace H := Option.bind_eq_some_iff.mp H
      obtain ⟨⟨t1123, t1124, t1125⟩, A240, H⟩ := H
      replace H : (if t1125 = true then ((dialtonelaw27_greatest.f kj12 t1112 t1113 t1119 t1118).bind fun bt1126 => (if bt1126.2.2 = true then (if true = true then (some (decide (t1120 ≥ (mn t1123 bt1126.1)))) else (some false)) else (none))) else (none)) = some r := H
      have A24 := Aside0.mk A240
      clear A240
      by_cases c25 : t1125 = true
      ·
       subst c25
       have H1 : ((dialtonelaw27_greatest.f kj12 t1112 t1113 t1119 t1118).bind fun bt1126 => (if bt1126.2.2 = true then (if true = true then (some (decide (t1120 ≥ (mn t1123 bt1126.1)))) else (some false)) else (none))) = some r := by rw [if_pos rfl] at H; exact H
       clear H
       have H := H1
       clear H1
       replace H := Option.bind_eq_some_iff.mp H
       obtain ⟨⟨t1126, t1127, t1128⟩, A260, H⟩ := H
       replace H : (if t1128 = true then (if true = true then (some (decide (t1120 ≥ (mn t1123 t1126)))) else (some false)) else (none)) = some r := H
       have A26 := Aside0.mk A260
       clear A260
       by_cases c27 : t1128 = true
       ·
        subst c27
        have H1 : (if true = true then (some (decide (t1120 ≥ (mn t1123 t1126)))) else (some false)) = some r := by rw [if_pos rfl] at H; exact H
        clear H
        have H := H1
        clear H1
        have H1 : (some (decide (t1120 ≥ (mn t1123 t1126)))) = some r := by first | (rw [if_pos rfl] at H; exact H) | (rw [if_pos trivial] at H; exact H) | (simp only [if_true, if_false] at H; exact H) | (simp only [↓reduceIte] at H; exact H)
        clear H
        have H := H1
        clear H1
        obtain ⟨ji28, hji28⟩ : ∃ j_ : Int, (mn t1123 t1126) = j_ := ⟨_, rfl⟩
        replace H : (some (decide (t1120 ≥ (ji28)))) = some r := by first | (rw [hji28] at H; exact H) | (simp only [hji28] at H ⊢; exact H)
        (try rw [hji28] at A24)
        (try rw [hji28] at A26)
        have hji28_ : (if t1126 < t1123 then t1126 else t1123) = ji28 := hji28
        obtain rfl := Option.some.inj H
        have hcz29_0 : wc.cell? ⟨gb1116, 0, none⟩ = some (.int .i64 t1112) := (blk_cell BK1116.out 0).trans rfl
        have hcz29_1 : wc.cell? ⟨gb1116, 1, none⟩ = some (.slice Ao18 t1113.length co18) := (blk_cell BK1116.out 1).trans rfl
        have hfz29_0 := blk_frozen BK1116.out 0
        have hfz29_1 := blk_frozen BK1116.out 1
        go_wp2_with (first | ((with_reducible refine gate_callee (f := 51) rfl ?_); refine goesL_ (some 61) rfl rfl Try.func51 (by kernel_rfl) rfl #[.agg #[.int .i64 t1112, .slice Ao18 t1113.length co18], .int .i64 t1117, .int .i64 t1119] rfl (by (try simp only [List.map_toArray, List.map_cons, List.map_nil]); first | done | rfl | (simp only [List.length_drop, List.length_take]; rfl)) ?_; (with_reducible refine (dialtonelaw27_greatest.calls kj12 t1112 _ _ t1113 t1117 t1119 t1123 t1124 true _ ?side1 ?side2 A24.out).mono ?_); (case side1 => repeat (first | exact (Kd.R_reads' HO_1117001.out).2.2 | (with_reducible refine Kd.C_alloc ?_ _) | (with_reducible refine Kd.C_drewN ?_ _) | (with_reducible refine Kd.C_drew ?_))); (case side2 => exact (Kd.R_reads' HO_1117001.out).2.1); rintro e w30 ⟨rfl, hb⟩; refine ⟨_, rfl, ?_⟩; have n0_ := Aside0.mk (Kd.R_below (by (with_reducible repeat (first | apply Kd.R_alloc | apply Kd.R_drewN | apply Kd.R_drew)); exact HO_1117001.out) hb); have n1_ := Aside0.mk (blk_below (g := gb1116) (o := .cells #[.int .i64 t1112, .slice Ao18 t1113.length co18] 26 (0, 0)) (by (with_reducible repeat (first | refine blk_drewN ?_ _ | refine blk_drew ?_ | refine blk_alloc ?_ _)); exact BK1116.out) hb); have n2_ := Aside0.mk (below_step (by repeat (first | (with_reducible first | exact HB.out | apply below_alloc | apply pw_below_drewN | apply below_drew1 | refine below_set ?_ GE1116.out) | exact HB.out)) hb); clear HO_1117001; clear BK1116; clear HB; have HO_1117001 := n0_; have BK1116 := n1_; have HB := n2_; clear n0_ n1_ n2_; (try clear hb); (try clear hb2); (try clear hk); (try clear hi); have hcz31_0 : w30.cell? ⟨gb1116, 0, none⟩ = some (.int .i64 t1112) := (blk_cell BK1116.out 0).trans rfl; have hcz31_1 : w30.cell? ⟨gb1116, 1, none⟩ = some (.slice Ao18 t1113.length co18) := (blk_cell BK1116.out 1).trans rfl; have hfz31_0 := blk_frozen BK1116.out 0; have hfz31_1 := blk_frozen BK1116.out 1) | ((with_reducible refine gate_callee (f := 51) rfl ?_); refine goesL_ (some 69) rfl rfl Try.func51 (by kernel_rfl) rfl #[.agg #[.int .i64 t1112, .slice Ao18 t1113.length co18], .int .i64 t1119, .int .i64 t1118] rfl (by (try simp only [List.map_toArray, List.map_cons, List.map_nil]); first | done | rfl | (simp only [List.length_drop, List.length_take]; rfl)) ?_; (with_reducible refine (dialtonelaw27_greatest.calls kj12 t1112 _ _ t1113 t1119 t1118 t1126 t1127 true _ ?side1 ?side2 A26.out).mono ?_); (case side1 => repeat (first | exact (Kd.R_reads' HO_1117001.out).2.2 | (with_reducible refine Kd.C_alloc ?_ _) | (with_reducible refine Kd.C_drewN ?_ _) | (with_reducible refine Kd.C_drew ?_))); (case side2 => exact (Kd.R_reads' HO_1117001.out).2.1); rintro e w32 ⟨rfl, hb⟩; refine ⟨_, rfl, ?_⟩; have n0_ := Aside0.mk (Kd.R_below (by (with_reducible repeat (first | apply Kd.R_alloc | apply Kd.R_drewN | apply Kd.R_drew)); exact HO_1117001.out) hb); have n1_ := Aside0.mk (blk_below (g := gb1116) (o := .cells #[.int .i64 t1112, .slice Ao18 t1113.length co18] 26 (0, 0)) (by (with_reducible repeat (first | refine blk_drewN ?_ _ | refine blk_drew ?_ | refine blk_alloc ?_ _)); exact BK1116.out) hb); have n2_ := Aside0.mk (below_step (by repeat (first | (with_reducible first | exact HB.out | apply below_alloc | apply pw_below_drewN | apply below_drew1 | refine below_set ?_ GE1116.out) | exact HB.out)) hb); clear HO_1117001; clear BK1116; clear HB; have HO_1117001 := n0_; have BK1116 := n1_; have HB := n2_; clear n0_ n1_ n2_; (try clear hb); (try clear hb2); (try clear hk); (try clear hi)))
        go_ret
        exact ⟨by first | rfl | (simp [errW_none, errW_some] <;> rfl) | (simp only [← hji28]; first | rfl | (simp [errW_none, errW_some] <;> rfl)) | (simp [*, errW_none, errW_some] <;> rfl), by repeat (first | (with_reducible first | exact HB.out | apply below_alloc | apply pw_below_drewN | apply below_drew1 | refine below_set ?_ GE1116.out) | exact HB.out)⟩
       ·
        replace c27 := Bool.eq_false_iff.mpr c27
        subst c27
        have H1 : (none) = some r := by rw [if_neg (show ¬ (false = true) by decide)] at H; exact H
        clear H
        have H := H1
        clear H1
        exact absurd H (by simp)
      ·
       replace c25 := Bool.eq_false_iff.mpr c25
       subst c25
       have H1 : (none) = some r := by rw [if_neg (show ¬ (false = true) by decide)] at H; exact H
       clear H
       have H := H1
       clear H1
       exact absurd H (by simp)
  ·
   replace c12 := Bool.eq_false_iff.mpr c12
   subst c12
   have H1 : (none) = some r := by rw [if_neg (show ¬ (false = true) by decide)] at H; exact H
   clear H
   have H := H1
   clear H1
   exact absurd H (by simp)
 ·
  replace c7 := Bool.eq_false_iff.mpr c7
  subst c7
  have H1 : (none) = some r := by rw [if_neg (show ¬ (false = true) by decide)] at H; exact H
  clear H
  have H := H1
  clear H1
  exact absurd H (by simp)

end Go.Proofs.Ytkkakdpncogpkaa.D
end
