/- Parts of the proof of a law about flows (see the law's own text): Fdialtonelaw27FlowTurns. Conditions: each theorem's own. -/
import Derived.Test.YtkkakdpncogpkaaBase5
import Derived.Test.YtkkakdpncogpkaaBase4
import Derived.Test.YtkkakdpncogpkaaBase6
import Derived.Test.YtkkakdpncogpkaaBase27
import Derived.Test.YtkkakdpncogpkaaBase28
section
namespace Go.Proofs.Ytkkakdpncogpkaa.D
open Go.RowKit Go.Proofs.YtkkakdpncogpkaaW.PrintWords Go.Proofs.YtkkakdpncogpkaaW.PrintLast Go.Proofs.YtkkakdpncogpkaaW.PrintMore
attribute [local go_sem] max2_int min2_int max_two min_two max_three min_three max_four min_four   -- for this text's walks alone
set_option linter.unusedVariables false
set_option linter.unusedSimpArgs false

/-! ### dialtonelaw27_FlowTurns: function 14 -/
def dialtonelaw27_FlowTurns.l0 : Nat → Int → Int → Int → Int → Int → List (S72) → Int → List (S72) → Int → List (S72) → Option (Bool)
 | 0, _, _, _, _, _, _, _, _, _, _ => none
 | k + 1, x4, x12, x13, x16, x1088000, x1088001, x1091000, x1091001, x1092000, x1092001 => if x16 < (x1088001.length : Int) then (if 0 ≤ x16 then (if x1091001.length < 5864062014805 then ((dialtonelaw27_pick.f x4 (x1088001.length : Int)).bind fun t1097 => (if (x1088001.length : Int) = 0 then (none) else (if 0 ≤ (Int.tmod (wrap64 (x16 + t1097)) (x1088001.length : Int)) then (if (Int.tmod (wrap64 (x16 + t1097)) (x1088001.length : Int)) < (x1088001.length : Int) then (if x1092001.length < 5864062014805 then (dialtonelaw27_FlowTurns.l0 k x4 x12 x13 (wrap64 (x16 + 1)) x1088000 x1088001 x1091000 (x1091001 ++ [(⟨(rd_T72 x1088001 x16).f1, (rd_T72 x1088001 x16).f0, (rd_T72 x1088001 x16).f2⟩ : S72)]) x1092000 (x1092001 ++ [(⟨(rd_T72 x1088001 (Int.tmod (wrap64 (x16 + t1097)) (x1088001.length : Int))).f0, (rd_T72 x1088001 (Int.tmod (wrap64 (x16 + t1097)) (x1088001.length : Int))).f1, (rd_T72 x1088001 (Int.tmod (wrap64 (x16 + t1097)) (x1088001.length : Int))).f2⟩ : S72)])) else (none)) else (none)) else (none)))) else (none)) else (none)) else ((dialtonelaw27_greatest.f k x1088000 x1088001 x12 x13).bind fun bt1102 => (if bt1102.2.2 = true then ((dialtonelaw27_greatest.f k x1091000 x1091001 x13 x12).bind fun bt1105 => (if bt1105.2.2 = true then ((dialtonelaw27_greatest.f k x1092000 x1092001 x12 x13).bind fun bt1108 => (if bt1108.2.2 = true then (if bt1102.1 = bt1105.1 then (if bt1102.1 = bt1108.1 then (some (bt1102.2.1 == bt1108.2.1)) else (some false)) else (some false)) else (none))) else (none))) else (none)))
def dialtonelaw27_FlowTurns.f (k : Nat) (a0 : Int) (l1 : List (S23)) (a2 : Int) (a3 : Int) (a4 : Int) : Option (Bool) := (dialtonelaw27_sane.f k).bind fun t1082 => (if t1082 = true then ((dialtoneref27_Made.f k a0 l1).bind fun bt1083 => ((dialtonelaw27_ends.f bt1083.1 bt1083.2 a2 a3).bind fun bt1088 => (dialtonelaw27_FlowTurns.l0 k a4 bt1088.1 bt1088.2 0 bt1083.1 bt1083.2 bt1083.1 ([] : List (S72)) bt1083.1 ([] : List (S72))))) else (none))
def dialtonelaw27_FlowTurns.T12 : Bool × List (List Nat × List Nat) := (true, [([], []), ([0], [0]), ([], []), ([2], [2]), ([], []), ([], []), ([], []), ([6], [6]), ([7], [7]), ([5, 8], [5, 8]), ([4, 9], [4, 9]), ([], []), ([11], [11]), ([12], [12]), ([10, 13], [10, 13]), ([3, 14], [3, 14]), ([15], [15]), ([16], [16]), ([1, 17, 9], [1, 17]), ([0, 1, 2, 3, 4, 5, 6, 7, 8, 9, 10, 11, 12, 13, 14, 15, 16, 17, 18], []), ([19, 18, 18, 0, 1, 2, 3, 4, 5, 6, 7, 8, 9, 10, 11, 12, 13, 14, 15, 16, 17, 18], [18, 19])])
def dialtonelaw27_FlowTurns.B12 : List Nat := [0, 1, 0, 4, 0, 0, 0, 64, 192, 480, 1008, 0, 2048, 6144, 16368, 32764, 65532, 131068, 262143, 524287, 1048575]
theorem dialtonelaw27_FlowTurns.tab12 : rtab .any (opsOf Try.f14 12) = dialtonelaw27_FlowTurns.T12 := by kernel_rfl
theorem dialtonelaw27_FlowTurns.bits12 : waitsOk dialtonelaw27_FlowTurns.T12.2 dialtonelaw27_FlowTurns.B12 = true := by kernel_rfl
set_option maxHeartbeats 8000000 in
set_option maxRecDepth 100000 in
theorem dialtonelaw27_FlowTurns.calls (k : Nat) (a0 : Int) (A1 : Option Addr) (c1 : Nat) (l1 : List (S23)) (a2 : Int) (a3 : Int) (a4 : Int) (r : Bool) (w : World) (hr1 : Kd.C k23 w A1 l1.length l1) (hc1 : l1.length ≤ c1) (h : dialtonelaw27_FlowTurns.f k a0 l1 a2 a3 a4 = some r) :
  Calls Try.prog 14 #[.int .i64 a0, .slice A1 l1.length c1, .int .i64 a2, .int .i64 a3, .int .i64 a4] w fun e w' => e = .returned (.bool r) ∧ Below w.heap.size w w' := by
 have hu26 := Try.underlying26
 have hu72 := Try.underlying72
 have HR1 := Aside0.mk hr1
 have HC1 := Aside0.mk hc1
 clear hr1 hc1
 have HB := Aside0.mk (Below.refl w.heap.size w)
 have H : ((dialtonelaw27_sane.f k).bind fun t1082 => (if t1082 = true then ((dialtoneref27_Made.f k a0 l1).bind fun bt1083 => ((dialtonelaw27_ends.f bt1083.1 bt1083.2 a2 a3).bind fun bt1088 => (dialtonelaw27_FlowTurns.l0 k a4 bt1088.1 bt1088.2 0 bt1083.1 bt1083.2 bt1083.1 ([] : List (S72)) bt1083.1 ([] : List (S72))))) else (none))) = some r := h
 clear h
 replace H := Option.bind_eq_some_iff.mp H
 obtain ⟨t1082, A60, H⟩ := H
 (try dsimp only at H)
 have A6 := Aside0.mk A60
 clear A60
 by_cases c7 : t1082 = true
 ·
  subst c7
  rw [if_pos rfl] at H
  replace H := Option.bind_eq_some_iff.mp H
  obtain ⟨⟨t1083, t1084⟩, A80, H⟩ := H
  (try dsimp only at H)
  have A8 := Aside0.mk A80
  clear A80
  replace H := Option.bind_eq_some_iff.mp H
  obtain ⟨⟨t1088, t1089⟩, A90, H⟩ := H
  (try dsimp only at H)
  have A9 := Aside0.mk A90
  clear A90
  have H' := Aside0.mk H
  clear H
  go_enter Try.func14, Try.ntmps14
  go_wp2_with (first | ((with_reducible refine gate_callee (f := 22) rfl ?_); refine goesL_ (some 27) rfl rfl Try.func22 qq rfl #[] rfl qa ?_; (with_reducible refine (dialtonelaw27_sane.calls k  true _ A6.out).mono ?_); rintro e w10 ⟨rfl, hb⟩; refine ⟨_, rfl, ?_⟩; replace HB := qS HB hb; (try clear hb); (try clear hb2); (try clear hk); (try clear hi)) | ((with_reducible refine gate_callee (f := 23) rfl ?_); refine goesL_ (some 31) rfl rfl Try.func23 qq rfl #[.int .i64 a0, .slice A1 l1.length c1] rfl qa ?_; (with_reducible refine (dialtoneref27_Made.calls k a0 _ _ l1 t1083 t1084 _ ?side1 ?side2 A8.out).mono ?_); (case side1 => exact qC (Kd.C_below HR1.out HB.out)); (case side2 => exact HC1.out); rintro e w11 ⟨v1085, rfl, ho0, hb⟩; refine ⟨_, rfl, ?_⟩; have HO1086 := qL HB ho0; replace HB := qS HB hb; (try clear hb); (try clear hb2); (try clear hk); (try clear hi); (try clear ho0)) | ((with_reducible refine gate_dst (N := 11) rfl ?_); refine box_event rfl (N := 11) rfl (cs := #[.int .i64 0, .slice none 0 0]) (t := 26) qh ?_; intro gb1087 hg w12 hbox hb; replace HO1086 := qR HO1086 hb; have BK1087 := Aside0.mk (hbox); have GW1087 := qg HB hg; have GE1087 := qg HB hg; replace HB := qS HB hb; clear hb hbox hg; obtain ⟨hcz13_0, hcz13_1, hfz13_0, hfz13_1⟩ := qc2 BK1087.out; obtain ⟨Ao14, co14, eo14⟩ := Kd.R_slice HO1086.out; subst eo14) | ((with_reducible refine gate_callee (f := 24) rfl ?_); refine goesL_ (some 36) rfl rfl Try.func24 qq rfl #[.agg #[.int .i64 t1083, .slice Ao14 t1084.length co14], .int .i64 a2, .int .i64 a3] rfl qa ?_; (with_reducible refine (dialtonelaw27_ends.calls t1083 _ _ t1084 a2 a3 t1088 t1089 _ ?side1 ?side2 A9.out).mono ?_); (case side1 => refine (Kd.R_reads' (e := 72) (base := w.heap.size) (ok := fun k_ => True) (n := t1084.length) (c := co14) ?_).2.2; exact (qr (Kd.R_mono (Kd.R_far (p := ⟨gb1087, 1, none⟩) (Kd.R_far (p := ⟨gb1087, 0, none⟩) (Kd.R_types HO1086.out BK1087.out (by decide)) (fun _ hk => hk.2) (.int .i64 t1083)) (fun _ hk => hk.2) (.slice Ao14 t1084.length co14)) (fun _ h_ => h_.1)))); (case side2 => exact (Kd.R_reads' HO1086.out).2.1); rintro e w15 ⟨rfl, hb⟩; refine ⟨_, rfl, ?_⟩; replace HO1086 := Aside0.mk (Kd.R_below (qr (Kd.R_mono (Kd.R_far (p := ⟨gb1087, 1, none⟩) (Kd.R_far (p := ⟨gb1087, 0, none⟩) (Kd.R_types HO1086.out BK1087.out (by decide)) (fun _ hk => hk.2) (.int .i64 t1083)) (fun _ hk => hk.2) (.slice Ao14 t1084.length co14)) (fun _ h_ => h_.1))) hb); replace BK1087 := Aside0.mk (blk_below (g := gb1087) (o := .cells #[.int .i64 t1083, .slice Ao14 t1084.length co14] 26 (0, 0)) (by (with_reducible repeat (first | refine blk_drewN ?_ _ | refine blk_drew ?_ | refine blk_alloc ?_ _)); refine blk_put (cs := #[.int .i64 t1083, .slice none 0 0]) ?_ 1 _ rfl; (with_reducible repeat (first | refine blk_drewN ?_ _ | refine blk_drew ?_ | refine blk_alloc ?_ _)); refine blk_put (cs := #[.int .i64 0, .slice none 0 0]) ?_ 0 _ rfl; (with_reducible repeat (first | refine blk_drewN ?_ _ | refine blk_drew ?_ | refine blk_alloc ?_ _)); exact BK1087.out) hb); replace HB := qS HB hb; (try clear hb); (try clear hb2); (try clear hk); (try clear hi); obtain ⟨hcz16_0, hcz16_1, hfz16_0, hfz16_1⟩ := qc2 BK1087.out) | ((with_reducible refine gate_dst (N := 14) rfl ?_); refine box_event rfl (N := 14) rfl (cs := #[.int .i64 0, .slice none 0 0]) (t := 26) qh ?_; intro gb1090 hg w17 hbox hb; replace HO1086 := qR HO1086 hb; have BK1090 := Aside0.mk (hbox); have GW1090 := qg HB hg; have GE1090 := qg HB hg; replace HB := qS HB hb; have NB1087_1090 := qn BK1087 hg; have NB1090_1087 := qm BK1087 hg; replace BK1087 := qB BK1087 hb; clear hb hbox hg; have hnb18 := NB1090_1087.out; have hnc18 := NB1087_1090.out; obtain ⟨hcz19_0, hcz19_1, hfz19_0, hfz19_1⟩ := qc2 BK1090.out; obtain ⟨hcz20_0, hcz20_1, hfz20_0, hfz20_1⟩ := qc2 BK1087.out) | ((with_reducible refine gate_dst (N := 15) rfl ?_); refine box_event rfl (N := 15) rfl (cs := #[.int .i64 0, .slice none 0 0]) (t := 26) qh ?_; intro gb1091 hg w21 hbox hb; replace HO1086 := Aside0.mk (Kd.R_below (qr (Kd.R_mono (Kd.R_far (p := ⟨gb1090, 1, none⟩) (Kd.R_far (p := ⟨gb1090, 0, none⟩) (Kd.R_types HO1086.out BK1090.out (by decide)) (fun _ hk => hk.2) (.int .i64 t1083)) (fun _ hk => hk.2) (.slice none 0 0)) (fun _ h_ => h_.1))) hb); have BK1091 := Aside0.mk (hbox); have GW1091 := qg HB hg; have GE1091 := qg HB hg; replace HB := qS HB hb; have NB1087_1091 := Aside0.mk ((by rw [hg]; exact Nat.ne_of_lt (blk_lt (g := gb1087) (o := .cells #[.int .i64 t1083, .slice Ao14 t1084.length co14] 26 (0, 0)) (by (with_reducible repeat (first | refine blk_drewN ?_ _ | refine blk_drew ?_ | refine blk_alloc ?_ _)); refine blk_far ?_ NB1087_1090.out _; (with_reducible repeat (first | refine blk_drewN ?_ _ | refine blk_drew ?_ | refine blk_alloc ?_ _)); refine blk_far ?_ NB1087_1090.out _; (with_reducible repeat (first | refine blk_drewN ?_ _ | refine blk_drew ?_ | refine blk_alloc ?_ _)); exact BK1087.out)) : gb1087 ≠ gb1091)); have NB1091_1087 := Aside0.mk ((by rw [hg]; exact Nat.ne_of_gt (blk_lt (g := gb1087) (o := .cells #[.int .i64 t1083, .slice Ao14 t1084.length co14] 26 (0, 0)) (by (with_reducible repeat (first | refine blk_drewN ?_ _ | refine blk_drew ?_ | refine blk_alloc ?_ _)); refine blk_far ?_ NB1087_1090.out _; (with_reducible repeat (first | refine blk_drewN ?_ _ | refine blk_drew ?_ | refine blk_alloc ?_ _)); refine blk_far ?_ NB1087_1090.out _; (with_reducible repeat (first | refine blk_drewN ?_ _ | refine blk_drew ?_ | refine blk_alloc ?_ _)); exact BK1087.out)) : gb1091 ≠ gb1087)); replace BK1087 := Aside0.mk (blk_below (g := gb1087) (o := .cells #[.int .i64 t1083, .slice Ao14 t1084.length co14] 26 (0, 0)) (by (with_reducible repeat (first | refine blk_drewN ?_ _ | refine blk_drew ?_ | refine blk_alloc ?_ _)); refine blk_far ?_ NB1087_1090.out _; (with_reducible repeat (first | refine blk_drewN ?_ _ | refine blk_drew ?_ | refine blk_alloc ?_ _)); refine blk_far ?_ NB1087_1090.out _; (with_reducible repeat (first | refine blk_drewN ?_ _ | refine blk_drew ?_ | refine blk_alloc ?_ _)); exact BK1087.out) hb); have NB1090_1091 := Aside0.mk ((by rw [hg]; exact Nat.ne_of_lt (blk_lt (g := gb1090) (o := .cells #[.int .i64 t1083, .slice none 0 0] 26 (0, 0)) (by (with_reducible repeat (first | refine blk_drewN ?_ _ | refine blk_drew ?_ | refine blk_alloc ?_ _)); refine blk_put (cs := #[.int .i64 t1083, .slice none 0 0]) ?_ 1 _ rfl; (with_reducible repeat (first | refine blk_drewN ?_ _ | refine blk_drew ?_ | refine blk_alloc ?_ _)); refine blk_put (cs := #[.int .i64 0, .slice none 0 0]) ?_ 0 _ rfl; (with_reducible repeat (first | refine blk_drewN ?_ _ | refine blk_drew ?_ | refine blk_alloc ?_ _)); exact BK1090.out)) : gb1090 ≠ gb1091)); have NB1091_1090 := Aside0.mk ((by rw [hg]; exact Nat.ne_of_gt (blk_lt (g := gb1090) (o := .cells #[.int .i64 t1083, .slice none 0 0] 26 (0, 0)) (by (with_reducible repeat (first | refine blk_drewN ?_ _ | refine blk_drew ?_ | refine blk_alloc ?_ _)); refine blk_put (cs := #[.int .i64 t1083, .slice none 0 0]) ?_ 1 _ rfl; (with_reducible repeat (first | refine blk_drewN ?_ _ | refine blk_drew ?_ | refine blk_alloc ?_ _)); refine blk_put (cs := #[.int .i64 0, .slice none 0 0]) ?_ 0 _ rfl; (with_reducible repeat (first | refine blk_drewN ?_ _ | refine blk_drew ?_ | refine blk_alloc ?_ _)); exact BK1090.out)) : gb1091 ≠ gb1090)); replace BK1090 := Aside0.mk (blk_below (g := gb1090) (o := .cells #[.int .i64 t1083, .slice none 0 0] 26 (0, 0)) (by (with_reducible repeat (first | refine blk_drewN ?_ _ | refine blk_drew ?_ | refine blk_alloc ?_ _)); refine blk_put (cs := #[.int .i64 t1083, .slice none 0 0]) ?_ 1 _ rfl; (with_reducible repeat (first | refine blk_drewN ?_ _ | refine blk_drew ?_ | refine blk_alloc ?_ _)); refine blk_put (cs := #[.int .i64 0, .slice none 0 0]) ?_ 0 _ rfl; (with_reducible repeat (first | refine blk_drewN ?_ _ | refine blk_drew ?_ | refine blk_alloc ?_ _)); exact BK1090.out) hb); clear hb hbox hg; have hnb22 := NB1091_1087.out; have hnc22 := NB1087_1091.out; have hnb23 := NB1091_1090.out; have hnc23 := NB1090_1091.out; obtain ⟨hcz24_0, hcz24_1, hfz24_0, hfz24_1⟩ := qc2 BK1091.out))
  go_loopg [16] k (fun kq v16 w' => ∃ (x16_1 : Int) (x1091001_1 : List (S72)) (x1092001_1 : List (S72)) (u1091001 : Value) (u1092001 : Value), v16 = .int .i64 x16_1 ∧ Aside0 (dialtonelaw27_FlowTurns.l0 kq a4 t1088 t1089 x16_1 t1083 t1084 t1083 x1091001_1 t1083 x1092001_1 = some r) ∧ Aside0 (kq ≤ k) ∧ Aside0 (Kd.R k72 72 w' w.heap.size (fun k_ => some k_ ≠ (u1091001 : Value).ownBlock ∧ some k_ ≠ (u1092001 : Value).ownBlock) (.slice Ao14 t1084.length co14) t1084) ∧ Aside0 (Kd.R k72 72 w' w.heap.size (fun k_ => some k_ ≠ ((.slice Ao14 t1084.length co14) : Value).ownBlock ∧ some k_ ≠ (u1092001 : Value).ownBlock) u1091001 x1091001_1) ∧ Aside0 (Kd.R k72 72 w' w.heap.size (fun k_ => some k_ ≠ ((.slice Ao14 t1084.length co14) : Value).ownBlock ∧ some k_ ≠ (u1091001 : Value).ownBlock) u1092001 x1092001_1) ∧ Aside0 (w'.heap[gb1087]? = some (.cells #[.int .i64 t1083, (.slice Ao14 t1084.length co14)] 26 (0, 0))) ∧ Aside0 (w'.heap[gb1090]? = some (.cells #[.int .i64 t1083, u1091001] 26 (0, 0))) ∧ Aside0 (w'.heap[gb1091]? = some (.cells #[.int .i64 t1083, u1092001] 26 (0, 0))) ∧ Aside0 (Below w.heap.size w w'))
  case atStart => exact ⟨(0), (([] : List (S72))), (([] : List (S72))), (.slice none 0 0), (.slice none 0 0), (by first | rfl | (simp; done) | (simp [*]; done)), H', ⟨Nat.le_refl _⟩, ⟨by (with_reducible repeat (first | apply Kd.R_alloc | apply Kd.R_drewN | apply Kd.R_drew)); exact Kd.R_mono (Kd.R_far (p := ⟨gb1091, 1, none⟩) (Kd.R_far (p := ⟨gb1091, 0, none⟩) (Kd.R_types HO1086.out BK1091.out (by decide)) (fun _ hk => hk.2) (.int .i64 t1083)) (fun _ hk => hk.2) (.slice none 0 0)) (fun _ hk => ⟨(by simp [Value.ownBlock]), (by simp [Value.ownBlock])⟩)⟩, ⟨by first | exact Kd.R_nil _ _ _ _ _ | exact Kd.N_nil _ _ _ _ _ | exact Kd.V_nil _ _ _ _ _ | exact Kd.Q_nil _ _ _ _ _ | exact Kd.S_nil _ _ _ _ _⟩, ⟨by first | exact Kd.R_nil _ _ _ _ _ | exact Kd.N_nil _ _ _ _ _ | exact Kd.V_nil _ _ _ _ _ | exact Kd.Q_nil _ _ _ _ _ | exact Kd.S_nil _ _ _ _ _⟩, ⟨by (with_reducible repeat (first | refine blk_drewN ?_ _ | refine blk_drew ?_ | refine blk_alloc ?_ _)); refine blk_far ?_ NB1087_1091.out _; (with_reducible repeat (first | refine blk_drewN ?_ _ | refine blk_drew ?_ | refine blk_alloc ?_ _)); refine blk_far ?_ NB1087_1091.out _; (with_reducible repeat (first | refine blk_drewN ?_ _ | refine blk_drew ?_ | refine blk_alloc ?_ _)); exact BK1087.out⟩, ⟨by (with_reducible repeat (first | refine blk_drewN ?_ _ | refine blk_drew ?_ | refine blk_alloc ?_ _)); refine blk_far ?_ NB1090_1091.out _; (with_reducible repeat (first | refine blk_drewN ?_ _ | refine blk_drew ?_ | refine blk_alloc ?_ _)); refine blk_far ?_ NB1090_1091.out _; (with_reducible repeat (first | refine blk_drewN ?_ _ | refine blk_drew ?_ | refine blk_alloc ?_ _)); exact BK1090.out⟩, ⟨by (with_reducible repeat (first | refine blk_drewN ?_ _ | refine blk_drew ?_ | refine blk_alloc ?_ _)); refine blk_put (cs := #[.int .i64 t1083, .slice none 0 0]) ?_ 1 _ rfl; (with_reducible repeat (first | refine blk_drewN ?_ _ | refine blk_drew ?_ | refine blk_alloc ?_ _)); refine blk_put (cs := #[.int .i64 0, .slice none 0 0]) ?_ 0 _ rfl; (with_reducible repeat (first | refine blk_drewN ?_ _ | refine blk_drew ?_ | refine blk_alloc ?_ _)); exact BK1091.out⟩, ⟨qb⟩⟩
  case round =>
   clear H'
   try clear c1
   try clear c2
   try clear p2
   try clear c7
   try clear c14
   try clear c18
   try clear c22
   try clear c23
   try clear c24
   try clear hcz13_0
   try clear hcz13_1
   try clear hcz16_0
   try clear hcz16_1
   try clear hcz19_0
   try clear hcz19_1
   try clear hcz20_0
   try clear hcz20_1
   try clear hcz24_0
   try clear hcz24_1
   try clear hfz13_0
   try clear hfz13_1
   try clear hfz16_0
   try clear hfz16_1
   try clear hfz19_0
   try clear hfz19_1
   try clear hfz20_0
   try clear hfz20_1
   try clear hfz24_0
   try clear hfz24_1
   obtain ⟨x16_1, x1091001_1, x1092001_1, u1091001, u1092001, rfl, HA, HK1, HO_1088001, HO_1091001, HO_1092001, BK1087, BK1090, BK1091, HB⟩ := hrel
   cases gk with
   | zero => exact absurd HA.out (by simp [dialtonelaw27_FlowTurns.l0])
   | succ k1 =>
    have H := HA.out
    clear HA
    simp only [dialtonelaw27_FlowTurns.l0] at H
    by_cases c25 : x16_1 < (t1084.length : Int)
    ·
     rw [if_pos c25] at H
     have c25b0 : decide (x16_1 < (t1084.length : Int)) = true := decide_eq_true c25
     clear c25
     by_cases c26 : 0 ≤ x16_1
     ·
      rw [if_pos c26] at H
      have c26b0 : decide (0 ≤ x16_1) = true := decide_eq_true c26
      clear c26
      by_cases c27 : x1091001_1.length < 5864062014805
      ·
       rw [if_pos c27] at H
       have LMc27 := Aside0.mk c27
       clear c27
       obtain ⟨y1094, hy1094⟩ : ∃ y_ : List (S72), y_ = (x1091001_1 ++ [(⟨(rd_T72 t1084 x16_1).f1, (rd_T72 t1084 x16_1).f0, (rd_T72 t1084 x16_1).f2⟩ : S72)]) := ⟨_, rfl⟩
       replace H : ((dialtonelaw27_pick.f a4 (t1084.length : Int)).bind fun t1097 => (if (t1084.length : Int) = 0 then (none) else (if 0 ≤ (Int.tmod (wrap64 (x16_1 + t1097)) (t1084.length : Int)) then (if (Int.tmod (wrap64 (x16_1 + t1097)) (t1084.length : Int)) < (t1084.length : Int) then (if x1092001_1.length < 5864062014805 then (dialtonelaw27_FlowTurns.l0 k1 a4 t1088 t1089 (wrap64 (x16_1 + 1)) t1083 t1084 t1083 y1094 t1083 (x1092001_1 ++ [(⟨(rd_T72 t1084 (Int.tmod (wrap64 (x16_1 + t1097)) (t1084.length : Int))).f0, (rd_T72 t1084 (Int.tmod (wrap64 (x16_1 + t1097)) (t1084.length : Int))).f1, (rd_T72 t1084 (Int.tmod (wrap64 (x16_1 + t1097)) (t1084.length : Int))).f2⟩ : S72)])) else (none)) else (none)) else (none)))) = some r := by first | (rw [hy1094]; with_reducible exact H) | (have H2_ := (Option.bind_some _ _).symm.trans H; rw [hy1094]; with_reducible exact H2_) | (have H2_ := (Option.bind_some _ _).symm.trans H; with_reducible exact H2_) | with_reducible exact H | (rw [hy1094]; exact H) | exact H
       have Ny1094 := Aside0.mk hy1094
       clear hy1094
       replace H := Option.bind_eq_some_iff.mp H
       obtain ⟨t1097, A280, H⟩ := H
       (try dsimp only at H)
       have A28 := Aside0.mk A280
       clear A280
       by_cases c29 : (t1084.length : Int) = 0
       ·
        rw [if_pos c29] at H
        exact absurd H (by simp)
       ·
        rw [if_neg c29] at H
        obtain ⟨c29b0, c29b1⟩ := qf c29
        have c29b2 : ¬ (t1084 = []) := fun h_ => c29 (by rw [h_]; rfl)
        obtain ⟨ji30, hji30⟩ : ∃ j_ : Int, (Int.tmod (wrap64 (x16_1 + t1097)) (t1084.length : Int)) = j_ := ⟨_, rfl⟩
        replace H : (if 0 ≤ (ji30) then (if (ji30) < (t1084.length : Int) then (if x1092001_1.length < 5864062014805 then (dialtonelaw27_FlowTurns.l0 k1 a4 t1088 t1089 (wrap64 (x16_1 + 1)) t1083 t1084 t1083 y1094 t1083 (x1092001_1 ++ [(⟨(rd_T72 t1084 (ji30)).f0, (rd_T72 t1084 (ji30)).f1, (rd_T72 t1084 (ji30)).f2⟩ : S72)])) else (none)) else (none)) else (none)) = some r := by first | (rw [hji30] at H; exact H) | (simp only [hji30] at H ⊢; exact H)
        (try rw [hji30] at A28)
        by_cases c31 : 0 ≤ (ji30)
        ·
         rw [if_pos c31] at H
         have c31b0 : decide (0 ≤ (ji30)) = true := decide_eq_true c31
         clear c31
         by_cases c32 : (ji30) < (t1084.length : Int)
         ·
          rw [if_pos c32] at H
          have c32b0 : decide ((ji30) < (t1084.length : Int)) = true := decide_eq_true c32
          clear c32
          by_cases c33 : x1092001_1.length < 5864062014805
          ·
           rw [if_pos c33] at H
           have LMc33 := Aside0.mk c33
           clear c33
           obtain ⟨y1099, hy1099⟩ : ∃ y_ : List (S72), y_ = (x1092001_1 ++ [(⟨(rd_T72 t1084 (ji30)).f0, (rd_T72 t1084 (ji30)).f1, (rd_T72 t1084 (ji30)).f2⟩ : S72)]) := ⟨_, rfl⟩
           replace H : (dialtonelaw27_FlowTurns.l0 k1 a4 t1088 t1089 (wrap64 (x16_1 + 1)) t1083 t1084 t1083 y1094 t1083 y1099) = some r := by first | (rw [hy1099]; with_reducible exact H) | (have H2_ := (Option.bind_some _ _).symm.trans H; rw [hy1099]; with_reducible exact H2_) | (have H2_ := (Option.bind_some _ _).symm.trans H; with_reducible exact H2_) | with_reducible exact H | (rw [hy1099]; exact H) | exact H
           have Ny1099 := Aside0.mk hy1099
           clear hy1099
           have H' := Aside0.mk H
           clear H
           have hnb34 := NB1087_1090.out
           have hnc34 := NB1090_1087.out
           have hnb35 := NB1087_1091.out
           have hnc35 := NB1091_1087.out
           obtain ⟨hcz36_0, hcz36_1, hfz36_0, hfz36_1⟩ := qc2 BK1087.out
           have p1092 : 0 ≤ (x16_1 : Int) := of_decide_eq_true (by first | (with_reducible assumption) | assumption)
           have q1092 : x16_1 < (t1084.length : Int) := of_decide_eq_true (by first | (with_reducible assumption) | assumption)
           obtain ⟨ad1092, e1092, hx1092_0, hx1092_1, hx1092_2⟩ := at_T72 (Kd.R_reads' HO_1088001.out).2.2 x16_1 p1092 q1092
           cases e1092
           replace p1092 := eq_true p1092
           replace q1092 := eq_true q1092
           try go_wp2_with (first | ((with_reducible refine gate_dst (N := 17) rfl ?_); refine box_event rfl (N := 17) rfl (cs := #[.int .i64 0, .int .i64 0, .int .i64 0]) (t := 72) qh ?_; intro gb1093 hg w37 hbox hb; replace HO_1088001 := Aside0.mk (Kd.R_below (Kd.R_elderB (qr HO_1088001.out) gb1093 (Nat.le_of_eq hg.symm)) hb); replace HO_1091001 := Aside0.mk (Kd.R_below (Kd.R_elderB (qr HO_1091001.out) gb1093 (Nat.le_of_eq hg.symm)) hb); replace HO_1092001 := Aside0.mk (Kd.R_below (Kd.R_elderB (qr HO_1092001.out) gb1093 (Nat.le_of_eq hg.symm)) hb); have BK1093 := Aside0.mk (hbox); have GW1093 := qg HB hg; have GE1093 := qg HB hg; replace HB := qS HB hb; have NB1087_1093 := qn BK1087 hg; have NB1093_1087 := qm BK1087 hg; replace BK1087 := qB BK1087 hb; have NB1090_1093 := qn BK1090 hg; have NB1093_1090 := qm BK1090 hg; replace BK1090 := qB BK1090 hb; have NB1091_1093 := qn BK1091 hg; have NB1093_1091 := qm BK1091 hg; replace BK1091 := qB BK1091 hb; clear hb hbox hg; have hnb38 := NB1093_1087.out; have hnc38 := NB1087_1093.out; have hnb39 := NB1093_1090.out; have hnc39 := NB1090_1093.out; have hnb40 := NB1093_1091.out; have hnc40 := NB1091_1093.out; obtain ⟨hcz41_0, hcz41_1, hcz41_2, hfz41_0, hfz41_1, hfz41_2⟩ := qc3 BK1093.out; have hnb42 := NB1090_1091.out; have hnc42 := NB1091_1090.out; obtain ⟨hcz43_0, hcz43_1, hfz43_0, hfz43_1⟩ := qc2 BK1090.out) | ((with_reducible refine gate_builtin (b := .append) (xs := #[.tmp 58, .tmp 66]) rfl ?_); at_builtin; refine Kd.R_append k72 (w0 := w) w.heap.size rfl (.tmp 58) (.tmp 66) 24 72 (.agg #[(.int .i64 0), (.int .i64 0), (.int .i64 0)]) 24 rfl Try.underlying24 info72 rfl (by decide) (by omega) u1091001 x1091001_1 (⟨(rd_T72 t1084 x16_1).f1, (rd_T72 t1084 x16_1).f0, (rd_T72 t1084 x16_1).f2⟩ : S72) [.int .i64 ((rd_T72 t1084 x16_1).f1), .int .i64 ((rd_T72 t1084 x16_1).f0), .int .i64 ((rd_T72 t1084 x16_1).f2)] (fun k_ => some k_ ≠ (.slice (some ad1092) t1084.length co14 : Value).ownBlock ∧ some k_ ≠ (u1092001 : Value).ownBlock ∧ k_ ≠ gb1093) (fun _ => False) rfl (by first | (go_simp; done) | (go_simp; rfl)) ?aP (fun _ hk => hk.elim) ?aF ?aO ?aB ?aS ?aL ?_; (case aP => exact k72_mkM _ _ _ (⟨(rd_T72 t1084 x16_1).f1, (rd_T72 t1084 x16_1).f0, (rd_T72 t1084 x16_1).f2⟩ : S72)); (case aB => exact (qb)); (case aF => exact (fun k_ hk => ⟨Kd.fresh' (Kd.R_lt (by (with_reducible repeat (first | apply Kd.R_alloc | apply Kd.R_drewN | apply Kd.R_drew)); exact (Kd.R_mono (Kd.R_far (p := ⟨gb1093, 2, none⟩) (Kd.R_far (p := ⟨gb1093, 1, none⟩) (Kd.R_far (p := ⟨gb1093, 0, none⟩) (Kd.R_mono HO_1088001.out (fun k_ hk => (⟨hk, hk.2⟩ : _ ∧ k_ ≠ gb1093))) (fun _ hk => hk.2) (.int .i64 ((rd_T72 t1084 x16_1).f0))) (fun _ hk => hk.2) (.int .i64 ((rd_T72 t1084 x16_1).f1))) (fun _ hk => hk.2) (.int .i64 ((rd_T72 t1084 x16_1).f2))) (fun _ h_ => h_.1)))) k_ hk, Kd.fresh' (Kd.R_lt (by (with_reducible repeat (first | apply Kd.R_alloc | apply Kd.R_drewN | apply Kd.R_drew)); exact (Kd.R_mono (Kd.R_far (p := ⟨gb1093, 2, none⟩) (Kd.R_far (p := ⟨gb1093, 1, none⟩) (Kd.R_far (p := ⟨gb1093, 0, none⟩) (Kd.R_mono HO_1092001.out (fun k_ hk => (⟨hk, hk.2⟩ : _ ∧ k_ ≠ gb1093))) (fun _ hk => hk.2) (.int .i64 ((rd_T72 t1084 x16_1).f0))) (fun _ hk => hk.2) (.int .i64 ((rd_T72 t1084 x16_1).f1))) (fun _ hk => hk.2) (.int .i64 ((rd_T72 t1084 x16_1).f2))) (fun _ h_ => h_.1)))) k_ hk, Kd.freshB (g := gb1093) (o := .cells #[.int .i64 ((rd_T72 t1084 x16_1).f0), .int .i64 ((rd_T72 t1084 x16_1).f1), .int .i64 ((rd_T72 t1084 x16_1).f2)] 72 (0, 0)) (by (with_reducible repeat (first | refine blk_drewN ?_ _ | refine blk_drew ?_ | refine blk_alloc ?_ _)); refine blk_put (cs := #[.int .i64 ((rd_T72 t1084 x16_1).f0), .int .i64 ((rd_T72 t1084 x16_1).f1), .int .i64 0]) ?_ 2 _ rfl; (with_reducible repeat (first | refine blk_drewN ?_ _ | refine blk_drew ?_ | refine blk_alloc ?_ _)); refine blk_put (cs := #[.int .i64 ((rd_T72 t1084 x16_1).f0), .int .i64 0, .int .i64 0]) ?_ 1 _ rfl; (with_reducible repeat (first | refine blk_drewN ?_ _ | refine blk_drew ?_ | refine blk_alloc ?_ _)); refine blk_put (cs := #[.int .i64 0, .int .i64 0, .int .i64 0]) ?_ 0 _ rfl; (with_reducible repeat (first | refine blk_drewN ?_ _ | refine blk_drew ?_ | refine blk_alloc ?_ _)); exact BK1093.out) k_ hk⟩)); (case aO => exact (by (with_reducible repeat (first | apply Kd.R_alloc | apply Kd.R_drewN | apply Kd.R_drew)); exact Kd.R_mono (Kd.R_far (p := ⟨gb1093, 2, none⟩) (Kd.R_far (p := ⟨gb1093, 1, none⟩) (Kd.R_far (p := ⟨gb1093, 0, none⟩) (Kd.R_mono HO_1091001.out (fun k_ hk => (⟨hk, hk.2⟩ : _ ∧ k_ ≠ gb1093))) (fun _ hk => hk.2) (.int .i64 ((rd_T72 t1084 x16_1).f0))) (fun _ hk => hk.2) (.int .i64 ((rd_T72 t1084 x16_1).f1))) (fun _ hk => hk.2) (.int .i64 ((rd_T72 t1084 x16_1).f2))) (fun _ hk => ⟨hk.1.1.1, ⟨hk.1.1.2, hk.1.2⟩⟩))); (case aS => exact (below_size (qb))); (case aL => have := LMc27.out; omega); intro v1095 w44 ho hb hg hat; rw [← Ny1094.out] at ho; have n0_ := Aside0.mk (Kd.R_after (ok := (fun k_ => some k_ ≠ (u1092001 : Value).ownBlock ∧ k_ ≠ gb1093)) (by (with_reducible repeat (first | apply Kd.R_alloc | apply Kd.R_drewN | apply Kd.R_drew)); exact Kd.R_mono (Kd.R_far (p := ⟨gb1093, 2, none⟩) (Kd.R_far (p := ⟨gb1093, 1, none⟩) (Kd.R_far (p := ⟨gb1093, 0, none⟩) (Kd.R_mono HO_1088001.out (fun k_ hk => (⟨hk, hk.2⟩ : _ ∧ k_ ≠ gb1093))) (fun _ hk => hk.2) (.int .i64 ((rd_T72 t1084 x16_1).f0))) (fun _ hk => hk.2) (.int .i64 ((rd_T72 t1084 x16_1).f1))) (fun _ hk => hk.2) (.int .i64 ((rd_T72 t1084 x16_1).f2))) (fun _ hk => ⟨⟨hk.1.1.2, hk.1.2⟩, hk.1.1.1⟩)) hg hat); have n1_ := Aside0.mk (Kd.R_after (ok := (fun k_ => some k_ ≠ (.slice (some ad1092) t1084.length co14 : Value).ownBlock ∧ k_ ≠ gb1093)) (by (with_reducible repeat (first | apply Kd.R_alloc | apply Kd.R_drewN | apply Kd.R_drew)); exact Kd.R_mono (Kd.R_far (p := ⟨gb1093, 2, none⟩) (Kd.R_far (p := ⟨gb1093, 1, none⟩) (Kd.R_far (p := ⟨gb1093, 0, none⟩) (Kd.R_mono HO_1092001.out (fun k_ hk => (⟨hk, hk.2⟩ : _ ∧ k_ ≠ gb1093))) (fun _ hk => hk.2) (.int .i64 ((rd_T72 t1084 x16_1).f0))) (fun _ hk => hk.2) (.int .i64 ((rd_T72 t1084 x16_1).f1))) (fun _ hk => hk.2) (.int .i64 ((rd_T72 t1084 x16_1).f2))) (fun _ hk => ⟨⟨hk.1.1.1, hk.1.2⟩, hk.1.1.2⟩)) hg hat); have n2_ := Aside0.mk (blk_grown (g := gb1087) (o := .cells #[.int .i64 t1083, .slice (some ad1092) t1084.length co14] 26 (0, 0)) (by (with_reducible repeat (first | refine blk_drewN ?_ _ | refine blk_drew ?_ | refine blk_alloc ?_ _)); refine blk_far ?_ NB1087_1093.out _; (with_reducible repeat (first | refine blk_drewN ?_ _ | refine blk_drew ?_ | refine blk_alloc ?_ _)); refine blk_far ?_ NB1087_1093.out _; (with_reducible repeat (first | refine blk_drewN ?_ _ | refine blk_drew ?_ | refine blk_alloc ?_ _)); refine blk_far ?_ NB1087_1093.out _; (with_reducible repeat (first | refine blk_drewN ?_ _ | refine blk_drew ?_ | refine blk_alloc ?_ _)); exact BK1087.out) hg (Kd.R_ne HO_1091001.out BK1087.out (by decide))); have n3_ := Aside0.mk (blk_grown (g := gb1090) (o := .cells #[.int .i64 t1083, u1091001] 26 (0, 0)) (by (with_reducible repeat (first | refine blk_drewN ?_ _ | refine blk_drew ?_ | refine blk_alloc ?_ _)); refine blk_far ?_ NB1090_1093.out _; (with_reducible repeat (first | refine blk_drewN ?_ _ | refine blk_drew ?_ | refine blk_alloc ?_ _)); refine blk_far ?_ NB1090_1093.out _; (with_reducible repeat (first | refine blk_drewN ?_ _ | refine blk_drew ?_ | refine blk_alloc ?_ _)); refine blk_far ?_ NB1090_1093.out _; (with_reducible repeat (first | refine blk_drewN ?_ _ | refine blk_drew ?_ | refine blk_alloc ?_ _)); exact BK1090.out) hg (Kd.R_ne HO_1091001.out BK1090.out (by decide))); have n4_ := Aside0.mk (blk_grown (g := gb1091) (o := .cells #[.int .i64 t1083, u1092001] 26 (0, 0)) (by (with_reducible repeat (first | refine blk_drewN ?_ _ | refine blk_drew ?_ | refine blk_alloc ?_ _)); refine blk_far ?_ NB1091_1093.out _; (with_reducible repeat (first | refine blk_drewN ?_ _ | refine blk_drew ?_ | refine blk_alloc ?_ _)); refine blk_far ?_ NB1091_1093.out _; (with_reducible repeat (first | refine blk_drewN ?_ _ | refine blk_drew ?_ | refine blk_alloc ?_ _)); refine blk_far ?_ NB1091_1093.out _; (with_reducible repeat (first | refine blk_drewN ?_ _ | refine blk_drew ?_ | refine blk_alloc ?_ _)); exact BK1091.out) hg (Kd.R_ne HO_1091001.out BK1091.out (by decide))); have n5_ := Aside0.mk (blk_grown (g := gb1093) (o := .cells #[.int .i64 ((rd_T72 t1084 x16_1).f0), .int .i64 ((rd_T72 t1084 x16_1).f1), .int .i64 ((rd_T72 t1084 x16_1).f2)] 72 (0, 0)) (by (with_reducible repeat (first | refine blk_drewN ?_ _ | refine blk_drew ?_ | refine blk_alloc ?_ _)); refine blk_put (cs := #[.int .i64 ((rd_T72 t1084 x16_1).f0), .int .i64 ((rd_T72 t1084 x16_1).f1), .int .i64 0]) ?_ 2 _ rfl; (with_reducible repeat (first | refine blk_drewN ?_ _ | refine blk_drew ?_ | refine blk_alloc ?_ _)); refine blk_put (cs := #[.int .i64 ((rd_T72 t1084 x16_1).f0), .int .i64 0, .int .i64 0]) ?_ 1 _ rfl; (with_reducible repeat (first | refine blk_drewN ?_ _ | refine blk_drew ?_ | refine blk_alloc ?_ _)); refine blk_put (cs := #[.int .i64 0, .int .i64 0, .int .i64 0]) ?_ 0 _ rfl; (with_reducible repeat (first | refine blk_drewN ?_ _ | refine blk_drew ?_ | refine blk_alloc ?_ _)); exact BK1093.out) hg (Kd.R_away HO_1091001.out (fun _ hk => hk.2))); have n6_ := Aside0.mk (hb); have n7_ := Aside0.mk (ho); clear HO_1088001; clear HO_1092001; clear BK1087; clear BK1090; clear BK1091; clear BK1093; clear HB; clear HO_1091001; have HO_1088001 := n0_; have HO_1092001 := n1_; have BK1087 := n2_; have BK1090 := n3_; have BK1091 := n4_; have BK1093 := n5_; have HB := n6_; have HO1096 := n7_; clear n0_ n1_ n2_ n3_ n4_ n5_ n6_ n7_; clear ho hb hg hat; obtain ⟨Ao45, co45, eo45⟩ := Kd.R_slice HO1096.out; subst eo45; obtain ⟨hcz46_0, hcz46_1, hfz46_0, hfz46_1⟩ := qc2 BK1090.out))
           have n0_ : Aside0 (Kd.R k72 72 (w44.setCell ⟨gb1090, 1, none⟩ (.slice Ao45 y1094.length co45)) w.heap.size (fun k_ => some k_ ≠ (u1092001 : Value).ownBlock ∧ some k_ ≠ (.slice Ao45 y1094.length co45 : Value).ownBlock ∧ k_ ≠ gb1093) (.slice (some ad1092) t1084.length co14) t1084) := ⟨by (with_reducible repeat (first | apply Kd.R_alloc | apply Kd.R_drewN | apply Kd.R_drew)); exact Kd.R_mono (Kd.R_far (p := ⟨gb1090, 1, none⟩) (Kd.R_types HO_1088001.out BK1090.out (by decide)) (fun _ hk => hk.2) (.slice Ao45 y1094.length co45)) (fun _ hk => ⟨hk.1.1.1, ⟨hk.1.2, hk.1.1.2⟩⟩)⟩
           have n1_ : Aside0 (Kd.R k72 72 (w44.setCell ⟨gb1090, 1, none⟩ (.slice Ao45 y1094.length co45)) w.heap.size (fun k_ => some k_ ≠ (.slice (some ad1092) t1084.length co14 : Value).ownBlock ∧ some k_ ≠ (.slice Ao45 y1094.length co45 : Value).ownBlock ∧ k_ ≠ gb1093) u1092001 x1092001_1) := ⟨by (with_reducible repeat (first | apply Kd.R_alloc | apply Kd.R_drewN | apply Kd.R_drew)); exact Kd.R_mono (Kd.R_far (p := ⟨gb1090, 1, none⟩) (Kd.R_types HO_1092001.out BK1090.out (by decide)) (fun _ hk => hk.2) (.slice Ao45 y1094.length co45)) (fun _ hk => ⟨hk.1.1.1, ⟨hk.1.2, hk.1.1.2⟩⟩)⟩
           have n2_ : Aside0 (Kd.R k72 72 (w44.setCell ⟨gb1090, 1, none⟩ (.slice Ao45 y1094.length co45)) w.heap.size (fun k_ => some k_ ≠ (.slice (some ad1092) t1084.length co14 : Value).ownBlock ∧ some k_ ≠ (u1092001 : Value).ownBlock ∧ k_ ≠ gb1093) (.slice Ao45 y1094.length co45) y1094) := ⟨by (with_reducible repeat (first | apply Kd.R_alloc | apply Kd.R_drewN | apply Kd.R_drew)); exact Kd.R_mono (Kd.R_far (p := ⟨gb1090, 1, none⟩) (Kd.R_types HO1096.out BK1090.out (by decide)) (fun _ hk => hk.2) (.slice Ao45 y1094.length co45)) (fun _ hk => ⟨hk.1.1, ⟨hk.1.2.1, hk.1.2.2⟩⟩)⟩
           have n3_ : Aside0 ((w44.setCell ⟨gb1090, 1, none⟩ (.slice Ao45 y1094.length co45)).heap[gb1087]? = some (.cells #[.int .i64 t1083, .slice (some ad1092) t1084.length co14] 26 (0, 0))) := ⟨by (with_reducible repeat (first | refine blk_drewN ?_ _ | refine blk_drew ?_ | refine blk_alloc ?_ _)); refine blk_far ?_ NB1087_1090.out _; (with_reducible repeat (first | refine blk_drewN ?_ _ | refine blk_drew ?_ | refine blk_alloc ?_ _)); exact BK1087.out⟩
           have n4_ : Aside0 ((w44.setCell ⟨gb1090, 1, none⟩ (.slice Ao45 y1094.length co45)).heap[gb1090]? = some (.cells #[.int .i64 t1083, .slice Ao45 y1094.length co45] 26 (0, 0))) := ⟨by (with_reducible repeat (first | refine blk_drewN ?_ _ | refine blk_drew ?_ | refine blk_alloc ?_ _)); refine blk_put (cs := #[.int .i64 t1083, u1091001]) ?_ 1 _ rfl; (with_reducible repeat (first | refine blk_drewN ?_ _ | refine blk_drew ?_ | refine blk_alloc ?_ _)); exact BK1090.out⟩
           have n5_ : Aside0 ((w44.setCell ⟨gb1090, 1, none⟩ (.slice Ao45 y1094.length co45)).heap[gb1091]? = some (.cells #[.int .i64 t1083, u1092001] 26 (0, 0))) := ⟨by (with_reducible repeat (first | refine blk_drewN ?_ _ | refine blk_drew ?_ | refine blk_alloc ?_ _)); refine blk_far ?_ NB1091_1090.out _; (with_reducible repeat (first | refine blk_drewN ?_ _ | refine blk_drew ?_ | refine blk_alloc ?_ _)); exact BK1091.out⟩
           have n6_ : Aside0 ((w44.setCell ⟨gb1090, 1, none⟩ (.slice Ao45 y1094.length co45)).heap[gb1093]? = some (.cells #[.int .i64 ((rd_T72 t1084 x16_1).f0), .int .i64 ((rd_T72 t1084 x16_1).f1), .int .i64 ((rd_T72 t1084 x16_1).f2)] 72 (0, 0))) := ⟨by (with_reducible repeat (first | refine blk_drewN ?_ _ | refine blk_drew ?_ | refine blk_alloc ?_ _)); refine blk_far ?_ NB1093_1090.out _; (with_reducible repeat (first | refine blk_drewN ?_ _ | refine blk_drew ?_ | refine blk_alloc ?_ _)); exact BK1093.out⟩
           have n7_ : Aside0 (Below w.heap.size w (w44.setCell ⟨gb1090, 1, none⟩ (.slice Ao45 y1094.length co45))) := ⟨qb⟩
           (try clear HO_1088001)
           (try clear HO_1092001)
           (try clear HO1096)
           (try clear BK1087)
           (try clear BK1090)
           (try clear BK1091)
           (try clear BK1093)
           (try clear HB)
           generalize (w44.setCell ⟨gb1090, 1, none⟩ (.slice Ao45 y1094.length co45)) = w47 at n0_ n1_ n2_ n3_ n4_ n5_ n6_ n7_ ⊢
           have HO_1088001 := n0_
           have HO_1092001 := n1_
           have HO1096 := n2_
           have BK1087 := n3_
           have BK1090 := n4_
           have BK1091 := n5_
           have BK1093 := n6_
           have HB := n7_
           clear n0_ n1_ n2_ n3_ n4_ n5_ n6_ n7_
           replace HO_1088001 := Aside0.mk (Kd.R_drew HO_1088001.out)
           replace HO_1092001 := Aside0.mk (Kd.R_drew HO_1092001.out)
           replace HO1096 := Aside0.mk (Kd.R_drew HO1096.out)
           replace BK1087 := Aside0.mk (blk_drew BK1087.out)
           replace BK1090 := Aside0.mk (blk_drew BK1090.out)
           replace BK1091 := Aside0.mk (blk_drew BK1091.out)
           replace BK1093 := Aside0.mk (blk_drew BK1093.out)
           replace HB := Aside0.mk (below_drew1 HB.out)
           have p1098 : 0 ≤ ((ji30) : Int) := of_decide_eq_true (by first | (with_reducible assumption) | assumption)
           have q1098 : (ji30) < (t1084.length : Int) := of_decide_eq_true (by first | (with_reducible assumption) | assumption)
           obtain ⟨ad1098, e1098, hx1098_0, hx1098_1, hx1098_2⟩ := at_T72 (Kd.R_reads' HO_1088001.out).2.2 (ji30) p1098 q1098
           obtain rfl : ad1092 = ad1098 := (by injection e1098)
           replace p1098 := eq_true p1098
           replace q1098 := eq_true q1098
           refine start_ (n := 21) (S := fun w' => w'.cell? ⟨gb1091, 0, none⟩ = some (.int .i64 t1083) ∧ w'.cell? ⟨gb1091, 1, none⟩ = some (u1092001) ∧ w'.cell? ⟨gb1087, 0, none⟩ = some (.int .i64 t1083) ∧ w'.cell? ⟨gb1087, 1, none⟩ = some (.slice (some ad1092) t1084.length co14) ∧ w'.cell? (ad1092.add (((ji30)).toNat * 3)) = some (.int .i64 ((rd_T72 t1084 (ji30)).f0)) ∧ w'.cell? ⟨(ad1092.add (((ji30)).toNat * 3)).block, (ad1092.add (((ji30)).toNat * 3)).off + 1, none⟩ = some (.int .i64 ((rd_T72 t1084 (ji30)).f1)) ∧ w'.cell? ⟨(ad1092.add (((ji30)).toNat * 3)).block, (ad1092.add (((ji30)).toNat * 3)).off + 2, none⟩ = some (.int .i64 ((rd_T72 t1084 (ji30)).f2))) (ds := [18, 20]) #[false, false, false, false, false, false, false, false, false, false, false, false, false, false, false, false, false, false, false, false, false] qq rfl rfl ⟨(blk_cell BK1091.out 0).trans rfl, (blk_cell BK1091.out 1).trans rfl, (blk_cell BK1087.out 0).trans rfl, (blk_cell BK1087.out 1).trans rfl, hx1098_0, hx1098_1, hx1098_2⟩ (fun hHeld => ?_); refine with_tabW dialtonelaw27_FlowTurns.tab12 dialtonelaw27_FlowTurns.bits12 (fun HT_ HW_ => ?_)
           generalize w47.drew = w48 at HO_1088001 HO_1092001 HO1096 BK1087 BK1090 BK1091 BK1093 HB hx1098_0 hx1098_1 hx1098_2 hHeld ⊢
           refine pure_ (i := 0) (N := some 69) (v := ?_) (a' := ?_) #[true, false, false, false, false, false, false, false, false, false, false, false, false, false, false, false, false, false, false, false, false] rfl rfl (any_of HT_.out qq) (fun _ _ _ h => h) (Or.inl ⟨by rfl, ?_⟩) ?_ ?_
           rotate_left
           ·
            intro w'
            go_simp
            with_reducible rfl
           rotate_left
           ·
            simp only [Act.put, List.setIfInBounds_toArray, List.set_cons_zero, List.set_cons_succ, i64_w, i32_w]
            rfl
           refine pure_ (i := 2) (N := some 71) (v := ?_) (a' := ?_) #[true, false, true, false, false, false, false, false, false, false, false, false, false, false, false, false, false, false, false, false, false] rfl rfl (any_of HT_.out qq) (fun _ _ _ h => h) (Or.inl ⟨by rfl, ?_⟩) ?_ ?_
           rotate_left
           ·
            intro w'
            go_simp
            with_reducible rfl
           rotate_left
           ·
            simp only [Act.put, List.setIfInBounds_toArray, List.set_cons_zero, List.set_cons_succ, i64_w, i32_w]
            rfl
           refine pure_ (i := 4) (N := some 73) (v := ?_) (a' := ?_) #[true, false, true, false, true, false, false, false, false, false, false, false, false, false, false, false, false, false, false, false, false] rfl rfl (any_of HT_.out qq) (fun _ _ _ h => h) (Or.inl ⟨by rfl, ?_⟩) ?_ ?_
           rotate_left
           ·
            intro w'
            go_simp
            with_reducible rfl
           rotate_left
           ·
            simp only [Act.put, List.setIfInBounds_toArray, List.set_cons_zero, List.set_cons_succ, i64_w, i32_w]
            rfl
           refine pure_ (i := 5) (N := some 74) (v := ?_) (a' := ?_) #[true, false, true, false, true, true, false, false, false, false, false, false, false, false, false, false, false, false, false, false, false] rfl rfl (any_of HT_.out qq) (fun _ _ _ h => h) (Or.inl ⟨by rfl, ?_⟩) ?_ ?_
           rotate_left
           ·
            intro w'
            go_simp
            with_reducible rfl
           rotate_left
           ·
            simp only [Act.put, List.setIfInBounds_toArray, List.set_cons_zero, List.set_cons_succ, i64_w, i32_w]
            rfl
           refine pure_ (i := 6) (N := some 75) (v := ?_) (a' := ?_) #[true, false, true, false, true, true, true, false, false, false, false, false, false, false, false, false, false, false, false, false, false] rfl rfl (any_of HT_.out qq) (fun _ _ _ h => h) (Or.inl ⟨by rfl, ?_⟩) ?_ ?_
           rotate_left
           ·
            intro w'
            go_simp
            with_reducible rfl
           rotate_left
           ·
            simp only [Act.put, List.setIfInBounds_toArray, List.set_cons_zero, List.set_cons_succ, i64_w, i32_w]
            rfl
           refine pure_ (i := 11) (N := some 80) (v := ?_) (a' := ?_) #[true, false, true, false, true, true, true, false, false, false, false, true, false, false, false, false, false, false, false, false, false] rfl rfl (any_of HT_.out qq) (fun _ _ _ h => h) (Or.inl ⟨by rfl, ?_⟩) ?_ ?_
           rotate_left
           ·
            intro w'
            go_simp
            with_reducible rfl
           rotate_left
           ·
            simp only [Act.put, List.setIfInBounds_toArray, List.set_cons_zero, List.set_cons_succ, i64_w, i32_w]
            rfl
           refine take_ (i := 1) (N := some 70) (v := ?_) (a' := ?_) #[true, true, true, false, true, true, true, false, false, false, false, true, false, false, false, false, false, false, false, false, false] rfl rfl (take_ofW HT_.out HW_.out qq) (fun _ _ _ h => h) (Or.inl ⟨by rfl, ?_⟩) hHeld ?_ ?_
           rotate_left
           ·
            rintro w' ⟨s0, s1, s2, s3, s4, s5, s6⟩
            go_simp
            with_reducible rfl
           rotate_left
           ·
            simp only [Act.put, List.setIfInBounds_toArray, List.set_cons_zero, List.set_cons_succ, i64_w, i32_w]
            rfl
           refine take_ (i := 3) (N := some 72) (v := ?_) (a' := ?_) #[true, true, true, true, true, true, true, false, false, false, false, true, false, false, false, false, false, false, false, false, false] rfl rfl (take_ofW HT_.out HW_.out qq) (fun _ _ _ h => h) (Or.inl ⟨by rfl, ?_⟩) hHeld ?_ ?_
           rotate_left
           ·
            rintro w' ⟨s0, s1, s2, s3, s4, s5, s6⟩
            go_simp
            with_reducible rfl
           rotate_left
           ·
            simp only [Act.put, List.setIfInBounds_toArray, List.set_cons_zero, List.set_cons_succ, i64_w, i32_w]
            rfl
           refine take_ (i := 7) (N := some 76) (v := ?_) (a' := ?_) #[true, true, true, true, true, true, true, true, false, false, false, true, false, false, false, false, false, false, false, false, false] rfl rfl (take_ofW HT_.out HW_.out qq) (fun _ _ _ h => h) (Or.inl ⟨by rfl, ?_⟩) hHeld ?_ ?_
           rotate_left
           ·
            rintro w' ⟨s0, s1, s2, s3, s4, s5, s6⟩
            go_simp
            with_reducible rfl
           rotate_left
           ·
            simp only [Act.put, List.setIfInBounds_toArray, List.set_cons_zero, List.set_cons_succ, i64_w, i32_w]
            rfl
           refine pure_ (i := 8) (N := some 77) (v := ?_) (a' := ?_) #[true, true, true, true, true, true, true, true, true, false, false, true, false, false, false, false, false, false, false, false, false] rfl rfl (any_of HT_.out qq) (fun _ _ _ h => h) (Or.inl ⟨by rfl, ?_⟩) ?_ ?_
           rotate_left
           ·
            intro w'
            go_simp
            with_reducible rfl
           rotate_left
           ·
            simp only [Act.put, List.setIfInBounds_toArray, List.set_cons_zero, List.set_cons_succ, i64_w, i32_w]
            rfl
           refine take_ (i := 12) (N := some 81) (v := ?_) (a' := ?_) #[true, true, true, true, true, true, true, true, true, false, false, true, true, false, false, false, false, false, false, false, false] rfl rfl (take_ofW HT_.out HW_.out qq) (fun _ _ _ h => h) (Or.inl ⟨by rfl, ?_⟩) hHeld ?_ ?_
           rotate_left
           ·
            rintro w' ⟨s0, s1, s2, s3, s4, s5, s6⟩
            go_simp
            with_reducible rfl
           rotate_left
           ·
            simp only [Act.put, List.setIfInBounds_toArray, List.set_cons_zero, List.set_cons_succ, i64_w, i32_w]
            rfl
           refine pure_ (i := 13) (N := some 82) (v := ?_) (a' := ?_) #[true, true, true, true, true, true, true, true, true, false, false, true, true, true, false, false, false, false, false, false, false] rfl rfl (any_of HT_.out qq) (fun _ _ _ h => h) (Or.inl ⟨by rfl, ?_⟩) ?_ ?_
           rotate_left
           ·
            intro w'
            go_simp
            with_reducible rfl
           rotate_left
           ·
            simp only [Act.put, List.setIfInBounds_toArray, List.set_cons_zero, List.set_cons_succ, i64_w, i32_w]
            rfl
           refine one_ (i := 9) (N := some 78) #[true, true, true, true, true, true, true, true, true, true, false, true, true, true, false, false, false, false, false, false, false] rfl rfl (one_of HT_.out qq) (by decide) (fun K hK => ?_)
           refine goes_ Try.func35 qq rfl #[.int .i64 a4, .int .i64 (t1084.length : Int)] (by rfl) rfl rfl qa ?_
           with_reducible refine (dialtonelaw27_pick.calls a4 (t1084.length : Int) t1097 _ A28.out).mono ?_
           rintro e w' ⟨rfl, ⟨nd, rfl⟩⟩
           refine ⟨_, rfl, ?_⟩
           refine hK.out _ _ ⟨(blk_cell BK1091.out 0).trans rfl, (blk_cell BK1091.out 1).trans rfl, (blk_cell BK1087.out 0).trans rfl, (blk_cell BK1087.out 1).trans rfl, hHeld.2.2.2.2.1, hHeld.2.2.2.2.2.1, hHeld.2.2.2.2.2.2⟩ (fun hHeld => ?_)
           clear hK K
           refine norm_ (a' := ?_) ?_ ?_
           rotate_left
           ·
            show Act.put _ (some 78) _ = _
            simp only [Act.put, List.setIfInBounds_toArray, List.set_cons_zero, List.set_cons_succ, i64_w, i32_w]
            rfl
           refine pure_ (i := 10) (N := some 79) (v := ?_) (a' := ?_) #[true, true, true, true, true, true, true, true, true, true, true, true, true, true, false, false, false, false, false, false, false] rfl rfl (any_of HT_.out qq) (fun _ _ _ h => h) (Or.inl ⟨by rfl, ?_⟩) ?_ ?_
           rotate_left
           ·
            intro w'
            go_simp
            with_reducible rfl
           rotate_left
           ·
            simp only [Act.put, List.setIfInBounds_toArray, List.set_cons_zero, List.set_cons_succ, i64_w, i32_w]
            rfl
           refine pure_ (i := 14) (N := some 83) (v := ?_) (a' := ?_) #[true, true, true, true, true, true, true, true, true, true, true, true, true, true, true, false, false, false, false, false, false] rfl rfl (any_of HT_.out qq) (fun _ _ _ h => h) (Or.inl ⟨by rfl, ?_⟩) ?_ ?_
           rotate_left
           ·
            intro w'
            go_simp
            with_reducible rfl
           rotate_left
           ·
            simp only [Act.put, List.setIfInBounds_toArray, List.set_cons_zero, List.set_cons_succ, i64_w, i32_w]
            rfl
           refine pure_ (i := 15) (N := some 84) (v := ?_) (a' := ?_) #[true, true, true, true, true, true, true, true, true, true, true, true, true, true, true, true, false, false, false, false, false] rfl rfl (any_of HT_.out qq) (fun _ _ _ h => h) (Or.inl ⟨by rfl, ?_⟩) ?_ ?_
           rotate_left
           ·
            intro w'
            go_simp
            with_reducible rfl
           rotate_left
           ·
            simp only [Act.put, List.setIfInBounds_toArray, List.set_cons_zero, List.set_cons_succ, i64_w, i32_w]
            rfl
           refine take_ (i := 16) (N := some 85) (v := ?_) (a' := ?_) #[true, true, true, true, true, true, true, true, true, true, true, true, true, true, true, true, true, false, false, false, false] rfl rfl (take_ofW HT_.out HW_.out qq) (fun _ _ _ h => h) (Or.inl ⟨by rfl, ?_⟩) hHeld ?_ ?_
           rotate_left
           ·
            rintro w' ⟨s0, s1, s2, s3, s4, s5, s6⟩
            go_simp
            with_reducible rfl
           rotate_left
           ·
            simp only [Act.put, List.setIfInBounds_toArray, List.set_cons_zero, List.set_cons_succ, i64_w, i32_w]
            rfl
           refine one_ (i := 17) (N := some 86) #[true, true, true, true, true, true, true, true, true, true, true, true, true, true, true, true, true, true, false, false, false] rfl rfl (one_of HT_.out qq) (by decide) (fun K hK => ?_)
           refine value_ (w1 := ?_) (v := ?_) (by rfl) rfl ?_ ?_
           rotate_left 2
           ·
            go_simp
            constructor
            ·
             rfl
            ·
             rfl
           refine hK.out _ _ ⟨(blk_cell (blk_alloc BK1091.out _) 0).trans rfl, (blk_cell (blk_alloc BK1091.out _) 1).trans rfl, (blk_cell (blk_alloc BK1087.out _) 0).trans rfl, (blk_cell (blk_alloc BK1087.out _) 1).trans rfl, (World.cell?_alloc_lt _ _ _ (World.block_lt_of_cell? _ _ (hHeld.2.2.2.2.1))).trans (hHeld.2.2.2.2.1), (World.cell?_alloc_lt _ _ _ (World.block_lt_of_cell? _ _ (hHeld.2.2.2.2.2.1))).trans (hHeld.2.2.2.2.2.1), (World.cell?_alloc_lt _ _ _ (World.block_lt_of_cell? _ _ (hHeld.2.2.2.2.2.2))).trans (hHeld.2.2.2.2.2.2)⟩ (fun hHeld => ?_)
           clear hK K
           refine norm_ (a' := ?_) ?_ ?_
           rotate_left
           ·
            show Act.put _ (some 86) _ = _
            simp only [Act.put, List.setIfInBounds_toArray, List.set_cons_zero, List.set_cons_succ, i64_w, i32_w]
            rfl
           refine last_ (i := 18) (N := some 87) #[true, true, true, true, true, true, true, true, true, true, true, true, true, true, true, true, true, true, true, false, false] rfl rfl (one_of HT_.out qq) (by decide) (fun K hK => ?_)
           refine Kd.R_append_step k72 (w0 := w) w.heap.size (by rfl) (.tmp 70) (.tmp 86) 24 72 (.agg #[(.int .i64 0), (.int .i64 0), (.int .i64 0)]) 24 rfl Try.underlying24 info72 rfl (by decide) (by omega) u1092001 x1092001_1 (⟨(rd_T72 t1084 (ji30)).f0, (rd_T72 t1084 (ji30)).f1, (rd_T72 t1084 (ji30)).f2⟩ : S72) [.int .i64 ((rd_T72 t1084 (ji30)).f0), .int .i64 ((rd_T72 t1084 (ji30)).f1), .int .i64 ((rd_T72 t1084 (ji30)).f2)] (fun k_ => some k_ ≠ (.slice (some ad1092) t1084.length co14 : Value).ownBlock ∧ some k_ ≠ (.slice Ao45 y1094.length co45 : Value).ownBlock ∧ k_ ≠ gb1093) (fun _ => False) rfl rfl ?aP (fun _ hk => hk.elim) ?aF ?aO ?aB ?aS ?aL ?_
           (case aP => exact k72_mkM _ _ _ (⟨(rd_T72 t1084 (ji30)).f0, (rd_T72 t1084 (ji30)).f1, (rd_T72 t1084 (ji30)).f2⟩ : S72))
           (case aB => exact (qb))
           (case aF => exact (fun k_ hk => ⟨Kd.fresh' (Kd.R_lt (qr HO_1088001.out)) k_ hk, Kd.fresh' (Kd.R_lt (qr HO1096.out)) k_ hk, Kd.freshB (g := gb1093) (o := .cells #[.int .i64 ((rd_T72 t1084 x16_1).f0), .int .i64 ((rd_T72 t1084 x16_1).f1), .int .i64 ((rd_T72 t1084 x16_1).f2)] 72 (0, 0)) (qk BK1093.out) k_ hk⟩))
           (case aO => exact (qr HO_1092001.out))
           (case aS => exact (below_size (qb)))
           (case aL => have := LMc33.out; omega)
           intro v1100 w49 ho hb hg hat
           rw [← Ny1099.out] at ho
           have n0_ := Aside0.mk (Kd.R_after (ok := (fun k_ => some k_ ≠ (.slice Ao45 y1094.length co45 : Value).ownBlock ∧ k_ ≠ gb1093)) (by (with_reducible repeat (first | apply Kd.R_alloc | apply Kd.R_drewN | apply Kd.R_drew)); exact Kd.R_mono HO_1088001.out (fun _ hk => ⟨⟨hk.2.1, hk.2.2⟩, hk.1⟩)) hg hat)
           have n1_ := Aside0.mk (blk_grown (g := gb1087) (o := .cells #[.int .i64 t1083, .slice (some ad1092) t1084.length co14] 26 (0, 0)) (qk BK1087.out) hg (Kd.R_ne HO_1092001.out BK1087.out (by decide)))
           have n2_ := Aside0.mk (blk_grown (g := gb1090) (o := .cells #[.int .i64 t1083, .slice Ao45 y1094.length co45] 26 (0, 0)) (qk BK1090.out) hg (Kd.R_ne HO_1092001.out BK1090.out (by decide)))
           have n3_ := Aside0.mk (blk_grown (g := gb1091) (o := .cells #[.int .i64 t1083, u1092001] 26 (0, 0)) (qk BK1091.out) hg (Kd.R_ne HO_1092001.out BK1091.out (by decide)))
           have n4_ := Aside0.mk (blk_grown (g := gb1093) (o := .cells #[.int .i64 ((rd_T72 t1084 x16_1).f0), .int .i64 ((rd_T72 t1084 x16_1).f1), .int .i64 ((rd_T72 t1084 x16_1).f2)] 72 (0, 0)) (qk BK1093.out) hg (Kd.R_away HO_1092001.out (fun _ hk => hk.2.2)))
           have n5_ := Aside0.mk (Kd.R_after (ok := (fun k_ => some k_ ≠ (.slice (some ad1092) t1084.length co14 : Value).ownBlock ∧ k_ ≠ gb1093)) (by (with_reducible repeat (first | apply Kd.R_alloc | apply Kd.R_drewN | apply Kd.R_drew)); exact Kd.R_mono HO1096.out (fun _ hk => ⟨⟨hk.1, hk.2.2⟩, hk.2.1⟩)) hg hat)
           have n6_ := Aside0.mk (hb)
           have n7_ := Aside0.mk (ho)
           clear HO_1088001
           clear BK1087
           clear BK1090
           clear BK1091
           clear BK1093
           clear HO1096
           clear HB
           clear HO_1092001
           have HO_1088001 := n0_
           have BK1087 := n1_
           have BK1090 := n2_
           have BK1091 := n3_
           have BK1093 := n4_
           have HO1096 := n5_
           have HB := n6_
           have HO1101 := n7_
           clear n0_ n1_ n2_ n3_ n4_ n5_ n6_ n7_
           clear ho hb hg hat
           obtain ⟨Ao50, co50, eo50⟩ := Kd.R_slice HO1101.out
           (first | subst eo50 | (injection eo50 with f1_ f2_ f3_; have f4_ := f1_.symm; have f5_ := f3_.symm; clear f1_ f2_ f3_; subst f4_; subst f5_))
           refine hK.out _ _ ?_
           clear hK K
           refine norm_ (a' := ?_) ?_ ?_
           rotate_left
           ·
            show Act.put _ (some 87) _ = _
            simp only [Act.put, List.setIfInBounds_toArray, List.set_cons_zero, List.set_cons_succ, i64_w, i32_w]
            rfl
           refine pure_ (i := 19) (N := some 88) (v := ?_) (a' := ?_) #[true, true, true, true, true, true, true, true, true, true, true, true, true, true, true, true, true, true, true, true, false] rfl rfl (any_of HT_.out qq) (fun _ _ _ h => h) (Or.inl ⟨by rfl, ?_⟩) ?_ ?_
           rotate_left
           ·
            intro w'
            go_simp
            with_reducible rfl
           rotate_left
           ·
            simp only [Act.put, List.setIfInBounds_toArray, List.set_cons_zero, List.set_cons_succ, i64_w, i32_w]
            rfl
           refine last_ (i := 20) (N := none) #[true, true, true, true, true, true, true, true, true, true, true, true, true, true, true, true, true, true, true, true, true] rfl rfl (one_of HT_.out qq) (by decide) (fun K hK => ?_)
           have hs51 : w49.cell? ⟨gb1091, 1, none⟩ = some (u1092001) := (blk_cell BK1091.out 1).trans rfl
           have hfs51 := blk_frozen BK1091.out 1
           have hns51_0 := NB1087_1091.out
           have hns51_1 := NB1090_1091.out
           have hns51_3 := NB1093_1091.out
           have hms51_0 := NB1091_1087.out
           have hms51_1 := NB1091_1090.out
           have hms51_3 := NB1091_1093.out
           refine skip_ (w1 := ?_) (by rfl) rfl ?_ ?_
           rotate_left
           ·
            go_simp
            rfl
           refine hK.out _ _ ?_
           clear hK K
           refine done_ (done_of HT_.out qq) ?_
           try go_wp2
           go_roundg k1
           case measure => have := HK1.out; omega
           case rel => exact ⟨(wrap64 (x16_1 + 1)), (y1094), (y1099), (.slice Ao45 y1094.length co45), (.slice Ao50 y1099.length co50), (by first | rfl | (simp; done) | (simp [*]; done)), H', ⟨by have := HK1.out; omega⟩, ⟨by (with_reducible repeat (first | apply Kd.R_alloc | apply Kd.R_drewN | apply Kd.R_drew)); exact Kd.R_mono (Kd.R_far (p := ⟨gb1091, 1, none⟩) (Kd.R_types HO_1088001.out BK1091.out (by decide)) (fun _ hk => hk.2) (.slice Ao50 y1099.length co50)) (fun _ hk => ⟨hk.1.1.1, hk.1.2⟩)⟩, ⟨by (with_reducible repeat (first | apply Kd.R_alloc | apply Kd.R_drewN | apply Kd.R_drew)); exact Kd.R_mono (Kd.R_far (p := ⟨gb1091, 1, none⟩) (Kd.R_types HO1096.out BK1091.out (by decide)) (fun _ hk => hk.2) (.slice Ao50 y1099.length co50)) (fun _ hk => ⟨hk.1.1.1, hk.1.2⟩)⟩, ⟨by (with_reducible repeat (first | apply Kd.R_alloc | apply Kd.R_drewN | apply Kd.R_drew)); exact Kd.R_mono (Kd.R_far (p := ⟨gb1091, 1, none⟩) (Kd.R_types HO1101.out BK1091.out (by decide)) (fun _ hk => hk.2) (.slice Ao50 y1099.length co50)) (fun _ hk => ⟨hk.1.1, hk.1.2.1⟩)⟩, ⟨by (with_reducible repeat (first | refine blk_drewN ?_ _ | refine blk_drew ?_ | refine blk_alloc ?_ _)); refine blk_far ?_ NB1087_1091.out _; (with_reducible repeat (first | refine blk_drewN ?_ _ | refine blk_drew ?_ | refine blk_alloc ?_ _)); exact BK1087.out⟩, ⟨by (with_reducible repeat (first | refine blk_drewN ?_ _ | refine blk_drew ?_ | refine blk_alloc ?_ _)); refine blk_far ?_ NB1090_1091.out _; (with_reducible repeat (first | refine blk_drewN ?_ _ | refine blk_drew ?_ | refine blk_alloc ?_ _)); exact BK1090.out⟩, ⟨by (with_reducible repeat (first | refine blk_drewN ?_ _ | refine blk_drew ?_ | refine blk_alloc ?_ _)); refine blk_put (cs := #[.int .i64 t1083, u1092001]) ?_ 1 _ rfl; (with_reducible repeat (first | refine blk_drewN ?_ _ | refine blk_drew ?_ | refine blk_alloc ?_ _)); exact BK1091.out⟩, ⟨qb⟩⟩
          ·
           rw [if_neg c33] at H
           exact absurd H (by simp)
         ·
          rw [if_neg c32] at H
          exact absurd H (by simp)
        ·
         rw [if_neg c31] at H
         exact absurd H (by simp)
      ·
       rw [if_neg c27] at H
       exact absurd H (by simp)
     ·
      rw [if_neg c26] at H
      exact absurd H (by simp)
    ·
     rw [if_neg c25] at H
     have c25b0 : decide (x16_1 < (t1084.length : Int)) = false := decide_eq_false c25
     clear c25
     replace H := Option.bind_eq_some_iff.mp H
     obtain ⟨⟨t1102, t1103, t1104⟩, A520, H⟩ := H
     (try dsimp only at H)
     have A52 := Aside0.mk A520
     clear A520
     by_cases c53 : t1104 = true
     ·
      subst c53
      rw [if_pos rfl] at H
      replace H := Option.bind_eq_some_iff.mp H
      obtain ⟨⟨t1105, t1106, t1107⟩, A540, H⟩ := H
      (try dsimp only at H)
      have A54 := Aside0.mk A540
      clear A540
      by_cases c55 : t1107 = true
      ·
       subst c55
       rw [if_pos rfl] at H
       replace H := Option.bind_eq_some_iff.mp H
       obtain ⟨⟨t1108, t1109, t1110⟩, A560, H⟩ := H
       (try dsimp only at H)
       have A56 := Aside0.mk A560
       clear A560
       by_cases c57 : t1110 = true
       ·
        subst c57
        rw [if_pos rfl] at H
        by_cases c58 : t1102 = t1105
        ·
         rw [if_pos c58] at H
         obtain ⟨c58b0, c58b1⟩ := qt c58
         clear c58
         by_cases c59 : t1102 = t1108
         ·
          rw [if_pos c59] at H
          obtain ⟨c59b0, c59b1⟩ := qt c59
          clear c59
          obtain rfl := Option.some.inj H
          have hnb60 := NB1087_1090.out
          have hnc60 := NB1090_1087.out
          have hnb61 := NB1087_1091.out
          have hnc61 := NB1091_1087.out
          obtain ⟨hcz62_0, hcz62_1, hfz62_0, hfz62_1⟩ := qc2 BK1087.out
          go_wp2_with (first | ((with_reducible refine gate_callee (f := 51) rfl ?_); refine goesL_ (some 93) rfl rfl Try.func51 qq rfl #[.agg #[.int .i64 t1083, .slice Ao14 t1084.length co14], .int .i64 t1088, .int .i64 t1089] rfl qa ?_; (with_reducible refine (dialtonelaw27_greatest.calls k1 t1083 _ _ t1084 t1088 t1089 t1102 t1103 true _ ?side1 ?side2 A52.out).mono ?_); (case side1 => exact qC (Kd.R_reads' HO_1088001.out).2.2); (case side2 => exact (Kd.R_reads' HO_1088001.out).2.1); rintro e w63 ⟨rfl, hb⟩; refine ⟨_, rfl, ?_⟩; replace HO_1088001 := qR HO_1088001 hb; replace HO_1091001 := qR HO_1091001 hb; replace HO_1092001 := qR HO_1092001 hb; replace BK1087 := qB BK1087 hb; replace BK1090 := qB BK1090 hb; replace BK1091 := qB BK1091 hb; replace HB := qS HB hb; (try clear hb); (try clear hb2); (try clear hk); (try clear hi); have hnb64 := NB1090_1091.out; have hnc64 := NB1091_1090.out; obtain ⟨hcz65_0, hcz65_1, hfz65_0, hfz65_1⟩ := qc2 BK1090.out; obtain ⟨Ao66, co66, eo66⟩ := Kd.R_slice HO_1091001.out; subst eo66) | ((with_reducible refine gate_callee (f := 51) rfl ?_); refine goesL_ (some 101) rfl rfl Try.func51 qq rfl #[.agg #[.int .i64 t1083, .slice Ao66 x1091001_1.length co66], .int .i64 t1089, .int .i64 t1088] rfl qa ?_; (with_reducible refine (dialtonelaw27_greatest.calls k1 t1083 _ _ x1091001_1 t1089 t1088 t1105 t1106 true _ ?side1 ?side2 A54.out).mono ?_); (case side1 => exact qC (Kd.R_reads' HO_1091001.out).2.2); (case side2 => exact (Kd.R_reads' HO_1091001.out).2.1); rintro e w67 ⟨rfl, hb⟩; refine ⟨_, rfl, ?_⟩; replace HO_1088001 := qR HO_1088001 hb; replace HO_1091001 := qR HO_1091001 hb; replace HO_1092001 := qR HO_1092001 hb; replace BK1087 := qB BK1087 hb; replace BK1090 := qB BK1090 hb; replace BK1091 := qB BK1091 hb; replace HB := qS HB hb; (try clear hb); (try clear hb2); (try clear hk); (try clear hi); obtain ⟨hcz68_0, hcz68_1, hfz68_0, hfz68_1⟩ := qc2 BK1091.out; obtain ⟨Ao69, co69, eo69⟩ := Kd.R_slice HO_1092001.out; subst eo69) | ((with_reducible refine gate_callee (f := 51) rfl ?_); refine goesL_ (some 109) rfl rfl Try.func51 qq rfl #[.agg #[.int .i64 t1083, .slice Ao69 x1092001_1.length co69], .int .i64 t1088, .int .i64 t1089] rfl qa ?_; (with_reducible refine (dialtonelaw27_greatest.calls k1 t1083 _ _ x1092001_1 t1088 t1089 t1108 t1109 true _ ?side1 ?side2 A56.out).mono ?_); (case side1 => exact qC (Kd.R_reads' HO_1092001.out).2.2); (case side2 => exact (Kd.R_reads' HO_1092001.out).2.1); rintro e w70 ⟨rfl, hb⟩; refine ⟨_, rfl, ?_⟩; replace HO_1088001 := qR HO_1088001 hb; replace HO_1091001 := qR HO_1091001 hb; replace HO_1092001 := qR HO_1092001 hb; replace BK1087 := qB BK1087 hb; replace BK1090 := qB BK1090 hb; replace BK1091 := qB BK1091 hb; replace HB := qS HB hb; (try clear hb); (try clear hb2); (try clear hk); (try clear hi)))
          go_ret
          exact ⟨qe, qb⟩
         ·
          rw [if_neg c59] at H
          obtain ⟨c59b0, c59b1⟩ := qf c59
          obtain rfl := Option.some.inj H
          have hnb71 := NB1087_1090.out
          have hnc71 := NB1090_1087.out
          have hnb72 := NB1087_1091.out
          have hnc72 := NB1091_1087.out
          obtain ⟨hcz73_0, hcz73_1, hfz73_0, hfz73_1⟩ := qc2 BK1087.out
          go_wp2_with (first | ((with_reducible refine gate_callee (f := 51) rfl ?_); refine goesL_ (some 93) rfl rfl Try.func51 qq rfl #[.agg #[.int .i64 t1083, .slice Ao14 t1084.length co14], .int .i64 t1088, .int .i64 t1089] rfl qa ?_; (with_reducible refine (dialtonelaw27_greatest.calls k1 t1083 _ _ t1084 t1088 t1089 t1102 t1103 true _ ?side1 ?side2 A52.out).mono ?_); (case side1 => exact qC (Kd.R_reads' HO_1088001.out).2.2); (case side2 => exact (Kd.R_reads' HO_1088001.out).2.1); rintro e w74 ⟨rfl, hb⟩; refine ⟨_, rfl, ?_⟩; replace HO_1088001 := qR HO_1088001 hb; replace HO_1091001 := qR HO_1091001 hb; replace HO_1092001 := qR HO_1092001 hb; replace BK1087 := qB BK1087 hb; replace BK1090 := qB BK1090 hb; replace BK1091 := qB BK1091 hb; replace HB := qS HB hb; (try clear hb); (try clear hb2); (try clear hk); (try clear hi); have hnb75 := NB1090_1091.out; have hnc75 := NB1091_1090.out; obtain ⟨hcz76_0, hcz76_1, hfz76_0, hfz76_1⟩ := qc2 BK1090.out; obtain ⟨Ao77, co77, eo77⟩ := Kd.R_slice HO_1091001.out; subst eo77) | ((with_reducible refine gate_callee (f := 51) rfl ?_); refine goesL_ (some 101) rfl rfl Try.func51 qq rfl #[.agg #[.int .i64 t1083, .slice Ao77 x1091001_1.length co77], .int .i64 t1089, .int .i64 t1088] rfl qa ?_; (with_reducible refine (dialtonelaw27_greatest.calls k1 t1083 _ _ x1091001_1 t1089 t1088 t1105 t1106 true _ ?side1 ?side2 A54.out).mono ?_); (case side1 => exact qC (Kd.R_reads' HO_1091001.out).2.2); (case side2 => exact (Kd.R_reads' HO_1091001.out).2.1); rintro e w78 ⟨rfl, hb⟩; refine ⟨_, rfl, ?_⟩; replace HO_1088001 := qR HO_1088001 hb; replace HO_1091001 := qR HO_1091001 hb; replace HO_1092001 := qR HO_1092001 hb; replace BK1087 := qB BK1087 hb; replace BK1090 := qB BK1090 hb; replace BK1091 := qB BK1091 hb; replace HB := qS HB hb; (try clear hb); (try clear hb2); (try clear hk); (try clear hi); obtain ⟨hcz79_0, hcz79_1, hfz79_0, hfz79_1⟩ := qc2 BK1091.out; obtain ⟨Ao80, co80, eo80⟩ := Kd.R_slice HO_1092001.out; subst eo80) | ((with_reducible refine gate_callee (f := 51) rfl ?_); refine goesL_ (some 109) rfl rfl Try.func51 qq rfl #[.agg #[.int .i64 t1083, .slice Ao80 x1092001_1.length co80], .int .i64 t1088, .int .i64 t1089] rfl qa ?_; (with_reducible refine (dialtonelaw27_greatest.calls k1 t1083 _ _ x1092001_1 t1088 t1089 t1108 t1109 true _ ?side1 ?side2 A56.out).mono ?_); (case side1 => exact qC (Kd.R_reads' HO_1092001.out).2.2); (case side2 => exact (Kd.R_reads' HO_1092001.out).2.1); rintro e w81 ⟨rfl, hb⟩; refine ⟨_, rfl, ?_⟩; replace HO_1088001 := qR HO_1088001 hb; replace HO_1091001 := qR HO_1091001 hb; replace HO_1092001 := qR HO_1092001 hb; replace BK1087 := qB BK1087 hb; replace BK1090 := qB BK1090 hb; replace BK1091 := qB BK1091 hb; replace HB := qS HB hb; (try clear hb); (try clear hb2); (try clear hk); (try clear hi)))
          go_ret
          exact ⟨qe, qb⟩
        ·
         rw [if_neg c58] at H
         obtain ⟨c58b0, c58b1⟩ := qf c58
         obtain rfl := Option.some.inj H
         have hnb82 := NB1087_1090.out
         have hnc82 := NB1090_1087.out
         have hnb83 := NB1087_1091.out
         have hnc83 := NB1091_1087.out
         obtain ⟨hcz84_0, hcz84_1, hfz84_0, hfz84_1⟩ := qc2 BK1087.out
         go_wp2_with (first | ((with_reducible refine gate_callee (f := 51) rfl ?_); refine goesL_ (some 93) rfl rfl Try.func51 qq rfl #[.agg #[.int .i64 t1083, .slice Ao14 t1084.length co14], .int .i64 t1088, .int .i64 t1089] rfl qa ?_; (with_reducible refine (dialtonelaw27_greatest.calls k1 t1083 _ _ t1084 t1088 t1089 t1102 t1103 true _ ?side1 ?side2 A52.out).mono ?_); (case side1 => exact qC (Kd.R_reads' HO_1088001.out).2.2); (case side2 => exact (Kd.R_reads' HO_1088001.out).2.1); rintro e w85 ⟨rfl, hb⟩; refine ⟨_, rfl, ?_⟩; replace HO_1088001 := qR HO_1088001 hb; replace HO_1091001 := qR HO_1091001 hb; replace HO_1092001 := qR HO_1092001 hb; replace BK1087 := qB BK1087 hb; replace BK1090 := qB BK1090 hb; replace BK1091 := qB BK1091 hb; replace HB := qS HB hb; (try clear hb); (try clear hb2); (try clear hk); (try clear hi); have hnb86 := NB1090_1091.out; have hnc86 := NB1091_1090.out; obtain ⟨hcz87_0, hcz87_1, hfz87_0, hfz87_1⟩ := qc2 BK1090.out; obtain ⟨Ao88, co88, eo88⟩ := Kd.R_slice HO_1091001.out; subst eo88) | ((with_reducible refine gate_callee (f := 51) rfl ?_); refine goesL_ (some 101) rfl rfl Try.func51 qq rfl #[.agg #[.int .i64 t1083, .slice Ao88 x1091001_1.length co88], .int .i64 t1089, .int .i64 t1088] rfl qa ?_; (with_reducible refine (dialtonelaw27_greatest.calls k1 t1083 _ _ x1091001_1 t1089 t1088 t1105 t1106 true _ ?side1 ?side2 A54.out).mono ?_); (case side1 => exact qC (Kd.R_reads' HO_1091001.out).2.2); (case side2 => exact (Kd.R_reads' HO_1091001.out).2.1); rintro e w89 ⟨rfl, hb⟩; refine ⟨_, rfl, ?_⟩; replace HO_1088001 := qR HO_1088001 hb; replace HO_1091001 := qR HO_1091001 hb; replace HO_1092001 := qR HO_1092001 hb; replace BK1087 := qB BK1087 hb; replace BK1090 := qB BK1090 hb; replace BK1091 := qB BK1091 hb; replace HB := qS HB hb; (try clear hb); (try clear hb2); (try clear hk); (try clear hi); obtain ⟨hcz90_0, hcz90_1, hfz90_0, hfz90_1⟩ := qc2 BK1091.out; obtain ⟨Ao91, co91, eo91⟩ := Kd.R_slice HO_1092001.out; subst eo91) | ((with_reducible refine gate_callee (f := 51) rfl ?_); refine goesL_ (some 109) rfl rfl Try.func51 qq rfl #[.agg #[.int .i64 t1083, .slice Ao91 x1092001_1.length co91], .int .i64 t1088, .int .i64 t1089] rfl qa ?_; (with_reducible refine (dialtonelaw27_greatest.calls k1 t1083 _ _ x1092001_1 t1088 t1089 t1108 t1109 true _ ?side1 ?side2 A56.out).mono ?_); (case side1 => exact qC (Kd.R_reads' HO_1092001.out).2.2); (case side2 => exact (Kd.R_reads' HO_1092001.out).2.1); rintro e w92 ⟨rfl, hb⟩; refine ⟨_, rfl, ?_⟩; replace HO_1088001 := qR HO_1088001 hb; replace HO_1091001 := qR HO_1091001 hb; replace HO_1092001 := qR HO_1092001 hb; replace BK1087 := qB BK1087 hb; replace BK1090 := qB BK1090 hb; replace BK1091 := qB BK1091 hb; replace HB := qS HB hb; (try clear hb); (try clear hb2); (try clear hk); (try clear hi)))
         go_ret
         exact ⟨qe, qb⟩
       ·
        replace c57 := Bool.eq_false_iff.mpr c57
        subst c57
        rw [if_neg (show ¬ (false = true) by decide)] at H
        exact absurd H (by simp)
      ·
       replace c55 := Bool.eq_false_iff.mpr c55
       subst c55
       rw [if_neg (show ¬ (false = true) by decide)] at H
       exact absurd H (by simp)
     ·
      replace c53 := Bool.eq_false_iff.mpr c53
      subst c53
      rw [if_neg (show ¬ (false = true) by decide)] at H
      exact absurd H (by simp)
 ·
  replace c7 := Bool.eq_false_iff.mpr c7
  subst c7
  rw [if_neg (show ¬ (false = true) by decide)] at H
  exact absurd H (by simp)

end Go.Proofs.Ytkkakdpncogpkaa.D
end
