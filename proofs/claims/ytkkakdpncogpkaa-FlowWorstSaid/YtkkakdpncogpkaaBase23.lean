/- Parts of the proof of a law about flows (see the law's own text): HFlowMeet. Conditions: each theorem's own. -/
import Derived.Test.YtkkakdpncogpkaaBase14
import Derived.Test.YtkkakdpncogpkaaBase17
section
/- The contract of flow.Meet. Conditions: the contract's own. -/
namespace Go.Proofs.Ytkkakdpncogpkaa.D
open Go.RowKit Go.Proofs.YtkkakdpncogpkaaW.PrintWords Go.Proofs.YtkkakdpncogpkaaW.PrintLast Go.Proofs.YtkkakdpncogpkaaW.PrintMore
set_option linter.unusedVariables false
set_option linter.unusedSimpArgs false
theorem put3 {w : World} {g t : Nat} {a b c : Value} (h : w.heap[g]? = some (.cells #[a, b, c] t (0, 0))) (x y z : Value) : (((w.setCell ⟨g, 0, none⟩ x).setCell ⟨g, 1, none⟩ y).setCell ⟨g, 2, none⟩ z).heap[g]? = some (.cells #[x, y, z] t (0, 0)) :=
  blk_put (cs := #[x, y, c]) (blk_put (cs := #[x, b, c]) (blk_put (cs := #[a, b, c]) h 0 _ rfl) 1 _ rfl) 2 _ rfl
theorem mSet12 (m : List Int) (k : Nat) (v : Int) : mSet m 12 k v = m.set (168 + k) v := by
  rw [mSet, show ((12 : Int) * 14 + k).toNat = 168 + k by omega]
theorem mSet13 (m : List Int) (k : Nat) (v : Int) : mSet m k 13 v = m.set (k * 14 + 13) v := by
  rw [mSet, show ((k : Int) * 14 + 13).toNat = k * 14 + 13 by omega]
theorem supply_at {n : Int} {es : List Ed} {l : List Int} (h : supplyB n es l = true) : validB n es = true ∧ (l.length : Int) = n ∧ (∀ x, x ∈ l → -100000 ≤ x ∧ x ≤ 100000) ∧ sumL l = 0 := by
  simp only [supplyB, Bool.and_eq_true, decide_eq_true_eq, List.all_eq_true] at h
  exact ⟨h.1.1.1, h.1.1.2, fun x hx => h.1.2 x hx, h.2⟩
theorem mask2 (x : Int) (n : Nat) (hx : 0 ≤ x ∧ x < 16384) (hn : n ≤ 62) : Go.bits .and .i64 x (wrap64 (wrap64 (2 ^ n) - 1)) = x % 2 ^ n := by
  have h1 := pow_bound (show n ≤ 62 from hn)
  have h2 := pow_pos2 n
  rw [wrap64_small (x := 2 ^ n) (by omega) (by omega), wrap64_small (by omega) (by omega), and_mask x n hx.1 (by omega) hn]
set_option maxRecDepth 100000 in
set_option maxHeartbeats 4000000 in
theorem flow_Meet.calls (a0_0 : Int) (A0_1 : Option Addr) (c0_1 : Nat) (l0_1 : List (S72)) (A1 : Option Addr) (c1 : Nat) (l1 : List Int) (r1 : Bool) (r2 : List Int) (r3 : Int) (r4 : Int) (w : World) (hr0_1 : Kd.C k72 w A0_1 l0_1.length l0_1) (hc0_1 : l0_1.length ≤ c0_1) (hr1 : Kd.C (Kd.int .i64) w A1 l1.length l1) (hc1 : l1.length ≤ c1) (h : flow_Meet.f a0_0 l0_1 l1 = some (r1, r2, r3, r4)) :
    Calls Try.prog 46 #[.agg #[.int .i64 a0_0, .slice A0_1 l0_1.length c0_1], .slice A1 l1.length c1] w fun e w' => ∃ v1_ : Value, e = .returned (.tuple #[.agg #[.bool r1, v1_, .int .i64 r3], .int .i64 r4]) ∧ Kd.R (Kd.int .i64) 3 w' w.heap.size (fun _ => True) v1_ r2 ∧ Below w.heap.size w w' := by
  have hu26 := Try.underlying26
  have hu55 := Try.underlying55
  have HR := Aside0.mk hr0_1
  have HL := Aside0.mk hc0_1
  have HS := Aside0.mk hr1
  have HSL := Aside0.mk hc1
  clear hr0_1 hc0_1 hr1 hc1
  have P := Aside0.mk (isSupply_f a0_0 l0_1 l1)
  unfold flow_Meet.f at h
  cases hp : supplyB a0_0 l0_1 l1 with
  | false =>
    rw [hp] at h P
    simp only [Bool.false_eq_true, if_false, Option.some.injEq, Prod.mk.injEq] at h
    obtain ⟨rfl, rfl, rfl, rfl⟩ := h
    go_enter Try.func46, Try.ntmps46
    go_wp2_with (first | ((with_reducible refine gate_dst (N := 2) rfl ?_); refine box_event ?hg (N := 2) ?hd (cs := #[.int .i64 a0_0, .slice A0_1 l0_1.length c0_1]) (t := 26) ?hr ?_; (case hd => rfl); (case hg => rfl); (case hr => first | (go_simp; done) | (go_simp; rfl)); intro g2 hg2 w2 hbox hb; have B2 := Aside0.mk hbox; have HB2 := Aside0.mk hb; have c0 : w2.cell? ⟨g2, 0, none⟩ = some (.int .i64 a0_0) := (blk_cell hbox 0).trans rfl; have c1 : w2.cell? ⟨g2, 1, none⟩ = some (.slice A0_1 l0_1.length c0_1) := (blk_cell hbox 1).trans rfl; clear hbox hb hg2) | ((with_reducible refine gate_dst (N := 4) rfl ?_); refine box_event ?hg (N := 4) ?hd (cs := #[.bool false, .slice none 0 0, .int .i64 0]) (t := 55) ?hr ?_; (case hd => rfl); (case hg => rfl); (case hr => first | (go_simp; done) | (go_simp; rfl)); intro g4 hg4 w4 hbox hb; have G4 := Aside0.mk (Nat.le_trans HB2.out.size (Nat.le_of_eq hg4.symm)); have B4 := Aside0.mk hbox; have HB4 := Aside0.mk (below_step HB2.out hb); have d0 : w4.cell? ⟨g2, 0, none⟩ = some (.int .i64 a0_0) := (blk_cell (blk_below B2.out hb) 0).trans rfl; have d1 : w4.cell? ⟨g2, 1, none⟩ = some (.slice A0_1 l0_1.length c0_1) := (blk_cell (blk_below B2.out hb) 1).trans rfl; clear hbox hb hg4 c0 c1) | (go_at_call 90; refine (flow_isSupply.calls 14 a0_0 A0_1 c0_1 l0_1 A1 _ l1 false w4 (Kd.C_below HR.out HB4.out) HL.out (Kd.C_below HS.out HB4.out) HSL.out P.out).mono ?_; rintro e w5 ⟨rfl, hb5⟩; have HB5 := Aside0.mk (below_step HB4.out hb5); have B5 := Aside0.mk (blk_below B4.out hb5); have e0 : w5.cell? ⟨g4, 0, none⟩ = some (.bool false) := (blk_cell B5.out 0).trans rfl; have e1 : w5.cell? ⟨g4, 1, none⟩ = some (.slice none 0 0) := (blk_cell B5.out 1).trans rfl; have e2 : w5.cell? ⟨g4, 2, none⟩ = some (.int .i64 0) := (blk_cell B5.out 2).trans rfl; have f0 := blk_frozen B5.out 0; have f1 := blk_frozen B5.out 1; have f2 := blk_frozen B5.out 2; clear hb5 d0 d1))
    refine bodyPost_ret (results_ct rfl _ _ g4 55 #[.bool false, .slice none 0 0, .int .i64 0] (0, 0) _ rfl (put3 B5.out _ _ _) Try.underlying55 rfl (by kernel_rfl)) rfl ?_
    exact ⟨_, rfl, Kd.R_nil _ _ _ _ _, below_set (below_set (below_set HB5.out G4.out) G4.out) G4.out⟩
  | true =>
    rw [hp] at h P
    simp only [if_true] at h
    obtain ⟨⟨rv, rr, rm⟩, hf, he⟩ := Option.bind_eq_some_iff.mp h
    have hq := supply_at hp
    have hv := validB_iff.mp hq.1
    obtain ⟨n, rfl⟩ := Int.eq_ofNat_of_zero_le hv.1.1
    have hn : (n : Int) ≤ 12 := hv.1.2
    have hl12 : l1.length ≤ 12 := by have := hq.2.1; omega
    have hl : l0_1.length ≤ 40 := hv.2.1
    have HV := Aside0.mk (fun k hk => valid_at hq.1 k hk)
    have F := Aside0.mk hf
    have HE := Aside0.mk he
    have HX := Aside0.mk hq.2.2.1
    have RRB := Aside0.mk (pushF_reach _ _ _ _ _ _ _ _ hf)
    clear h hp hq hv hf he
    go_enter Try.func46, Try.ntmps46
    go_wp2_with (first | ((with_reducible refine gate_dst (N := 2) rfl ?_); refine box_event ?hg (N := 2) ?hd (cs := #[.int .i64 n, .slice A0_1 l0_1.length c0_1]) (t := 26) ?hr ?_; (case hd => rfl); (case hg => rfl); (case hr => first | (go_simp; done) | (go_simp; rfl)); intro g2 hg2 w2 hbox hb; have B2 := Aside0.mk hbox; have HB2 := Aside0.mk hb; have c0 : w2.cell? ⟨g2, 0, none⟩ = some (.int .i64 n) := (blk_cell hbox 0).trans rfl; have c1 : w2.cell? ⟨g2, 1, none⟩ = some (.slice A0_1 l0_1.length c0_1) := (blk_cell hbox 1).trans rfl; clear hbox hb hg2) | ((with_reducible refine gate_dst (N := 4) rfl ?_); refine box_event ?hg (N := 4) ?hd (cs := #[.bool false, .slice none 0 0, .int .i64 0]) (t := 55) ?hr ?_; (case hd => rfl); (case hg => rfl); (case hr => first | (go_simp; done) | (go_simp; rfl)); intro g4 hg4 w4 hbox hb; have G4 := Aside0.mk (Nat.le_trans HB2.out.size (Nat.le_of_eq hg4.symm)); have B4 := Aside0.mk hbox; have B2' := Aside0.mk (blk_below B2.out hb); have HB4 := Aside0.mk (below_step HB2.out hb); have d0 : w4.cell? ⟨g2, 0, none⟩ = some (.int .i64 n) := (blk_cell (blk_below B2.out hb) 0).trans rfl; have d1 : w4.cell? ⟨g2, 1, none⟩ = some (.slice A0_1 l0_1.length c0_1) := (blk_cell (blk_below B2.out hb) 1).trans rfl; clear hbox hb hg4 c0 c1) | (go_at_call 90; refine (flow_isSupply.calls 14 n A0_1 c0_1 l0_1 A1 _ l1 true w4 (Kd.C_below HR.out HB4.out) HL.out (Kd.C_below HS.out HB4.out) HSL.out P.out).mono ?_; rintro e w5 ⟨rfl, hb5⟩; have HB5 := Aside0.mk (below_step HB4.out hb5); have B5 := Aside0.mk (blk_below B4.out hb5); have B5' := Aside0.mk (blk_below B2'.out hb5); have e0 : w5.cell? ⟨g2, 0, none⟩ = some (.int .i64 n) := (blk_cell B5'.out 0).trans rfl; have e1 : w5.cell? ⟨g2, 1, none⟩ = some (.slice A0_1 l0_1.length c0_1) := (blk_cell B5'.out 1).trans rfl; clear hb5 d0 d1) | (go_at_call 74; refine (open_calls n l0_1 A0_1 c0_1 w5 hn hl HV.out (Kd.C_below HR.out HB5.out)).mono ?_; rintro e w6 ⟨gm, rfl, hge, hm, hb6⟩; have M6 := Aside0.mk hm; have GM := Aside0.mk (Nat.le_trans HB5.out.size hge); have HB6 := Aside0.mk (below_step HB5.out hb6); have B6 := Aside0.mk (blk_below B5.out hb6); have B6' := Aside0.mk (blk_below B5'.out hb6); have NE := Aside0.mk (blk_ne B6'.out hm (by decide)); have NE4 := Aside0.mk (blk_ne B6.out hm (by decide)); clear hb6 hm hge e0 e1))
    go_loopg [7, 21] l1.length (fun gg v7 v21 wr => ∃ (k : Nat) (a : Int) (mk : List Int), k ≤ l1.length ∧ l1.length - k ≤ gg ∧ v21 = .int .i64 k ∧ v7 = .int .i64 a ∧ Aside0 (supM (l1.drop k) k mk = supM l1 0 (openM l0_1)) ∧ Aside0 (a + posSum (l1.drop k) = posSum l1 ∧ 0 ≤ a ∧ a ≤ 100000 * k) ∧ Aside0 (mk.length = 196) ∧ Aside0 (wr.heap[gm]? = some (.cells (cellsI mk) 154 (0, 0))) ∧ Aside0 (wr.heap[g2]? = some (.cells #[.int .i64 n, .slice A0_1 l0_1.length c0_1] 26 (0, 0))) ∧ Aside0 (wr.heap[g4]? = some (.cells #[.bool false, .slice none 0 0, .int .i64 0] 55 (0, 0))) ∧ Aside0 (Below w.heap.size w wr))
    case atStart => exact ⟨0, 0, openM l0_1, by omega, by omega, rfl, rfl, ⟨rfl⟩, ⟨⟨by simp, by omega, by omega⟩⟩, ⟨openM_length _⟩, M6, B6', B6, HB6⟩
    case round =>
      obtain ⟨k, a, mk, hk, hgk, rfl, rfl, HSM, HPS, HML, M7, B7', B7, HB7⟩ := hrel
      by_cases hlt : k < l1.length
      · have hltz : (k : Int) < (l1.length : Int) := by omega
        have hk14 : k < 14 := by omega
        obtain ⟨ad, ea, hx0⟩ := Kd.at_int (Kd.C_below HS.out HB7.out) (k : Int) (by omega) (by omega)
        cases ea
        simp only [Int.toNat_natCast] at hx0
        have ex : rd l1 (k : Int) = l1[k] := by simp [rd, hlt]
        have hxb := HX.out l1[k] (List.getElem_mem hlt)
        rw [ex] at hx0
        have hdk : l1.drop k = l1[k] :: l1.drop (k + 1) := List.drop_eq_getElem_cons hlt
        have HSM' := HSM.out
        have HPS' := HPS.out
        rw [hdk, supM] at HSM'
        rw [hdk, posSum] at HPS'
        generalize l1[k] = x at *
        clear ex hdk
        by_cases hx : 0 < x
        · rw [if_pos hx, mSet12] at HSM'
          rw [if_pos hx] at HPS'
          have HSM'' := Aside0.mk HSM'
          have HPS'' := Aside0.mk HPS'
          have y1 : wr.cell? ⟨gm, 168 + k, none⟩ = some (.int .i64 (mk.getD (168 + k) 0)) := row_cell M7.out (168 + k) (by rw [HML.out]; omega)
          have y1f : wr.frozen? ⟨gm, 168 + k, none⟩ = false := blk_frozen M7.out _
          clear HSM' HPS'
          go_wp2
          go_roundg (l1.length - (k + 1))
          case measure => omega
          case rel =>
            have hps := HPS''.out
            exact ⟨k + 1, a + x, mk.set (168 + k) x, by omega, by omega, by go_num, by rw [wrap64_small (x := a + x) (by omega) (by omega)], HSM'', ⟨⟨by omega, by omega, by omega⟩⟩, ⟨by rw [List.length_set]; exact HML.out⟩, ⟨row_put M7.out _ _⟩, ⟨blk_far B7'.out NE.out _⟩, ⟨blk_far B7.out NE4.out _⟩, ⟨below_set HB7.out GM.out⟩⟩
        · rw [if_neg hx, mSet13] at HSM'
          rw [if_neg hx] at HPS'
          have HSM'' := Aside0.mk HSM'
          have HPS'' := Aside0.mk HPS'
          have y1 : wr.cell? ⟨gm, k * 14 + 13, none⟩ = some (.int .i64 (mk.getD (k * 14 + 13) 0)) := row_cell M7.out (k * 14 + 13) (by rw [HML.out]; omega)
          have y1f : wr.frozen? ⟨gm, k * 14 + 13, none⟩ = false := blk_frozen M7.out _
          clear HSM' HPS'
          go_wp2
          go_roundg (l1.length - (k + 1))
          case measure => omega
          case rel =>
            have hps := HPS''.out
            exact ⟨k + 1, a, mk.set (k * 14 + 13) (-x), by omega, by omega, by go_num, rfl, HSM'', ⟨⟨by omega, by omega, by omega⟩⟩, ⟨by rw [List.length_set]; exact HML.out⟩, ⟨by first | exact row_put M7.out _ _ | (rw [show wrap64 (-x) = -x from wrap64_small (by omega) (by omega)]; exact row_put M7.out _ _)⟩, ⟨blk_far B7'.out NE.out _⟩, ⟨blk_far B7.out NE4.out _⟩, ⟨below_set HB7.out GM.out⟩⟩
      · obtain rfl : k = l1.length := by omega
        have hsm := HSM.out
        have hps := HPS.out
        rw [List.drop_length] at hsm hps
        rw [supM] at hsm
        rw [posSum] at hps
        obtain rfl : mk = supM l1 0 (openM l0_1) := hsm
        obtain rfl : a = posSum l1 := by omega
        clear hps HSM HPS
        have he := HE.out
        replace he : (if rv < posSum l1 then some (false, ([] : List Int), rr % 2 ^ n, (0 : Int)) else some (true, amountsL l0_1 rm, 0, 0)) = some (r1, r2, r3, r4) := he
        have y0 : wr.cell? ⟨g2, 0, none⟩ = some (.int .i64 n) := (blk_cell B7'.out 0).trans rfl
        by_cases hlt2 : rv < posSum l1
        · rw [if_pos hlt2] at he
          simp only [Option.some.injEq, Prod.mk.injEq] at he
          obtain ⟨rfl, rfl, rfl, rfl⟩ := he
          go_wp2_with (first | (go_at_call 75; refine (matrix_push 12 13 (by decide) (by decide) gm 1200001 (supM l1 0 (openM l0_1)) rv rr rm wr M7.out (by rw [supM_length, openM_length]) F.out).mono ?_; rintro e w8 ⟨rfl, hm, hx⟩; have HB8 := Aside0.mk (HB7.out.trans (hx.below HB7.out.size GM.out)); have B8 := Aside0.mk (hx.blk B7'.out (blk_lt B7'.out) NE.out); have B84 := Aside0.mk (hx.blk B7.out (blk_lt B7.out) NE4.out); have z0 : w8.cell? ⟨g2, 0, none⟩ = some (.int .i64 n) := (blk_cell B8.out 0).trans rfl; have z1 : w8.cell? ⟨g2, 1, none⟩ = some (.slice A0_1 l0_1.length c0_1) := (blk_cell B8.out 1).trans rfl; have e0 : w8.cell? ⟨g4, 0, none⟩ = some (.bool false) := (blk_cell B84.out 0).trans rfl; have e1 : w8.cell? ⟨g4, 1, none⟩ = some (.slice none 0 0) := (blk_cell B84.out 1).trans rfl; have e2 : w8.cell? ⟨g4, 2, none⟩ = some (.int .i64 0) := (blk_cell B84.out 2).trans rfl; have f0 := blk_frozen B84.out 0; have f1 := blk_frozen B84.out 1; have f2 := blk_frozen B84.out 2; clear hm hx))
          refine bodyPost_ret (results_ct rfl _ _ g4 55 #[.bool false, .slice none 0 0, .int .i64 (rr % 2 ^ n)] (0, 0) _ rfl (by rw [mask2 rr n RRB.out (by omega)]; exact put3 B84.out _ _ _) Try.underlying55 rfl (by kernel_rfl)) rfl ?_
          exact ⟨_, rfl, Kd.R_nil _ _ _ _ _, below_set (below_set (below_set HB8.out G4.out) G4.out) G4.out⟩
        · rw [if_neg hlt2] at he
          have hltb : decide (rv < posSum l1) = false := decide_eq_false hlt2
          clear hlt2
          simp only [Option.some.injEq, Prod.mk.injEq] at he
          obtain ⟨rfl, rfl, rfl, rfl⟩ := he
          go_wp2_with (first | (go_at_call 75; refine (matrix_push 12 13 (by decide) (by decide) gm 1200001 (supM l1 0 (openM l0_1)) rv rr rm wr M7.out (by rw [supM_length, openM_length]) F.out).mono ?_; rintro e w8 ⟨rfl, hm, hx⟩; have HB8 := Aside0.mk (HB7.out.trans (hx.below HB7.out.size GM.out)); have B8 := Aside0.mk (hx.blk B7'.out (blk_lt B7'.out) NE.out); have B84 := Aside0.mk (hx.blk B7.out (blk_lt B7.out) NE4.out); have z0 : w8.cell? ⟨g2, 0, none⟩ = some (.int .i64 n) := (blk_cell B8.out 0).trans rfl; have z1 : w8.cell? ⟨g2, 1, none⟩ = some (.slice A0_1 l0_1.length c0_1) := (blk_cell B8.out 1).trans rfl; have e0 : w8.cell? ⟨g4, 0, none⟩ = some (.bool false) := (blk_cell B84.out 0).trans rfl; have e1 : w8.cell? ⟨g4, 1, none⟩ = some (.slice none 0 0) := (blk_cell B84.out 1).trans rfl; have e2 : w8.cell? ⟨g4, 2, none⟩ = some (.int .i64 0) := (blk_cell B84.out 2).trans rfl; have f0 := blk_frozen B84.out 0; have f1 := blk_frozen B84.out 1; have f2 := blk_frozen B84.out 2; have M8 := Aside0.mk hm; clear hm hx) | (go_at_call 76; refine (amounts_calls n l0_1 A0_1 c0_1 gm rm w8 hn hl HV.out (Kd.C_below HR.out HB8.out) M8.out ((pushF_length _ _ _ _ _ _ _ _ F.out).trans ((supM_length _ _ _).trans (openM_length _))) (openM_length _)).mono ?_; rintro e w9 ⟨v9, rfl, hr, hb9⟩; obtain ⟨A9, c9, rfl⟩ := Kd.R_slice hr; have R9 := Aside0.mk (Kd.R_lower hr HB8.out.size); have HB9 := Aside0.mk (below_step HB8.out hb9); have B94 := Aside0.mk (blk_below B84.out hb9); have E0 : w9.cell? ⟨g4, 0, none⟩ = some (.bool false) := (blk_cell B94.out 0).trans rfl; have E1 : w9.cell? ⟨g4, 1, none⟩ = some (.slice none 0 0) := (blk_cell B94.out 1).trans rfl; have E2 : w9.cell? ⟨g4, 2, none⟩ = some (.int .i64 0) := (blk_cell B94.out 2).trans rfl; have F0 := blk_frozen B94.out 0; have F1 := blk_frozen B94.out 1; have F2 := blk_frozen B94.out 2; clear hr hb9 e0 e1 e2 f0 f1 f2 z0 z1))
          refine bodyPost_ret (results_ct rfl _ _ g4 55 #[.bool true, .slice A9 (amountsL l0_1 rm).length c9, .int .i64 0] (0, 0) _ rfl (put3 B94.out _ _ _) Try.underlying55 rfl (by kernel_rfl)) rfl ?_
          exact ⟨_, rfl, Kd.R_mono (Kd.R_far (p := ⟨g4, 2, none⟩) (Kd.R_far (p := ⟨g4, 1, none⟩) (Kd.R_far (p := ⟨g4, 0, none⟩) (Kd.R_types R9.out B94.out (by decide)) (fun _ hk => hk.2) _) (fun _ hk => hk.2) _) (fun _ hk => hk.2) _) (fun _ _ => trivial), below_set (below_set (below_set HB9.out G4.out) G4.out) G4.out⟩
end Go.Proofs.Ytkkakdpncogpkaa.D
end
