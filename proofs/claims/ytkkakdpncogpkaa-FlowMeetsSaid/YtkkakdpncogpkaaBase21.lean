/- Parts of the proof of a law about flows (see the law's own text): HFlowMax. Conditions: each theorem's own. -/
import Derived.Test.YtkkakdpncogpkaaBase14
import Derived.Test.YtkkakdpncogpkaaBase17
section
/- The contract of flow.Max. Conditions: the contract's own. -/
namespace Go.Proofs.Ytkkakdpncogpkaa.D
open Go.RowKit Go.Proofs.YtkkakdpncogpkaaW.PrintWords Go.Proofs.YtkkakdpncogpkaaW.PrintLast Go.Proofs.YtkkakdpncogpkaaW.PrintMore
set_option linter.unusedVariables false
set_option linter.unusedSimpArgs false
set_option maxRecDepth 100000 in
set_option maxHeartbeats 4000000 in
theorem flow_Max.calls (a0_0 : Int) (A0_1 : Option Addr) (c0_1 : Nat) (l0_1 : List (S72)) (a1 : Int) (a2 : Int) (r1 : List Int) (r2 : Int) (r3 : Int) (w : World) (hr0_1 : Kd.C k72 w A0_1 l0_1.length l0_1) (hc0_1 : l0_1.length ≤ c0_1) (h : flow_Max.f a0_0 l0_1 a1 a2 = some (r1, r2, r3)) :
    Calls Try.prog 29 #[.agg #[.int .i64 a0_0, .slice A0_1 l0_1.length c0_1], .int .i64 a1, .int .i64 a2] w fun e w' => ∃ v0_ : Value, e = .returned (.tuple #[v0_, .int .i64 r2, .int .i64 r3]) ∧ Kd.R (Kd.int .i64) 3 w' w.heap.size (fun _ => True) v0_ r1 ∧ Below w.heap.size w w' := by
  have hu26 := Try.underlying26
  have HR := Aside0.mk hr0_1
  have HL := Aside0.mk hc0_1
  clear hr0_1 hc0_1
  have P := Aside0.mk (isPair_f a0_0 l0_1 a1 a2)
  unfold flow_Max.f at h
  cases hp : pairB a0_0 l0_1 a1 a2 with
  | false =>
    rw [hp] at h P
    simp only [Bool.false_eq_true, if_false, Option.some.injEq, Prod.mk.injEq] at h
    obtain ⟨rfl, rfl, rfl⟩ := h
    go_enter Try.func29, Try.ntmps29
    go_wp2_with (first | ((with_reducible refine gate_dst (N := 3) rfl ?_); refine box_event ?hg (N := 3) ?hd (cs := #[.int .i64 a0_0, .slice A0_1 l0_1.length c0_1]) (t := 26) ?hr ?_; (case hd => rfl); (case hg => rfl); (case hr => first | (go_simp; done) | (go_simp; rfl)); intro g2 hg2 w2 hbox hb; have B2 := Aside0.mk hbox; have HB2 := Aside0.mk hb; have c0 : w2.cell? ⟨g2, 0, none⟩ = some (.int .i64 a0_0) := (blk_cell hbox 0).trans rfl; have c1 : w2.cell? ⟨g2, 1, none⟩ = some (.slice A0_1 l0_1.length c0_1) := (blk_cell hbox 1).trans rfl; clear hbox hb hg2) | (go_at_call 73; refine (flow_isPair.calls a0_0 A0_1 c0_1 l0_1 a1 a2 false w2 (Kd.C_below HR.out HB2.out) HL.out P.out).mono ?_; rintro e w3 ⟨rfl, hb3⟩; have HB3 := Aside0.mk (below_step HB2.out hb3); clear hb3 c0 c1))
    go_ret3
    exact ⟨_, rfl, Kd.R_nil _ _ _ _ _, HB3.out⟩
  | true =>
    rw [hp] at h P
    simp only [if_true] at h
    obtain ⟨⟨rv, rr, rm⟩, hf, he⟩ := Option.bind_eq_some_iff.mp h
    simp only [Option.some.injEq, Prod.mk.injEq] at he
    obtain ⟨rfl, rfl, rfl⟩ := he
    have hq := pairB_iff.mp hp
    have hv := validB_iff.mp hq.1
    obtain ⟨s, rfl⟩ := Int.eq_ofNat_of_zero_le hq.2.1.1
    obtain ⟨t, rfl⟩ := Int.eq_ofNat_of_zero_le hq.2.2.1.1
    have hs : s < 14 := by omega
    have ht : t < 14 := by omega
    have hn : a0_0 ≤ 12 := hv.1.2
    have hl : l0_1.length ≤ 40 := hv.2.1
    have HV := Aside0.mk (fun k hk => valid_at hq.1 k hk)
    have F := Aside0.mk hf
    clear h hp hq hv hf
    go_enter Try.func29, Try.ntmps29
    go_wp2_with (first | ((with_reducible refine gate_dst (N := 3) rfl ?_); refine box_event ?hg (N := 3) ?hd (cs := #[.int .i64 a0_0, .slice A0_1 l0_1.length c0_1]) (t := 26) ?hr ?_; (case hd => rfl); (case hg => rfl); (case hr => first | (go_simp; done) | (go_simp; rfl)); intro g2 hg2 w2 hbox hb; have B2 := Aside0.mk hbox; have HB2 := Aside0.mk hb; have c0 : w2.cell? ⟨g2, 0, none⟩ = some (.int .i64 a0_0) := (blk_cell hbox 0).trans rfl; have c1 : w2.cell? ⟨g2, 1, none⟩ = some (.slice A0_1 l0_1.length c0_1) := (blk_cell hbox 1).trans rfl; clear hbox hb hg2) | (go_at_call 73; refine (flow_isPair.calls a0_0 A0_1 c0_1 l0_1 s t true w2 (Kd.C_below HR.out HB2.out) HL.out P.out).mono ?_; rintro e w3 ⟨rfl, hb3⟩; have HB3 := Aside0.mk (below_step HB2.out hb3); have B3 := Aside0.mk (blk_below B2.out hb3); have d0 : w3.cell? ⟨g2, 0, none⟩ = some (.int .i64 a0_0) := (blk_cell B3.out 0).trans rfl; have d1 : w3.cell? ⟨g2, 1, none⟩ = some (.slice A0_1 l0_1.length c0_1) := (blk_cell B3.out 1).trans rfl; clear hb3 c0 c1) | (go_at_call 74; refine (open_calls a0_0 l0_1 A0_1 c0_1 w3 hn hl HV.out (Kd.C_below HR.out HB3.out)).mono ?_; rintro e w4 ⟨gm, rfl, hge, hm, hb4⟩; have M4 := Aside0.mk hm; have GM := Aside0.mk (Nat.le_trans HB3.out.size hge); have HB4 := Aside0.mk (below_step HB3.out hb4); have B4 := Aside0.mk (blk_below B3.out hb4); have NE := Aside0.mk (blk_ne (blk_below B3.out hb4) hm (by decide)); clear hb4 hm hge d0 d1) | (go_at_call 75; refine (matrix_push s t hs ht gm 400001 (openM l0_1) rv rr rm w4 M4.out (openM_length _) F.out).mono ?_; rintro e w5 ⟨rfl, hm, hx⟩; have M5 := Aside0.mk hm; have HB5 := Aside0.mk (HB4.out.trans (hx.below HB4.out.size GM.out)); have B5 := Aside0.mk (hx.blk B4.out (blk_lt B4.out) NE.out); have f0 : w5.cell? ⟨g2, 0, none⟩ = some (.int .i64 a0_0) := (blk_cell B5.out 0).trans rfl; have f1 : w5.cell? ⟨g2, 1, none⟩ = some (.slice A0_1 l0_1.length c0_1) := (blk_cell B5.out 1).trans rfl; clear hm hx) | (go_at_call 76; refine (amounts_calls a0_0 l0_1 A0_1 c0_1 gm rm w5 hn hl HV.out (Kd.C_below HR.out HB5.out) M5.out ((pushF_length _ _ _ _ _ _ _ _ F.out).trans (openM_length _)) (openM_length _)).mono ?_; rintro e w6 ⟨v6, rfl, hr, hb6⟩; have R6 := Aside0.mk (Kd.R_lower hr HB5.out.size); have HB6 := Aside0.mk (below_step HB5.out hb6); clear hr hb6))
    go_ret3
    exact ⟨_, rfl, R6.out, HB6.out⟩
end Go.Proofs.Ytkkakdpncogpkaa.D
end
