/- Parts of the proof of a law about flows (see the law's own text): HFlowValid. Conditions: each theorem's own. -/
import Derived.Test.YtkkakdpncogpkaaBase7
import Derived.Test.YtkkakdpncogpkaaBase6
section
namespace Go.Proofs.Ytkkakdpncogpkaa.D
open Go.RowKit Go.Proofs.YtkkakdpncogpkaaW.PrintWords Go.Proofs.YtkkakdpncogpkaaW.PrintLast Go.Proofs.YtkkakdpncogpkaaW.PrintMore
set_option linter.unusedVariables false
set_option linter.unusedSimpArgs false

theorem isIn_some (a b c : Int) : flow_isIn.f a b c = some (decide (b ≤ a) && decide (a ≤ c)) := by
  unfold flow_isIn.f
  by_cases h : b ≤ a <;> simp [h]

set_option maxHeartbeats 1000000 in
theorem valid_clo (n : Int) (hn : 0 ≤ n ∧ n ≤ 12) (x : Ed) (g : Nat) (s : Value) (W : World) (hb : W.heap[g]? = some (.cells #[.int .i64 n, s] 26 (0, 0))) :
    Calls Try.prog 70 #[.agg #[.int .i64 x.f0, .int .i64 x.f1, .int .i64 x.f2], .pointer (some ⟨g, 0, none⟩)] W fun e w' => e = .returned (.bool (!goodE n x)) ∧ Below W.heap.size W w' := by
  have hu26 := Try.underlying26
  have hu72 := Try.underlying72
  obtain ⟨h0, h12⟩ := hn
  have hw : wrap64 (n - 1) = n - 1 := by unfold wrap64; omega
  have i1 := isIn_some x.f0 0 (n - 1)
  have i2 := isIn_some x.f1 0 (n - 1)
  have i3 := isIn_some x.f2 0 10000
  have B0 := Aside0.mk hb
  clear hb
  generalize hg1 : (decide (0 ≤ x.f0) && decide (x.f0 ≤ n - 1)) = b1 at i1
  generalize hg2 : (decide (0 ≤ x.f1) && decide (x.f1 ≤ n - 1)) = b2 at i2
  generalize hg3 : (decide (0 ≤ x.f2) && decide (x.f2 ≤ 10000)) = b3 at i3
  have hgood : goodE n x = (b1 && b2 && decide (x.f0 ≠ x.f1) && b3) := by unfold goodE; rw [hg1, hg2, hg3]
  have HG := Aside0.mk hgood
  have I1 := Aside0.mk i1
  have I2 := Aside0.mk i2
  have I3 := Aside0.mk i3
  clear hgood i1 i2 i3 hg1 hg2 hg3
  have hu3 := Try.underlying3
  by_cases hne : x.f0 = x.f1
  all_goals
    have e1 : (x.f0 == x.f1) = decide (x.f0 = x.f1) := rfl
    simp only [hne, decide_true, decide_false] at e1
    cases b1 <;> cases b2 <;> cases b3
  all_goals
    go_enter Try.func70, Try.ntmps70
    go_wp2_with (first | ((with_reducible refine gate_dst (N := 2) rfl ?_); refine box_event ?hg (N := 2) ?hd (cs := #[.int .i64 x.f0, .int .i64 x.f1, .int .i64 x.f2]) (t := 72) ?hr ?_; (case hd => rfl); (case hg => rfl); (case hr => first | (go_simp; done) | (go_simp; rfl)); intro g2 hg w2 hbox hb; have c0 : w2.cell? ⟨g2, 0, none⟩ = some (.int .i64 x.f0) := (blk_cell hbox 0).trans rfl; have c1 : w2.cell? ⟨g2, 1, none⟩ = some (.int .i64 x.f1) := (blk_cell hbox 1).trans rfl; have c2 : w2.cell? ⟨g2, 2, none⟩ = some (.int .i64 x.f2) := (blk_cell hbox 2).trans rfl; have cn : w2.cell? ⟨g, 0, none⟩ = some (.int .i64 n) := (blk_cell (blk_below B0.out hb) 0).trans rfl; have HB := Aside0.mk hb; clear hbox hb hg) | ((go_at_call 69; with_reducible refine (flow_isIn.calls _ _ _ _ _ I1.out).mono ?_); rintro e w' ⟨rfl, ⟨nd, rfl⟩⟩) | ((go_at_call 69; with_reducible refine (flow_isIn.calls _ _ _ _ _ I2.out).mono ?_); rintro e w' ⟨rfl, ⟨nd, rfl⟩⟩) | ((go_at_call 69; with_reducible refine (flow_isIn.calls _ _ _ _ _ I3.out).mono ?_); rintro e w' ⟨rfl, ⟨nd, rfl⟩⟩))
    go_ret
    refine ⟨by rw [HG.out]; simp [hne], ?_⟩
    repeat (first | exact HB.out | apply pw_below_drewN)

/-- What IndexFunc answers to 'is there a bad edge'. -/
def IdxPost (b : Bool) (w : World) (e : Ending) (w' : World) : Prop := ∃ r : Int, e = .returned (.int .i64 r) ∧ decide (0 ≤ r) = !b ∧ Below w.heap.size w w'

theorem all_upto (n : Int) (l : List Ed) (h : ∀ j : Nat, j < l.length → goodE n (rd_T72 l j) = true) : l.all (goodE n) = true := by
  rw [List.all_eq_true]
  intro x hx
  obtain ⟨j, hj, rfl⟩ := List.mem_iff_getElem.mp hx
  have := h j hj
  simpa [rd_T72, List.getD, hj] using this
theorem all_bad (n : Int) (l : List Ed) (j : Nat) (hj : j < l.length) (h : goodE n (rd_T72 l j) = false) : l.all (goodE n) = false := by
  rw [List.all_eq_false]
  refine ⟨l[j], List.getElem_mem hj, ?_⟩
  have e : rd_T72 l j = l[j] := by simp [rd_T72, List.getD, hj]
  rw [e] at h
  simp [h]

set_option maxRecDepth 100000 in
set_option maxHeartbeats 2000000 in
theorem valid_idx (n : Int) (hn : 0 ≤ n ∧ n ≤ 12) (l : List Ed) (A : Option Addr) (c : Nat) (g : Nat) (s : Value) (w : World) (hm : l.length ≤ 40)
    (hr : Kd.C k72 w A l.length l) (hb : w.heap[g]? = some (.cells #[.int .i64 n, s] 26 (0, 0))) :
    Calls Try.prog 108 #[.slice A l.length c, .func (.func 70) #[] #[.pointer (some ⟨g, 0, none⟩)]] w (IdxPost (l.all (goodE n)) w) := by
  have hu72 := Try.underlying72
  have HR := Aside0.mk hr
  have B0 := Aside0.mk hb
  have HN := Aside0.mk hn
  have hmm : l.length ≤ 9223372036854775807 := by omega
  have eg : ∀ args w, (callFunc 70 args).run Try.prog w = .ok (.enter 70 args) w := fun args w => enters_ Try.func70 (by kernel_rfl) rfl args w
  clear hr hb hn hm
  go_enter Try.func108, Try.ntmps108
  go_wp2
  go_loopg [5, 8] l.length (fun gg _ s8 wr => ∃ kk : Nat, kk ≤ l.length ∧ l.length - kk ≤ gg ∧ s8 = .int .i64 kk ∧ Aside0 (Below w.heap.size w wr) ∧ Aside0 (∀ j : Nat, j < kk → goodE n (rd_T72 l j) = true))
  case atStart => exact ⟨0, Nat.zero_le _, by omega, rfl, ⟨Below.refl _ w⟩, ⟨fun j hj => absurd hj (Nat.not_lt_zero _)⟩⟩
  case round =>
    obtain ⟨kk, hkk, hg, rfl, BW, AA⟩ := hrel
    by_cases hlt : kk < l.length
    · have hltz : (kk : Int) < (l.length : Int) := by omega
      obtain ⟨ad, ea, hx0, hx1, hx2⟩ := at_T72 HR.out (kk : Int) (by omega) (by omega)
      cases ea
      simp only [Int.toNat_natCast] at hx0 hx1 hx2
      replace hx0 := (BW.out.cell (World.block_lt_of_cell? w _ hx0)).trans hx0
      replace hx1 := (BW.out.cell (World.block_lt_of_cell? w _ hx1)).trans hx1
      replace hx2 := (BW.out.cell (World.block_lt_of_cell? w _ hx2)).trans hx2
      have hcall := valid_clo n HN.out (rd_T72 l kk) g s wr (blk_below B0.out BW.out)
      have HC := Aside0.mk hcall
      clear hcall
      cases hq : goodE n (rd_T72 l kk) with
      | true =>
        have Q := Aside0.mk hq
        rw [hq] at HC
        clear hq
        go_wp2_with (go_at_call 70; refine HC.out.mono ?_; rintro e w' ⟨rfl, hb'⟩)
        go_roundg (l.length - (kk + 1))
        case measure => omega
        case rel =>
          refine ⟨kk + 1, by omega, by omega, by go_num, ⟨below_step BW.out hb'⟩, ⟨fun j hj => ?_⟩⟩
          by_cases e : j = kk
          · subst e; exact Q.out
          · exact AA.out j (by omega)
      | false =>
        have Q := Aside0.mk hq
        rw [hq] at HC
        clear hq
        go_wp2_with (go_at_call 70; refine HC.out.mono ?_; rintro e w' ⟨rfl, hb'⟩)
        go_ret
        exact ⟨_, rfl, by rw [all_bad n l kk hlt Q.out]; simp, below_step BW.out hb'⟩
    · have hltz : ¬ (kk : Int) < (l.length : Int) := by omega
      go_wp2
      go_ret
      exact ⟨_, rfl, by rw [all_upto n l (fun j hj => AA.out j (by omega))]; rfl, BW.out⟩

set_option maxRecDepth 100000 in
set_option maxHeartbeats 2000000 in
theorem valid_con (n : Int) (hn : 0 ≤ n ∧ n ≤ 12) (l : List Ed) (A : Option Addr) (c : Nat) (g : Nat) (s : Value) (w : World) (hm : l.length ≤ 40)
    (hr : Kd.C k72 w A l.length l) (hb : w.heap[g]? = some (.cells #[.int .i64 n, s] 26 (0, 0))) :
    Calls Try.prog 71 #[.slice A l.length c, .func (.func 70) #[] #[.pointer (some ⟨g, 0, none⟩)]] w fun e w' => e = .returned (.bool (!l.all (goodE n))) ∧ Below w.heap.size w w' := by
  have HC := Aside0.mk (valid_idx n hn l A c g s w hm hr hb)
  generalize l.all (goodE n) = b at HC ⊢
  clear hr hb hn hm
  go_enter Try.func71, Try.ntmps71
  go_wp2_with (go_at_call 108; refine HC.out.mono ?_; rintro e w' ⟨r, rfl, hr, hb⟩; have HR := Aside0.mk hr; clear hr)
  go_ret
  exact ⟨by rw [HR.out]; rfl, hb⟩

set_option maxRecDepth 100000 in
set_option maxHeartbeats 2000000 in
theorem flow_Valid.calls (a0_0 : Int) (A0_1 : Option Addr) (c0_1 : Nat) (l0_1 : List (S72)) (r : Bool) (w : World) (hr0_1 : Kd.C k72 w A0_1 l0_1.length l0_1) (hc0_1 : l0_1.length ≤ c0_1) (h : flow_Valid.f a0_0 l0_1 = some r) :
    Calls Try.prog 27 #[.agg #[.int .i64 a0_0, .slice A0_1 l0_1.length c0_1]] w fun e w' => e = .returned (.bool r) ∧ Below w.heap.size w w' := by
  have hu26 := Try.underlying26
  have HR := Aside0.mk hr0_1
  have HB := Aside0.mk (Below.refl w.heap.size w)
  have H := Aside0.mk (Option.some.inj h)
  have I := Aside0.mk (isIn_some a0_0 0 12)
  clear hr0_1 hc0_1 h
  by_cases h1 : 0 ≤ a0_0 ∧ a0_0 ≤ 12
  · have e1 : (decide (0 ≤ a0_0) && decide (a0_0 ≤ 12)) = true := by simp [h1.1, h1.2]
    rw [e1] at I
    by_cases h2 : l0_1.length ≤ 40
    · have e2 : decide (l0_1.length ≤ 40) = true := decide_eq_true h2
      have hv : r = l0_1.all (goodE a0_0) := by rw [← H.out]; unfold validB; rw [e1, e2]; rfl
      have HV := Aside0.mk hv
      have HN := Aside0.mk h1
      have H2 := Aside0.mk h2
      clear hv h1 H e1 e2
      have t1 : decide ((l0_1.length : Int) > 40) = false := by simp; omega
      have t2 : decide (40 < l0_1.length) = false := by simp; omega
      clear h2
      go_enter Try.func27, Try.ntmps27
      go_wp2_with (first | ((with_reducible refine gate_dst (N := 1) rfl ?_); refine box_event ?hg (N := 1) ?hd (cs := #[.int .i64 a0_0, .slice A0_1 l0_1.length c0_1]) (t := 26) ?hr ?_; (case hd => rfl); (case hg => rfl); (case hr => first | (go_simp; done) | (go_simp; rfl)); intro g2 hg w2 hbox hb; have BX := Aside0.mk hbox; have HB2 := Aside0.mk hb; have c0 : w2.cell? ⟨g2, 0, none⟩ = some (.int .i64 a0_0) := (blk_cell hbox 0).trans rfl; have c1 : w2.cell? ⟨g2, 1, none⟩ = some (.slice A0_1 l0_1.length c0_1) := (blk_cell hbox 1).trans rfl; clear hbox hb hg) | ((go_at_call 69; with_reducible refine (flow_isIn.calls _ _ _ _ _ I.out).mono ?_); rintro e w' ⟨rfl, ⟨nd, rfl⟩⟩) | (go_at_call 71; refine (valid_con a0_0 HN.out l0_1 A0_1 c0_1 g2 _ _ H2.out (Kd.C_drewN (Kd.C_below HR.out HB2.out) _) (blk_drewN BX.out _)).mono ?_; rintro e w3 ⟨rfl, hb3⟩; have HB3 := Aside0.mk (below_step (pw_below_drewN HB2.out _) hb3); clear hb3))
      go_ret
      exact ⟨by rw [HV.out]; simp, HB3.out⟩
    · have e2 : decide (l0_1.length ≤ 40) = false := decide_eq_false h2
      have hv : r = false := by rw [← H.out]; unfold validB; rw [e1, e2]; rfl
      subst hv
      clear h1 H e1 e2
      have t1 : decide ((l0_1.length : Int) > 40) = true := by simp; omega
      have t2 : decide (40 < l0_1.length) = true := by simp; omega
      clear h2
      go_enter Try.func27, Try.ntmps27
      go_wp2_with (first | ((with_reducible refine gate_dst (N := 1) rfl ?_); refine box_event ?hg (N := 1) ?hd (cs := #[.int .i64 a0_0, .slice A0_1 l0_1.length c0_1]) (t := 26) ?hr ?_; (case hd => rfl); (case hg => rfl); (case hr => first | (go_simp; done) | (go_simp; rfl)); intro g2 hg w2 hbox hb; have BX := Aside0.mk hbox; have HB2 := Aside0.mk hb; have c0 : w2.cell? ⟨g2, 0, none⟩ = some (.int .i64 a0_0) := (blk_cell hbox 0).trans rfl; have c1 : w2.cell? ⟨g2, 1, none⟩ = some (.slice A0_1 l0_1.length c0_1) := (blk_cell hbox 1).trans rfl; clear hbox hb hg) | ((go_at_call 69; with_reducible refine (flow_isIn.calls _ _ _ _ _ I.out).mono ?_); rintro e w' ⟨rfl, ⟨nd, rfl⟩⟩))
      go_ret
      exact ⟨rfl, pw_below_drewN HB2.out _⟩
  · have e1 : (decide (0 ≤ a0_0) && decide (a0_0 ≤ 12)) = false := by simp only [Bool.and_eq_false_iff, decide_eq_false_iff_not]; omega
    rw [e1] at I
    have hv : r = false := by rw [← H.out]; unfold validB; rw [e1]; rfl
    subst hv
    clear h1 H e1
    go_enter Try.func27, Try.ntmps27
    go_wp2_with (first | ((with_reducible refine gate_dst (N := 1) rfl ?_); refine box_event ?hg (N := 1) ?hd (cs := #[.int .i64 a0_0, .slice A0_1 l0_1.length c0_1]) (t := 26) ?hr ?_; (case hd => rfl); (case hg => rfl); (case hr => first | (go_simp; done) | (go_simp; rfl)); intro g2 hg w2 hbox hb; have BX := Aside0.mk hbox; have HB2 := Aside0.mk hb; have c0 : w2.cell? ⟨g2, 0, none⟩ = some (.int .i64 a0_0) := (blk_cell hbox 0).trans rfl; have c1 : w2.cell? ⟨g2, 1, none⟩ = some (.slice A0_1 l0_1.length c0_1) := (blk_cell hbox 1).trans rfl; clear hbox hb hg) | ((go_at_call 69; with_reducible refine (flow_isIn.calls _ _ _ _ _ I.out).mono ?_); rintro e w' ⟨rfl, ⟨nd, rfl⟩⟩))
    go_ret
    exact ⟨rfl, pw_below_drewN HB2.out _⟩
end Go.Proofs.Ytkkakdpncogpkaa.D
end
