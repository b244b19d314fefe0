/- Parts of the proof of a law about flows (see the law's own text): Fdialtoneref27BentList, Fdialtonelaw27FlowFails. Conditions: each theorem's own. -/
import Derived.Test.YtkkakdpncogpkaaBase5
import Derived.Test.YtkkakdpncogpkaaBase4
import Derived.Test.YtkkakdpncogpkaaBase6
import Derived.Test.YtkkakdpncogpkaaBase27
import Derived.Test.YtkkakdpncogpkaaBase28
import Derived.Test.YtkkakdpncogpkaaBase26
section
namespace Go.Proofs.Ytkkakdpncogpkaa.D
open Go.RowKit Go.Proofs.YtkkakdpncogpkaaW.PrintWords Go.Proofs.YtkkakdpncogpkaaW.PrintLast Go.Proofs.YtkkakdpncogpkaaW.PrintMore
attribute [local go_sem] max2_int min2_int max_two min_two max_three min_three max_four min_four   -- for this text's walks alone
set_option linter.unusedVariables false
set_option linter.unusedSimpArgs false

/-! ### dialtoneref27_BentList: function 33 -/
def dialtoneref27_BentList.f (l0 : List Int) (a1 : Int) (a2 : Int) (a3 : Int) : Option (List Int) := (some (([] : List Int) : List Int)).bind fun y338 => (if y338.length + l0.length < 17592186044416 then ((some (y338 ++ l0 : List Int)).bind fun y341 => (if (y341.length : Int) = 0 then (some (([a2] : List Int))) else ((dialtoneref27_pick.f a3 (y341.length : Int)).bind fun t347 => ((dialtoneref27_pick.f a1 4).bind fun t348 => (if t348 = 0 then (if 0 ≤ t347 then (if t347 < (y341.length : Int) then (some (y341.set (t347 : Int).toNat a2)) else (none)) else (none)) else (if t348 = 1 then (if 0 ≤ t347 then (if t347 < (y341.length : Int) then (some (y341.set (t347 : Int).toNat (wrap64 ((rd y341 t347) + 1)))) else (none)) else (none)) else (if t348 = 2 then (if 0 ≤ t347 then (if t347 < (y341.length : Int) then (some (y341.set (t347 : Int).toNat (wrap64 ((rd y341 t347) - 1)))) else (none)) else (none)) else (if y341.length < 17592186044416 then (some (y341 ++ [a2])) else (none))))))))) else (none))
set_option maxHeartbeats 8000000 in
set_option maxRecDepth 100000 in
theorem dialtoneref27_BentList.calls (A0 : Option Addr) (c0 : Nat) (l0 : List Int) (a1 : Int) (a2 : Int) (a3 : Int) (r : List Int) (w : World) (hr0 : Kd.C (Kd.int .i64) w A0 l0.length l0) (hc0 : l0.length ≤ c0) (h : dialtoneref27_BentList.f l0 a1 a2 a3 = some r) :
  Calls Try.prog 33 #[.slice A0 l0.length c0, .int .i64 a1, .int .i64 a2, .int .i64 a3] w fun e w' => ∃ v0_ : Value, e = .returned (v0_) ∧ Kd.R (Kd.int .i64) 3 w' w.heap.size (fun _ => True) v0_ r ∧ Below w.heap.size w w' := by
 have HR0 := Aside0.mk hr0
 have HC0 := Aside0.mk hc0
 clear hr0 hc0
 have HB := Aside0.mk (Below.refl w.heap.size w)
 have H : ((some (([] : List Int) : List Int)).bind fun y338 => (if y338.length + l0.length < 17592186044416 then ((some (y338 ++ l0 : List Int)).bind fun y341 => (if (y341.length : Int) = 0 then (some (([a2] : List Int))) else ((dialtoneref27_pick.f a3 (y341.length : Int)).bind fun t347 => ((dialtoneref27_pick.f a1 4).bind fun t348 => (if t348 = 0 then (if 0 ≤ t347 then (if t347 < (y341.length : Int) then (some (y341.set (t347 : Int).toNat a2)) else (none)) else (none)) else (if t348 = 1 then (if 0 ≤ t347 then (if t347 < (y341.length : Int) then (some (y341.set (t347 : Int).toNat (wrap64 ((rd y341 t347) + 1)))) else (none)) else (none)) else (if t348 = 2 then (if 0 ≤ t347 then (if t347 < (y341.length : Int) then (some (y341.set (t347 : Int).toNat (wrap64 ((rd y341 t347) - 1)))) else (none)) else (none)) else (if y341.length < 17592186044416 then (some (y341 ++ [a2])) else (none))))))))) else (none))) = some r := h
 clear h
 obtain ⟨y338, hy338⟩ : ∃ y_ : List Int, y_ = (([] : List Int)) := ⟨_, rfl⟩
 replace H : (if y338.length + l0.length < 17592186044416 then ((some (y338 ++ l0 : List Int)).bind fun y341 => (if (y341.length : Int) = 0 then (some (([a2] : List Int))) else ((dialtoneref27_pick.f a3 (y341.length : Int)).bind fun t347 => ((dialtoneref27_pick.f a1 4).bind fun t348 => (if t348 = 0 then (if 0 ≤ t347 then (if t347 < (y341.length : Int) then (some (y341.set (t347 : Int).toNat a2)) else (none)) else (none)) else (if t348 = 1 then (if 0 ≤ t347 then (if t347 < (y341.length : Int) then (some (y341.set (t347 : Int).toNat (wrap64 ((rd y341 t347) + 1)))) else (none)) else (none)) else (if t348 = 2 then (if 0 ≤ t347 then (if t347 < (y341.length : Int) then (some (y341.set (t347 : Int).toNat (wrap64 ((rd y341 t347) - 1)))) else (none)) else (none)) else (if y341.length < 17592186044416 then (some (y341 ++ [a2])) else (none))))))))) else (none)) = some r := by first | (rw [hy338]; with_reducible exact H) | (have H2_ := (Option.bind_some _ _).symm.trans H; rw [hy338]; with_reducible exact H2_) | (have H2_ := (Option.bind_some _ _).symm.trans H; with_reducible exact H2_) | with_reducible exact H | (rw [hy338]; exact H) | exact H
 have Ny338 := Aside0.mk hy338
 clear hy338
 by_cases c5 : y338.length + l0.length < 17592186044416
 ·
  rw [if_pos c5] at H
  have LMc5 := Aside0.mk c5
  clear c5
  obtain ⟨y341, hy341⟩ : ∃ y_ : List Int, y_ = (y338 ++ l0) := ⟨_, rfl⟩
  replace H : (if (y341.length : Int) = 0 then (some (([a2] : List Int))) else ((dialtoneref27_pick.f a3 (y341.length : Int)).bind fun t347 => ((dialtoneref27_pick.f a1 4).bind fun t348 => (if t348 = 0 then (if 0 ≤ t347 then (if t347 < (y341.length : Int) then (some (y341.set (t347 : Int).toNat a2)) else (none)) else (none)) else (if t348 = 1 then (if 0 ≤ t347 then (if t347 < (y341.length : Int) then (some (y341.set (t347 : Int).toNat (wrap64 ((rd y341 t347) + 1)))) else (none)) else (none)) else (if t348 = 2 then (if 0 ≤ t347 then (if t347 < (y341.length : Int) then (some (y341.set (t347 : Int).toNat (wrap64 ((rd y341 t347) - 1)))) else (none)) else (none)) else (if y341.length < 17592186044416 then (some (y341 ++ [a2])) else (none)))))))) = some r := by first | (rw [hy341]; with_reducible exact H) | (have H2_ := (Option.bind_some _ _).symm.trans H; rw [hy341]; with_reducible exact H2_) | (have H2_ := (Option.bind_some _ _).symm.trans H; with_reducible exact H2_) | with_reducible exact H | (rw [hy341]; exact H) | exact H
  have Ny341 := Aside0.mk hy341
  clear hy341
  by_cases c6 : (y341.length : Int) = 0
  ·
   rw [if_pos c6] at H
   obtain ⟨c6b0, c6b1⟩ := qt c6
   clear c6
   obtain ⟨y344, hy344⟩ : ∃ y_ : List Int, y_ = (([a2] : List Int)) := ⟨_, rfl⟩
   replace H : (some y344) = some r := by first | (rw [hy344]; with_reducible exact H) | (have H2_ := (Option.bind_some _ _).symm.trans H; rw [hy344]; with_reducible exact H2_) | (have H2_ := (Option.bind_some _ _).symm.trans H; with_reducible exact H2_) | with_reducible exact H | (rw [hy344]; exact H) | exact H
   have Ny344 := Aside0.mk hy344
   clear hy344
   obtain rfl := Option.some.inj H
   go_enter Try.func33, Try.ntmps33
   go_wp2_with (first | ((with_reducible refine gate_dst (N := 11) rfl ?_); refine Kd.R_lit (Kd.int .i64) _ 3 ?hg (N := 11) ?hd (xs := ([] : List Int)) (inner := []) (ok := fun _ => True) (okp := fun _ => True) ?hr ?hp (fun _ hk => hk) trivial (Below.refl _ _) (Nat.le_refl _) (by simp) ?_; (case hd => rfl); (case hg => rfl); (case hr => first | (go_simp; done) | (go_simp; rfl)); (case hp => exact (Reps.none _ _)); intro v339 w7 ho8 hb hg_ hnew_; clear hg_ hnew_; (first | rw [← Ny338.out] at ho8 | (simp only [Int.reduceToNat] at ho8; rw [← Ny338.out] at ho8)); have HO340 := Aside0.mk (Kd.R_lower ho8 (below_size (qb))); replace HB := qS HB hb; clear hb ho8) | ((with_reducible refine gate_builtin (b := .append) (xs := #[.tmp 11, .tmp 12]) rfl ?_); at_builtin; refine Kd.R_append_rows (Kd.int .i64) (w0 := w) w.heap.size rfl (.tmp 11) (.tmp 12) 27 3 (.int .i64 0) 8 rfl Try.underlying27 info3 rfl (by decide) (by omega) v339 y338 l0 _ _ _ (fun _ => True) (fun _ => False) rfl rfl ?aO ?aR (fun _ _ h => h) (fun _ h => h.elim) ?aF ?aB ?aS ?aL ?_; (case aR => exact qC (Kd.C_below HR0.out HB.out)); (case aB => exact (qb)); (case aF => exact (fun _ _ => trivial)); (case aO => exact (qr HO340.out)); (case aS => exact (below_size (qb))); (case aL => have := LMc5.out; omega); intro v342 w9 ho hb hg hat; rw [← Ny341.out] at ho; have n0_ := Aside0.mk (hb); have n1_ := Aside0.mk (ho); clear HB; clear HO340; have HB := n0_; have HO343 := n1_; clear n0_ n1_; clear ho hb hg hat; obtain ⟨Ao10, co10, eo10⟩ := Kd.R_slice HO343.out; subst eo10) | ((with_reducible refine gate_dst (N := 18) rfl ?_); refine Kd.R_lit (Kd.int .i64) _ 3 ?hg (N := 18) ?hd (xs := ([a2] : List Int)) (inner := [.int .i64 a2]) (ok := fun _ => True) (okp := fun _ => True) ?hr ?hp (fun _ hk => hk) trivial (Below.refl _ _) (Nat.le_refl _) (by simp) ?_; (case hd => rfl); (case hg => rfl); (case hr => first | (go_simp; done) | (go_simp; rfl)); (case hp => exact (Reps.one (show Kd.M (Kd.int .i64) _ _ _ a2 [.int .i64 a2] from rfl) (Reps.none _ _))); intro v345 w11 ho12 hb hg_ hnew_; clear hg_ hnew_; (first | rw [← Ny344.out] at ho12 | (simp only [Int.reduceToNat] at ho12; rw [← Ny344.out] at ho12)); have HO346 := Aside0.mk (Kd.R_lower (Kd.R_new' ho12 (Kd.R_lt (qr HO343.out))) (below_size (qb))); replace HO343 := Aside0.mk (Kd.R_elder' (qr HO343.out) (Kd.R_base ho12) hb); replace HB := qS HB hb; clear hb ho12))
   go_ret
   exact ⟨_, qe, by (with_reducible repeat (first | apply Kd.R_alloc | apply Kd.R_drewN | apply Kd.R_drew)); exact Kd.R_mono HO346.out (fun _ hk => trivial), qb⟩
  ·
   rw [if_neg c6] at H
   obtain ⟨c6b0, c6b1⟩ := qf c6
   have c6b2 : ¬ (y341 = []) := fun h_ => c6 (by rw [h_]; rfl)
   replace H := Option.bind_eq_some_iff.mp H
   obtain ⟨t347, A130, H⟩ := H
   (try dsimp only at H)
   have A13 := Aside0.mk A130
   clear A130
   replace H := Option.bind_eq_some_iff.mp H
   obtain ⟨t348, A140, H⟩ := H
   (try dsimp only at H)
   have A14 := Aside0.mk A140
   clear A140
   by_cases c15 : t348 = 0
   ·
    rw [if_pos c15] at H
    obtain ⟨c15b0, c15b1⟩ := qt c15
    clear c15
    by_cases c16 : 0 ≤ t347
    ·
     rw [if_pos c16] at H
     have c16b0 : decide (0 ≤ t347) = true := decide_eq_true c16
     clear c16
     by_cases c17 : t347 < (y341.length : Int)
     ·
      rw [if_pos c17] at H
      have c17b0 : decide (t347 < (y341.length : Int)) = true := decide_eq_true c17
      clear c17
      obtain ⟨y349, hy349⟩ : ∃ y_ : List Int, y_ = (y341.set (t347 : Int).toNat a2) := ⟨_, rfl⟩
      replace H : (some y349) = some r := by first | (rw [hy349]; with_reducible exact H) | (have H2_ := (Option.bind_some _ _).symm.trans H; rw [hy349]; with_reducible exact H2_) | (have H2_ := (Option.bind_some _ _).symm.trans H; with_reducible exact H2_) | with_reducible exact H | (rw [hy349]; exact H) | exact H
      have Ny349 := Aside0.mk hy349
      clear hy349
      obtain rfl := Option.some.inj H
      go_enter Try.func33, Try.ntmps33
      go_wp2_with (first | ((with_reducible refine gate_dst (N := 11) rfl ?_); refine Kd.R_lit (Kd.int .i64) _ 3 ?hg (N := 11) ?hd (xs := ([] : List Int)) (inner := []) (ok := fun _ => True) (okp := fun _ => True) ?hr ?hp (fun _ hk => hk) trivial (Below.refl _ _) (Nat.le_refl _) (by simp) ?_; (case hd => rfl); (case hg => rfl); (case hr => first | (go_simp; done) | (go_simp; rfl)); (case hp => exact (Reps.none _ _)); intro v339 w19 ho20 hb hg_ hnew_; clear hg_ hnew_; (first | rw [← Ny338.out] at ho20 | (simp only [Int.reduceToNat] at ho20; rw [← Ny338.out] at ho20)); have HO340 := Aside0.mk (Kd.R_lower ho20 (below_size (qb))); replace HB := qS HB hb; clear hb ho20) | ((with_reducible refine gate_builtin (b := .append) (xs := #[.tmp 11, .tmp 12]) rfl ?_); at_builtin; refine Kd.R_append_rows (Kd.int .i64) (w0 := w) w.heap.size rfl (.tmp 11) (.tmp 12) 27 3 (.int .i64 0) 8 rfl Try.underlying27 info3 rfl (by decide) (by omega) v339 y338 l0 _ _ _ (fun _ => True) (fun _ => False) rfl rfl ?aO ?aR (fun _ _ h => h) (fun _ h => h.elim) ?aF ?aB ?aS ?aL ?_; (case aR => exact qC (Kd.C_below HR0.out HB.out)); (case aB => exact (qb)); (case aF => exact (fun _ _ => trivial)); (case aO => exact (qr HO340.out)); (case aS => exact (below_size (qb))); (case aL => have := LMc5.out; omega); intro v342 w21 ho hb hg hat; rw [← Ny341.out] at ho; have n0_ := Aside0.mk (hb); have n1_ := Aside0.mk (ho); clear HB; clear HO340; have HB := n0_; have HO343 := n1_; clear n0_ n1_; clear ho hb hg hat; obtain ⟨Ao22, co22, eo22⟩ := Kd.R_slice HO343.out; subst eo22) | ((with_reducible refine gate_callee (f := 68) rfl ?_); refine goesL_ (some 22) rfl rfl Try.func68 qq rfl #[.int .i64 a3, .int .i64 (y341.length : Int)] rfl qa ?_; (with_reducible refine (dialtoneref27_pick.calls a3 (y341.length : Int) t347 _ A13.out).mono ?_); rintro e w' ⟨rfl, ⟨nd, rfl⟩⟩; refine ⟨_, rfl, ?_⟩; (try (rw [drewN_self w21]; generalize hq_ : World.drewN w21 _ = w21; have n0_ : Aside0 (Kd.R (Kd.int .i64) 3 w21 w.heap.size (fun _ => True) (.slice Ao22 y341.length co22) y341) := ⟨by rw [← hq_]; exact (qr HO343.out)⟩; have n1_ : Aside0 (Below w.heap.size w w21) := ⟨by rw [← hq_]; exact (qb)⟩; clear HO343 HB hq_; have HO343 := n0_; have HB := n1_; clear n0_ n1_))) | ((with_reducible refine gate_callee (f := 68) rfl ?_); refine goesL_ (some 24) rfl rfl Try.func68 qq rfl #[.int .i64 a1, .int .i64 4] rfl qa ?_; (with_reducible refine (dialtoneref27_pick.calls a1 4 t348 _ A14.out).mono ?_); rintro e w' ⟨rfl, ⟨nd, rfl⟩⟩; refine ⟨_, rfl, ?_⟩; (try (rw [drewN_self w21]; generalize hq_ : World.drewN w21 _ = w21; have n0_ : Aside0 (Kd.R (Kd.int .i64) 3 w21 w.heap.size (fun _ => True) (.slice Ao22 y341.length co22) y341) := ⟨by rw [← hq_]; exact (qr HO343.out)⟩; have n1_ : Aside0 (Below w.heap.size w w21) := ⟨by rw [← hq_]; exact (qb)⟩; clear HO343 HB hq_; have HO343 := n0_; have HB := n1_; clear n0_ n1_)); have p18 : 0 ≤ (t347 : Int) := of_decide_eq_true (by first | (with_reducible assumption) | assumption); have q18 : (t347 : Int) < ((y341.length : Int) : Int) := of_decide_eq_true (by first | (with_reducible assumption) | assumption); obtain ⟨go18, co18, eo18, gb18, gl18, cl18, HG18⟩ := Kd.R_form HO343.out (by omega); (first | cases eo18 | (injection eo18 with ea_ en_ ec_; (first | subst ea_ | (injection ea_ with ea_; subst ea_)); subst ec_; clear en_)); have GB18 := Aside0.mk gb18; have GG18 := Aside0.mk HG18; clear gb18 gl18 HG18; obtain ⟨hx18_0, hf18_0⟩ := Kd.R_celln 0 HO343.out (t347 : Int) p18 q18; replace p18 := eq_true p18; replace q18 := eq_true q18; obtain ⟨hy23_, hz23_⟩ := Kd.R_celln 0 HO343.out (t347 : Int) (of_decide_eq_true (by first | (with_reducible assumption) | assumption)) (of_decide_eq_true (by first | (with_reducible assumption) | assumption)); have HP23 := Kd.R_putg HO343.out (t347 : Int) a2) | ((with_reducible refine gate_store (t := 3) (p := 34) rfl ?_); refine store_event (t := 3) (p := 34) (v := ?vo_w24) (w1 := (w21.setCell ⟨go18, (t347 : Int).toNat, none⟩ (.int .i64 a2))) ?hg ?ho ?hn ?hr ?_; (case ho => rfl); (case hg => rfl); (case hn => rfl); (case hr => first | (go_simp; done) | (go_simp; rfl)); intro w24 hw; have hg : w21.grownBy w24 (some go18) := (by rw [hw]; exact HP23.2); have hp_ : Kd.R (Kd.int .i64) 3 w24 w.heap.size (fun _ => True) (.slice (some ⟨go18, 0, none⟩) y341.length co22) y349 := (by rw [hw, Ny349.out]; exact HP23.1); clear HP23; replace HO343 := Aside0.mk (hp_); replace HB := Aside0.mk ((by rw [hw]; exact below_set (HB.out) GB18.out : Below w.heap.size w w24)); clear hg hw hp_))
      go_ret
      exact ⟨_, qe, by (with_reducible repeat (first | apply Kd.R_alloc | apply Kd.R_drewN | apply Kd.R_drew)); exact HO343.out, qb⟩
     ·
      rw [if_neg c17] at H
      exact absurd H (by simp)
    ·
     rw [if_neg c16] at H
     exact absurd H (by simp)
   ·
    rw [if_neg c15] at H
    obtain ⟨c15b0, c15b1⟩ := qf c15
    by_cases c25 : t348 = 1
    ·
     rw [if_pos c25] at H
     obtain ⟨c25b0, c25b1⟩ := qt c25
     clear c25
     by_cases c26 : 0 ≤ t347
     ·
      rw [if_pos c26] at H
      have c26b0 : decide (0 ≤ t347) = true := decide_eq_true c26
      clear c26
      by_cases c27 : t347 < (y341.length : Int)
      ·
       rw [if_pos c27] at H
       have c27b0 : decide (t347 < (y341.length : Int)) = true := decide_eq_true c27
       clear c27
       obtain ⟨y351, hy351⟩ : ∃ y_ : List Int, y_ = (y341.set (t347 : Int).toNat (wrap64 ((rd y341 t347) + 1))) := ⟨_, rfl⟩
       replace H : (some y351) = some r := by first | (rw [hy351]; with_reducible exact H) | (have H2_ := (Option.bind_some _ _).symm.trans H; rw [hy351]; with_reducible exact H2_) | (have H2_ := (Option.bind_some _ _).symm.trans H; with_reducible exact H2_) | with_reducible exact H | (rw [hy351]; exact H) | exact H
       have Ny351 := Aside0.mk hy351
       clear hy351
       obtain rfl := Option.some.inj H
       go_enter Try.func33, Try.ntmps33
       go_wp2_with (first | ((with_reducible refine gate_dst (N := 11) rfl ?_); refine Kd.R_lit (Kd.int .i64) _ 3 ?hg (N := 11) ?hd (xs := ([] : List Int)) (inner := []) (ok := fun _ => True) (okp := fun _ => True) ?hr ?hp (fun _ hk => hk) trivial (Below.refl _ _) (Nat.le_refl _) (by simp) ?_; (case hd => rfl); (case hg => rfl); (case hr => first | (go_simp; done) | (go_simp; rfl)); (case hp => exact (Reps.none _ _)); intro v339 w29 ho30 hb hg_ hnew_; clear hg_ hnew_; (first | rw [← Ny338.out] at ho30 | (simp only [Int.reduceToNat] at ho30; rw [← Ny338.out] at ho30)); have HO340 := Aside0.mk (Kd.R_lower ho30 (below_size (qb))); replace HB := qS HB hb; clear hb ho30) | ((with_reducible refine gate_builtin (b := .append) (xs := #[.tmp 11, .tmp 12]) rfl ?_); at_builtin; refine Kd.R_append_rows (Kd.int .i64) (w0 := w) w.heap.size rfl (.tmp 11) (.tmp 12) 27 3 (.int .i64 0) 8 rfl Try.underlying27 info3 rfl (by decide) (by omega) v339 y338 l0 _ _ _ (fun _ => True) (fun _ => False) rfl rfl ?aO ?aR (fun _ _ h => h) (fun _ h => h.elim) ?aF ?aB ?aS ?aL ?_; (case aR => exact qC (Kd.C_below HR0.out HB.out)); (case aB => exact (qb)); (case aF => exact (fun _ _ => trivial)); (case aO => exact (qr HO340.out)); (case aS => exact (below_size (qb))); (case aL => have := LMc5.out; omega); intro v342 w31 ho hb hg hat; rw [← Ny341.out] at ho; have n0_ := Aside0.mk (hb); have n1_ := Aside0.mk (ho); clear HB; clear HO340; have HB := n0_; have HO343 := n1_; clear n0_ n1_; clear ho hb hg hat; obtain ⟨Ao32, co32, eo32⟩ := Kd.R_slice HO343.out; subst eo32) | ((with_reducible refine gate_callee (f := 68) rfl ?_); refine goesL_ (some 22) rfl rfl Try.func68 qq rfl #[.int .i64 a3, .int .i64 (y341.length : Int)] rfl qa ?_; (with_reducible refine (dialtoneref27_pick.calls a3 (y341.length : Int) t347 _ A13.out).mono ?_); rintro e w' ⟨rfl, ⟨nd, rfl⟩⟩; refine ⟨_, rfl, ?_⟩; (try (rw [drewN_self w31]; generalize hq_ : World.drewN w31 _ = w31; have n0_ : Aside0 (Kd.R (Kd.int .i64) 3 w31 w.heap.size (fun _ => True) (.slice Ao32 y341.length co32) y341) := ⟨by rw [← hq_]; exact (qr HO343.out)⟩; have n1_ : Aside0 (Below w.heap.size w w31) := ⟨by rw [← hq_]; exact (qb)⟩; clear HO343 HB hq_; have HO343 := n0_; have HB := n1_; clear n0_ n1_))) | ((with_reducible refine gate_callee (f := 68) rfl ?_); refine goesL_ (some 24) rfl rfl Try.func68 qq rfl #[.int .i64 a1, .int .i64 4] rfl qa ?_; (with_reducible refine (dialtoneref27_pick.calls a1 4 t348 _ A14.out).mono ?_); rintro e w' ⟨rfl, ⟨nd, rfl⟩⟩; refine ⟨_, rfl, ?_⟩; (try (rw [drewN_self w31]; generalize hq_ : World.drewN w31 _ = w31; have n0_ : Aside0 (Kd.R (Kd.int .i64) 3 w31 w.heap.size (fun _ => True) (.slice Ao32 y341.length co32) y341) := ⟨by rw [← hq_]; exact (qr HO343.out)⟩; have n1_ : Aside0 (Below w.heap.size w w31) := ⟨by rw [← hq_]; exact (qb)⟩; clear HO343 HB hq_; have HO343 := n0_; have HB := n1_; clear n0_ n1_)); have p350 : 0 ≤ (t347 : Int) := of_decide_eq_true (by first | (with_reducible assumption) | assumption); have q350 : t347 < (y341.length : Int) := of_decide_eq_true (by first | (with_reducible assumption) | assumption); obtain ⟨ad350, e350, hx350_0⟩ := Kd.at_int (Kd.R_reads' HO343.out).2.2 t347 p350 q350; cases e350; replace p350 := eq_true p350; replace q350 := eq_true q350; have p28 : 0 ≤ (t347 : Int) := of_decide_eq_true (by first | (with_reducible assumption) | assumption); have q28 : (t347 : Int) < ((y341.length : Int) : Int) := of_decide_eq_true (by first | (with_reducible assumption) | assumption); obtain ⟨go28, co28, eo28, gb28, gl28, cl28, HG28⟩ := Kd.R_form HO343.out (by omega); (first | cases eo28 | (injection eo28 with ea_ en_ ec_; (first | subst ea_ | (injection ea_ with ea_; subst ea_)); subst ec_; clear en_)); have GB28 := Aside0.mk gb28; have GG28 := Aside0.mk HG28; clear gb28 gl28 HG28; (first | simp only [add_plain] at hx350_0 | skip); obtain ⟨hx28_0, hf28_0⟩ := Kd.R_celln 0 HO343.out (t347 : Int) p28 q28; replace p28 := eq_true p28; replace q28 := eq_true q28; obtain ⟨hy33_, hz33_⟩ := Kd.R_celln 0 HO343.out (t347 : Int) (of_decide_eq_true (by first | (with_reducible assumption) | assumption)) (of_decide_eq_true (by first | (with_reducible assumption) | assumption)); have HP33 := Kd.R_putg HO343.out (t347 : Int) (wrap64 ((rd y341 t347) + 1))) | ((with_reducible refine gate_store (t := 3) (p := 44) rfl ?_); refine store_event (t := 3) (p := 44) (v := ?vo_w34) (w1 := (w31.setCell ⟨go28, (t347 : Int).toNat, none⟩ (.int .i64 (wrap64 ((rd y341 t347) + 1))))) ?hg ?ho ?hn ?hr ?_; (case ho => rfl); (case hg => rfl); (case hn => rfl); (case hr => first | (go_simp; done) | (go_simp; rfl)); intro w34 hw; have hg : w31.grownBy w34 (some go28) := (by rw [hw]; exact HP33.2); have hp_ : Kd.R (Kd.int .i64) 3 w34 w.heap.size (fun _ => True) (.slice (some ⟨go28, 0, none⟩) y341.length co32) y351 := (by rw [hw, Ny351.out]; exact HP33.1); clear HP33; replace HO343 := Aside0.mk (hp_); replace HB := Aside0.mk ((by rw [hw]; exact below_set (HB.out) GB28.out : Below w.heap.size w w34)); clear hg hw hp_))
       go_ret
       exact ⟨_, qe, by (with_reducible repeat (first | apply Kd.R_alloc | apply Kd.R_drewN | apply Kd.R_drew)); exact HO343.out, qb⟩
      ·
       rw [if_neg c27] at H
       exact absurd H (by simp)
     ·
      rw [if_neg c26] at H
      exact absurd H (by simp)
    ·
     rw [if_neg c25] at H
     obtain ⟨c25b0, c25b1⟩ := qf c25
     by_cases c35 : t348 = 2
     ·
      rw [if_pos c35] at H
      obtain ⟨c35b0, c35b1⟩ := qt c35
      clear c35
      by_cases c36 : 0 ≤ t347
      ·
       rw [if_pos c36] at H
       have c36b0 : decide (0 ≤ t347) = true := decide_eq_true c36
       clear c36
       by_cases c37 : t347 < (y341.length : Int)
       ·
        rw [if_pos c37] at H
        have c37b0 : decide (t347 < (y341.length : Int)) = true := decide_eq_true c37
        clear c37
        obtain ⟨y353, hy353⟩ : ∃ y_ : List Int, y_ = (y341.set (t347 : Int).toNat (wrap64 ((rd y341 t347) - 1))) := ⟨_, rfl⟩
        replace H : (some y353) = some r := by first | (rw [hy353]; with_reducible exact H) | (have H2_ := (Option.bind_some _ _).symm.trans H; rw [hy353]; with_reducible exact H2_) | (have H2_ := (Option.bind_some _ _).symm.trans H; with_reducible exact H2_) | with_reducible exact H | (rw [hy353]; exact H) | exact H
        have Ny353 := Aside0.mk hy353
        clear hy353
        obtain rfl := Option.some.inj H
        go_enter Try.func33, Try.ntmps33
        go_wp2_with (first | ((with_reducible refine gate_dst (N := 11) rfl ?_); refine Kd.R_lit (Kd.int .i64) _ 3 ?hg (N := 11) ?hd (xs := ([] : List Int)) (inner := []) (ok := fun _ => True) (okp := fun _ => True) ?hr ?hp (fun _ hk => hk) trivial (Below.refl _ _) (Nat.le_refl _) (by simp) ?_; (case hd => rfl); (case hg => rfl); (case hr => first | (go_simp; done) | (go_simp; rfl)); (case hp => exact (Reps.none _ _)); intro v339 w39 ho40 hb hg_ hnew_; clear hg_ hnew_; (first | rw [← Ny338.out] at ho40 | (simp only [Int.reduceToNat] at ho40; rw [← Ny338.out] at ho40)); have HO340 := Aside0.mk (Kd.R_lower ho40 (below_size (qb))); replace HB := qS HB hb; clear hb ho40) | ((with_reducible refine gate_builtin (b := .append) (xs := #[.tmp 11, .tmp 12]) rfl ?_); at_builtin; refine Kd.R_append_rows (Kd.int .i64) (w0 := w) w.heap.size rfl (.tmp 11) (.tmp 12) 27 3 (.int .i64 0) 8 rfl Try.underlying27 info3 rfl (by decide) (by omega) v339 y338 l0 _ _ _ (fun _ => True) (fun _ => False) rfl rfl ?aO ?aR (fun _ _ h => h) (fun _ h => h.elim) ?aF ?aB ?aS ?aL ?_; (case aR => exact qC (Kd.C_below HR0.out HB.out)); (case aB => exact (qb)); (case aF => exact (fun _ _ => trivial)); (case aO => exact (qr HO340.out)); (case aS => exact (below_size (qb))); (case aL => have := LMc5.out; omega); intro v342 w41 ho hb hg hat; rw [← Ny341.out] at ho; have n0_ := Aside0.mk (hb); have n1_ := Aside0.mk (ho); clear HB; clear HO340; have HB := n0_; have HO343 := n1_; clear n0_ n1_; clear ho hb hg hat; obtain ⟨Ao42, co42, eo42⟩ := Kd.R_slice HO343.out; subst eo42) | ((with_reducible refine gate_callee (f := 68) rfl ?_); refine goesL_ (some 22) rfl rfl Try.func68 qq rfl #[.int .i64 a3, .int .i64 (y341.length : Int)] rfl qa ?_; (with_reducible refine (dialtoneref27_pick.calls a3 (y341.length : Int) t347 _ A13.out).mono ?_); rintro e w' ⟨rfl, ⟨nd, rfl⟩⟩; refine ⟨_, rfl, ?_⟩; (try (rw [drewN_self w41]; generalize hq_ : World.drewN w41 _ = w41; have n0_ : Aside0 (Kd.R (Kd.int .i64) 3 w41 w.heap.size (fun _ => True) (.slice Ao42 y341.length co42) y341) := ⟨by rw [← hq_]; exact (qr HO343.out)⟩; have n1_ : Aside0 (Below w.heap.size w w41) := ⟨by rw [← hq_]; exact (qb)⟩; clear HO343 HB hq_; have HO343 := n0_; have HB := n1_; clear n0_ n1_))) | ((with_reducible refine gate_callee (f := 68) rfl ?_); refine goesL_ (some 24) rfl rfl Try.func68 qq rfl #[.int .i64 a1, .int .i64 4] rfl qa ?_; (with_reducible refine (dialtoneref27_pick.calls a1 4 t348 _ A14.out).mono ?_); rintro e w' ⟨rfl, ⟨nd, rfl⟩⟩; refine ⟨_, rfl, ?_⟩; (try (rw [drewN_self w41]; generalize hq_ : World.drewN w41 _ = w41; have n0_ : Aside0 (Kd.R (Kd.int .i64) 3 w41 w.heap.size (fun _ => True) (.slice Ao42 y341.length co42) y341) := ⟨by rw [← hq_]; exact (qr HO343.out)⟩; have n1_ : Aside0 (Below w.heap.size w w41) := ⟨by rw [← hq_]; exact (qb)⟩; clear HO343 HB hq_; have HO343 := n0_; have HB := n1_; clear n0_ n1_)); have p352 : 0 ≤ (t347 : Int) := of_decide_eq_true (by first | (with_reducible assumption) | assumption); have q352 : t347 < (y341.length : Int) := of_decide_eq_true (by first | (with_reducible assumption) | assumption); obtain ⟨ad352, e352, hx352_0⟩ := Kd.at_int (Kd.R_reads' HO343.out).2.2 t347 p352 q352; cases e352; replace p352 := eq_true p352; replace q352 := eq_true q352; have p38 : 0 ≤ (t347 : Int) := of_decide_eq_true (by first | (with_reducible assumption) | assumption); have q38 : (t347 : Int) < ((y341.length : Int) : Int) := of_decide_eq_true (by first | (with_reducible assumption) | assumption); obtain ⟨go38, co38, eo38, gb38, gl38, cl38, HG38⟩ := Kd.R_form HO343.out (by omega); (first | cases eo38 | (injection eo38 with ea_ en_ ec_; (first | subst ea_ | (injection ea_ with ea_; subst ea_)); subst ec_; clear en_)); have GB38 := Aside0.mk gb38; have GG38 := Aside0.mk HG38; clear gb38 gl38 HG38; (first | simp only [add_plain] at hx352_0 | skip); obtain ⟨hx38_0, hf38_0⟩ := Kd.R_celln 0 HO343.out (t347 : Int) p38 q38; replace p38 := eq_true p38; replace q38 := eq_true q38; obtain ⟨hy43_, hz43_⟩ := Kd.R_celln 0 HO343.out (t347 : Int) (of_decide_eq_true (by first | (with_reducible assumption) | assumption)) (of_decide_eq_true (by first | (with_reducible assumption) | assumption)); have HP43 := Kd.R_putg HO343.out (t347 : Int) (wrap64 ((rd y341 t347) - 1))) | ((with_reducible refine gate_store (t := 3) (p := 54) rfl ?_); refine store_event (t := 3) (p := 54) (v := ?vo_w44) (w1 := (w41.setCell ⟨go38, (t347 : Int).toNat, none⟩ (.int .i64 (wrap64 ((rd y341 t347) - 1))))) ?hg ?ho ?hn ?hr ?_; (case ho => rfl); (case hg => rfl); (case hn => rfl); (case hr => first | (go_simp; done) | (go_simp; rfl)); intro w44 hw; have hg : w41.grownBy w44 (some go38) := (by rw [hw]; exact HP43.2); have hp_ : Kd.R (Kd.int .i64) 3 w44 w.heap.size (fun _ => True) (.slice (some ⟨go38, 0, none⟩) y341.length co42) y353 := (by rw [hw, Ny353.out]; exact HP43.1); clear HP43; replace HO343 := Aside0.mk (hp_); replace HB := Aside0.mk ((by rw [hw]; exact below_set (HB.out) GB38.out : Below w.heap.size w w44)); clear hg hw hp_))
        go_ret
        exact ⟨_, qe, by (with_reducible repeat (first | apply Kd.R_alloc | apply Kd.R_drewN | apply Kd.R_drew)); exact HO343.out, qb⟩
       ·
        rw [if_neg c37] at H
        exact absurd H (by simp)
      ·
       rw [if_neg c36] at H
       exact absurd H (by simp)
     ·
      rw [if_neg c35] at H
      obtain ⟨c35b0, c35b1⟩ := qf c35
      by_cases c45 : y341.length < 17592186044416
      ·
       rw [if_pos c45] at H
       have LMc45 := Aside0.mk c45
       clear c45
       obtain ⟨y354, hy354⟩ : ∃ y_ : List Int, y_ = (y341 ++ [a2]) := ⟨_, rfl⟩
       replace H : (some y354) = some r := by first | (rw [hy354]; with_reducible exact H) | (have H2_ := (Option.bind_some _ _).symm.trans H; rw [hy354]; with_reducible exact H2_) | (have H2_ := (Option.bind_some _ _).symm.trans H; with_reducible exact H2_) | with_reducible exact H | (rw [hy354]; exact H) | exact H
       have Ny354 := Aside0.mk hy354
       clear hy354
       obtain rfl := Option.some.inj H
       go_enter Try.func33, Try.ntmps33
       go_wp2_with (first | ((with_reducible refine gate_dst (N := 11) rfl ?_); refine Kd.R_lit (Kd.int .i64) _ 3 ?hg (N := 11) ?hd (xs := ([] : List Int)) (inner := []) (ok := fun _ => True) (okp := fun _ => True) ?hr ?hp (fun _ hk => hk) trivial (Below.refl _ _) (Nat.le_refl _) (by simp) ?_; (case hd => rfl); (case hg => rfl); (case hr => first | (go_simp; done) | (go_simp; rfl)); (case hp => exact (Reps.none _ _)); intro v339 w46 ho47 hb hg_ hnew_; clear hg_ hnew_; (first | rw [← Ny338.out] at ho47 | (simp only [Int.reduceToNat] at ho47; rw [← Ny338.out] at ho47)); have HO340 := Aside0.mk (Kd.R_lower ho47 (below_size (qb))); replace HB := qS HB hb; clear hb ho47) | ((with_reducible refine gate_builtin (b := .append) (xs := #[.tmp 11, .tmp 12]) rfl ?_); at_builtin; refine Kd.R_append_rows (Kd.int .i64) (w0 := w) w.heap.size rfl (.tmp 11) (.tmp 12) 27 3 (.int .i64 0) 8 rfl Try.underlying27 info3 rfl (by decide) (by omega) v339 y338 l0 _ _ _ (fun _ => True) (fun _ => False) rfl rfl ?aO ?aR (fun _ _ h => h) (fun _ h => h.elim) ?aF ?aB ?aS ?aL ?_; (case aR => exact qC (Kd.C_below HR0.out HB.out)); (case aB => exact (qb)); (case aF => exact (fun _ _ => trivial)); (case aO => exact (qr HO340.out)); (case aS => exact (below_size (qb))); (case aL => have := LMc5.out; omega); intro v342 w48 ho hb hg hat; rw [← Ny341.out] at ho; have n0_ := Aside0.mk (hb); have n1_ := Aside0.mk (ho); clear HB; clear HO340; have HB := n0_; have HO343 := n1_; clear n0_ n1_; clear ho hb hg hat; obtain ⟨Ao49, co49, eo49⟩ := Kd.R_slice HO343.out; subst eo49) | ((with_reducible refine gate_callee (f := 68) rfl ?_); refine goesL_ (some 22) rfl rfl Try.func68 qq rfl #[.int .i64 a3, .int .i64 (y341.length : Int)] rfl qa ?_; (with_reducible refine (dialtoneref27_pick.calls a3 (y341.length : Int) t347 _ A13.out).mono ?_); rintro e w' ⟨rfl, ⟨nd, rfl⟩⟩; refine ⟨_, rfl, ?_⟩) | ((with_reducible refine gate_callee (f := 68) rfl ?_); refine goesL_ (some 24) rfl rfl Try.func68 qq rfl #[.int .i64 a1, .int .i64 4] rfl qa ?_; (with_reducible refine (dialtoneref27_pick.calls a1 4 t348 _ A14.out).mono ?_); rintro e w' ⟨rfl, ⟨nd, rfl⟩⟩; refine ⟨_, rfl, ?_⟩) | ((with_reducible refine gate_builtin (b := .append) (xs := #[.tmp 25, .tmp 27]) rfl ?_); at_builtin; refine Kd.R_append (Kd.int .i64) (w0 := w) w.heap.size rfl (.tmp 25) (.tmp 27) 27 3 (.int .i64 0) 8 rfl Try.underlying27 info3 rfl (by decide) (by omega) (.slice Ao49 y341.length co49) y341 a2 [.int .i64 a2] (fun _ => True) (fun _ => False) rfl rfl ?aP (fun _ hk => hk.elim) ?aF ?aO ?aB ?aS ?aL ?_; (case aP => exact rfl); (case aB => exact (qb)); (case aF => exact (fun _ _ => trivial)); (case aO => exact (qr HO343.out)); (case aS => exact (below_size (qb))); (case aL => have := LMc45.out; omega); intro v355 w50 ho hb hg hat; rw [← Ny354.out] at ho; have n0_ := Aside0.mk (hb); have n1_ := Aside0.mk (ho); clear HB; clear HO343; have HB := n0_; have HO356 := n1_; clear n0_ n1_; clear ho hb hg hat))
       go_ret
       exact ⟨_, qe, by (with_reducible repeat (first | apply Kd.R_alloc | apply Kd.R_drewN | apply Kd.R_drew)); exact HO356.out, qb⟩
      ·
       rw [if_neg c45] at H
       exact absurd H (by simp)
 ·
  rw [if_neg c5] at H
  exact absurd H (by simp)

end Go.Proofs.Ytkkakdpncogpkaa.D
end
section
namespace Go.Proofs.Ytkkakdpncogpkaa.D
open Go.RowKit Go.Proofs.YtkkakdpncogpkaaW.PrintWords Go.Proofs.YtkkakdpncogpkaaW.PrintLast Go.Proofs.YtkkakdpncogpkaaW.PrintMore
attribute [local go_sem] max2_int min2_int max_two min_two max_three min_three max_four min_four   -- for this text's walks alone
set_option linter.unusedVariables false
set_option linter.unusedSimpArgs false

/-! ### dialtonelaw27_FlowFails: function 9 -/
mutual
def dialtonelaw27_FlowFails.l0 : Nat → Int → Int → Int → Int → Bool → Int → Int → Int → List (S72) → Option (Bool)
 | 0, _, _, _, _, _, _, _, _, _ => none
 | k + 1, x4, x12, x13, x14, x16, x17, x18, x758000, x758001 => if x18 ≤ 3 then ((flow_Worst.f x758000 x758001 x12 x13 x18).bind fun bt763 => (if bt763.2.2.2 = 0 then (if bt763.2.1 > x17 then (dialtonelaw27_FlowFails.j1 k x4 x12 x13 x14 x16 x18 true x758000 x758001 bt763.1 bt763.2.1 bt763.2.2.1) else (if x18 = 0 then (if bt763.2.1 = x14 then (dialtonelaw27_FlowFails.j1 k x4 x12 x13 x14 x16 x18 (decide (bt763.2.1 < 0)) x758000 x758001 bt763.1 bt763.2.1 bt763.2.2.1) else (dialtonelaw27_FlowFails.j1 k x4 x12 x13 x14 x16 x18 true x758000 x758001 bt763.1 bt763.2.1 bt763.2.2.1)) else (dialtonelaw27_FlowFails.j1 k x4 x12 x13 x14 x16 x18 (decide (bt763.2.1 < 0)) x758000 x758001 bt763.1 bt763.2.1 bt763.2.2.1))) else (none))) else (if (x758001.length : Int) = 0 then (if x16 = true then (some (x14 == 0)) else (some false)) else ((dialtonelaw27_pick.f x4 (x758001.length : Int)).bind fun t768 => (if 0 ≤ t768 then ((flow_Without.f x758000 x758001 (shl .i64 1 t768)).bind fun bt769 => (if bt769.2.2 = 0 then ((dialtonelaw27_greatest.f k bt769.1 bt769.2.1 x12 x13).bind fun bt775 => (if bt775.2.2 = true then (if x16 = true then (if bt775.1 ≤ x14 then (if t768 < (x758001.length : Int) then (some (decide (bt775.1 ≥ (wrap64 (x14 - ((rd_T72 x758001 t768).f2)))))) else (none)) else (some false)) else (some false)) else (none))) else (none))) else (none))))
def dialtonelaw27_FlowFails.j1 : Nat → Int → Int → Int → Int → Bool → Int → Bool → Int → List (S72) → Int → Int → Int → Option (Bool)
 | 0, _, _, _, _, _, _, _, _, _, _, _, _ => none
 | k + 1, x4, x12, x13, x14, x16, x18, x82, x758000, x758001, x768000, x768001, x768002 => if x82 = true then (some false) else (dialtonelaw27_FlowFails.l0 k x4 x12 x13 x14 x16 x768001 (wrap64 (x18 + 1)) x758000 x758001)
end
def dialtonelaw27_FlowFails.f (k : Nat) (a0 : Int) (l1 : List (S23)) (a2 : Int) (a3 : Int) (a4 : Int) : Option (Bool) := (dialtonelaw27_sane.f k).bind fun t752 => (if t752 = true then ((dialtoneref27_Made.f k a0 l1).bind fun bt753 => ((dialtonelaw27_ends.f bt753.1 bt753.2 a2 a3).bind fun bt758 => ((dialtonelaw27_greatest.f k bt753.1 bt753.2 bt758.1 bt758.2).bind fun bt760 => (if bt760.2.2 = true then (dialtonelaw27_FlowFails.l0 k a4 bt758.1 bt758.2 bt760.1 bt760.2.2 bt760.1 0 bt753.1 bt753.2) else (none))))) else (none))
def dialtonelaw27_FlowFails.T17 : Bool × List (List Nat × List Nat) := (true, [([], []), ([], []), ([1], [1]), ([0, 2], [0, 2]), ([3], [3]), ([4], [4]), ([4], [4]), ([], []), ([7, 5, 3, 0, 1, 2, 3, 4, 5, 7], [5, 7]), ([6, 8, 0, 1, 2, 3, 4, 5, 6, 7, 8], [6])])
def dialtonelaw27_FlowFails.B17 : List Nat := [0, 0, 2, 7, 15, 31, 31, 0, 191, 511]
theorem dialtonelaw27_FlowFails.tab17 : rtab .any (opsOf Try.f9 17) = dialtonelaw27_FlowFails.T17 := by kernel_rfl
theorem dialtonelaw27_FlowFails.bits17 : waitsOk dialtonelaw27_FlowFails.T17.2 dialtonelaw27_FlowFails.B17 = true := by kernel_rfl
set_option maxHeartbeats 8000000 in
set_option maxRecDepth 100000 in
theorem dialtonelaw27_FlowFails.calls (k : Nat) (a0 : Int) (A1 : Option Addr) (c1 : Nat) (l1 : List (S23)) (a2 : Int) (a3 : Int) (a4 : Int) (r : Bool) (w : World) (hr1 : Kd.C k23 w A1 l1.length l1) (hc1 : l1.length ≤ c1) (h : dialtonelaw27_FlowFails.f k a0 l1 a2 a3 a4 = some r) :
  Calls Try.prog 9 #[.int .i64 a0, .slice A1 l1.length c1, .int .i64 a2, .int .i64 a3, .int .i64 a4] w fun e w' => e = .returned (.bool r) ∧ Below w.heap.size w w' := by
 have hu26 := Try.underlying26
 have hu53 := Try.underlying53
 have HR1 := Aside0.mk hr1
 have HC1 := Aside0.mk hc1
 clear hr1 hc1
 have HB := Aside0.mk (Below.refl w.heap.size w)
 have H : ((dialtonelaw27_sane.f k).bind fun t752 => (if t752 = true then ((dialtoneref27_Made.f k a0 l1).bind fun bt753 => ((dialtonelaw27_ends.f bt753.1 bt753.2 a2 a3).bind fun bt758 => ((dialtonelaw27_greatest.f k bt753.1 bt753.2 bt758.1 bt758.2).bind fun bt760 => (if bt760.2.2 = true then (dialtonelaw27_FlowFails.l0 k a4 bt758.1 bt758.2 bt760.1 bt760.2.2 bt760.1 0 bt753.1 bt753.2) else (none))))) else (none))) = some r := h
 clear h
 replace H := Option.bind_eq_some_iff.mp H
 obtain ⟨t752, A60, H⟩ := H
 (try dsimp only at H)
 have A6 := Aside0.mk A60
 clear A60
 by_cases c7 : t752 = true
 ·
  subst c7
  rw [if_pos rfl] at H
  replace H := Option.bind_eq_some_iff.mp H
  obtain ⟨⟨t753, t754⟩, A80, H⟩ := H
  (try dsimp only at H)
  have A8 := Aside0.mk A80
  clear A80
  replace H := Option.bind_eq_some_iff.mp H
  obtain ⟨⟨t758, t759⟩, A90, H⟩ := H
  (try dsimp only at H)
  have A9 := Aside0.mk A90
  clear A90
  replace H := Option.bind_eq_some_iff.mp H
  obtain ⟨⟨t760, t761, t762⟩, A100, H⟩ := H
  (try dsimp only at H)
  have A10 := Aside0.mk A100
  clear A100
  by_cases c11 : t762 = true
  ·
   subst c11
   rw [if_pos rfl] at H
   have H' := Aside0.mk H
   clear H
   go_enter Try.func9, Try.ntmps9
   go_wp2_with (first | ((with_reducible refine gate_callee (f := 22) rfl ?_); refine goesL_ (some 27) rfl rfl Try.func22 qq rfl #[] rfl qa ?_; (with_reducible refine (dialtonelaw27_sane.calls k  true _ A6.out).mono ?_); rintro e w12 ⟨rfl, hb⟩; refine ⟨_, rfl, ?_⟩; replace HB := qS HB hb; (try clear hb); (try clear hb2); (try clear hk); (try clear hi)) | ((with_reducible refine gate_callee (f := 23) rfl ?_); refine goesL_ (some 31) rfl rfl Try.func23 qq rfl #[.int .i64 a0, .slice A1 l1.length c1] rfl qa ?_; (with_reducible refine (dialtoneref27_Made.calls k a0 _ _ l1 t753 t754 _ ?side1 ?side2 A8.out).mono ?_); (case side1 => exact qC (Kd.C_below HR1.out HB.out)); (case side2 => exact HC1.out); rintro e w13 ⟨v755, rfl, ho0, hb⟩; refine ⟨_, rfl, ?_⟩; have HO756 := qL HB ho0; replace HB := qS HB hb; (try clear hb); (try clear hb2); (try clear hk); (try clear hi); (try clear ho0)) | ((with_reducible refine gate_dst (N := 11) rfl ?_); refine box_event rfl (N := 11) rfl (cs := #[.int .i64 0, .slice none 0 0]) (t := 26) qh ?_; intro gb757 hg w14 hbox hb; replace HO756 := qR HO756 hb; have BK757 := Aside0.mk (hbox); have GW757 := qg HB hg; have GE757 := qg HB hg; replace HB := qS HB hb; clear hb hbox hg; obtain ⟨hcz15_0, hcz15_1, hfz15_0, hfz15_1⟩ := qc2 BK757.out; obtain ⟨Ao16, co16, eo16⟩ := Kd.R_slice HO756.out; subst eo16) | ((with_reducible refine gate_callee (f := 24) rfl ?_); refine goesL_ (some 36) rfl rfl Try.func24 qq rfl #[.agg #[.int .i64 t753, .slice Ao16 t754.length co16], .int .i64 a2, .int .i64 a3] rfl qa ?_; (with_reducible refine (dialtonelaw27_ends.calls t753 _ _ t754 a2 a3 t758 t759 _ ?side1 ?side2 A9.out).mono ?_); (case side1 => refine (Kd.R_reads' (e := 72) (base := w.heap.size) (ok := fun k_ => True) (n := t754.length) (c := co16) ?_).2.2; exact (qr (Kd.R_mono (Kd.R_far (p := ⟨gb757, 1, none⟩) (Kd.R_far (p := ⟨gb757, 0, none⟩) (Kd.R_types HO756.out BK757.out (by decide)) (fun _ hk => hk.2) (.int .i64 t753)) (fun _ hk => hk.2) (.slice Ao16 t754.length co16)) (fun _ h_ => h_.1)))); (case side2 => exact (Kd.R_reads' HO756.out).2.1); rintro e w17 ⟨rfl, hb⟩; refine ⟨_, rfl, ?_⟩; replace HO756 := Aside0.mk (Kd.R_below (qr (Kd.R_mono (Kd.R_far (p := ⟨gb757, 1, none⟩) (Kd.R_far (p := ⟨gb757, 0, none⟩) (Kd.R_types HO756.out BK757.out (by decide)) (fun _ hk => hk.2) (.int .i64 t753)) (fun _ hk => hk.2) (.slice Ao16 t754.length co16)) (fun _ h_ => h_.1))) hb); replace BK757 := Aside0.mk (blk_below (g := gb757) (o := .cells #[.int .i64 t753, .slice Ao16 t754.length co16] 26 (0, 0)) (by (with_reducible repeat (first | refine blk_drewN ?_ _ | refine blk_drew ?_ | refine blk_alloc ?_ _)); refine blk_put (cs := #[.int .i64 t753, .slice none 0 0]) ?_ 1 _ rfl; (with_reducible repeat (first | refine blk_drewN ?_ _ | refine blk_drew ?_ | refine blk_alloc ?_ _)); refine blk_put (cs := #[.int .i64 0, .slice none 0 0]) ?_ 0 _ rfl; (with_reducible repeat (first | refine blk_drewN ?_ _ | refine blk_drew ?_ | refine blk_alloc ?_ _)); exact BK757.out) hb); replace HB := qS HB hb; (try clear hb); (try clear hb2); (try clear hk); (try clear hi); obtain ⟨hcz18_0, hcz18_1, hfz18_0, hfz18_1⟩ := qc2 BK757.out) | ((with_reducible refine gate_callee (f := 51) rfl ?_); refine goesL_ (some 43) rfl rfl Try.func51 qq rfl #[.agg #[.int .i64 t753, .slice Ao16 t754.length co16], .int .i64 t758, .int .i64 t759] rfl qa ?_; (with_reducible refine (dialtonelaw27_greatest.calls k t753 _ _ t754 t758 t759 t760 t761 true _ ?side1 ?side2 A10.out).mono ?_); (case side1 => exact qC (Kd.R_reads' HO756.out).2.2); (case side2 => exact (Kd.R_reads' HO756.out).2.1); rintro e w19 ⟨rfl, hb⟩; refine ⟨_, rfl, ?_⟩; replace HO756 := qR HO756 hb; replace BK757 := qB BK757 hb; replace HB := qS HB hb; (try clear hb); (try clear hb2); (try clear hk); (try clear hi)))
   go_loopg [17, 18] k (fun kq v17 v18 w' => ∃ (x17_1 : Int) (x18_1 : Int), v17 = .int .i64 x17_1 ∧ v18 = .int .i64 x18_1 ∧ Aside0 (dialtonelaw27_FlowFails.l0 kq a4 t758 t759 t760 true x17_1 x18_1 t753 t754 = some r) ∧ Aside0 (kq ≤ k) ∧ Aside0 (Kd.R k72 72 w' w.heap.size (fun _ => True) (.slice Ao16 t754.length co16) t754) ∧ Aside0 (w'.heap[gb757]? = some (.cells #[.int .i64 t753, (.slice Ao16 t754.length co16)] 26 (0, 0))) ∧ Aside0 (Below w.heap.size w w'))
   case atStart => exact ⟨(t760), (0), (by first | rfl | (simp; done) | (simp [*]; done)), (by first | rfl | (simp; done) | (simp [*]; done)), H', ⟨Nat.le_refl _⟩, ⟨by (with_reducible repeat (first | apply Kd.R_alloc | apply Kd.R_drewN | apply Kd.R_drew)); exact HO756.out⟩, ⟨by (with_reducible repeat (first | refine blk_drewN ?_ _ | refine blk_drew ?_ | refine blk_alloc ?_ _)); exact BK757.out⟩, ⟨qb⟩⟩
   case round =>
    clear H'
    try clear c1
    try clear c2
    try clear p2
    try clear c5
    try clear c7
    try clear c9
    try clear c11
    try clear hcz15_0
    try clear hcz15_1
    try clear hcz18_0
    try clear hcz18_1
    try clear hfz15_0
    try clear hfz15_1
    try clear hfz18_0
    try clear hfz18_1
    obtain ⟨x17_1, x18_1, rfl, rfl, HA, HK1, HO_758001, BK757, HB⟩ := hrel
    cases gk with
    | zero => exact absurd HA.out (by simp [dialtonelaw27_FlowFails.l0])
    | succ k1 =>
     have H := HA.out
     clear HA
     simp only [dialtonelaw27_FlowFails.l0] at H
     by_cases c20 : x18_1 ≤ 3
     ·
      rw [if_pos c20] at H
      have c20b0 : decide (x18_1 ≤ 3) = true := decide_eq_true c20
      clear c20
      replace H := Option.bind_eq_some_iff.mp H
      obtain ⟨⟨t763, t764, t765, t766⟩, A210, H⟩ := H
      (try dsimp only at H)
      have A21 := Aside0.mk A210
      clear A210
      by_cases c22 : t766 = 0
      ·
       rw [if_pos c22] at H
       obtain ⟨c22b0, c22b1⟩ := qt c22
       clear c22
       have HC23 := Aside0.mk H
       clear H
       obtain ⟨hcz24_0, hcz24_1, hfz24_0, hfz24_1⟩ := qc2 BK757.out
       go_upto_region 11 with (first | ((with_reducible refine gate_callee (f := 41) rfl ?_); refine goesL_ (some 57) rfl rfl Try.func41 qq rfl #[.agg #[.int .i64 t753, .slice Ao16 t754.length co16], .int .i64 t758, .int .i64 t759, .int .i64 x18_1] rfl qa ?_; (with_reducible refine (flow_Worst.calls t753 _ _ t754 t758 t759 x18_1 t763 t764 t765 t766 _ ?side1 ?side2 A21.out).mono ?_); (case side1 => exact qC (Kd.R_reads' HO_758001.out).2.2); (case side2 => exact (Kd.R_reads' HO_758001.out).2.1); rintro e w25 ⟨rfl, hb⟩; refine ⟨_, rfl, ?_⟩; replace HO_758001 := qR HO_758001 hb; replace BK757 := qB BK757 hb; replace HB := qS HB hb; (try clear hb); (try clear hb2); (try clear hk); (try clear hi)) | ((with_reducible refine gate_dst (N := 19) rfl ?_); refine box_event rfl (N := 19) rfl (cs := #[.int .i64 0, .int .i64 0, .int .i64 0]) (t := 53) qh ?_; intro gb767 hg w26 hbox hb; replace HO_758001 := qR HO_758001 hb; have BK767 := Aside0.mk (hbox); have GW767 := qg HB hg; have GE767 := qg HB hg; replace HB := qS HB hb; have NB757_767 := qn BK757 hg; have NB767_757 := qm BK757 hg; replace BK757 := qB BK757 hb; clear hb hbox hg; have hnb27 := NB767_757.out; have hnc27 := NB757_767.out; obtain ⟨hcz28_0, hcz28_1, hcz28_2, hfz28_0, hfz28_1, hfz28_2⟩ := qc3 BK767.out))
       (try simp only [Act.put, List.setIfInBounds_toArray, List.set_cons_zero, List.set_cons_succ])
       go_cut [82] (fun v82 wc => ∃ (kq : Nat) (x82_22 : Bool), v82 = .bool x82_22 ∧ Aside0 (dialtonelaw27_FlowFails.j1 kq a4 t758 t759 t760 true x18_1 x82_22 t753 t754 t763 t764 t765 = some r) ∧ Aside0 (kq ≤ k1) ∧ Aside0 (Kd.R k72 72 wc w.heap.size (fun _ => True) (.slice Ao16 t754.length co16) t754) ∧ Aside0 (wc.heap[gb757]? = some (.cells #[.int .i64 t753, (.slice Ao16 t754.length co16)] 26 (0, 0))) ∧ Aside0 (wc.heap[gb767]? = some (.cells #[.int .i64 t763, .int .i64 t764, .int .i64 t765] 53 (0, 0))) ∧ Aside0 (Below w.heap.size w wc))
       case first =>
        have H := HC23.out
        clear HC23
        by_cases c29 : t764 > x17_1
        ·
         rw [if_pos c29] at H
         have c29b0 : decide (x17_1 < t764) = true := decide_eq_true c29
         clear c29
         (first | rw [c29b0] | (simp only [i64_w, i32_w]; rw [c29b0]) | skip)
         have H' := Aside0.mk H
         clear H
         have hnb30 := NB767_757.out
         have hnc30 := NB757_767.out
         obtain ⟨hcz31_0, hcz31_1, hcz31_2, hfz31_0, hfz31_1, hfz31_2⟩ := qc3 BK767.out
         go_wp2
         go_meet
         case rel => exact ⟨_, (true), (by first | rfl | (simp; done) | (simp [*]; done)), H', ⟨by have := HK1.out; first | omega | exact Nat.le_refl _⟩, ⟨by (with_reducible repeat (first | apply Kd.R_alloc | apply Kd.R_drewN | apply Kd.R_drew)); exact Kd.R_mono (Kd.R_far (p := ⟨gb767, 2, none⟩) (Kd.R_far (p := ⟨gb767, 1, none⟩) (Kd.R_far (p := ⟨gb767, 0, none⟩) (Kd.R_types HO_758001.out BK767.out (by decide)) (fun _ hk => hk.2) (.int .i64 t763)) (fun _ hk => hk.2) (.int .i64 t764)) (fun _ hk => hk.2) (.int .i64 t765)) (fun _ hk => trivial)⟩, ⟨by (with_reducible repeat (first | refine blk_drewN ?_ _ | refine blk_drew ?_ | refine blk_alloc ?_ _)); refine blk_far ?_ NB757_767.out _; (with_reducible repeat (first | refine blk_drewN ?_ _ | refine blk_drew ?_ | refine blk_alloc ?_ _)); refine blk_far ?_ NB757_767.out _; (with_reducible repeat (first | refine blk_drewN ?_ _ | refine blk_drew ?_ | refine blk_alloc ?_ _)); refine blk_far ?_ NB757_767.out _; (with_reducible repeat (first | refine blk_drewN ?_ _ | refine blk_drew ?_ | refine blk_alloc ?_ _)); exact BK757.out⟩, ⟨by (with_reducible repeat (first | refine blk_drewN ?_ _ | refine blk_drew ?_ | refine blk_alloc ?_ _)); refine blk_put (cs := #[.int .i64 t763, .int .i64 t764, .int .i64 0]) ?_ 2 _ rfl; (with_reducible repeat (first | refine blk_drewN ?_ _ | refine blk_drew ?_ | refine blk_alloc ?_ _)); refine blk_put (cs := #[.int .i64 t763, .int .i64 0, .int .i64 0]) ?_ 1 _ rfl; (with_reducible repeat (first | refine blk_drewN ?_ _ | refine blk_drew ?_ | refine blk_alloc ?_ _)); refine blk_put (cs := #[.int .i64 0, .int .i64 0, .int .i64 0]) ?_ 0 _ rfl; (with_reducible repeat (first | refine blk_drewN ?_ _ | refine blk_drew ?_ | refine blk_alloc ?_ _)); exact BK767.out⟩, ⟨qb⟩⟩
        ·
         rw [if_neg c29] at H
         have c29b0 : decide (x17_1 < t764) = false := decide_eq_false c29
         clear c29
         (first | rw [c29b0] | (simp only [i64_w, i32_w]; rw [c29b0]) | skip)
         by_cases c32 : x18_1 = 0
         ·
          rw [if_pos c32] at H
          obtain ⟨c32b0, c32b1⟩ := qt c32
          clear c32
          by_cases c33 : t764 = t760
          ·
           rw [if_pos c33] at H
           obtain ⟨c33b0, c33b1⟩ := qt c33
           clear c33
           have H' := Aside0.mk H
           clear H
           have hnb34 := NB767_757.out
           have hnc34 := NB757_767.out
           obtain ⟨hcz35_0, hcz35_1, hcz35_2, hfz35_0, hfz35_1, hfz35_2⟩ := qc3 BK767.out
           go_wp2
           go_meet
           case rel => exact ⟨_, (decide (t764 < 0)), (by first | rfl | (simp; done) | (simp [*]; done)), H', ⟨by have := HK1.out; first | omega | exact Nat.le_refl _⟩, ⟨by (with_reducible repeat (first | apply Kd.R_alloc | apply Kd.R_drewN | apply Kd.R_drew)); exact Kd.R_mono (Kd.R_far (p := ⟨gb767, 2, none⟩) (Kd.R_far (p := ⟨gb767, 1, none⟩) (Kd.R_far (p := ⟨gb767, 0, none⟩) (Kd.R_types HO_758001.out BK767.out (by decide)) (fun _ hk => hk.2) (.int .i64 t763)) (fun _ hk => hk.2) (.int .i64 t764)) (fun _ hk => hk.2) (.int .i64 t765)) (fun _ hk => trivial)⟩, ⟨by (with_reducible repeat (first | refine blk_drewN ?_ _ | refine blk_drew ?_ | refine blk_alloc ?_ _)); refine blk_far ?_ NB757_767.out _; (with_reducible repeat (first | refine blk_drewN ?_ _ | refine blk_drew ?_ | refine blk_alloc ?_ _)); refine blk_far ?_ NB757_767.out _; (with_reducible repeat (first | refine blk_drewN ?_ _ | refine blk_drew ?_ | refine blk_alloc ?_ _)); refine blk_far ?_ NB757_767.out _; (with_reducible repeat (first | refine blk_drewN ?_ _ | refine blk_drew ?_ | refine blk_alloc ?_ _)); exact BK757.out⟩, ⟨by (with_reducible repeat (first | refine blk_drewN ?_ _ | refine blk_drew ?_ | refine blk_alloc ?_ _)); refine blk_put (cs := #[.int .i64 t763, .int .i64 t764, .int .i64 0]) ?_ 2 _ rfl; (with_reducible repeat (first | refine blk_drewN ?_ _ | refine blk_drew ?_ | refine blk_alloc ?_ _)); refine blk_put (cs := #[.int .i64 t763, .int .i64 0, .int .i64 0]) ?_ 1 _ rfl; (with_reducible repeat (first | refine blk_drewN ?_ _ | refine blk_drew ?_ | refine blk_alloc ?_ _)); refine blk_put (cs := #[.int .i64 0, .int .i64 0, .int .i64 0]) ?_ 0 _ rfl; (with_reducible repeat (first | refine blk_drewN ?_ _ | refine blk_drew ?_ | refine blk_alloc ?_ _)); exact BK767.out⟩, ⟨qb⟩⟩
          ·
           rw [if_neg c33] at H
           obtain ⟨c33b0, c33b1⟩ := qf c33
           have H' := Aside0.mk H
           clear H
           have hnb36 := NB767_757.out
           have hnc36 := NB757_767.out
           obtain ⟨hcz37_0, hcz37_1, hcz37_2, hfz37_0, hfz37_1, hfz37_2⟩ := qc3 BK767.out
           go_wp2
           go_meet
           case rel => exact ⟨_, (true), (by first | rfl | (simp; done) | (simp [*]; done)), H', ⟨by have := HK1.out; first | omega | exact Nat.le_refl _⟩, ⟨by (with_reducible repeat (first | apply Kd.R_alloc | apply Kd.R_drewN | apply Kd.R_drew)); exact Kd.R_mono (Kd.R_far (p := ⟨gb767, 2, none⟩) (Kd.R_far (p := ⟨gb767, 1, none⟩) (Kd.R_far (p := ⟨gb767, 0, none⟩) (Kd.R_types HO_758001.out BK767.out (by decide)) (fun _ hk => hk.2) (.int .i64 t763)) (fun _ hk => hk.2) (.int .i64 t764)) (fun _ hk => hk.2) (.int .i64 t765)) (fun _ hk => trivial)⟩, ⟨by (with_reducible repeat (first | refine blk_drewN ?_ _ | refine blk_drew ?_ | refine blk_alloc ?_ _)); refine blk_far ?_ NB757_767.out _; (with_reducible repeat (first | refine blk_drewN ?_ _ | refine blk_drew ?_ | refine blk_alloc ?_ _)); refine blk_far ?_ NB757_767.out _; (with_reducible repeat (first | refine blk_drewN ?_ _ | refine blk_drew ?_ | refine blk_alloc ?_ _)); refine blk_far ?_ NB757_767.out _; (with_reducible repeat (first | refine blk_drewN ?_ _ | refine blk_drew ?_ | refine blk_alloc ?_ _)); exact BK757.out⟩, ⟨by (with_reducible repeat (first | refine blk_drewN ?_ _ | refine blk_drew ?_ | refine blk_alloc ?_ _)); refine blk_put (cs := #[.int .i64 t763, .int .i64 t764, .int .i64 0]) ?_ 2 _ rfl; (with_reducible repeat (first | refine blk_drewN ?_ _ | refine blk_drew ?_ | refine blk_alloc ?_ _)); refine blk_put (cs := #[.int .i64 t763, .int .i64 0, .int .i64 0]) ?_ 1 _ rfl; (with_reducible repeat (first | refine blk_drewN ?_ _ | refine blk_drew ?_ | refine blk_alloc ?_ _)); refine blk_put (cs := #[.int .i64 0, .int .i64 0, .int .i64 0]) ?_ 0 _ rfl; (with_reducible repeat (first | refine blk_drewN ?_ _ | refine blk_drew ?_ | refine blk_alloc ?_ _)); exact BK767.out⟩, ⟨qb⟩⟩
         ·
          rw [if_neg c32] at H
          obtain ⟨c32b0, c32b1⟩ := qf c32
          have H' := Aside0.mk H
          clear H
          have hnb38 := NB767_757.out
          have hnc38 := NB757_767.out
          obtain ⟨hcz39_0, hcz39_1, hcz39_2, hfz39_0, hfz39_1, hfz39_2⟩ := qc3 BK767.out
          go_wp2
          go_meet
          case rel => exact ⟨_, (decide (t764 < 0)), (by first | rfl | (simp; done) | (simp [*]; done)), H', ⟨by have := HK1.out; first | omega | exact Nat.le_refl _⟩, ⟨by (with_reducible repeat (first | apply Kd.R_alloc | apply Kd.R_drewN | apply Kd.R_drew)); exact Kd.R_mono (Kd.R_far (p := ⟨gb767, 2, none⟩) (Kd.R_far (p := ⟨gb767, 1, none⟩) (Kd.R_far (p := ⟨gb767, 0, none⟩) (Kd.R_types HO_758001.out BK767.out (by decide)) (fun _ hk => hk.2) (.int .i64 t763)) (fun _ hk => hk.2) (.int .i64 t764)) (fun _ hk => hk.2) (.int .i64 t765)) (fun _ hk => trivial)⟩, ⟨by (with_reducible repeat (first | refine blk_drewN ?_ _ | refine blk_drew ?_ | refine blk_alloc ?_ _)); refine blk_far ?_ NB757_767.out _; (with_reducible repeat (first | refine blk_drewN ?_ _ | refine blk_drew ?_ | refine blk_alloc ?_ _)); refine blk_far ?_ NB757_767.out _; (with_reducible repeat (first | refine blk_drewN ?_ _ | refine blk_drew ?_ | refine blk_alloc ?_ _)); refine blk_far ?_ NB757_767.out _; (with_reducible repeat (first | refine blk_drewN ?_ _ | refine blk_drew ?_ | refine blk_alloc ?_ _)); exact BK757.out⟩, ⟨by (with_reducible repeat (first | refine blk_drewN ?_ _ | refine blk_drew ?_ | refine blk_alloc ?_ _)); refine blk_put (cs := #[.int .i64 t763, .int .i64 t764, .int .i64 0]) ?_ 2 _ rfl; (with_reducible repeat (first | refine blk_drewN ?_ _ | refine blk_drew ?_ | refine blk_alloc ?_ _)); refine blk_put (cs := #[.int .i64 t763, .int .i64 0, .int .i64 0]) ?_ 1 _ rfl; (with_reducible repeat (first | refine blk_drewN ?_ _ | refine blk_drew ?_ | refine blk_alloc ?_ _)); refine blk_put (cs := #[.int .i64 0, .int .i64 0, .int .i64 0]) ?_ 0 _ rfl; (with_reducible repeat (first | refine blk_drewN ?_ _ | refine blk_drew ?_ | refine blk_alloc ?_ _)); exact BK767.out⟩, ⟨qb⟩⟩
       case rest =>
        clear HC23
        try clear c1
        try clear c2
        try clear p2
        try clear c3
        try clear c4
        try clear c5
        try clear c7
        try clear c9
        try clear c11
        try clear c20
        try clear c20b0
        try clear c22
        try clear c22b0
        try clear c22b1
        try clear c23
        try clear c24
        try clear c27
        try clear c29
        try clear c29b0
        try clear c30
        try clear c32
        try clear c32b0
        try clear c32b1
        try clear c33
        try clear c33b0
        try clear c33b1
        try clear c34
        try clear c36
        try clear c38
        try clear hcz15_0
        try clear hcz15_1
        try clear hcz18_0
        try clear hcz18_1
        try clear hcz24_0
        try clear hcz24_1
        try clear hcz28_0
        try clear hcz28_1
        try clear hcz28_2
        try clear hcz31_0
        try clear hcz31_1
        try clear hcz31_2
        try clear hcz35_0
        try clear hcz35_1
        try clear hcz35_2
        try clear hcz37_0
        try clear hcz37_1
        try clear hcz37_2
        try clear hcz39_0
        try clear hcz39_1
        try clear hcz39_2
        try clear hfz15_0
        try clear hfz15_1
        try clear hfz18_0
        try clear hfz18_1
        try clear hfz24_0
        try clear hfz24_1
        try clear hfz28_0
        try clear hfz28_1
        try clear hfz28_2
        try clear hfz31_0
        try clear hfz31_1
        try clear hfz31_2
        try clear hfz35_0
        try clear hfz35_1
        try clear hfz35_2
        try clear hfz37_0
        try clear hfz37_1
        try clear hfz37_2
        try clear hfz39_0
        try clear hfz39_1
        try clear hfz39_2
        try clear p2
        obtain ⟨kq, x82_22, rfl, HA, HJ22, HO_758001, BK757, BK767, HB⟩ := hcut
        cases kq with
        | zero => exact absurd HA.out (by simp [dialtonelaw27_FlowFails.j1])
        | succ kj22 =>
         have H := HA.out
         clear HA
         simp only [dialtonelaw27_FlowFails.j1] at H
         by_cases c40 : x82_22 = true
         ·
          subst c40
          rw [if_pos rfl] at H
          obtain rfl := Option.some.inj H
          go_wp2
          go_ret
          exact ⟨qe, qb⟩
         ·
          replace c40 := Bool.eq_false_iff.mpr c40
          subst c40
          rw [if_neg (show ¬ (false = true) by decide)] at H
          have H' := Aside0.mk H
          clear H
          have hnb41 := NB767_757.out
          have hnc41 := NB757_767.out
          obtain ⟨hcz42_0, hcz42_1, hcz42_2, hfz42_0, hfz42_1, hfz42_2⟩ := qc3 BK767.out
          go_wp2
          go_roundg kj22
          case measure => have := HK1.out; have := HJ22.out; omega
          case rel => exact ⟨(t764), (wrap64 (x18_1 + 1)), (by first | rfl | (simp; done) | (simp [*]; done)), (by first | rfl | (simp; done) | (simp [*]; done)), H', ⟨by have := HK1.out; have := HJ22.out; omega⟩, ⟨by (with_reducible repeat (first | apply Kd.R_alloc | apply Kd.R_drewN | apply Kd.R_drew)); exact HO_758001.out⟩, ⟨by (with_reducible repeat (first | refine blk_drewN ?_ _ | refine blk_drew ?_ | refine blk_alloc ?_ _)); exact BK757.out⟩, ⟨qb⟩⟩
      ·
       rw [if_neg c22] at H
       exact absurd H (by simp)
     ·
      rw [if_neg c20] at H
      have c20b0 : decide (x18_1 ≤ 3) = false := decide_eq_false c20
      clear c20
      by_cases c43 : (t754.length : Int) = 0
      ·
       rw [if_pos c43] at H
       obtain ⟨c43b0, c43b1⟩ := qt c43
       clear c43
       have H1 : (some (t760 == 0)) = some r := by first | (rw [if_pos rfl] at H; exact H) | (rw [if_pos trivial] at H; exact H) | (simp only [if_true, if_false] at H; exact H) | (simp only [↓reduceIte] at H; exact H)
       clear H
       have H := H1
       clear H1
       obtain rfl := Option.some.inj H
       obtain ⟨hcz44_0, hcz44_1, hfz44_0, hfz44_1⟩ := qc2 BK757.out
       go_wp2
       go_ret
       exact ⟨qe, qb⟩
      ·
       rw [if_neg c43] at H
       obtain ⟨c43b0, c43b1⟩ := qf c43
       have c43b2 : ¬ (t754 = []) := fun h_ => c43 (by rw [h_]; rfl)
       replace H := Option.bind_eq_some_iff.mp H
       obtain ⟨t768, A450, H⟩ := H
       (try dsimp only at H)
       have A45 := Aside0.mk A450
       clear A450
       by_cases c46 : 0 ≤ t768
       ·
        rw [if_pos c46] at H
        have c46b0 := eq_true c46
        have c46b1 : decide (0 ≤ t768) = true := decide_eq_true c46
        clear c46
        obtain ⟨ji47, hji47⟩ : ∃ j_ : Int, (shl .i64 1 t768) = j_ := ⟨_, rfl⟩
        replace H : ((flow_Without.f t753 t754 (ji47)).bind fun bt769 => (if bt769.2.2 = 0 then ((dialtonelaw27_greatest.f k1 bt769.1 bt769.2.1 t758 t759).bind fun bt775 => (if bt775.2.2 = true then (if true = true then (if bt775.1 ≤ t760 then (if t768 < (t754.length : Int) then (some (decide (bt775.1 ≥ (wrap64 (t760 - ((rd_T72 t754 t768).f2)))))) else (none)) else (some false)) else (some false)) else (none))) else (none))) = some r := by first | (rw [hji47] at H; exact H) | (simp only [hji47] at H ⊢; exact H)
        (try rw [hji47] at A45)
        have hji47_ : (IntKind.i64.wrap (1 * 2 ^ min t768.toNat 64)) = ji47 := hji47
        have hji47z : t768 ≤ 64 → (IntKind.i64.wrap (1 * 2 ^ t768.toNat)) = ji47 := shl_small hji47
        have hji47u : (IntKind.i64.wrap (2 ^ min t768.toNat 64)) = ji47 := by have h_ := hji47_; rw [Int.one_mul] at h_; exact h_
        have hji47v : t768 ≤ 64 → (IntKind.i64.wrap (2 ^ t768.toNat)) = ji47 := fun hle_ => by have h_ := hji47z hle_; rw [Int.one_mul] at h_; exact h_
        have hji47y : (wrap64 (1 * 2 ^ min t768.toNat 64)) = ji47 := (i64_w _).symm.trans hji47_
        have hji47x : t768 ≤ 64 → (wrap64 (1 * 2 ^ t768.toNat)) = ji47 := fun h_ => (i64_w _).symm.trans (hji47z h_)
        replace H := Option.bind_eq_some_iff.mp H
        obtain ⟨⟨t769, t770, t773⟩, A480, H⟩ := H
        (try dsimp only at H)
        have A48 := Aside0.mk A480
        clear A480
        by_cases c49 : t773 = 0
        ·
         rw [if_pos c49] at H
         obtain ⟨c49b0, c49b1⟩ := qt c49
         clear c49
         replace H := Option.bind_eq_some_iff.mp H
         obtain ⟨⟨t775, t776, t777⟩, A500, H⟩ := H
         (try dsimp only at H)
         have A50 := Aside0.mk A500
         clear A500
         by_cases c51 : t777 = true
         ·
          subst c51
          rw [if_pos rfl] at H
          have H1 : (if t775 ≤ t760 then (if t768 < (t754.length : Int) then (some (decide (t775 ≥ (wrap64 (t760 - ((rd_T72 t754 t768).f2)))))) else (none)) else (some false)) = some r := by first | (rw [if_pos rfl] at H; exact H) | (rw [if_pos trivial] at H; exact H) | (simp only [if_true, if_false] at H; exact H) | (simp only [↓reduceIte] at H; exact H)
          clear H
          have H := H1
          clear H1
          by_cases c52 : t775 ≤ t760
          ·
           rw [if_pos c52] at H
           have c52b0 : decide (t775 ≤ t760) = true := decide_eq_true c52
           clear c52
           by_cases c53 : t768 < (t754.length : Int)
           ·
            rw [if_pos c53] at H
            have c53b0 : decide (t768 < (t754.length : Int)) = true := decide_eq_true c53
            clear c53
            obtain rfl := Option.some.inj H
            obtain ⟨hcz54_0, hcz54_1, hfz54_0, hfz54_1⟩ := qc2 BK757.out
            try go_wp2_with (first | ((with_reducible refine gate_callee (f := 35) rfl ?_); refine goesL_ (some 98) rfl rfl Try.func35 qq rfl #[.int .i64 a4, .int .i64 (t754.length : Int)] rfl qa ?_; (with_reducible refine (dialtonelaw27_pick.calls a4 (t754.length : Int) t768 _ A45.out).mono ?_); rintro e w' ⟨rfl, ⟨nd, rfl⟩⟩; refine ⟨_, rfl, ?_⟩; (try (rw [drewN_self wr]; generalize hq_ : World.drewN wr _ = wr; have n0_ : Aside0 (Kd.R k72 72 wr w.heap.size (fun _ => True) (.slice Ao16 t754.length co16) t754) := ⟨by rw [← hq_]; exact (qr HO_758001.out)⟩; have n1_ : Aside0 (wr.heap[gb757]? = some (.cells #[.int .i64 t753, .slice Ao16 t754.length co16] 26 (0, 0))) := ⟨by rw [← hq_]; exact (qk BK757.out)⟩; have n2_ : Aside0 (Below w.heap.size w wr) := ⟨by rw [← hq_]; exact (qb)⟩; clear HO_758001 BK757 HB hq_; have HO_758001 := n0_; have BK757 := n1_; have HB := n2_; clear n0_ n1_ n2_; have hcz55_0 : wr.cell? ⟨gb757, 0, none⟩ = some (.int .i64 t753) := (blk_cell BK757.out 0).trans rfl; have hfz55_0 := blk_frozen BK757.out 0; have hcz55_1 : wr.cell? ⟨gb757, 1, none⟩ = some (.slice Ao16 t754.length co16) := (blk_cell BK757.out 1).trans rfl; have hfz55_1 := blk_frozen BK757.out 1))))
            replace HO_758001 := Aside0.mk (Kd.R_drew HO_758001.out)
            replace BK757 := Aside0.mk (blk_drew BK757.out)
            replace HB := Aside0.mk (below_drew1 HB.out)
            refine start_ (n := 10) (S := fun w' => w'.cell? ⟨gb757, 0, none⟩ = some (.int .i64 t753) ∧ w'.cell? ⟨gb757, 1, none⟩ = some (.slice Ao16 t754.length co16)) (ds := []) #[false, false, false, false, false, false, false, false, false, false] qq rfl rfl ⟨(blk_cell BK757.out 0).trans rfl, (blk_cell BK757.out 1).trans rfl⟩ (fun hHeld => ?_); refine with_tabW dialtonelaw27_FlowFails.tab17 dialtonelaw27_FlowFails.bits17 (fun HT_ HW_ => ?_)
            generalize wr.drew = w56 at HO_758001 BK757 HB hHeld ⊢
            refine pure_ (i := 1) (N := some 101) (v := ?_) (a' := ?_) #[false, true, false, false, false, false, false, false, false, false] rfl rfl (any_of HT_.out qq) (fun _ _ _ h => h) (Or.inl ⟨by rfl, ?_⟩) ?_ ?_
            rotate_left
            ·
             intro w'
             go_simp
             with_reducible rfl
            rotate_left
            ·
             simp only [Act.put, List.setIfInBounds_toArray, List.set_cons_zero, List.set_cons_succ, i64_w, i32_w]
             rfl
            refine pure_ (i := 2) (N := some 102) (v := ?_) (a' := ?_) #[false, true, true, false, false, false, false, false, false, false] rfl rfl (any_of HT_.out qq) (fun _ _ _ h => h) (Or.inl ⟨by rfl, ?_⟩) ?_ ?_
            rotate_left
            ·
             intro w'
             go_simp
             with_reducible rfl
            rotate_left
            ·
             simp only [Act.put, List.setIfInBounds_toArray, List.set_cons_zero, List.set_cons_succ, i64_w, i32_w]
             rfl
            refine take_ (i := 0) (N := some 100) (v := ?_) (a' := ?_) #[true, true, true, false, false, false, false, false, false, false] rfl rfl (take_ofW HT_.out HW_.out qq) (fun _ _ _ h => h) (Or.inl ⟨by rfl, ?_⟩) hHeld ?_ ?_
            rotate_left
            ·
             rintro w' ⟨s0, s1⟩
             go_simp
             with_reducible rfl
            rotate_left
            ·
             simp only [Act.put, List.setIfInBounds_toArray, List.set_cons_zero, List.set_cons_succ, i64_w, i32_w]
             rfl
            refine join_ (σ := Value × Nat) 2 #[true, true, true, true, true, true, true, true, false, false] (fun s_ => [(103, .tuple #[.agg #[.int .i64 t769, s_.1], .int .i64 t773]), (22, .pointer (some ⟨s_.2, 0, none⟩)), (99, .tuple #[.agg #[.int .i64 t769, s_.1], .int .i64 t773]), (104, .agg #[.int .i64 t769, s_.1]), (105, .int .i64 t773)]) (fun s_ w' => (w'.cell? ⟨gb757, 0, none⟩ = some (.int .i64 t753) ∧ w'.cell? ⟨gb757, 1, none⟩ = some (.slice Ao16 t754.length co16)) ∧ (Kd.R k72 72 w' w.heap.size (fun k_ => some k_ ≠ (.slice Ao16 t754.length co16 : Value).ownBlock) s_.1 t770) ∧ (Kd.R k72 72 w' w.heap.size (fun k_ => some k_ ≠ (s_.1 : Value).ownBlock) (.slice Ao16 t754.length co16) t754) ∧ (w'.heap[gb757]? = some (.cells #[.int .i64 t753, .slice Ao16 t754.length co16] 26 (0, 0))) ∧ (w'.heap[s_.2]? = some (.cells #[.int .i64 0, .slice none 0 0] 26 (0, 0))) ∧ (w.heap.size ≤ s_.2) ∧ (w.heap.size ≤ s_.2) ∧ (gb757 ≠ s_.2) ∧ (s_.2 ≠ gb757) ∧ (Below w.heap.size w w')) ?_ ?_
            rotate_left
            ·
             intro hCont
             refine two_ (i := 3) (j := 7) (Ni := some 103) (Nj := some 22) #[true, true, true, true, false, false, false, false, false, false] #[true, true, true, false, false, false, false, true, false, false] rfl rfl rfl rfl (two_of HT_.out qq) (by decide) (by decide) (fun K hK => ?_) (fun K hK => ?_)
             ·
              skip
              refine goes_ Try.func38 qq rfl #[.agg #[.int .i64 t753, .slice Ao16 t754.length co16], .int .i64 ji47] (by rfl) rfl rfl (by (try simp only [List.map_toArray, List.map_cons, List.map_nil]); first | done | (simp only [hji47]; rfl) | rfl | (simp only [List.length_drop, List.length_take]; rfl)) ?_
              with_reducible refine (flow_Without.calls t753 _ _ t754 ji47 t769 t770 t773 _ ?side1 ?side2 A48.out).mono ?_
              (case side1 => exact qC (Kd.R_reads' HO_758001.out).2.2)
              (case side2 => exact (Kd.R_reads' HO_758001.out).2.1)
              rintro e w57 ⟨v771, rfl, ho0, hb⟩
              refine ⟨_, rfl, ?_⟩
              have HO772 := Aside0.mk (Kd.R_lower (Kd.R_new' ho0 (Kd.R_lt (qr HO_758001.out))) (below_size (qb)))
              replace HO_758001 := Aside0.mk (Kd.R_elder' (qr HO_758001.out) (Kd.R_base ho0) hb)
              replace BK757 := qB BK757 hb
              replace HB := qS HB hb
              (try clear hb)
              (try clear hb2)
              (try clear hk)
              (try clear hi)
              (try clear ho0)
              refine hK.out _ _ ⟨(blk_cell BK757.out 0).trans rfl, (blk_cell BK757.out 1).trans rfl⟩ (fun hHeld => ?_)
              clear hK K
              refine norm_ (a' := ?_) ?_ ?_
              rotate_left
              ·
               show Act.put _ (some 103) _ = _
               simp only [Act.put, List.setIfInBounds_toArray, List.set_cons_zero, List.set_cons_succ, i64_w, i32_w]
               rfl
              refine pure_ (i := 4) (N := some 99) (v := ?_) (a' := ?_) #[true, true, true, true, true, false, false, false, false, false] rfl rfl (any_of HT_.out qq) (fun _ _ _ h => h) (Or.inl ⟨by rfl, ?_⟩) ?_ ?_
              rotate_left
              ·
               intro w'
               go_simp
               with_reducible rfl
              rotate_left
              ·
               simp only [Act.put, List.setIfInBounds_toArray, List.set_cons_zero, List.set_cons_succ, i64_w, i32_w]
               rfl
              refine pure_ (i := 5) (N := some 104) (v := ?_) (a' := ?_) #[true, true, true, true, true, true, false, false, false, false] rfl rfl (any_of HT_.out qq) (fun _ _ _ h => h) (Or.inl ⟨by rfl, ?_⟩) ?_ ?_
              rotate_left
              ·
               intro w'
               go_simp
               with_reducible rfl
              rotate_left
              ·
               simp only [Act.put, List.setIfInBounds_toArray, List.set_cons_zero, List.set_cons_succ, i64_w, i32_w]
               rfl
              refine pure_ (i := 6) (N := some 105) (v := ?_) (a' := ?_) #[true, true, true, true, true, true, true, false, false, false] rfl rfl (any_of HT_.out qq) (fun _ _ _ h => h) (Or.inl ⟨by rfl, ?_⟩) ?_ ?_
              rotate_left
              ·
               intro w'
               go_simp
               with_reducible rfl
              rotate_left
              ·
               simp only [Act.put, List.setIfInBounds_toArray, List.set_cons_zero, List.set_cons_succ, i64_w, i32_w]
               rfl
              refine one_ (i := 7) (N := some 22) #[true, true, true, true, true, true, true, true, false, false] rfl rfl (one_of HT_.out qq) (by decide) (fun K hK => ?_)
              refine box_step ?hg (N := 22) ?hd (cs := #[.int .i64 0, .slice none 0 0]) (t := 26) ?hr ?_; (case hd => rfl); (case hg => rfl); (case hr => first | (go_simp; done) | (go_simp; rfl))
              intro gb774 hg w58 hbox hb
              replace HO_758001 := qR HO_758001 hb
              replace HO772 := qR HO772 hb
              have BK774 := Aside0.mk (hbox)
              have GW774 := qg HB hg
              have GE774 := qg HB hg
              replace HB := qS HB hb
              have NB757_774 := qn BK757 hg
              have NB774_757 := qm BK757 hg
              replace BK757 := qB BK757 hb
              clear hb hbox hg
              refine hK.out _ _ ⟨(blk_cell BK757.out 0).trans rfl, (blk_cell BK757.out 1).trans rfl⟩ (fun hHeld => ?_)
              clear hK K
              refine norm_ (a' := ?_) ?_ ?_
              rotate_left
              ·
               show Act.put _ (some 22) _ = _
               simp only [Act.put, List.setIfInBounds_toArray, List.set_cons_zero, List.set_cons_succ, i64_w, i32_w]
               rfl
              exact norm_ (by simp only [putAll, Act.put, List.setIfInBounds_toArray, List.set_cons_zero, List.set_cons_succ]) (hCont (v771, gb774) _ ⟨hHeld, (qr (Kd.R_mono HO772.out (fun _ hk => hk.2))), (qr (Kd.R_mono HO_758001.out (fun _ hk => hk.2))), (qk BK757.out), (qk BK774.out), GW774.out, GE774.out, NB757_774.out, NB774_757.out, (qb)⟩)
             ·
              skip
              refine box_step ?hg (N := 22) ?hd (cs := #[.int .i64 0, .slice none 0 0]) (t := 26) ?hr ?_; (case hd => rfl); (case hg => rfl); (case hr => first | (go_simp; done) | (go_simp; rfl))
              intro gb774 hg w57 hbox hb
              replace HO_758001 := qR HO_758001 hb
              have BK774 := Aside0.mk (hbox)
              have GW774 := qg HB hg
              have GE774 := qg HB hg
              replace HB := qS HB hb
              have NB757_774 := qn BK757 hg
              have NB774_757 := qm BK757 hg
              replace BK757 := qB BK757 hb
              clear hb hbox hg
              refine hK.out _ _ ⟨(blk_cell BK757.out 0).trans rfl, (blk_cell BK757.out 1).trans rfl⟩ (fun hHeld => ?_)
              clear hK K
              refine norm_ (a' := ?_) ?_ ?_
              rotate_left
              ·
               show Act.put _ (some 22) _ = _
               simp only [Act.put, List.setIfInBounds_toArray, List.set_cons_zero, List.set_cons_succ, i64_w, i32_w]
               rfl
              refine one_ (i := 3) (N := some 103) #[true, true, true, true, false, false, false, true, false, false] rfl rfl (one_of HT_.out qq) (by decide) (fun K hK => ?_)
              refine goes_ Try.func38 qq rfl #[.agg #[.int .i64 t753, .slice Ao16 t754.length co16], .int .i64 ji47] (by rfl) rfl rfl (by (try simp only [List.map_toArray, List.map_cons, List.map_nil]); first | done | (simp only [hji47]; rfl) | rfl | (simp only [List.length_drop, List.length_take]; rfl)) ?_
              with_reducible refine (flow_Without.calls t753 _ _ t754 ji47 t769 t770 t773 _ ?side1 ?side2 A48.out).mono ?_
              (case side1 => exact qC (Kd.R_reads' HO_758001.out).2.2)
              (case side2 => exact (Kd.R_reads' HO_758001.out).2.1)
              rintro e w58 ⟨v771, rfl, ho0, hb⟩
              refine ⟨_, rfl, ?_⟩
              have HO772 := Aside0.mk (Kd.R_lower (Kd.R_new' ho0 (Kd.R_lt (qr HO_758001.out))) (below_size (qb)))
              replace HO_758001 := Aside0.mk (Kd.R_elder' (qr HO_758001.out) (Kd.R_base ho0) hb)
              replace BK757 := qB BK757 hb
              replace BK774 := qB BK774 hb
              replace HB := qS HB hb
              (try clear hb)
              (try clear hb2)
              (try clear hk)
              (try clear hi)
              (try clear ho0)
              refine hK.out _ _ ⟨(blk_cell BK757.out 0).trans rfl, (blk_cell BK757.out 1).trans rfl⟩ (fun hHeld => ?_)
              clear hK K
              refine norm_ (a' := ?_) ?_ ?_
              rotate_left
              ·
               show Act.put _ (some 103) _ = _
               simp only [Act.put, List.setIfInBounds_toArray, List.set_cons_zero, List.set_cons_succ, i64_w, i32_w]
               rfl
              refine pure_ (i := 4) (N := some 99) (v := ?_) (a' := ?_) #[true, true, true, true, true, false, false, true, false, false] rfl rfl (any_of HT_.out qq) (fun _ _ _ h => h) (Or.inl ⟨by rfl, ?_⟩) ?_ ?_
              rotate_left
              ·
               intro w'
               go_simp
               with_reducible rfl
              rotate_left
              ·
               simp only [Act.put, List.setIfInBounds_toArray, List.set_cons_zero, List.set_cons_succ, i64_w, i32_w]
               rfl
              refine pure_ (i := 5) (N := some 104) (v := ?_) (a' := ?_) #[true, true, true, true, true, true, false, true, false, false] rfl rfl (any_of HT_.out qq) (fun _ _ _ h => h) (Or.inl ⟨by rfl, ?_⟩) ?_ ?_
              rotate_left
              ·
               intro w'
               go_simp
               with_reducible rfl
              rotate_left
              ·
               simp only [Act.put, List.setIfInBounds_toArray, List.set_cons_zero, List.set_cons_succ, i64_w, i32_w]
               rfl
              refine pure_ (i := 6) (N := some 105) (v := ?_) (a' := ?_) #[true, true, true, true, true, true, true, true, false, false] rfl rfl (any_of HT_.out qq) (fun _ _ _ h => h) (Or.inl ⟨by rfl, ?_⟩) ?_ ?_
              rotate_left
              ·
               intro w'
               go_simp
               with_reducible rfl
              rotate_left
              ·
               simp only [Act.put, List.setIfInBounds_toArray, List.set_cons_zero, List.set_cons_succ, i64_w, i32_w]
               rfl
              exact norm_ (by simp only [putAll, Act.put, List.setIfInBounds_toArray, List.set_cons_zero, List.set_cons_succ]) (hCont (v771, gb774) _ ⟨hHeld, (qr (Kd.R_mono HO772.out (fun _ hk => hk.2))), (qr (Kd.R_mono HO_758001.out (fun _ hk => hk.2))), (qk BK757.out), (qk BK774.out), GW774.out, GE774.out, NB757_774.out, NB774_757.out, (qb)⟩)
            rintro ⟨v771, gb774⟩ w59 ⟨hS_, h0_, h1_, h2_, h3_, h4_, h5_, h6_, h7_, h8_⟩
            have n0_ : Aside0 (Kd.R k72 72 w59 w.heap.size (fun k_ => some k_ ≠ (.slice Ao16 t754.length co16 : Value).ownBlock) v771 t770) := ⟨h0_⟩
            have n1_ : Aside0 (Kd.R k72 72 w59 w.heap.size (fun k_ => some k_ ≠ (v771 : Value).ownBlock) (.slice Ao16 t754.length co16) t754) := ⟨h1_⟩
            have n2_ : Aside0 (w59.heap[gb757]? = some (.cells #[.int .i64 t753, .slice Ao16 t754.length co16] 26 (0, 0))) := ⟨h2_⟩
            have n3_ : Aside0 (w59.heap[gb774]? = some (.cells #[.int .i64 0, .slice none 0 0] 26 (0, 0))) := ⟨h3_⟩
            have n4_ : Aside0 (w.heap.size ≤ gb774) := ⟨h4_⟩
            have n5_ : Aside0 (w.heap.size ≤ gb774) := ⟨h5_⟩
            have n6_ : Aside0 (gb757 ≠ gb774) := ⟨h6_⟩
            have n7_ : Aside0 (gb774 ≠ gb757) := ⟨h7_⟩
            have n8_ : Aside0 (Below w.heap.size w w59) := ⟨h8_⟩
            clear HO_758001
            clear BK757
            clear HB
            clear h0_ h1_ h2_ h3_ h4_ h5_ h6_ h7_ h8_
            have HO772 := n0_
            have HO_758001 := n1_
            have BK757 := n2_
            have BK774 := n3_
            have GW774 := n4_
            have GE774 := n5_
            have NB757_774 := n6_
            have NB774_757 := n7_
            have HB := n8_
            clear n0_ n1_ n2_ n3_ n4_ n5_ n6_ n7_ n8_
            have hHeld : w59.cell? ⟨gb757, 0, none⟩ = some (.int .i64 t753) ∧ w59.cell? ⟨gb757, 1, none⟩ = some (.slice Ao16 t754.length co16) := hS_
            obtain ⟨Ao61, co61, eo61⟩ := Kd.R_slice HO772.out
            (first | subst eo61 | (injection eo61 with f1_ f2_ f3_; have f4_ := f1_.symm; have f5_ := f3_.symm; clear f1_ f2_ f3_; subst f4_; subst f5_))
            refine norm_ (a' := ?_) ?_ ?_
            rotate_left
            ·
             simp only [putAll, Act.put, List.setIfInBounds_toArray, List.set_cons_zero, List.set_cons_succ]
             rfl
            refine one_ (i := 8) (N := none) #[true, true, true, true, true, true, true, true, true, false] rfl rfl (one_of HT_.out qq) (by decide) (fun K hK => ?_)
            have hs60 : w59.cell? ⟨gb774, 0, none⟩ = some (.int .i64 0) := (blk_cell BK774.out 0).trans rfl
            have hfs60 := blk_frozen BK774.out 0
            have hns60_0 := NB757_774.out
            have hms60_0 := NB774_757.out
            have hs62 : w59.cell? ⟨gb774, 1, none⟩ = some (.slice none 0 0) := (blk_cell BK774.out 1).trans rfl
            have hfs62 := blk_frozen BK774.out 1
            have hns62_0 := NB757_774.out
            have hms62_0 := NB774_757.out
            refine skip_ (w1 := ?_) (by rfl) rfl ?_ ?_
            rotate_left
            ·
             go_simp
             rfl
            refine hK.out _ _ ⟨((cell_far (p := ⟨gb774, _, none⟩) NB757_774.out _).trans (((cell_far (p := ⟨gb774, _, none⟩) NB757_774.out _).trans (hHeld.1)))), ((cell_far (p := ⟨gb774, _, none⟩) NB757_774.out _).trans (((cell_far (p := ⟨gb774, _, none⟩) NB757_774.out _).trans (hHeld.2))))⟩ (fun hHeld => ?_)
            clear hK K
            refine pure_ (i := 9) (N := some 23) (v := ?_) (a' := ?_) #[true, true, true, true, true, true, true, true, true, true] rfl rfl (any_of HT_.out qq) (fun _ _ _ h => h) (Or.inl ⟨by rfl, ?_⟩) ?_ ?_
            rotate_left
            ·
             intro w'
             go_simp
             with_reducible rfl
            rotate_left
            ·
             simp only [Act.put, List.setIfInBounds_toArray, List.set_cons_zero, List.set_cons_succ, i64_w, i32_w]
             rfl
            refine done_ (done_of HT_.out qq) ?_
            have hnb63 := NB774_757.out
            have hnc63 := NB757_774.out
            obtain ⟨hcz64_0, hcz64_1, hfz64_0, hfz64_1⟩ := qc2 BK774.out
            try go_wp2_with (first | ((with_reducible refine gate_callee (f := 51) rfl ?_); refine goesL_ (some 110) rfl rfl Try.func51 qq rfl #[.agg #[.int .i64 t769, .slice Ao61 t770.length co61], .int .i64 t758, .int .i64 t759] rfl qa ?_; (with_reducible refine (dialtonelaw27_greatest.calls k1 t769 _ _ t770 t758 t759 t775 t776 true _ ?side1 ?side2 A50.out).mono ?_); (case side1 => refine (Kd.R_reads' (e := 72) (base := w.heap.size) (ok := fun k_ => some k_ ≠ (.slice Ao16 t754.length co16 : Value).ownBlock) (n := t770.length) (c := co61) ?_).2.2; exact (qr (Kd.R_mono (Kd.R_far (p := ⟨gb774, 1, none⟩) (Kd.R_far (p := ⟨gb774, 0, none⟩) (Kd.R_types HO772.out BK774.out (by decide)) (fun _ hk => hk.2) (.int .i64 t769)) (fun _ hk => hk.2) (.slice Ao61 t770.length co61)) (fun _ h_ => h_.1)))); (case side2 => exact (Kd.R_reads' HO772.out).2.1); rintro e w65 ⟨rfl, hb⟩; refine ⟨_, rfl, ?_⟩; replace HO_758001 := Aside0.mk (Kd.R_below (qr (Kd.R_mono (Kd.R_far (p := ⟨gb774, 1, none⟩) (Kd.R_far (p := ⟨gb774, 0, none⟩) (Kd.R_types HO_758001.out BK774.out (by decide)) (fun _ hk => hk.2) (.int .i64 t769)) (fun _ hk => hk.2) (.slice Ao61 t770.length co61)) (fun _ h_ => h_.1))) hb); replace HO772 := Aside0.mk (Kd.R_below (qr (Kd.R_mono (Kd.R_far (p := ⟨gb774, 1, none⟩) (Kd.R_far (p := ⟨gb774, 0, none⟩) (Kd.R_types HO772.out BK774.out (by decide)) (fun _ hk => hk.2) (.int .i64 t769)) (fun _ hk => hk.2) (.slice Ao61 t770.length co61)) (fun _ h_ => h_.1))) hb); replace BK757 := Aside0.mk (blk_below (g := gb757) (o := .cells #[.int .i64 t753, .slice Ao16 t754.length co16] 26 (0, 0)) (by (with_reducible repeat (first | refine blk_drewN ?_ _ | refine blk_drew ?_ | refine blk_alloc ?_ _)); refine blk_far ?_ NB757_774.out _; (with_reducible repeat (first | refine blk_drewN ?_ _ | refine blk_drew ?_ | refine blk_alloc ?_ _)); refine blk_far ?_ NB757_774.out _; (with_reducible repeat (first | refine blk_drewN ?_ _ | refine blk_drew ?_ | refine blk_alloc ?_ _)); exact BK757.out) hb); replace BK774 := Aside0.mk (blk_below (g := gb774) (o := .cells #[.int .i64 t769, .slice Ao61 t770.length co61] 26 (0, 0)) (by (with_reducible repeat (first | refine blk_drewN ?_ _ | refine blk_drew ?_ | refine blk_alloc ?_ _)); refine blk_put (cs := #[.int .i64 t769, .slice none 0 0]) ?_ 1 _ rfl; (with_reducible repeat (first | refine blk_drewN ?_ _ | refine blk_drew ?_ | refine blk_alloc ?_ _)); refine blk_put (cs := #[.int .i64 0, .slice none 0 0]) ?_ 0 _ rfl; (with_reducible repeat (first | refine blk_drewN ?_ _ | refine blk_drew ?_ | refine blk_alloc ?_ _)); exact BK774.out) hb); replace HB := qS HB hb; (try clear hb); (try clear hb2); (try clear hk); (try clear hi); obtain ⟨hcz66_0, hcz66_1, hfz66_0, hfz66_1⟩ := qc2 BK757.out; have p778 : 0 ≤ (t768 : Int) := of_decide_eq_true (by first | (with_reducible assumption) | assumption); have q778 : t768 < (t754.length : Int) := of_decide_eq_true (by first | (with_reducible assumption) | assumption); obtain ⟨ad778, e778, hx778_0, hx778_1, hx778_2⟩ := at_T72 (Kd.R_reads' HO_758001.out).2.2 t768 p778 q778; cases e778; replace p778 := eq_true p778; replace q778 := eq_true q778))
            go_ret
            exact ⟨by first | rfl | (simp [errW_none, errW_some] <;> rfl) | (simp only [← hji47]; first | rfl | (simp [errW_none, errW_some] <;> rfl)) | (simp [*, errW_none, errW_some] <;> rfl), qb⟩
           ·
            rw [if_neg c53] at H
            exact absurd H (by simp)
          ·
           rw [if_neg c52] at H
           have c52b0 : decide (t775 ≤ t760) = false := decide_eq_false c52
           clear c52
           obtain rfl := Option.some.inj H
           obtain ⟨hcz67_0, hcz67_1, hfz67_0, hfz67_1⟩ := qc2 BK757.out
           try go_wp2_with (first | ((with_reducible refine gate_callee (f := 35) rfl ?_); refine goesL_ (some 98) rfl rfl Try.func35 qq rfl #[.int .i64 a4, .int .i64 (t754.length : Int)] rfl qa ?_; (with_reducible refine (dialtonelaw27_pick.calls a4 (t754.length : Int) t768 _ A45.out).mono ?_); rintro e w' ⟨rfl, ⟨nd, rfl⟩⟩; refine ⟨_, rfl, ?_⟩; (try (rw [drewN_self wr]; generalize hq_ : World.drewN wr _ = wr; have n0_ : Aside0 (Kd.R k72 72 wr w.heap.size (fun _ => True) (.slice Ao16 t754.length co16) t754) := ⟨by rw [← hq_]; exact (qr HO_758001.out)⟩; have n1_ : Aside0 (wr.heap[gb757]? = some (.cells #[.int .i64 t753, .slice Ao16 t754.length co16] 26 (0, 0))) := ⟨by rw [← hq_]; exact (qk BK757.out)⟩; have n2_ : Aside0 (Below w.heap.size w wr) := ⟨by rw [← hq_]; exact (qb)⟩; clear HO_758001 BK757 HB hq_; have HO_758001 := n0_; have BK757 := n1_; have HB := n2_; clear n0_ n1_ n2_; have hcz68_0 : wr.cell? ⟨gb757, 0, none⟩ = some (.int .i64 t753) := (blk_cell BK757.out 0).trans rfl; have hfz68_0 := blk_frozen BK757.out 0; have hcz68_1 : wr.cell? ⟨gb757, 1, none⟩ = some (.slice Ao16 t754.length co16) := (blk_cell BK757.out 1).trans rfl; have hfz68_1 := blk_frozen BK757.out 1))))
           replace HO_758001 := Aside0.mk (Kd.R_drew HO_758001.out)
           replace BK757 := Aside0.mk (blk_drew BK757.out)
           replace HB := Aside0.mk (below_drew1 HB.out)
           refine start_ (n := 10) (S := fun w' => w'.cell? ⟨gb757, 0, none⟩ = some (.int .i64 t753) ∧ w'.cell? ⟨gb757, 1, none⟩ = some (.slice Ao16 t754.length co16)) (ds := []) #[false, false, false, false, false, false, false, false, false, false] qq rfl rfl ⟨(blk_cell BK757.out 0).trans rfl, (blk_cell BK757.out 1).trans rfl⟩ (fun hHeld => ?_); refine with_tabW dialtonelaw27_FlowFails.tab17 dialtonelaw27_FlowFails.bits17 (fun HT_ HW_ => ?_)
           generalize wr.drew = w69 at HO_758001 BK757 HB hHeld ⊢
           refine pure_ (i := 1) (N := some 101) (v := ?_) (a' := ?_) #[false, true, false, false, false, false, false, false, false, false] rfl rfl (any_of HT_.out qq) (fun _ _ _ h => h) (Or.inl ⟨by rfl, ?_⟩) ?_ ?_
           rotate_left
           ·
            intro w'
            go_simp
            with_reducible rfl
           rotate_left
           ·
            simp only [Act.put, List.setIfInBounds_toArray, List.set_cons_zero, List.set_cons_succ, i64_w, i32_w]
            rfl
           refine pure_ (i := 2) (N := some 102) (v := ?_) (a' := ?_) #[false, true, true, false, false, false, false, false, false, false] rfl rfl (any_of HT_.out qq) (fun _ _ _ h => h) (Or.inl ⟨by rfl, ?_⟩) ?_ ?_
           rotate_left
           ·
            intro w'
            go_simp
            with_reducible rfl
           rotate_left
           ·
            simp only [Act.put, List.setIfInBounds_toArray, List.set_cons_zero, List.set_cons_succ, i64_w, i32_w]
            rfl
           refine take_ (i := 0) (N := some 100) (v := ?_) (a' := ?_) #[true, true, true, false, false, false, false, false, false, false] rfl rfl (take_ofW HT_.out HW_.out qq) (fun _ _ _ h => h) (Or.inl ⟨by rfl, ?_⟩) hHeld ?_ ?_
           rotate_left
           ·
            rintro w' ⟨s0, s1⟩
            go_simp
            with_reducible rfl
           rotate_left
           ·
            simp only [Act.put, List.setIfInBounds_toArray, List.set_cons_zero, List.set_cons_succ, i64_w, i32_w]
            rfl
           refine join_ (σ := Value × Nat) 2 #[true, true, true, true, true, true, true, true, false, false] (fun s_ => [(103, .tuple #[.agg #[.int .i64 t769, s_.1], .int .i64 t773]), (22, .pointer (some ⟨s_.2, 0, none⟩)), (99, .tuple #[.agg #[.int .i64 t769, s_.1], .int .i64 t773]), (104, .agg #[.int .i64 t769, s_.1]), (105, .int .i64 t773)]) (fun s_ w' => (w'.cell? ⟨gb757, 0, none⟩ = some (.int .i64 t753) ∧ w'.cell? ⟨gb757, 1, none⟩ = some (.slice Ao16 t754.length co16)) ∧ (Kd.R k72 72 w' w.heap.size (fun k_ => some k_ ≠ (.slice Ao16 t754.length co16 : Value).ownBlock) s_.1 t770) ∧ (Kd.R k72 72 w' w.heap.size (fun k_ => some k_ ≠ (s_.1 : Value).ownBlock) (.slice Ao16 t754.length co16) t754) ∧ (w'.heap[gb757]? = some (.cells #[.int .i64 t753, .slice Ao16 t754.length co16] 26 (0, 0))) ∧ (w'.heap[s_.2]? = some (.cells #[.int .i64 0, .slice none 0 0] 26 (0, 0))) ∧ (w.heap.size ≤ s_.2) ∧ (w.heap.size ≤ s_.2) ∧ (gb757 ≠ s_.2) ∧ (s_.2 ≠ gb757) ∧ (Below w.heap.size w w')) ?_ ?_
           rotate_left
           ·
            intro hCont
            refine two_ (i := 3) (j := 7) (Ni := some 103) (Nj := some 22) #[true, true, true, true, false, false, false, false, false, false] #[true, true, true, false, false, false, false, true, false, false] rfl rfl rfl rfl (two_of HT_.out qq) (by decide) (by decide) (fun K hK => ?_) (fun K hK => ?_)
            ·
             skip
             refine goes_ Try.func38 qq rfl #[.agg #[.int .i64 t753, .slice Ao16 t754.length co16], .int .i64 ji47] (by rfl) rfl rfl (by (try simp only [List.map_toArray, List.map_cons, List.map_nil]); first | done | (simp only [hji47]; rfl) | rfl | (simp only [List.length_drop, List.length_take]; rfl)) ?_
             with_reducible refine (flow_Without.calls t753 _ _ t754 ji47 t769 t770 t773 _ ?side1 ?side2 A48.out).mono ?_
             (case side1 => exact qC (Kd.R_reads' HO_758001.out).2.2)
             (case side2 => exact (Kd.R_reads' HO_758001.out).2.1)
             rintro e w70 ⟨v771, rfl, ho0, hb⟩
             refine ⟨_, rfl, ?_⟩
             have HO772 := Aside0.mk (Kd.R_lower (Kd.R_new' ho0 (Kd.R_lt (qr HO_758001.out))) (below_size (qb)))
             replace HO_758001 := Aside0.mk (Kd.R_elder' (qr HO_758001.out) (Kd.R_base ho0) hb)
             replace BK757 := qB BK757 hb
             replace HB := qS HB hb
             (try clear hb)
             (try clear hb2)
             (try clear hk)
             (try clear hi)
             (try clear ho0)
             refine hK.out _ _ ⟨(blk_cell BK757.out 0).trans rfl, (blk_cell BK757.out 1).trans rfl⟩ (fun hHeld => ?_)
             clear hK K
             refine norm_ (a' := ?_) ?_ ?_
             rotate_left
             ·
              show Act.put _ (some 103) _ = _
              simp only [Act.put, List.setIfInBounds_toArray, List.set_cons_zero, List.set_cons_succ, i64_w, i32_w]
              rfl
             refine pure_ (i := 4) (N := some 99) (v := ?_) (a' := ?_) #[true, true, true, true, true, false, false, false, false, false] rfl rfl (any_of HT_.out qq) (fun _ _ _ h => h) (Or.inl ⟨by rfl, ?_⟩) ?_ ?_
             rotate_left
             ·
              intro w'
              go_simp
              with_reducible rfl
             rotate_left
             ·
              simp only [Act.put, List.setIfInBounds_toArray, List.set_cons_zero, List.set_cons_succ, i64_w, i32_w]
              rfl
             refine pure_ (i := 5) (N := some 104) (v := ?_) (a' := ?_) #[true, true, true, true, true, true, false, false, false, false] rfl rfl (any_of HT_.out qq) (fun _ _ _ h => h) (Or.inl ⟨by rfl, ?_⟩) ?_ ?_
             rotate_left
             ·
              intro w'
              go_simp
              with_reducible rfl
             rotate_left
             ·
              simp only [Act.put, List.setIfInBounds_toArray, List.set_cons_zero, List.set_cons_succ, i64_w, i32_w]
              rfl
             refine pure_ (i := 6) (N := some 105) (v := ?_) (a' := ?_) #[true, true, true, true, true, true, true, false, false, false] rfl rfl (any_of HT_.out qq) (fun _ _ _ h => h) (Or.inl ⟨by rfl, ?_⟩) ?_ ?_
             rotate_left
             ·
              intro w'
              go_simp
              with_reducible rfl
             rotate_left
             ·
              simp only [Act.put, List.setIfInBounds_toArray, List.set_cons_zero, List.set_cons_succ, i64_w, i32_w]
              rfl
             refine one_ (i := 7) (N := some 22) #[true, true, true, true, true, true, true, true, false, false] rfl rfl (one_of HT_.out qq) (by decide) (fun K hK => ?_)
             refine box_step ?hg (N := 22) ?hd (cs := #[.int .i64 0, .slice none 0 0]) (t := 26) ?hr ?_; (case hd => rfl); (case hg => rfl); (case hr => first | (go_simp; done) | (go_simp; rfl))
             intro gb774 hg w71 hbox hb
             replace HO_758001 := qR HO_758001 hb
             replace HO772 := qR HO772 hb
             have BK774 := Aside0.mk (hbox)
             have GW774 := qg HB hg
             have GE774 := qg HB hg
             replace HB := qS HB hb
             have NB757_774 := qn BK757 hg
             have NB774_757 := qm BK757 hg
             replace BK757 := qB BK757 hb
             clear hb hbox hg
             refine hK.out _ _ ⟨(blk_cell BK757.out 0).trans rfl, (blk_cell BK757.out 1).trans rfl⟩ (fun hHeld => ?_)
             clear hK K
             refine norm_ (a' := ?_) ?_ ?_
             rotate_left
             ·
              show Act.put _ (some 22) _ = _
              simp only [Act.put, List.setIfInBounds_toArray, List.set_cons_zero, List.set_cons_succ, i64_w, i32_w]
              rfl
             exact norm_ (by simp only [putAll, Act.put, List.setIfInBounds_toArray, List.set_cons_zero, List.set_cons_succ]) (hCont (v771, gb774) _ ⟨hHeld, (qr (Kd.R_mono HO772.out (fun _ hk => hk.2))), (qr (Kd.R_mono HO_758001.out (fun _ hk => hk.2))), (qk BK757.out), (qk BK774.out), GW774.out, GE774.out, NB757_774.out, NB774_757.out, (qb)⟩)
            ·
             skip
             refine box_step ?hg (N := 22) ?hd (cs := #[.int .i64 0, .slice none 0 0]) (t := 26) ?hr ?_; (case hd => rfl); (case hg => rfl); (case hr => first | (go_simp; done) | (go_simp; rfl))
             intro gb774 hg w70 hbox hb
             replace HO_758001 := qR HO_758001 hb
             have BK774 := Aside0.mk (hbox)
             have GW774 := qg HB hg
             have GE774 := qg HB hg
             replace HB := qS HB hb
             have NB757_774 := qn BK757 hg
             have NB774_757 := qm BK757 hg
             replace BK757 := qB BK757 hb
             clear hb hbox hg
             refine hK.out _ _ ⟨(blk_cell BK757.out 0).trans rfl, (blk_cell BK757.out 1).trans rfl⟩ (fun hHeld => ?_)
             clear hK K
             refine norm_ (a' := ?_) ?_ ?_
             rotate_left
             ·
              show Act.put _ (some 22) _ = _
              simp only [Act.put, List.setIfInBounds_toArray, List.set_cons_zero, List.set_cons_succ, i64_w, i32_w]
              rfl
             refine one_ (i := 3) (N := some 103) #[true, true, true, true, false, false, false, true, false, false] rfl rfl (one_of HT_.out qq) (by decide) (fun K hK => ?_)
             refine goes_ Try.func38 qq rfl #[.agg #[.int .i64 t753, .slice Ao16 t754.length co16], .int .i64 ji47] (by rfl) rfl rfl (by (try simp only [List.map_toArray, List.map_cons, List.map_nil]); first | done | (simp only [hji47]; rfl) | rfl | (simp only [List.length_drop, List.length_take]; rfl)) ?_
             with_reducible refine (flow_Without.calls t753 _ _ t754 ji47 t769 t770 t773 _ ?side1 ?side2 A48.out).mono ?_
             (case side1 => exact qC (Kd.R_reads' HO_758001.out).2.2)
             (case side2 => exact (Kd.R_reads' HO_758001.out).2.1)
             rintro e w71 ⟨v771, rfl, ho0, hb⟩
             refine ⟨_, rfl, ?_⟩
             have HO772 := Aside0.mk (Kd.R_lower (Kd.R_new' ho0 (Kd.R_lt (qr HO_758001.out))) (below_size (qb)))
             replace HO_758001 := Aside0.mk (Kd.R_elder' (qr HO_758001.out) (Kd.R_base ho0) hb)
             replace BK757 := qB BK757 hb
             replace BK774 := qB BK774 hb
             replace HB := qS HB hb
             (try clear hb)
             (try clear hb2)
             (try clear hk)
             (try clear hi)
             (try clear ho0)
             refine hK.out _ _ ⟨(blk_cell BK757.out 0).trans rfl, (blk_cell BK757.out 1).trans rfl⟩ (fun hHeld => ?_)
             clear hK K
             refine norm_ (a' := ?_) ?_ ?_
             rotate_left
             ·
              show Act.put _ (some 103) _ = _
              simp only [Act.put, List.setIfInBounds_toArray, List.set_cons_zero, List.set_cons_succ, i64_w, i32_w]
              rfl
             refine pure_ (i := 4) (N := some 99) (v := ?_) (a' := ?_) #[true, true, true, true, true, false, false, true, false, false] rfl rfl (any_of HT_.out qq) (fun _ _ _ h => h) (Or.inl ⟨by rfl, ?_⟩) ?_ ?_
             rotate_left
             ·
              intro w'
              go_simp
              with_reducible rfl
             rotate_left
             ·
              simp only [Act.put, List.setIfInBounds_toArray, List.set_cons_zero, List.set_cons_succ, i64_w, i32_w]
              rfl
             refine pure_ (i := 5) (N := some 104) (v := ?_) (a' := ?_) #[true, true, true, true, true, true, false, true, false, false] rfl rfl (any_of HT_.out qq) (fun _ _ _ h => h) (Or.inl ⟨by rfl, ?_⟩) ?_ ?_
             rotate_left
             ·
              intro w'
              go_simp
              with_reducible rfl
             rotate_left
             ·
              simp only [Act.put, List.setIfInBounds_toArray, List.set_cons_zero, List.set_cons_succ, i64_w, i32_w]
              rfl
             refine pure_ (i := 6) (N := some 105) (v := ?_) (a' := ?_) #[true, true, true, true, true, true, true, true, false, false] rfl rfl (any_of HT_.out qq) (fun _ _ _ h => h) (Or.inl ⟨by rfl, ?_⟩) ?_ ?_
             rotate_left
             ·
              intro w'
              go_simp
              with_reducible rfl
             rotate_left
             ·
              simp only [Act.put, List.setIfInBounds_toArray, List.set_cons_zero, List.set_cons_succ, i64_w, i32_w]
              rfl
             exact norm_ (by simp only [putAll, Act.put, List.setIfInBounds_toArray, List.set_cons_zero, List.set_cons_succ]) (hCont (v771, gb774) _ ⟨hHeld, (qr (Kd.R_mono HO772.out (fun _ hk => hk.2))), (qr (Kd.R_mono HO_758001.out (fun _ hk => hk.2))), (qk BK757.out), (qk BK774.out), GW774.out, GE774.out, NB757_774.out, NB774_757.out, (qb)⟩)
           rintro ⟨v771, gb774⟩ w72 ⟨hS_, h0_, h1_, h2_, h3_, h4_, h5_, h6_, h7_, h8_⟩
           have n0_ : Aside0 (Kd.R k72 72 w72 w.heap.size (fun k_ => some k_ ≠ (.slice Ao16 t754.length co16 : Value).ownBlock) v771 t770) := ⟨h0_⟩
           have n1_ : Aside0 (Kd.R k72 72 w72 w.heap.size (fun k_ => some k_ ≠ (v771 : Value).ownBlock) (.slice Ao16 t754.length co16) t754) := ⟨h1_⟩
           have n2_ : Aside0 (w72.heap[gb757]? = some (.cells #[.int .i64 t753, .slice Ao16 t754.length co16] 26 (0, 0))) := ⟨h2_⟩
           have n3_ : Aside0 (w72.heap[gb774]? = some (.cells #[.int .i64 0, .slice none 0 0] 26 (0, 0))) := ⟨h3_⟩
           have n4_ : Aside0 (w.heap.size ≤ gb774) := ⟨h4_⟩
           have n5_ : Aside0 (w.heap.size ≤ gb774) := ⟨h5_⟩
           have n6_ : Aside0 (gb757 ≠ gb774) := ⟨h6_⟩
           have n7_ : Aside0 (gb774 ≠ gb757) := ⟨h7_⟩
           have n8_ : Aside0 (Below w.heap.size w w72) := ⟨h8_⟩
           clear HO_758001
           clear BK757
           clear HB
           clear h0_ h1_ h2_ h3_ h4_ h5_ h6_ h7_ h8_
           have HO772 := n0_
           have HO_758001 := n1_
           have BK757 := n2_
           have BK774 := n3_
           have GW774 := n4_
           have GE774 := n5_
           have NB757_774 := n6_
           have NB774_757 := n7_
           have HB := n8_
           clear n0_ n1_ n2_ n3_ n4_ n5_ n6_ n7_ n8_
           have hHeld : w72.cell? ⟨gb757, 0, none⟩ = some (.int .i64 t753) ∧ w72.cell? ⟨gb757, 1, none⟩ = some (.slice Ao16 t754.length co16) := hS_
           obtain ⟨Ao74, co74, eo74⟩ := Kd.R_slice HO772.out
           (first | subst eo74 | (injection eo74 with f1_ f2_ f3_; have f4_ := f1_.symm; have f5_ := f3_.symm; clear f1_ f2_ f3_; subst f4_; subst f5_))
           refine norm_ (a' := ?_) ?_ ?_
           rotate_left
           ·
            simp only [putAll, Act.put, List.setIfInBounds_toArray, List.set_cons_zero, List.set_cons_succ]
            rfl
           refine one_ (i := 8) (N := none) #[true, true, true, true, true, true, true, true, true, false] rfl rfl (one_of HT_.out qq) (by decide) (fun K hK => ?_)
           have hs73 : w72.cell? ⟨gb774, 0, none⟩ = some (.int .i64 0) := (blk_cell BK774.out 0).trans rfl
           have hfs73 := blk_frozen BK774.out 0
           have hns73_0 := NB757_774.out
           have hms73_0 := NB774_757.out
           have hs75 : w72.cell? ⟨gb774, 1, none⟩ = some (.slice none 0 0) := (blk_cell BK774.out 1).trans rfl
           have hfs75 := blk_frozen BK774.out 1
           have hns75_0 := NB757_774.out
           have hms75_0 := NB774_757.out
           refine skip_ (w1 := ?_) (by rfl) rfl ?_ ?_
           rotate_left
           ·
            go_simp
            rfl
           refine hK.out _ _ ⟨((cell_far (p := ⟨gb774, _, none⟩) NB757_774.out _).trans (((cell_far (p := ⟨gb774, _, none⟩) NB757_774.out _).trans (hHeld.1)))), ((cell_far (p := ⟨gb774, _, none⟩) NB757_774.out _).trans (((cell_far (p := ⟨gb774, _, none⟩) NB757_774.out _).trans (hHeld.2))))⟩ (fun hHeld => ?_)
           clear hK K
           refine pure_ (i := 9) (N := some 23) (v := ?_) (a' := ?_) #[true, true, true, true, true, true, true, true, true, true] rfl rfl (any_of HT_.out qq) (fun _ _ _ h => h) (Or.inl ⟨by rfl, ?_⟩) ?_ ?_
           rotate_left
           ·
            intro w'
            go_simp
            with_reducible rfl
           rotate_left
           ·
            simp only [Act.put, List.setIfInBounds_toArray, List.set_cons_zero, List.set_cons_succ, i64_w, i32_w]
            rfl
           refine done_ (done_of HT_.out qq) ?_
           have hnb76 := NB774_757.out
           have hnc76 := NB757_774.out
           obtain ⟨hcz77_0, hcz77_1, hfz77_0, hfz77_1⟩ := qc2 BK774.out
           try go_wp2_with (first | ((with_reducible refine gate_callee (f := 51) rfl ?_); refine goesL_ (some 110) rfl rfl Try.func51 qq rfl #[.agg #[.int .i64 t769, .slice Ao74 t770.length co74], .int .i64 t758, .int .i64 t759] rfl qa ?_; (with_reducible refine (dialtonelaw27_greatest.calls k1 t769 _ _ t770 t758 t759 t775 t776 true _ ?side1 ?side2 A50.out).mono ?_); (case side1 => refine (Kd.R_reads' (e := 72) (base := w.heap.size) (ok := fun k_ => some k_ ≠ (.slice Ao16 t754.length co16 : Value).ownBlock) (n := t770.length) (c := co74) ?_).2.2; exact (qr (Kd.R_mono (Kd.R_far (p := ⟨gb774, 1, none⟩) (Kd.R_far (p := ⟨gb774, 0, none⟩) (Kd.R_types HO772.out BK774.out (by decide)) (fun _ hk => hk.2) (.int .i64 t769)) (fun _ hk => hk.2) (.slice Ao74 t770.length co74)) (fun _ h_ => h_.1)))); (case side2 => exact (Kd.R_reads' HO772.out).2.1); rintro e w78 ⟨rfl, hb⟩; refine ⟨_, rfl, ?_⟩; replace HO_758001 := Aside0.mk (Kd.R_below (qr (Kd.R_mono (Kd.R_far (p := ⟨gb774, 1, none⟩) (Kd.R_far (p := ⟨gb774, 0, none⟩) (Kd.R_types HO_758001.out BK774.out (by decide)) (fun _ hk => hk.2) (.int .i64 t769)) (fun _ hk => hk.2) (.slice Ao74 t770.length co74)) (fun _ h_ => h_.1))) hb); replace HO772 := Aside0.mk (Kd.R_below (qr (Kd.R_mono (Kd.R_far (p := ⟨gb774, 1, none⟩) (Kd.R_far (p := ⟨gb774, 0, none⟩) (Kd.R_types HO772.out BK774.out (by decide)) (fun _ hk => hk.2) (.int .i64 t769)) (fun _ hk => hk.2) (.slice Ao74 t770.length co74)) (fun _ h_ => h_.1))) hb); replace BK757 := Aside0.mk (blk_below (g := gb757) (o := .cells #[.int .i64 t753, .slice Ao16 t754.length co16] 26 (0, 0)) (by (with_reducible repeat (first | refine blk_drewN ?_ _ | refine blk_drew ?_ | refine blk_alloc ?_ _)); refine blk_far ?_ NB757_774.out _; (with_reducible repeat (first | refine blk_drewN ?_ _ | refine blk_drew ?_ | refine blk_alloc ?_ _)); refine blk_far ?_ NB757_774.out _; (with_reducible repeat (first | refine blk_drewN ?_ _ | refine blk_drew ?_ | refine blk_alloc ?_ _)); exact BK757.out) hb); replace BK774 := Aside0.mk (blk_below (g := gb774) (o := .cells #[.int .i64 t769, .slice Ao74 t770.length co74] 26 (0, 0)) (by (with_reducible repeat (first | refine blk_drewN ?_ _ | refine blk_drew ?_ | refine blk_alloc ?_ _)); refine blk_put (cs := #[.int .i64 t769, .slice none 0 0]) ?_ 1 _ rfl; (with_reducible repeat (first | refine blk_drewN ?_ _ | refine blk_drew ?_ | refine blk_alloc ?_ _)); refine blk_put (cs := #[.int .i64 0, .slice none 0 0]) ?_ 0 _ rfl; (with_reducible repeat (first | refine blk_drewN ?_ _ | refine blk_drew ?_ | refine blk_alloc ?_ _)); exact BK774.out) hb); replace HB := qS HB hb; (try clear hb); (try clear hb2); (try clear hk); (try clear hi)))
           go_ret
           exact ⟨by first | rfl | (simp [errW_none, errW_some] <;> rfl) | (simp only [← hji47]; first | rfl | (simp [errW_none, errW_some] <;> rfl)) | (simp [*, errW_none, errW_some] <;> rfl), qb⟩
         ·
          replace c51 := Bool.eq_false_iff.mpr c51
          subst c51
          rw [if_neg (show ¬ (false = true) by decide)] at H
          exact absurd H (by simp)
        ·
         rw [if_neg c49] at H
         exact absurd H (by simp)
       ·
        rw [if_neg c46] at H
        exact absurd H (by simp)
  ·
   replace c11 := Bool.eq_false_iff.mpr c11
   subst c11
   rw [if_neg (show ¬ (false = true) by decide)] at H
   exact absurd H (by simp)
 ·
  replace c7 := Bool.eq_false_iff.mpr c7
  subst c7
  rw [if_neg (show ¬ (false = true) by decide)] at H
  exact absurd H (by simp)

end Go.Proofs.Ytkkakdpncogpkaa.D
end
