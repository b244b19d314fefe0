/- Parts of the proof of a law about flows (see the law's own text): Fdialtoneref27BentList, Fdialtonelaw27FlowWorst. Conditions: each theorem's own. -/
import Derived.Test.YtkkakdpncogpkaaBase5
import Derived.Test.YtkkakdpncogpkaaBase4
import Derived.Test.YtkkakdpncogpkaaBase6
import Derived.Test.YtkkakdpncogpkaaBase27
import Derived.Test.YtkkakdpncogpkaaBase28
import Derived.Test.YtkkakdpncogpkaaBase16
import Derived.Test.YtkkakdpncogpkaaBase26
section
namespace Go.Proofs.Ytkkakdpncogpkaa.D
open Go.RowKit Go.Proofs.YtkkakdpncogpkaaW.PrintWords Go.Proofs.YtkkakdpncogpkaaW.PrintLast Go.Proofs.YtkkakdpncogpkaaW.PrintMore
attribute [local go_sem] max2_int min2_int max_two min_two max_three min_three max_four min_four   -- for this text's walks alone
set_option linter.unusedVariables false
set_option linter.unusedSimpArgs false

/-! ### dialtoneref27_BentList: function 33 -/
def dialtoneref27_BentList.f (l0 : List Int) (a1 : Int) (a2 : Int) (a3 : Int) : Option (List Int) := (some (([] : List Int) : List Int)).bind fun y338 => (if y338.length + l0.length < 17592186044416 then ((some (y338 ++ l0 : List Int)).bind fun y341 => (if (y341.length : Int) = 0 then (some (([a2] : List Int))) else ((dialtoneref27_pick.f a3 (y341.length : Int)).bind fun t347 => ((dialtoneref27_pick.f a1 4).bind fun t348 => (if t348 = 0 then (if 0 ≤ t347 then (if t347 < (y341.length : Int) then (some (y341.set (t347 : Int).toNat a2)) else (none)) else (none)) else (if t348 = 1 then (if 0 ≤ t347 then (if t347 < (y341.length : Int) then (some (y341.set (t347 : Int).toNat (wrap64 ((rd y341 t347) + 1)))) else (none)) else (none)) else (if t348 = 2 then (if 0 ≤ t347 then (if t347 < (y341.length : Int) then (some (y341.set (t347 : Int).toNat (wrap64 ((rd y341 t347) - 1)))) else (none)) else (none)) else (if y341.length < 17592186044416 then (some (y341 ++ [a2])) else (none))))))))) else (none))
set_option maxHeartbeats 8000000 in
set_option maxRecDepth 100000 in
theorem dialtoneref27_BentList.calls (A0 : Option Addr) (c0 : Nat) (l0 : List Int) (a1 : Int) (a2 : Int) (a3 : Int) (r : List Int) (w : World) (hr0 : Kd.C (Kd.int .i64) w A0 l0.length l0) (hc0 : l0.length ≤ c0) (h : dialtoneref27_BentList.f l0 a1 a2 a3 = some r) :
  Calls Try.prog 33 #[.slice A0 l0.length c0, .int .i64 a1, .int .i64 a2, .int .i64 a3] w fun e w' => ∃ v0_ : Value, e = .returned (v0_) ∧ Kd.R (Kd.int .i64) 3 w' w.heap.size (fun _ => True) v0_ r ∧ Below w.heap.size w w' := by
 have HR0 := Aside0.mk hr0
 have HC0 := Aside0.mk hc0
 clear hr0 hc0
 have HB := Aside0.mk (Below.refl w.heap.size w)
 have H : ((some (([] : List Int) : List Int)).bind fun y338 => (if y338.length + l0.length < 17592186044416 then ((some (y338 ++ l0 : List Int)).bind fun y341 => (if (y341.length : Int) = 0 then (some (([a2] : List Int))) else ((dialtoneref27_pick.f a3 (y341.length : Int)).bind fun t347 => ((dialtoneref27_pick.f a1 4).bind fun t348 => (if t348 = 0 then (if 0 ≤ t347 then (if t347 < (y341.length : Int) then (some (y341.set (t347 : Int).toNat a2)) else (none)) else (none)) else (if t348 = 1 then (if 0 ≤ t347 then (if t347 < (y341.length : Int) then (some (y341.set (t347 : Int).toNat (wrap64 ((rd y341 t347) + 1)))) else (none)) else (none)) else (if t348 = 2 then (if 0 ≤ t347 then (if t347 < (y341.length : Int) then (some (y341.set (t347 : Int).toNat (wrap64 ((rd y341 t347) - 1)))) else (none)) else (none)) else (if y341.length < 17592186044416 then (some (y341 ++ [a2])) else (none))))))))) else (none))) = some r := h
 clear h
 obtain ⟨y338, hy338⟩ : ∃ y_ : List Int, y_ = (([] : List Int)) := ⟨_, rfl⟩
 replace H : (if y338.length + l0.length < 17592186044416 then ((some (y338 ++ l0 : List Int)).bind fun y341 => (if (y341.length : Int) = 0 then (some (([a2] : List Int))) else ((dialtoneref27_pick.f a3 (y341.length : Int)).bind fun t347 => ((dialtoneref27_pick.f a1 4).bind fun t348 => (if t348 = 0 then (if 0 ≤ t347 then (if t347 < (y341.length : Int) then (some (y341.set (t347 : Int).toNat a2)) else (none)) else (none)) else (if t348 = 1 then (if 0 ≤ t347 then (if t347 < (y341.length : Int) then (some (y341.set (t347 : Int).toNat (wrap64 ((rd y341 t347) + 1)))) else (none)) else (none)) else (if t348 = 2 then (if 0 ≤ t347 then (if t347 < (y341.length : Int) then (some (y341.set (t347 : Int).toNat (wrap64 ((rd y341 t347) - 1)))) else (none)) else (none)) else (if y341.length < 17592186044416 then (some (y341 ++ [a2])) else (none))))))))) else (none)) = some r := by first | (rw [hy338]; with_reducible exact H) | (have H2_ := (Option.bind_some _ _).symm.trans H; rw [hy338]; with_reducible exact H2_) | (have H2_ := (Option.bind_some _ _).symm.trans H; with_reducible exact H2_) | with_reducible exact H | (rw [hy338]; exact H) | exact H
 have Ny338 := Aside0.mk hy338
 clear hy338
 by_cases c5 : y338.length + l0.length < 17592186044416
 ·
  rw [if_pos c5] at H
  have LMc5 := Aside0.mk c5
  clear c5
  obtain ⟨y341, hy341⟩ : ∃ y_ : List Int, y_ = (y338 ++ l0) := ⟨_, rfl⟩
  replace H : (if (y341.length : Int) = 0 then (some (([a2] : List Int))) else ((dialtoneref27_pick.f a3 (y341.length : Int)).bind fun t347 => ((dialtoneref27_pick.f a1 4).bind fun t348 => (if t348 = 0 then (if 0 ≤ t347 then (if t347 < (y341.length : Int) then (some (y341.set (t347 : Int).toNat a2)) else (none)) else (none)) else (if t348 = 1 then (if 0 ≤ t347 then (if t347 < (y341.length : Int) then (some (y341.set (t347 : Int).toNat (wrap64 ((rd y341 t347) + 1)))) else (none)) else (none)) else (if t348 = 2 then (if 0 ≤ t347 then (if t347 < (y341.length : Int) then (some (y341.set (t347 : Int).toNat (wrap64 ((rd y341 t347) - 1)))) else (none)) else (none)) else (if y341.length < 17592186044416 then (some (y341 ++ [a2])) else (none)))))))) = some r := by first | (rw [hy341]; with_reducible exact H) | (have H2_ := (Option.bind_some _ _).symm.trans H; rw [hy341]; with_reducible exact H2_) | (have H2_ := (Option.bind_some _ _).symm.trans H; with_reducible exact H2_) | with_reducible exact H | (rw [hy341]; exact H) | exact H
  have Ny341 := Aside0.mk hy341
  clear hy341
  by_cases c6 : (y341.length : Int) = 0
  ·
   rw [if_pos c6] at H
   obtain ⟨c6b0, c6b1⟩ := qt c6
   clear c6
   obtain ⟨y344, hy344⟩ : ∃ y_ : List Int, y_ = (([a2] : List Int)) := ⟨_, rfl⟩
   replace H : (some y344) = some r := by first | (rw [hy344]; with_reducible exact H) | (have H2_ := (Option.bind_some _ _).symm.trans H; rw [hy344]; with_reducible exact H2_) | (have H2_ := (Option.bind_some _ _).symm.trans H; with_reducible exact H2_) | with_reducible exact H | (rw [hy344]; exact H) | exact H
   have Ny344 := Aside0.mk hy344
   clear hy344
   obtain rfl := Option.some.inj H
   go_enter Try.func33, Try.ntmps33
   go_wp2_with (first | ((with_reducible refine gate_dst (N := 11) rfl ?_); refine Kd.R_lit (Kd.int .i64) _ 3 ?hg (N := 11) ?hd (xs := ([] : List Int)) (inner := []) (ok := fun _ => True) (okp := fun _ => True) ?hr ?hp (fun _ hk => hk) trivial (Below.refl _ _) (Nat.le_refl _) (by simp) ?_; (case hd => rfl); (case hg => rfl); (case hr => first | (go_simp; done) | (go_simp; rfl)); (case hp => exact (Reps.none _ _)); intro v339 w7 ho8 hb hg_ hnew_; clear hg_ hnew_; (first | rw [← Ny338.out] at ho8 | (simp only [Int.reduceToNat] at ho8; rw [← Ny338.out] at ho8)); have HO340 := Aside0.mk (Kd.R_lower ho8 (below_size (qb))); replace HB := qS HB hb; clear hb ho8) | ((with_reducible refine gate_builtin (b := .append) (xs := #[.tmp 11, .tmp 12]) rfl ?_); at_builtin; refine Kd.R_append_rows (Kd.int .i64) (w0 := w) w.heap.size rfl (.tmp 11) (.tmp 12) 27 3 (.int .i64 0) 8 rfl Try.underlying27 info3 rfl (by decide) (by omega) v339 y338 l0 _ _ _ (fun _ => True) (fun _ => False) rfl rfl ?aO ?aR (fun _ _ h => h) (fun _ h => h.elim) ?aF ?aB ?aS ?aL ?_; (case aR => exact qC (Kd.C_below HR0.out HB.out)); (case aB => exact (qb)); (case aF => exact (fun _ _ => trivial)); (case aO => exact (qr HO340.out)); (case aS => exact (below_size (qb))); (case aL => have := LMc5.out; omega); intro v342 w9 ho hb hg hat; rw [← Ny341.out] at ho; have n0_ := Aside0.mk (hb); have n1_ := Aside0.mk (ho); clear HB; clear HO340; have HB := n0_; have HO343 := n1_; clear n0_ n1_; clear ho hb hg hat; obtain ⟨Ao10, co10, eo10⟩ := Kd.R_slice HO343.out; subst eo10) | ((with_reducible refine gate_dst (N := 18) rfl ?_); refine Kd.R_lit (Kd.int .i64) _ 3 ?hg (N := 18) ?hd (xs := ([a2] : List Int)) (inner := [.int .i64 a2]) (ok := fun _ => True) (okp := fun _ => True) ?hr ?hp (fun _ hk => hk) trivial (Below.refl _ _) (Nat.le_refl _) (by simp) ?_; (case hd => rfl); (case hg => rfl); (case hr => first | (go_simp; done) | (go_simp; rfl)); (case hp => exact (Reps.one (show Kd.M (Kd.int .i64) _ _ _ a2 [.int .i64 a2] from rfl) (Reps.none _ _))); intro v345 w11 ho12 hb hg_ hnew_; clear hg_ hnew_; (first | rw [← Ny344.out] at ho12 | (simp only [Int.reduceToNat] at ho12; rw [← Ny344.out] at ho12)); have HO346 := Aside0.mk (Kd.R_lower (Kd.R_new' ho12 (Kd.R_lt (qr HO343.out))) (below_size (qb))); replace HO343 := Aside0.mk (Kd.R_elder' (qr HO343.out) (Kd.R_base ho12) hb); replace HB := qS HB hb; clear hb ho12))
   go_ret
   exact ⟨_, qe, by (with_reducible repeat (first | apply Kd.R_alloc | apply Kd.R_drewN | apply Kd.R_drew)); exact Kd.R_mono HO346.out (fun _ hk => trivial), qb⟩
  ·
   rw [if_neg c6] at H
   obtain ⟨c6b0, c6b1⟩ := qf c6
   have c6b2 : ¬ (y341 = []) := fun h_ => c6 (by rw [h_]; rfl)
   replace H := Option.bind_eq_some_iff.mp H
   obtain ⟨t347, A130, H⟩ := H
   (try dsimp only at H)
   have A13 := Aside0.mk A130
   clear A130
   replace H := Option.bind_eq_some_iff.mp H
   obtain ⟨t348, A140, H⟩ := H
   (try dsimp only at H)
   have A14 := Aside0.mk A140
   clear A140
   by_cases c15 : t348 = 0
   ·
    rw [if_pos c15] at H
    obtain ⟨c15b0, c15b1⟩ := qt c15
    clear c15
    by_cases c16 : 0 ≤ t347
    ·
     rw [if_pos c16] at H
     have c16b0 : decide (0 ≤ t347) = true := decide_eq_true c16
     clear c16
     by_cases c17 : t347 < (y341.length : Int)
     ·
      rw [if_pos c17] at H
      have c17b0 : decide (t347 < (y341.length : Int)) = true := decide_eq_true c17
      clear c17
      obtain ⟨y349, hy349⟩ : ∃ y_ : List Int, y_ = (y341.set (t347 : Int).toNat a2) := ⟨_, rfl⟩
      replace H : (some y349) = some r := by first | (rw [hy349]; with_reducible exact H) | (have H2_ := (Option.bind_some _ _).symm.trans H; rw [hy349]; with_reducible exact H2_) | (have H2_ := (Option.bind_some _ _).symm.trans H; with_reducible exact H2_) | with_reducible exact H | (rw [hy349]; exact H) | exact H
      have Ny349 := Aside0.mk hy349
      clear hy349
      obtain rfl := Option.some.inj H
      go_enter Try.func33, Try.ntmps33
      go_wp2_with (first | ((with_reducible refine gate_dst (N := 11) rfl ?_); refine Kd.R_lit (Kd.int .i64) _ 3 ?hg (N := 11) ?hd (xs := ([] : List Int)) (inner := []) (ok := fun _ => True) (okp := fun _ => True) ?hr ?hp (fun _ hk => hk) trivial (Below.refl _ _) (Nat.le_refl _) (by simp) ?_; (case hd => rfl); (case hg => rfl); (case hr => first | (go_simp; done) | (go_simp; rfl)); (case hp => exact (Reps.none _ _)); intro v339 w19 ho20 hb hg_ hnew_; clear hg_ hnew_; (first | rw [← Ny338.out] at ho20 | (simp only [Int.reduceToNat] at ho20; rw [← Ny338.out] at ho20)); have HO340 := Aside0.mk (Kd.R_lower ho20 (below_size (qb))); replace HB := qS HB hb; clear hb ho20) | ((with_reducible refine gate_builtin (b := .append) (xs := #[.tmp 11, .tmp 12]) rfl ?_); at_builtin; refine Kd.R_append_rows (Kd.int .i64) (w0 := w) w.heap.size rfl (.tmp 11) (.tmp 12) 27 3 (.int .i64 0) 8 rfl Try.underlying27 info3 rfl (by decide) (by omega) v339 y338 l0 _ _ _ (fun _ => True) (fun _ => False) rfl rfl ?aO ?aR (fun _ _ h => h) (fun _ h => h.elim) ?aF ?aB ?aS ?aL ?_; (case aR => exact qC (Kd.C_below HR0.out HB.out)); (case aB => exact (qb)); (case aF => exact (fun _ _ => trivial)); (case aO => exact (qr HO340.out)); (case aS => exact (below_size (qb))); (case aL => have := LMc5.out; omega); intro v342 w21 ho hb hg hat; rw [← Ny341.out] at ho; have n0_ := Aside0.mk (hb); have n1_ := Aside0.mk (ho); clear HB; clear HO340; have HB := n0_; have HO343 := n1_; clear n0_ n1_; clear ho hb hg hat; obtain ⟨Ao22, co22, eo22⟩ := Kd.R_slice HO343.out; subst eo22) | ((with_reducible refine gate_callee (f := 68) rfl ?_); refine goesL_ (some 22) rfl rfl Try.func68 qq rfl #[.int .i64 a3, .int .i64 (y341.length : Int)] rfl qa ?_; (with_reducible refine (dialtoneref27_pick.calls a3 (y341.length : Int) t347 _ A13.out).mono ?_); rintro e w' ⟨rfl, ⟨nd, rfl⟩⟩; refine ⟨_, rfl, ?_⟩; (try (rw [drewN_self w21]; generalize hq_ : World.drewN w21 _ = w21; have n0_ : Aside0 (Kd.R (Kd.int .i64) 3 w21 w.heap.size (fun _ => True) (.slice Ao22 y341.length co22) y341) := ⟨by rw [← hq_]; exact (qr HO343.out)⟩; have n1_ : Aside0 (Below w.heap.size w w21) := ⟨by rw [← hq_]; exact (qb)⟩; clear HO343 HB hq_; have HO343 := n0_; have HB := n1_; clear n0_ n1_))) | ((with_reducible refine gate_callee (f := 68) rfl ?_); refine goesL_ (some 24) rfl rfl Try.func68 qq rfl #[.int .i64 a1, .int .i64 4] rfl qa ?_; (with_reducible refine (dialtoneref27_pick.calls a1 4 t348 _ A14.out).mono ?_); rintro e w' ⟨rfl, ⟨nd, rfl⟩⟩; refine ⟨_, rfl, ?_⟩; (try (rw [drewN_self w21]; generalize hq_ : World.drewN w21 _ = w21; have n0_ : Aside0 (Kd.R (Kd.int .i64) 3 w21 w.heap.size (fun _ => True) (.slice Ao22 y341.length co22) y341) := ⟨by rw [← hq_]; exact (qr HO343.out)⟩; have n1_ : Aside0 (Below w.heap.size w w21) := ⟨by rw [← hq_]; exact (qb)⟩; clear HO343 HB hq_; have HO343 := n0_; have HB := n1_; clear n0_ n1_)); have p18 : 0 ≤ (t347 : Int) := of_decide_eq_true (by first | (with_reducible assumption) | assumption); have q18 : (t347 : Int) < ((y341.length : Int) : Int) := of_decide_eq_true (by first | (with_reducible assumption) | assumption); obtain ⟨go18, co18, eo18, gb18, gl18, cl18, HG18⟩ := Kd.R_form HO343.out (by omega); (first | cases eo18 | (injection eo18 with ea_ en_ ec_; (first | subst ea_ | (injection ea_ with ea_; subst ea_)); subst ec_; clear en_)); have GB18 := Aside0.mk gb18; have GG18 := Aside0.mk HG18; clear gb18 gl18 HG18; obtain ⟨hx18_0, hf18_0⟩ := Kd.R_celln 0 HO343.out (t347 : Int) p18 q18; replace p18 := eq_true p18; replace q18 := eq_true q18; obtain ⟨hy23_, hz23_⟩ := Kd.R_celln 0 HO343.out (t347 : Int) (of_decide_eq_true (by first | (with_reducible assumption) | assumption)) (of_decide_eq_true (by first | (with_reducible assumption) | assumption)); have HP23 := Kd.R_putg HO343.out (t347 : Int) a2) | ((with_reducible refine gate_store (t := 3) (p := 34) rfl ?_); refine store_event (t := 3) (p := 34) (v := ?vo_w24) (w1 := (w21.setCell ⟨go18, (t347 : Int).toNat, none⟩ (.int .i64 a2))) ?hg ?ho ?hn ?hr ?_; (case ho => rfl); (case hg => rfl); (case hn => rfl); (case hr => first | (go_simp; done) | (go_simp; rfl)); intro w24 hw; have hg : w21.grownBy w24 (some go18) := (by rw [hw]; exact HP23.2); have hp_ : Kd.R (Kd.int .i64) 3 w24 w.heap.size (fun _ => True) (.slice (some ⟨go18, 0, none⟩) y341.length co22) y349 := (by rw [hw, Ny349.out]; exact HP23.1); clear HP23; replace HO343 := Aside0.mk (hp_); replace HB := Aside0.mk ((by rw [hw]; exact below_set (HB.out) GB18.out : Below w.heap.size w w24)); clear hg hw hp_))
      go_ret
      exact ⟨_, qe, by (with_reducible repeat (first | apply Kd.R_alloc | apply Kd.R_drewN | apply Kd.R_drew)); exact HO343.out, qb⟩
     ·
      rw [if_neg c17] at H
      exact absurd H (by simp)
    ·
     rw [if_neg c16] at H
     exact absurd H (by simp)
   ·
    rw [if_neg c15] at H
    obtain ⟨c15b0, c15b1⟩ := qf c15
    by_cases c25 : t348 = 1
    ·
     rw [if_pos c25] at H
     obtain ⟨c25b0, c25b1⟩ := qt c25
     clear c25
     by_cases c26 : 0 ≤ t347
     ·
      rw [if_pos c26] at H
      have c26b0 : decide (0 ≤ t347) = true := decide_eq_true c26
      clear c26
      by_cases c27 : t347 < (y341.length : Int)
      ·
       rw [if_pos c27] at H
       have c27b0 : decide (t347 < (y341.length : Int)) = true := decide_eq_true c27
       clear c27
       obtain ⟨y351, hy351⟩ : ∃ y_ : List Int, y_ = (y341.set (t347 : Int).toNat (wrap64 ((rd y341 t347) + 1))) := ⟨_, rfl⟩
       replace H : (some y351) = some r := by first | (rw [hy351]; with_reducible exact H) | (have H2_ := (Option.bind_some _ _).symm.trans H; rw [hy351]; with_reducible exact H2_) | (have H2_ := (Option.bind_some _ _).symm.trans H; with_reducible exact H2_) | with_reducible exact H | (rw [hy351]; exact H) | exact H
       have Ny351 := Aside0.mk hy351
       clear hy351
       obtain rfl := Option.some.inj H
       go_enter Try.func33, Try.ntmps33
       go_wp2_with (first | ((with_reducible refine gate_dst (N := 11) rfl ?_); refine Kd.R_lit (Kd.int .i64) _ 3 ?hg (N := 11) ?hd (xs := ([] : List Int)) (inner := []) (ok := fun _ => True) (okp := fun _ => True) ?hr ?hp (fun _ hk => hk) trivial (Below.refl _ _) (Nat.le_refl _) (by simp) ?_; (case hd => rfl); (case hg => rfl); (case hr => first | (go_simp; done) | (go_simp; rfl)); (case hp => exact (Reps.none _ _)); intro v339 w29 ho30 hb hg_ hnew_; clear hg_ hnew_; (first | rw [← Ny338.out] at ho30 | (simp only [Int.reduceToNat] at ho30; rw [← Ny338.out] at ho30)); have HO340 := Aside0.mk (Kd.R_lower ho30 (below_size (qb))); replace HB := qS HB hb; clear hb ho30) | ((with_reducible refine gate_builtin (b := .append) (xs := #[.tmp 11, .tmp 12]) rfl ?_); at_builtin; refine Kd.R_append_rows (Kd.int .i64) (w0 := w) w.heap.size rfl (.tmp 11) (.tmp 12) 27 3 (.int .i64 0) 8 rfl Try.underlying27 info3 rfl (by decide) (by omega) v339 y338 l0 _ _ _ (fun _ => True) (fun _ => False) rfl rfl ?aO ?aR (fun _ _ h => h) (fun _ h => h.elim) ?aF ?aB ?aS ?aL ?_; (case aR => exact qC (Kd.C_below HR0.out HB.out)); (case aB => exact (qb)); (case aF => exact (fun _ _ => trivial)); (case aO => exact (qr HO340.out)); (case aS => exact (below_size (qb))); (case aL => have := LMc5.out; omega); intro v342 w31 ho hb hg hat; rw [← Ny341.out] at ho; have n0_ := Aside0.mk (hb); have n1_ := Aside0.mk (ho); clear HB; clear HO340; have HB := n0_; have HO343 := n1_; clear n0_ n1_; clear ho hb hg hat; obtain ⟨Ao32, co32, eo32⟩ := Kd.R_slice HO343.out; subst eo32) | ((with_reducible refine gate_callee (f := 68) rfl ?_); refine goesL_ (some 22) rfl rfl Try.func68 qq rfl #[.int .i64 a3, .int .i64 (y341.length : Int)] rfl qa ?_; (with_reducible refine (dialtoneref27_pick.calls a3 (y341.length : Int) t347 _ A13.out).mono ?_); rintro e w' ⟨rfl, ⟨nd, rfl⟩⟩; refine ⟨_, rfl, ?_⟩; (try (rw [drewN_self w31]; generalize hq_ : World.drewN w31 _ = w31; have n0_ : Aside0 (Kd.R (Kd.int .i64) 3 w31 w.heap.size (fun _ => True) (.slice Ao32 y341.length co32) y341) := ⟨by rw [← hq_]; exact (qr HO343.out)⟩; have n1_ : Aside0 (Below w.heap.size w w31) := ⟨by rw [← hq_]; exact (qb)⟩; clear HO343 HB hq_; have HO343 := n0_; have HB := n1_; clear n0_ n1_))) | ((with_reducible refine gate_callee (f := 68) rfl ?_); refine goesL_ (some 24) rfl rfl Try.func68 qq rfl #[.int .i64 a1, .int .i64 4] rfl qa ?_; (with_reducible refine (dialtoneref27_pick.calls a1 4 t348 _ A14.out).mono ?_); rintro e w' ⟨rfl, ⟨nd, rfl⟩⟩; refine ⟨_, rfl, ?_⟩; (try (rw [drewN_self w31]; generalize hq_ : World.drewN w31 _ = w31; have n0_ : Aside0 (Kd.R (Kd.int .i64) 3 w31 w.heap.size (fun _ => True) (.slice Ao32 y341.length co32) y341) := ⟨by rw [← hq_]; exact (qr HO343.out)⟩; have n1_ : Aside0 (Below w.heap.size w w31) := ⟨by rw [← hq_]; exact (qb)⟩; clear HO343 HB hq_; have HO343 := n0_; have HB := n1_; clear n0_ n1_)); have p350 : 0 ≤ (t347 : Int) := of_decide_eq_true (by first | (with_reducible assumption) | assumption); have q350 : t347 < (y341.length : Int) := of_decide_eq_true (by first | (with_reducible assumption) | assumption); obtain ⟨ad350, e350, hx350_0⟩ := Kd.at_int (Kd.R_reads' HO343.out).2.2 t347 p350 q350; cases e350; replace p350 := eq_true p350; replace q350 := eq_true q350; have p28 : 0 ≤ (t347 : Int) := of_decide_eq_true (by first | (with_reducible assumption) | assumption); have q28 : (t347 : Int) < ((y341.length : Int) : Int) := of_decide_eq_true (by first | (with_reducible assumption) | assumption); obtain ⟨go28, co28, eo28, gb28, gl28, cl28, HG28⟩ := Kd.R_form HO343.out (by omega); (first | cases eo28 | (injection eo28 with ea_ en_ ec_; (first | subst ea_ | (injection ea_ with ea_; subst ea_)); subst ec_; clear en_)); have GB28 := Aside0.mk gb28; have GG28 := Aside0.mk HG28; clear gb28 gl28 HG28; (first | simp only [add_plain] at hx350_0 | skip); obtain ⟨hx28_0, hf28_0⟩ := Kd.R_celln 0 HO343.out (t347 : Int) p28 q28; replace p28 := eq_true p28; replace q28 := eq_true q28; obtain ⟨hy33_, hz33_⟩ := Kd.R_celln 0 HO343.out (t347 : Int) (of_decide_eq_true (by first | (with_reducible assumption) | assumption)) (of_decide_eq_true (by first | (with_reducible assumption) | assumption)); have HP33 := Kd.R_putg HO343.out (t347 : Int) (wrap64 ((rd y341 t347) + 1))) | ((with_reducible refine gate_store (t := 3) (p := 44) rfl ?_); refine store_event (t := 3) (p := 44) (v := ?vo_w34) (w1 := (w31.setCell ⟨go28, (t347 : Int).toNat, none⟩ (.int .i64 (wrap64 ((rd y341 t347) + 1))))) ?hg ?ho ?hn ?hr ?_; (case ho => rfl); (case hg => rfl); (case hn => rfl); (case hr => first | (go_simp; done) | (go_simp; rfl)); intro w34 hw; have hg : w31.grownBy w34 (some go28) := (by rw [hw]; exact HP33.2); have hp_ : Kd.R (Kd.int .i64) 3 w34 w.heap.size (fun _ => True) (.slice (some ⟨go28, 0, none⟩) y341.length co32) y351 := (by rw [hw, Ny351.out]; exact HP33.1); clear HP33; replace HO343 := Aside0.mk (hp_); replace HB := Aside0.mk ((by rw [hw]; exact below_set (HB.out) GB28.out : Below w.heap.size w w34)); clear hg hw hp_))
       go_ret
       exact ⟨_, qe, by (with_reducible repeat (first | apply Kd.R_alloc | apply Kd.R_drewN | apply Kd.R_drew)); exact HO343.out, qb⟩
      ·
       rw [if_neg c27] at H
       exact absurd H (by simp)
     ·
      rw [if_neg c26] at H
      exact absurd H (by simp)
    ·
     rw [if_neg c25] at H
     obtain ⟨c25b0, c25b1⟩ := qf c25
     by_cases c35 : t348 = 2
     ·
      rw [if_pos c35] at H
      obtain ⟨c35b0, c35b1⟩ := qt c35
      clear c35
      by_cases c36 : 0 ≤ t347
      ·
       rw [if_pos c36] at H
       have c36b0 : decide (0 ≤ t347) = true := decide_eq_true c36
       clear c36
       by_cases c37 : t347 < (y341.length : Int)
       ·
        rw [if_pos c37] at H
        have c37b0 : decide (t347 < (y341.length : Int)) = true := decide_eq_true c37
        clear c37
        obtain ⟨y353, hy353⟩ : ∃ y_ : List Int, y_ = (y341.set (t347 : Int).toNat (wrap64 ((rd y341 t347) - 1))) := ⟨_, rfl⟩
        replace H : (some y353) = some r := by first | (rw [hy353]; with_reducible exact H) | (have H2_ := (Option.bind_some _ _).symm.trans H; rw [hy353]; with_reducible exact H2_) | (have H2_ := (Option.bind_some _ _).symm.trans H; with_reducible exact H2_) | with_reducible exact H | (rw [hy353]; exact H) | exact H
        have Ny353 := Aside0.mk hy353
        clear hy353
        obtain rfl := Option.some.inj H
        go_enter Try.func33, Try.ntmps33
        go_wp2_with (first | ((with_reducible refine gate_dst (N := 11) rfl ?_); refine Kd.R_lit (Kd.int .i64) _ 3 ?hg (N := 11) ?hd (xs := ([] : List Int)) (inner := []) (ok := fun _ => True) (okp := fun _ => True) ?hr ?hp (fun _ hk => hk) trivial (Below.refl _ _) (Nat.le_refl _) (by simp) ?_; (case hd => rfl); (case hg => rfl); (case hr => first | (go_simp; done) | (go_simp; rfl)); (case hp => exact (Reps.none _ _)); intro v339 w39 ho40 hb hg_ hnew_; clear hg_ hnew_; (first | rw [← Ny338.out] at ho40 | (simp only [Int.reduceToNat] at ho40; rw [← Ny338.out] at ho40)); have HO340 := Aside0.mk (Kd.R_lower ho40 (below_size (qb))); replace HB := qS HB hb; clear hb ho40) | ((with_reducible refine gate_builtin (b := .append) (xs := #[.tmp 11, .tmp 12]) rfl ?_); at_builtin; refine Kd.R_append_rows (Kd.int .i64) (w0 := w) w.heap.size rfl (.tmp 11) (.tmp 12) 27 3 (.int .i64 0) 8 rfl Try.underlying27 info3 rfl (by decide) (by omega) v339 y338 l0 _ _ _ (fun _ => True) (fun _ => False) rfl rfl ?aO ?aR (fun _ _ h => h) (fun _ h => h.elim) ?aF ?aB ?aS ?aL ?_; (case aR => exact qC (Kd.C_below HR0.out HB.out)); (case aB => exact (qb)); (case aF => exact (fun _ _ => trivial)); (case aO => exact (qr HO340.out)); (case aS => exact (below_size (qb))); (case aL => have := LMc5.out; omega); intro v342 w41 ho hb hg hat; rw [← Ny341.out] at ho; have n0_ := Aside0.mk (hb); have n1_ := Aside0.mk (ho); clear HB; clear HO340; have HB := n0_; have HO343 := n1_; clear n0_ n1_; clear ho hb hg hat; obtain ⟨Ao42, co42, eo42⟩ := Kd.R_slice HO343.out; subst eo42) | ((with_reducible refine gate_callee (f := 68) rfl ?_); refine goesL_ (some 22) rfl rfl Try.func68 qq rfl #[.int .i64 a3, .int .i64 (y341.length : Int)] rfl qa ?_; (with_reducible refine (dialtoneref27_pick.calls a3 (y341.length : Int) t347 _ A13.out).mono ?_); rintro e w' ⟨rfl, ⟨nd, rfl⟩⟩; refine ⟨_, rfl, ?_⟩; (try (rw [drewN_self w41]; generalize hq_ : World.drewN w41 _ = w41; have n0_ : Aside0 (Kd.R (Kd.int .i64) 3 w41 w.heap.size (fun _ => True) (.slice Ao42 y341.length co42) y341) := ⟨by rw [← hq_]; exact (qr HO343.out)⟩; have n1_ : Aside0 (Below w.heap.size w w41) := ⟨by rw [← hq_]; exact (qb)⟩; clear HO343 HB hq_; have HO343 := n0_; have HB := n1_; clear n0_ n1_))) | ((with_reducible refine gate_callee (f := 68) rfl ?_); refine goesL_ (some 24) rfl rfl Try.func68 qq rfl #[.int .i64 a1, .int .i64 4] rfl qa ?_; (with_reducible refine (dialtoneref27_pick.calls a1 4 t348 _ A14.out).mono ?_); rintro e w' ⟨rfl, ⟨nd, rfl⟩⟩; refine ⟨_, rfl, ?_⟩; (try (rw [drewN_self w41]; generalize hq_ : World.drewN w41 _ = w41; have n0_ : Aside0 (Kd.R (Kd.int .i64) 3 w41 w.heap.size (fun _ => True) (.slice Ao42 y341.length co42) y341) := ⟨by rw [← hq_]; exact (qr HO343.out)⟩; have n1_ : Aside0 (Below w.heap.size w w41) := ⟨by rw [← hq_]; exact (qb)⟩; clear HO343 HB hq_; have HO343 := n0_; have HB := n1_; clear n0_ n1_)); have p352 : 0 ≤ (t347 : Int) := of_decide_eq_true (by first | (with_reducible assumption) | assumption); have q352 : t347 < (y341.length : Int) := of_decide_eq_true (by first | (with_reducible assumption) | assumption); obtain ⟨ad352, e352, hx352_0⟩ := Kd.at_int (Kd.R_reads' HO343.out).2.2 t347 p352 q352; cases e352; replace p352 := eq_true p352; replace q352 := eq_true q352; have p38 : 0 ≤ (t347 : Int) := of_decide_eq_true (by first | (with_reducible assumption) | assumption); have q38 : (t347 : Int) < ((y341.length : Int) : Int) := of_decide_eq_true (by first | (with_reducible assumption) | assumption); obtain ⟨go38, co38, eo38, gb38, gl38, cl38, HG38⟩ := Kd.R_form HO343.out (by omega); (first | cases eo38 | (injection eo38 with ea_ en_ ec_; (first | subst ea_ | (injection ea_ with ea_; subst ea_)); subst ec_; clear en_)); have GB38 := Aside0.mk gb38; have GG38 := Aside0.mk HG38; clear gb38 gl38 HG38; (first | simp only [add_plain] at hx352_0 | skip); obtain ⟨hx38_0, hf38_0⟩ := Kd.R_celln 0 HO343.out (t347 : Int) p38 q38; replace p38 := eq_true p38; replace q38 := eq_true q38; obtain ⟨hy43_, hz43_⟩ := Kd.R_celln 0 HO343.out (t347 : Int) (of_decide_eq_true (by first | (with_reducible assumption) | assumption)) (of_decide_eq_true (by first | (with_reducible assumption) | assumption)); have HP43 := Kd.R_putg HO343.out (t347 : Int) (wrap64 ((rd y341 t347) - 1))) | ((with_reducible refine gate_store (t := 3) (p := 54) rfl ?_); refine store_event (t := 3) (p := 54) (v := ?vo_w44) (w1 := (w41.setCell ⟨go38, (t347 : Int).toNat, none⟩ (.int .i64 (wrap64 ((rd y341 t347) - 1))))) ?hg ?ho ?hn ?hr ?_; (case ho => rfl); (case hg => rfl); (case hn => rfl); (case hr => first | (go_simp; done) | (go_simp; rfl)); intro w44 hw; have hg : w41.grownBy w44 (some go38) := (by rw [hw]; exact HP43.2); have hp_ : Kd.R (Kd.int .i64) 3 w44 w.heap.size (fun _ => True) (.slice (some ⟨go38, 0, none⟩) y341.length co42) y353 := (by rw [hw, Ny353.out]; exact HP43.1); clear HP43; replace HO343 := Aside0.mk (hp_); replace HB := Aside0.mk ((by rw [hw]; exact below_set (HB.out) GB38.out : Below w.heap.size w w44)); clear hg hw hp_))
        go_ret
        exact ⟨_, qe, by (with_reducible repeat (first | apply Kd.R_alloc | apply Kd.R_drewN | apply Kd.R_drew)); exact HO343.out, qb⟩
       ·
        rw [if_neg c37] at H
        exact absurd H (by simp)
      ·
       rw [if_neg c36] at H
       exact absurd H (by simp)
     ·
      rw [if_neg c35] at H
      obtain ⟨c35b0, c35b1⟩ := qf c35
      by_cases c45 : y341.length < 17592186044416
      ·
       rw [if_pos c45] at H
       have LMc45 := Aside0.mk c45
       clear c45
       obtain ⟨y354, hy354⟩ : ∃ y_ : List Int, y_ = (y341 ++ [a2]) := ⟨_, rfl⟩
       replace H : (some y354) = some r := by first | (rw [hy354]; with_reducible exact H) | (have H2_ := (Option.bind_some _ _).symm.trans H; rw [hy354]; with_reducible exact H2_) | (have H2_ := (Option.bind_some _ _).symm.trans H; with_reducible exact H2_) | with_reducible exact H | (rw [hy354]; exact H) | exact H
       have Ny354 := Aside0.mk hy354
       clear hy354
       obtain rfl := Option.some.inj H
       go_enter Try.func33, Try.ntmps33
       go_wp2_with (first | ((with_reducible refine gate_dst (N := 11) rfl ?_); refine Kd.R_lit (Kd.int .i64) _ 3 ?hg (N := 11) ?hd (xs := ([] : List Int)) (inner := []) (ok := fun _ => True) (okp := fun _ => True) ?hr ?hp (fun _ hk => hk) trivial (Below.refl _ _) (Nat.le_refl _) (by simp) ?_; (case hd => rfl); (case hg => rfl); (case hr => first | (go_simp; done) | (go_simp; rfl)); (case hp => exact (Reps.none _ _)); intro v339 w46 ho47 hb hg_ hnew_; clear hg_ hnew_; (first | rw [← Ny338.out] at ho47 | (simp only [Int.reduceToNat] at ho47; rw [← Ny338.out] at ho47)); have HO340 := Aside0.mk (Kd.R_lower ho47 (below_size (qb))); replace HB := qS HB hb; clear hb ho47) | ((with_reducible refine gate_builtin (b := .append) (xs := #[.tmp 11, .tmp 12]) rfl ?_); at_builtin; refine Kd.R_append_rows (Kd.int .i64) (w0 := w) w.heap.size rfl (.tmp 11) (.tmp 12) 27 3 (.int .i64 0) 8 rfl Try.underlying27 info3 rfl (by decide) (by omega) v339 y338 l0 _ _ _ (fun _ => True) (fun _ => False) rfl rfl ?aO ?aR (fun _ _ h => h) (fun _ h => h.elim) ?aF ?aB ?aS ?aL ?_; (case aR => exact qC (Kd.C_below HR0.out HB.out)); (case aB => exact (qb)); (case aF => exact (fun _ _ => trivial)); (case aO => exact (qr HO340.out)); (case aS => exact (below_size (qb))); (case aL => have := LMc5.out; omega); intro v342 w48 ho hb hg hat; rw [← Ny341.out] at ho; have n0_ := Aside0.mk (hb); have n1_ := Aside0.mk (ho); clear HB; clear HO340; have HB := n0_; have HO343 := n1_; clear n0_ n1_; clear ho hb hg hat; obtain ⟨Ao49, co49, eo49⟩ := Kd.R_slice HO343.out; subst eo49) | ((with_reducible refine gate_callee (f := 68) rfl ?_); refine goesL_ (some 22) rfl rfl Try.func68 qq rfl #[.int .i64 a3, .int .i64 (y341.length : Int)] rfl qa ?_; (with_reducible refine (dialtoneref27_pick.calls a3 (y341.length : Int) t347 _ A13.out).mono ?_); rintro e w' ⟨rfl, ⟨nd, rfl⟩⟩; refine ⟨_, rfl, ?_⟩) | ((with_reducible refine gate_callee (f := 68) rfl ?_); refine goesL_ (some 24) rfl rfl Try.func68 qq rfl #[.int .i64 a1, .int .i64 4] rfl qa ?_; (with_reducible refine (dialtoneref27_pick.calls a1 4 t348 _ A14.out).mono ?_); rintro e w' ⟨rfl, ⟨nd, rfl⟩⟩; refine ⟨_, rfl, ?_⟩) | ((with_reducible refine gate_builtin (b := .append) (xs := #[.tmp 25, .tmp 27]) rfl ?_); at_builtin; refine Kd.R_append (Kd.int .i64) (w0 := w) w.heap.size rfl (.tmp 25) (.tmp 27) 27 3 (.int .i64 0) 8 rfl Try.underlying27 info3 rfl (by decide) (by omega) (.slice Ao49 y341.length co49) y341 a2 [.int .i64 a2] (fun _ => True) (fun _ => False) rfl rfl ?aP (fun _ hk => hk.elim) ?aF ?aO ?aB ?aS ?aL ?_; (case aP => exact rfl); (case aB => exact (qb)); (case aF => exact (fun _ _ => trivial)); (case aO => exact (qr HO343.out)); (case aS => exact (below_size (qb))); (case aL => have := LMc45.out; omega); intro v355 w50 ho hb hg hat; rw [← Ny354.out] at ho; have n0_ := Aside0.mk (hb); have n1_ := Aside0.mk (ho); clear HB; clear HO343; have HB := n0_; have HO356 := n1_; clear n0_ n1_; clear ho hb hg hat))
       go_ret
       exact ⟨_, qe, by (with_reducible repeat (first | apply Kd.R_alloc | apply Kd.R_drewN | apply Kd.R_drew)); exact HO356.out, qb⟩
      ·
       rw [if_neg c45] at H
       exact absurd H (by simp)
 ·
  rw [if_neg c5] at H
  exact absurd H (by simp)

end Go.Proofs.Ytkkakdpncogpkaa.D
end
section
namespace Go.Proofs.Ytkkakdpncogpkaa.D
open Go.RowKit Go.Proofs.YtkkakdpncogpkaaW.PrintWords Go.Proofs.YtkkakdpncogpkaaW.PrintLast Go.Proofs.YtkkakdpncogpkaaW.PrintMore
attribute [local go_sem] max2_int min2_int max_two min_two max_three min_three max_four min_four   -- for this text's walks alone
set_option linter.unusedVariables false
set_option linter.unusedSimpArgs false

/-! ### dialtonelaw27_FlowWorst: function 7 -/
mutual
def dialtonelaw27_FlowWorst.j1 : Nat → Int → Int → Int → Int → Int → List (S72) → Int → Int → Int → Option (Bool)
 | 0, _, _, _, _, _, _, _, _, _ => none
 | k + 1, x6, x16, x17, x21, x587000, x587001, x595000, x595001, x595002 => (flow_Without.f x587000 x587001 x21).bind fun bt598 => (if bt598.2.2 = 0 then ((dialtonelaw27_greatest.f k bt598.1 bt598.2.1 x16 x17).bind fun bt604 => (if bt604.2.2 = true then (if bt604.1 < x595001 then (some false) else ((flow_Without.f x587000 x587001 x595000).bind fun bt607 => (if bt607.2.2 = 0 then ((dialtonelaw27_greatest.f k bt607.1 bt607.2.1 x16 x17).bind fun bt613 => (if bt613.2.2 = true then (if bt613.1 = x595001 then (if 0 ≤ x587000 then ((dialtonelaw27_pick.f x6 (shl .i64 1 x587000)).bind fun t616 => ((flow_CheckCut.f k bt598.1 bt598.2.1 x16 x17 t616).bind fun bt617 => (if bt617.2 = true then (some (decide (bt617.1 ≥ x595001))) else (some true)))) else (none)) else (some false)) else (none))) else (none)))) else (none))) else (none))
def dialtonelaw27_FlowWorst.l0 : Nat → Int → Int → Int → Int → Int → Int → Int → Int → Int → Int → List (S72) → Int → Int → Int → Option (Bool)
 | 0, _, _, _, _, _, _, _, _, _, _, _, _, _, _ => none
 | k + 1, x6, x16, x17, x18, x21, x22, x581000, x581001, x581002, x587000, x587001, x595000, x595001, x595002 => if x22 < x18 then (if (x587001.length : Int) > 0 then (if 0 ≤ x22 then (if x22 < 3 then ((dialtonelaw27_pick.f (rd [x581000, x581001, x581002] x22) (x587001.length : Int)).bind fun t597 => (if 0 ≤ t597 then (dialtonelaw27_FlowWorst.l0 k x6 x16 x17 x18 (Go.bits .or .i64 x21 (shl .i64 1 t597)) (wrap64 (x22 + 1)) x581000 x581001 x581002 x587000 x587001 x595000 x595001 x595002) else (none))) else (none)) else (none)) else (dialtonelaw27_FlowWorst.j1 k x6 x16 x17 x21 x587000 x587001 x595000 x595001 x595002)) else (dialtonelaw27_FlowWorst.j1 k x6 x16 x17 x21 x587000 x587001 x595000 x595001 x595002)
end
def dialtonelaw27_FlowWorst.f (k : Nat) (a0 : Int) (l1 : List (S23)) (a2 : Int) (a3 : Int) (a4 : Int) (a5_0 : Int) (a5_1 : Int) (a5_2 : Int) (a6 : Int) : Option (Bool) := (dialtonelaw27_sane.f k).bind fun t581 => (if t581 = true then ((dialtoneref27_Made.f k a0 l1).bind fun bt582 => ((dialtonelaw27_ends.f bt582.1 bt582.2 a2 a3).bind fun bt587 => ((dialtonelaw27_pick.f a4 4).bind fun t589 => ((flow_Worst.f bt582.1 bt582.2 bt587.1 bt587.2 t589).bind fun bt590 => (if bt590.2.2.2 = 0 then ((flow_CheckWorst.f k bt582.1 bt582.2 bt587.1 bt587.2 t589 bt590.1 bt590.2.1 bt590.2.2.1).bind fun t595 => (if t595 = true then (dialtonelaw27_FlowWorst.l0 k a6 bt587.1 bt587.2 t589 0 0 a5_0 a5_1 a5_2 bt582.1 bt582.2 bt590.1 bt590.2.1 bt590.2.2.1) else (none))) else (none)))))) else (none))
def dialtonelaw27_FlowWorst.T13 : Bool × List (List Nat × List Nat) := (true, [([], []), ([], []), ([1], [1]), ([2], [2]), ([], []), ([4], [4]), ([5], [5]), ([3, 6], [3, 6]), ([7], [7]), ([0, 8], [0, 8]), ([9, 7, 0, 1, 2, 3, 4, 5, 6, 7, 8, 9], [0, 9])])
def dialtonelaw27_FlowWorst.B13 : List Nat := [0, 0, 2, 6, 0, 16, 48, 126, 254, 511, 1023]
theorem dialtonelaw27_FlowWorst.tab13 : rtab .any (opsOf Try.f7 13) = dialtonelaw27_FlowWorst.T13 := by kernel_rfl
theorem dialtonelaw27_FlowWorst.bits13 : waitsOk dialtonelaw27_FlowWorst.T13.2 dialtonelaw27_FlowWorst.B13 = true := by kernel_rfl
def dialtonelaw27_FlowWorst.T22 : Bool × List (List Nat × List Nat) := (true, [([], []), ([], []), ([], []), ([], []), ([], []), ([4], [4]), ([5], [5]), ([3, 6], [3, 6]), ([0, 1, 2, 7, 7], [0, 1, 2, 7]), ([8], [8]), ([9], [9]), ([9], [9]), ([10, 8, 0, 1, 2, 3, 4, 5, 6, 7, 8, 9, 10], [10]), ([11, 12, 0, 1, 2, 3, 4, 5, 6, 7, 8, 9, 10, 11, 12], [11])])
def dialtonelaw27_FlowWorst.B22 : List Nat := [0, 0, 0, 0, 0, 16, 48, 120, 255, 511, 1023, 1023, 2047, 8191]
theorem dialtonelaw27_FlowWorst.tab22 : rtab .any (opsOf Try.f7 22) = dialtonelaw27_FlowWorst.T22 := by kernel_rfl
theorem dialtonelaw27_FlowWorst.bits22 : waitsOk dialtonelaw27_FlowWorst.T22.2 dialtonelaw27_FlowWorst.B22 = true := by kernel_rfl
set_option maxHeartbeats 8000000 in
set_option maxRecDepth 100000 in
theorem dialtonelaw27_FlowWorst.calls (k : Nat) (a0 : Int) (A1 : Option Addr) (c1 : Nat) (l1 : List (S23)) (a2 : Int) (a3 : Int) (a4 : Int) (a5_0 : Int) (a5_1 : Int) (a5_2 : Int) (a6 : Int) (r : Bool) (w : World) (hr1 : Kd.C k23 w A1 l1.length l1) (hc1 : l1.length ≤ c1) (h : dialtonelaw27_FlowWorst.f k a0 l1 a2 a3 a4 a5_0 a5_1 a5_2 a6 = some r) :
  Calls Try.prog 7 #[.int .i64 a0, .slice A1 l1.length c1, .int .i64 a2, .int .i64 a3, .int .i64 a4, .agg #[.int .i64 a5_0, .int .i64 a5_1, .int .i64 a5_2], .int .i64 a6] w fun e w' => e = .returned (.bool r) ∧ Below w.heap.size w w' := by
 have hu23 := Try.underlying23
 have hu26 := Try.underlying26
 have hu53 := Try.underlying53
 have HR1 := Aside0.mk hr1
 have HC1 := Aside0.mk hc1
 clear hr1 hc1
 have HB := Aside0.mk (Below.refl w.heap.size w)
 have H : ((dialtonelaw27_sane.f k).bind fun t581 => (if t581 = true then ((dialtoneref27_Made.f k a0 l1).bind fun bt582 => ((dialtonelaw27_ends.f bt582.1 bt582.2 a2 a3).bind fun bt587 => ((dialtonelaw27_pick.f a4 4).bind fun t589 => ((flow_Worst.f bt582.1 bt582.2 bt587.1 bt587.2 t589).bind fun bt590 => (if bt590.2.2.2 = 0 then ((flow_CheckWorst.f k bt582.1 bt582.2 bt587.1 bt587.2 t589 bt590.1 bt590.2.1 bt590.2.2.1).bind fun t595 => (if t595 = true then (dialtonelaw27_FlowWorst.l0 k a6 bt587.1 bt587.2 t589 0 0 a5_0 a5_1 a5_2 bt582.1 bt582.2 bt590.1 bt590.2.1 bt590.2.2.1) else (none))) else (none)))))) else (none))) = some r := h
 clear h
 replace H := Option.bind_eq_some_iff.mp H
 obtain ⟨t581, A80, H⟩ := H
 (try dsimp only at H)
 have A8 := Aside0.mk A80
 clear A80
 by_cases c9 : t581 = true
 ·
  subst c9
  rw [if_pos rfl] at H
  replace H := Option.bind_eq_some_iff.mp H
  obtain ⟨⟨t582, t583⟩, A100, H⟩ := H
  (try dsimp only at H)
  have A10 := Aside0.mk A100
  clear A100
  replace H := Option.bind_eq_some_iff.mp H
  obtain ⟨⟨t587, t588⟩, A110, H⟩ := H
  (try dsimp only at H)
  have A11 := Aside0.mk A110
  clear A110
  replace H := Option.bind_eq_some_iff.mp H
  obtain ⟨t589, A120, H⟩ := H
  (try dsimp only at H)
  have A12 := Aside0.mk A120
  clear A120
  replace H := Option.bind_eq_some_iff.mp H
  obtain ⟨⟨t590, t591, t592, t593⟩, A130, H⟩ := H
  (try dsimp only at H)
  have A13 := Aside0.mk A130
  clear A130
  by_cases c14 : t593 = 0
  ·
   rw [if_pos c14] at H
   obtain ⟨c14b0, c14b1⟩ := qt c14
   clear c14
   replace H := Option.bind_eq_some_iff.mp H
   obtain ⟨t595, A150, H⟩ := H
   (try dsimp only at H)
   have A15 := Aside0.mk A150
   clear A150
   by_cases c16 : t595 = true
   ·
    subst c16
    rw [if_pos rfl] at H
    have HC17 := Aside0.mk H
    clear H
    go_enter Try.func7, Try.ntmps7
    go_upto_block 0 with (first | ((with_reducible refine gate_dst (N := 12) rfl ?_); (try (refine gate_guard (by rfl) ?_; dsimp only)); refine box_event rfl (N := 12) rfl (cs := #[.int .i64 a5_0, .int .i64 a5_1, .int .i64 a5_2]) (t := 23) qh ?_; intro gb580 hg w18 hbox hb; have BK580 := Aside0.mk (hbox); have GW580 := qg HB hg; have GE580 := qg HB hg; replace HB := qS HB hb; clear hb hbox hg) | ((with_reducible refine gate_callee (f := 22) rfl ?_); refine goesL_ (some 35) rfl rfl Try.func22 qq rfl #[] rfl qa ?_; (with_reducible refine (dialtonelaw27_sane.calls k  true _ A8.out).mono ?_); rintro e w19 ⟨rfl, hb⟩; refine ⟨_, rfl, ?_⟩; replace BK580 := qB BK580 hb; replace HB := qS HB hb; (try clear hb); (try clear hb2); (try clear hk); (try clear hi)) | ((with_reducible refine gate_callee (f := 23) rfl ?_); refine goesL_ (some 39) rfl rfl Try.func23 qq rfl #[.int .i64 a0, .slice A1 l1.length c1] rfl qa ?_; (with_reducible refine (dialtoneref27_Made.calls k a0 _ _ l1 t582 t583 _ ?side1 ?side2 A10.out).mono ?_); (case side1 => exact qC (Kd.C_below HR1.out HB.out)); (case side2 => exact HC1.out); rintro e w20 ⟨v584, rfl, ho0, hb⟩; refine ⟨_, rfl, ?_⟩; have HO585 := qL HB ho0; replace BK580 := qB BK580 hb; replace HB := qS HB hb; (try clear hb); (try clear hb2); (try clear hk); (try clear hi); (try clear ho0)) | ((with_reducible refine gate_dst (N := 15) rfl ?_); (try (refine gate_guard (by rfl) ?_; dsimp only)); refine box_event rfl (N := 15) rfl (cs := #[.int .i64 0, .slice none 0 0]) (t := 26) qh ?_; intro gb586 hg w21 hbox hb; replace HO585 := qR HO585 hb; have BK586 := Aside0.mk (hbox); have GW586 := qg HB hg; have GE586 := qg HB hg; replace HB := qS HB hb; have NB580_586 := qn BK580 hg; have NB586_580 := qm BK580 hg; replace BK580 := qB BK580 hb; clear hb hbox hg; have hnb22 := NB586_580.out; have hnc22 := NB580_586.out; obtain ⟨hcz23_0, hcz23_1, hfz23_0, hfz23_1⟩ := qc2 BK586.out; obtain ⟨Ao24, co24, eo24⟩ := Kd.R_slice HO585.out; subst eo24) | ((with_reducible refine gate_callee (f := 24) rfl ?_); refine goesL_ (some 44) rfl rfl Try.func24 qq rfl #[.agg #[.int .i64 t582, .slice Ao24 t583.length co24], .int .i64 a2, .int .i64 a3] rfl qa ?_; (with_reducible refine (dialtonelaw27_ends.calls t582 _ _ t583 a2 a3 t587 t588 _ ?side1 ?side2 A11.out).mono ?_); (case side1 => refine (Kd.R_reads' (e := 72) (base := w.heap.size) (ok := fun k_ => True) (n := t583.length) (c := co24) ?_).2.2; exact (qr (Kd.R_mono (Kd.R_far (p := ⟨gb586, 1, none⟩) (Kd.R_far (p := ⟨gb586, 0, none⟩) (Kd.R_types HO585.out BK586.out (by decide)) (fun _ hk => hk.2) (.int .i64 t582)) (fun _ hk => hk.2) (.slice Ao24 t583.length co24)) (fun _ h_ => h_.1)))); (case side2 => exact (Kd.R_reads' HO585.out).2.1); rintro e w25 ⟨rfl, hb⟩; refine ⟨_, rfl, ?_⟩; replace HO585 := Aside0.mk (Kd.R_below (qr (Kd.R_mono (Kd.R_far (p := ⟨gb586, 1, none⟩) (Kd.R_far (p := ⟨gb586, 0, none⟩) (Kd.R_types HO585.out BK586.out (by decide)) (fun _ hk => hk.2) (.int .i64 t582)) (fun _ hk => hk.2) (.slice Ao24 t583.length co24)) (fun _ h_ => h_.1))) hb); replace BK580 := Aside0.mk (blk_below (g := gb580) (o := .cells #[.int .i64 a5_0, .int .i64 a5_1, .int .i64 a5_2] 23 (0, 0)) (by (with_reducible repeat (first | refine blk_drewN ?_ _ | refine blk_drew ?_ | refine blk_alloc ?_ _)); refine blk_far ?_ NB580_586.out _; (with_reducible repeat (first | refine blk_drewN ?_ _ | refine blk_drew ?_ | refine blk_alloc ?_ _)); refine blk_far ?_ NB580_586.out _; (with_reducible repeat (first | refine blk_drewN ?_ _ | refine blk_drew ?_ | refine blk_alloc ?_ _)); exact BK580.out) hb); replace BK586 := Aside0.mk (blk_below (g := gb586) (o := .cells #[.int .i64 t582, .slice Ao24 t583.length co24] 26 (0, 0)) (by (with_reducible repeat (first | refine blk_drewN ?_ _ | refine blk_drew ?_ | refine blk_alloc ?_ _)); refine blk_put (cs := #[.int .i64 t582, .slice none 0 0]) ?_ 1 _ rfl; (with_reducible repeat (first | refine blk_drewN ?_ _ | refine blk_drew ?_ | refine blk_alloc ?_ _)); refine blk_put (cs := #[.int .i64 0, .slice none 0 0]) ?_ 0 _ rfl; (with_reducible repeat (first | refine blk_drewN ?_ _ | refine blk_drew ?_ | refine blk_alloc ?_ _)); exact BK586.out) hb); replace HB := qS HB hb; (try clear hb); (try clear hb2); (try clear hk); (try clear hi)) | ((with_reducible refine gate_callee (f := 35) rfl ?_); refine goesL_ (some 48) rfl rfl Try.func35 qq rfl #[.int .i64 a4, .int .i64 4] rfl qa ?_; (with_reducible refine (dialtonelaw27_pick.calls a4 4 t589 _ A12.out).mono ?_); rintro e w' ⟨rfl, ⟨nd, rfl⟩⟩; refine ⟨_, rfl, ?_⟩; (try (rw [drewN_self w25]; generalize hq_ : World.drewN w25 _ = w25; have n0_ : Aside0 (Kd.R k72 72 w25 w.heap.size (fun _ => True) (.slice Ao24 t583.length co24) t583) := ⟨by rw [← hq_]; exact (qr HO585.out)⟩; have n1_ : Aside0 (w25.heap[gb580]? = some (.cells #[.int .i64 a5_0, .int .i64 a5_1, .int .i64 a5_2] 23 (0, 0))) := ⟨by rw [← hq_]; exact (qk BK580.out)⟩; have n2_ : Aside0 (w25.heap[gb586]? = some (.cells #[.int .i64 t582, .slice Ao24 t583.length co24] 26 (0, 0))) := ⟨by rw [← hq_]; exact (qk BK586.out)⟩; have n3_ : Aside0 (Below w.heap.size w w25) := ⟨by rw [← hq_]; exact (qb)⟩; clear HO585 BK580 BK586 HB hq_; have HO585 := n0_; have BK580 := n1_; have BK586 := n2_; have HB := n3_; clear n0_ n1_ n2_ n3_)); obtain ⟨hcz26_0, hcz26_1, hfz26_0, hfz26_1⟩ := qc2 BK586.out) | ((with_reducible refine gate_callee (f := 41) rfl ?_); refine goesL_ (some 54) rfl rfl Try.func41 qq rfl #[.agg #[.int .i64 t582, .slice Ao24 t583.length co24], .int .i64 t587, .int .i64 t588, .int .i64 t589] rfl qa ?_; (with_reducible refine (flow_Worst.calls t582 _ _ t583 t587 t588 t589 t590 t591 t592 t593 _ ?side1 ?side2 A13.out).mono ?_); (case side1 => exact qC (Kd.R_reads' HO585.out).2.2); (case side2 => exact (Kd.R_reads' HO585.out).2.1); rintro e w27 ⟨rfl, hb⟩; refine ⟨_, rfl, ?_⟩; replace HO585 := qR HO585 hb; replace BK580 := qB BK580 hb; replace BK586 := qB BK586 hb; replace HB := qS HB hb; (try clear hb); (try clear hb2); (try clear hk); (try clear hi)) | ((with_reducible refine gate_dst (N := 19) rfl ?_); (try (refine gate_guard (by rfl) ?_; dsimp only)); refine box_event rfl (N := 19) rfl (cs := #[.int .i64 0, .int .i64 0, .int .i64 0]) (t := 53) qh ?_; intro gb594 hg w28 hbox hb; replace HO585 := qR HO585 hb; have BK594 := Aside0.mk (hbox); have GW594 := qg HB hg; have GE594 := qg HB hg; replace HB := qS HB hb; have NB580_594 := qn BK580 hg; have NB594_580 := qm BK580 hg; replace BK580 := qB BK580 hb; have NB586_594 := qn BK586 hg; have NB594_586 := qm BK586 hg; replace BK586 := qB BK586 hb; clear hb hbox hg; have hnb29 := NB594_580.out; have hnc29 := NB580_594.out; have hnb30 := NB594_586.out; have hnc30 := NB586_594.out; obtain ⟨hcz31_0, hcz31_1, hcz31_2, hfz31_0, hfz31_1, hfz31_2⟩ := qc3 BK594.out; obtain ⟨hcz32_0, hcz32_1, hfz32_0, hfz32_1⟩ := qc2 BK586.out) | (go_at_call 43; (with_reducible refine (flow_CheckWorst.calls k t582 _ _ t583 t587 t588 t589 t590 t591 t592 true _ ?side1 ?side2 A15.out).mono ?_); (case side1 => refine (Kd.R_reads' (e := 72) (base := w.heap.size) (ok := fun k_ => True) (n := t583.length) (c := co24) ?_).2.2; exact (qr (Kd.R_mono (Kd.R_far (p := ⟨gb594, 2, none⟩) (Kd.R_far (p := ⟨gb594, 1, none⟩) (Kd.R_far (p := ⟨gb594, 0, none⟩) (Kd.R_types HO585.out BK594.out (by decide)) (fun _ hk => hk.2) (.int .i64 t590)) (fun _ hk => hk.2) (.int .i64 t591)) (fun _ hk => hk.2) (.int .i64 t592)) (fun _ h_ => h_.1)))); (case side2 => exact (Kd.R_reads' HO585.out).2.1); rintro e w33 ⟨rfl, hb⟩; replace HO585 := Aside0.mk (Kd.R_below (qr (Kd.R_mono (Kd.R_far (p := ⟨gb594, 2, none⟩) (Kd.R_far (p := ⟨gb594, 1, none⟩) (Kd.R_far (p := ⟨gb594, 0, none⟩) (Kd.R_types HO585.out BK594.out (by decide)) (fun _ hk => hk.2) (.int .i64 t590)) (fun _ hk => hk.2) (.int .i64 t591)) (fun _ hk => hk.2) (.int .i64 t592)) (fun _ h_ => h_.1))) hb); replace BK580 := Aside0.mk (blk_below (g := gb580) (o := .cells #[.int .i64 a5_0, .int .i64 a5_1, .int .i64 a5_2] 23 (0, 0)) (by (with_reducible repeat (first | refine blk_drewN ?_ _ | refine blk_drew ?_ | refine blk_alloc ?_ _)); refine blk_far ?_ NB580_594.out _; (with_reducible repeat (first | refine blk_drewN ?_ _ | refine blk_drew ?_ | refine blk_alloc ?_ _)); refine blk_far ?_ NB580_594.out _; (with_reducible repeat (first | refine blk_drewN ?_ _ | refine blk_drew ?_ | refine blk_alloc ?_ _)); refine blk_far ?_ NB580_594.out _; (with_reducible repeat (first | refine blk_drewN ?_ _ | refine blk_drew ?_ | refine blk_alloc ?_ _)); exact BK580.out) hb); replace BK586 := Aside0.mk (blk_below (g := gb586) (o := .cells #[.int .i64 t582, .slice Ao24 t583.length co24] 26 (0, 0)) (by (with_reducible repeat (first | refine blk_drewN ?_ _ | refine blk_drew ?_ | refine blk_alloc ?_ _)); refine blk_far ?_ NB586_594.out _; (with_reducible repeat (first | refine blk_drewN ?_ _ | refine blk_drew ?_ | refine blk_alloc ?_ _)); refine blk_far ?_ NB586_594.out _; (with_reducible repeat (first | refine blk_drewN ?_ _ | refine blk_drew ?_ | refine blk_alloc ?_ _)); refine blk_far ?_ NB586_594.out _; (with_reducible repeat (first | refine blk_drewN ?_ _ | refine blk_drew ?_ | refine blk_alloc ?_ _)); exact BK586.out) hb); replace BK594 := Aside0.mk (blk_below (g := gb594) (o := .cells #[.int .i64 t590, .int .i64 t591, .int .i64 t592] 53 (0, 0)) (by (with_reducible repeat (first | refine blk_drewN ?_ _ | refine blk_drew ?_ | refine blk_alloc ?_ _)); refine blk_put (cs := #[.int .i64 t590, .int .i64 t591, .int .i64 0]) ?_ 2 _ rfl; (with_reducible repeat (first | refine blk_drewN ?_ _ | refine blk_drew ?_ | refine blk_alloc ?_ _)); refine blk_put (cs := #[.int .i64 t590, .int .i64 0, .int .i64 0]) ?_ 1 _ rfl; (with_reducible repeat (first | refine blk_drewN ?_ _ | refine blk_drew ?_ | refine blk_alloc ?_ _)); refine blk_put (cs := #[.int .i64 0, .int .i64 0, .int .i64 0]) ?_ 0 _ rfl; (with_reducible repeat (first | refine blk_drewN ?_ _ | refine blk_drew ?_ | refine blk_alloc ?_ _)); exact BK594.out) hb); replace HB := qS HB hb; (try clear hb); (try clear hb2); (try clear hk); (try clear hi)))
    (try simp only [Act.put, List.setIfInBounds_toArray, List.set_cons_zero, List.set_cons_succ])
    go_cut [21] (fun v21 wc => ∃ (kq : Nat) (x21_16 : Int), v21 = .int .i64 x21_16 ∧ Aside0 (dialtonelaw27_FlowWorst.j1 kq a6 t587 t588 x21_16 t582 t583 t590 t591 t592 = some r) ∧ Aside0 (kq ≤ k) ∧ Aside0 (Kd.R k72 72 wc w.heap.size (fun _ => True) (.slice Ao24 t583.length co24) t583) ∧ Aside0 (wc.heap[gb580]? = some (.cells #[.int .i64 a5_0, .int .i64 a5_1, .int .i64 a5_2] 23 (0, 0))) ∧ Aside0 (wc.heap[gb586]? = some (.cells #[.int .i64 t582, (.slice Ao24 t583.length co24)] 26 (0, 0))) ∧ Aside0 (wc.heap[gb594]? = some (.cells #[.int .i64 t590, .int .i64 t591, .int .i64 t592] 53 (0, 0))) ∧ Aside0 (Below w.heap.size w wc))
    case first =>
     have H := HC17.out
     clear HC17
     have H' := Aside0.mk H
     clear H
     go_wp2
     go_loopg [21, 22] k (fun kq v21 v22 w' => ∃ (x21_1 : Int) (x22_1 : Int), v21 = .int .i64 x21_1 ∧ v22 = .int .i64 x22_1 ∧ Aside0 (dialtonelaw27_FlowWorst.l0 kq a6 t587 t588 t589 x21_1 x22_1 a5_0 a5_1 a5_2 t582 t583 t590 t591 t592 = some r) ∧ Aside0 (kq ≤ k) ∧ Aside0 (Kd.R k72 72 w' w.heap.size (fun _ => True) (.slice Ao24 t583.length co24) t583) ∧ Aside0 (w'.heap[gb580]? = some (.cells #[.int .i64 a5_0, .int .i64 a5_1, .int .i64 a5_2] 23 (0, 0))) ∧ Aside0 (w'.heap[gb586]? = some (.cells #[.int .i64 t582, (.slice Ao24 t583.length co24)] 26 (0, 0))) ∧ Aside0 (w'.heap[gb594]? = some (.cells #[.int .i64 t590, .int .i64 t591, .int .i64 t592] 53 (0, 0))) ∧ Aside0 (Below w.heap.size w w'))
     case atStart => exact ⟨(0), (0), (by first | rfl | (simp; done) | (simp [*]; done)), (by first | rfl | (simp; done) | (simp [*]; done)), H', ⟨Nat.le_refl _⟩, ⟨by (with_reducible repeat (first | apply Kd.R_alloc | apply Kd.R_drewN | apply Kd.R_drew)); exact HO585.out⟩, ⟨by (with_reducible repeat (first | refine blk_drewN ?_ _ | refine blk_drew ?_ | refine blk_alloc ?_ _)); exact BK580.out⟩, ⟨by (with_reducible repeat (first | refine blk_drewN ?_ _ | refine blk_drew ?_ | refine blk_alloc ?_ _)); exact BK586.out⟩, ⟨by (with_reducible repeat (first | refine blk_drewN ?_ _ | refine blk_drew ?_ | refine blk_alloc ?_ _)); exact BK594.out⟩, ⟨qb⟩⟩
     case round =>
      clear H'
      try clear c1
      try clear c2
      try clear p2
      try clear c3
      try clear c4
      try clear c7
      try clear c9
      try clear c14
      try clear c14b0
      try clear c14b1
      try clear c16
      try clear c22
      try clear c23
      try clear c24
      try clear c29
      try clear c30
      try clear hcz23_0
      try clear hcz23_1
      try clear hcz26_0
      try clear hcz26_1
      try clear hcz31_0
      try clear hcz31_1
      try clear hcz31_2
      try clear hcz32_0
      try clear hcz32_1
      try clear hfz23_0
      try clear hfz23_1
      try clear hfz26_0
      try clear hfz26_1
      try clear hfz31_0
      try clear hfz31_1
      try clear hfz31_2
      try clear hfz32_0
      try clear hfz32_1
      obtain ⟨x21_1, x22_1, rfl, rfl, HA, HK1, HO_587001, BK580, BK586, BK594, HB⟩ := hrel
      cases gk with
      | zero => exact absurd HA.out (by simp [dialtonelaw27_FlowWorst.l0])
      | succ k1 =>
       have H := HA.out
       clear HA
       simp only [dialtonelaw27_FlowWorst.l0] at H
       by_cases c34 : x22_1 < t589
       ·
        rw [if_pos c34] at H
        have c34b0 : decide (x22_1 < t589) = true := decide_eq_true c34
        clear c34
        (first | rw [c34b0] | (simp only [i64_w, i32_w]; rw [c34b0]) | skip)
        by_cases c35 : (t583.length : Int) > 0
        ·
         rw [if_pos c35] at H
         have c35b0 : decide (0 < (t583.length : Int)) = true := decide_eq_true c35
         have c35b1 : decide (0 < t583.length) = true := decide_eq_true (by omega)
         clear c35
         by_cases c36 : 0 ≤ x22_1
         ·
          rw [if_pos c36] at H
          have c36b0 : decide (0 ≤ x22_1) = true := decide_eq_true c36
          clear c36
          by_cases c37 : x22_1 < 3
          ·
           rw [if_pos c37] at H
           have c37b0 : decide (x22_1 < 3) = true := decide_eq_true c37
           clear c37
           replace H := Option.bind_eq_some_iff.mp H
           obtain ⟨t597, A380, H⟩ := H
           (try dsimp only at H)
           have A38 := Aside0.mk A380
           clear A380
           by_cases c39 : 0 ≤ t597
           ·
            rw [if_pos c39] at H
            have c39b0 := eq_true c39
            have c39b1 : decide (0 ≤ t597) = true := decide_eq_true c39
            clear c39
            obtain ⟨ji40, hji40⟩ : ∃ j_ : Int, (shl .i64 1 t597) = j_ := ⟨_, rfl⟩
            replace H : (dialtonelaw27_FlowWorst.l0 k1 a6 t587 t588 t589 (Go.bits .or .i64 x21_1 (ji40)) (wrap64 (x22_1 + 1)) a5_0 a5_1 a5_2 t582 t583 t590 t591 t592) = some r := by first | (rw [hji40] at H; exact H) | (simp only [hji40] at H ⊢; exact H)
            (try rw [hji40] at A38)
            have hji40_ : (IntKind.i64.wrap (1 * 2 ^ min t597.toNat 64)) = ji40 := hji40
            have hji40z : t597 ≤ 64 → (IntKind.i64.wrap (1 * 2 ^ t597.toNat)) = ji40 := shl_small hji40
            have hji40u : (IntKind.i64.wrap (2 ^ min t597.toNat 64)) = ji40 := by have h_ := hji40_; rw [Int.one_mul] at h_; exact h_
            have hji40v : t597 ≤ 64 → (IntKind.i64.wrap (2 ^ t597.toNat)) = ji40 := fun hle_ => by have h_ := hji40z hle_; rw [Int.one_mul] at h_; exact h_
            have hji40y : (wrap64 (1 * 2 ^ min t597.toNat 64)) = ji40 := (i64_w _).symm.trans hji40_
            have hji40x : t597 ≤ 64 → (wrap64 (1 * 2 ^ t597.toNat)) = ji40 := fun h_ => (i64_w _).symm.trans (hji40z h_)
            have H' := Aside0.mk H
            clear H
            have hnb41 := NB586_580.out
            have hnc41 := NB580_586.out
            have hnb42 := NB586_594.out
            have hnc42 := NB594_586.out
            obtain ⟨hcz43_0, hcz43_1, hfz43_0, hfz43_1⟩ := qc2 BK586.out
            try go_wp2
            replace HO_587001 := Aside0.mk (Kd.R_drew HO_587001.out)
            replace BK580 := Aside0.mk (blk_drew BK580.out)
            replace BK586 := Aside0.mk (blk_drew BK586.out)
            replace BK594 := Aside0.mk (blk_drew BK594.out)
            replace HB := Aside0.mk (below_drew1 HB.out)
            have p596 : 0 ≤ (x22_1 : Int) := of_decide_eq_true (by first | (with_reducible assumption) | assumption)
            have q596 : x22_1 < (3 : Int) := of_decide_eq_true (by first | (with_reducible assumption) | assumption)
            replace p596 := eq_true p596
            replace q596 := eq_true q596
            refine start_ (n := 11) (S := fun w' => w'.cell? ⟨gb580, 0, none⟩ = some (.int .i64 a5_0) ∧ w'.cell? ⟨gb580, 1, none⟩ = some (.int .i64 a5_1) ∧ w'.cell? ⟨gb580, 2, none⟩ = some (.int .i64 a5_2) ∧ w'.cell? ⟨gb586, 0, none⟩ = some (.int .i64 t582) ∧ w'.cell? ⟨gb586, 1, none⟩ = some (.slice Ao24 t583.length co24) ∧ w'.cell? ⟨gb580, (x22_1).toNat, none⟩ = some (.int .i64 (rd [a5_0, a5_1, a5_2] x22_1))) (ds := []) #[false, false, false, false, false, false, false, false, false, false, false] qq rfl rfl ⟨(blk_cell BK580.out 0).trans rfl, (blk_cell BK580.out 1).trans rfl, (blk_cell BK580.out 2).trans rfl, (blk_cell BK586.out 0).trans rfl, (blk_cell BK586.out 1).trans rfl, (arr_cell (xs := [a5_0, a5_1, a5_2]) BK580.out x22_1 (of_eq_true p596) (of_eq_true q596))⟩ (fun hHeld => ?_); refine with_tabW dialtonelaw27_FlowWorst.tab13 dialtonelaw27_FlowWorst.bits13 (fun HT_ HW_ => ?_)
            generalize wr.drew = w44 at HO_587001 BK580 BK586 BK594 HB hHeld ⊢
            refine pure_ (i := 0) (N := some 79) (v := ?_) (a' := ?_) #[true, false, false, false, false, false, false, false, false, false, false] rfl rfl (any_of HT_.out qq) (fun _ _ _ h => h) (Or.inl ⟨by rfl, ?_⟩) ?_ ?_
            rotate_left
            ·
             intro w'
             go_simp
             with_reducible rfl
            rotate_left
            ·
             simp only [Act.put, List.setIfInBounds_toArray, List.set_cons_zero, List.set_cons_succ, i64_w, i32_w]
             rfl
            refine pure_ (i := 1) (N := some 80) (v := ?_) (a' := ?_) #[true, true, false, false, false, false, false, false, false, false, false] rfl rfl (any_of HT_.out qq) (fun _ _ _ h => h) (Or.inl ⟨by rfl, ?_⟩) ?_ ?_
            rotate_left
            ·
             intro w'
             go_simp
             with_reducible rfl
            rotate_left
            ·
             simp only [Act.put, List.setIfInBounds_toArray, List.set_cons_zero, List.set_cons_succ, i64_w, i32_w]
             rfl
            refine pure_ (i := 2) (N := some 81) (v := ?_) (a' := ?_) #[true, true, true, false, false, false, false, false, false, false, false] rfl rfl (any_of HT_.out qq) (fun _ _ _ h => h) (Or.inl ⟨by rfl, ?_⟩) ?_ ?_
            rotate_left
            ·
             intro w'
             go_simp
             with_reducible rfl
            rotate_left
            ·
             simp only [Act.put, List.setIfInBounds_toArray, List.set_cons_zero, List.set_cons_succ, i64_w, i32_w]
             rfl
            refine pure_ (i := 4) (N := some 83) (v := ?_) (a' := ?_) #[true, true, true, false, true, false, false, false, false, false, false] rfl rfl (any_of HT_.out qq) (fun _ _ _ h => h) (Or.inl ⟨by rfl, ?_⟩) ?_ ?_
            rotate_left
            ·
             intro w'
             go_simp
             with_reducible rfl
            rotate_left
            ·
             simp only [Act.put, List.setIfInBounds_toArray, List.set_cons_zero, List.set_cons_succ, i64_w, i32_w]
             rfl
            refine take_ (i := 3) (N := some 82) (v := ?_) (a' := ?_) #[true, true, true, true, true, false, false, false, false, false, false] rfl rfl (take_ofW HT_.out HW_.out qq) (fun _ _ _ h => h) (Or.inl ⟨by rfl, ?_⟩) hHeld ?_ ?_
            rotate_left
            ·
             rintro w' ⟨s0, s1, s2, s3, s4, s5⟩
             go_simp
             with_reducible rfl
            rotate_left
            ·
             simp only [Act.put, List.setIfInBounds_toArray, List.set_cons_zero, List.set_cons_succ, i64_w, i32_w]
             rfl
            refine take_ (i := 5) (N := some 84) (v := ?_) (a' := ?_) #[true, true, true, true, true, true, false, false, false, false, false] rfl rfl (take_ofW HT_.out HW_.out qq) (fun _ _ _ h => h) (Or.inl ⟨by rfl, ?_⟩) hHeld ?_ ?_
            rotate_left
            ·
             rintro w' ⟨s0, s1, s2, s3, s4, s5⟩
             go_simp
             with_reducible rfl
            rotate_left
            ·
             simp only [Act.put, List.setIfInBounds_toArray, List.set_cons_zero, List.set_cons_succ, i64_w, i32_w]
             rfl
            refine pure_ (i := 6) (N := some 85) (v := ?_) (a' := ?_) #[true, true, true, true, true, true, true, false, false, false, false] rfl rfl (any_of HT_.out qq) (fun _ _ _ h => h) (Or.inl ⟨by rfl, ?_⟩) ?_ ?_
            rotate_left
            ·
             intro w'
             go_simp
             with_reducible rfl
            rotate_left
            ·
             simp only [Act.put, List.setIfInBounds_toArray, List.set_cons_zero, List.set_cons_succ, i64_w, i32_w]
             rfl
            refine one_ (i := 7) (N := some 86) #[true, true, true, true, true, true, true, true, false, false, false] rfl rfl (one_of HT_.out qq) (by decide) (fun K hK => ?_)
            refine goes_ Try.func35 qq rfl #[.int .i64 (rd [a5_0, a5_1, a5_2] x22_1), .int .i64 (t583.length : Int)] (by rfl) rfl rfl qa ?_
            with_reducible refine (dialtonelaw27_pick.calls (rd [a5_0, a5_1, a5_2] x22_1) (t583.length : Int) t597 _ A38.out).mono ?_
            rintro e w' ⟨rfl, ⟨nd, rfl⟩⟩
            refine ⟨_, rfl, ?_⟩
            refine hK.out _ _ ⟨(blk_cell BK580.out 0).trans rfl, (blk_cell BK580.out 1).trans rfl, (blk_cell BK580.out 2).trans rfl, (blk_cell BK586.out 0).trans rfl, (blk_cell BK586.out 1).trans rfl, (arr_cell (xs := [a5_0, a5_1, a5_2]) BK580.out x22_1 (of_eq_true p596) (of_eq_true q596))⟩ (fun hHeld => ?_)
            clear hK K
            refine norm_ (a' := ?_) ?_ ?_
            rotate_left
            ·
             show Act.put _ (some 86) _ = _
             simp only [Act.put, List.setIfInBounds_toArray, List.set_cons_zero, List.set_cons_succ, i64_w, i32_w]
             rfl
            refine pure_ (i := 8) (N := some 87) (v := ?_) (a' := ?_) #[true, true, true, true, true, true, true, true, true, false, false] rfl rfl (any_of HT_.out qq) (fun _ _ _ h => h) (Or.inl ⟨by rfl, ?_⟩) ?_ ?_
            rotate_left
            ·
             intro w'
             go_simp
             with_reducible rfl
            rotate_left
            ·
             simp only [Act.put, List.setIfInBounds_toArray, List.set_cons_zero, List.set_cons_succ, i64_w, i32_w]
             rfl
            refine pure_ (i := 9) (N := some 88) (v := ?_) (a' := ?_) #[true, true, true, true, true, true, true, true, true, true, false] rfl rfl (any_of HT_.out qq) (fun _ _ _ h => h) (Or.inl ⟨by rfl, ?_⟩) ?_ ?_
            rotate_left
            ·
             intro w'
             go_simp
             with_reducible rfl
            rotate_left
            ·
             simp only [Act.put, List.setIfInBounds_toArray, List.set_cons_zero, List.set_cons_succ, i64_w, i32_w]
             rfl
            refine pure_ (i := 10) (N := some 21) (v := ?_) (a' := ?_) #[true, true, true, true, true, true, true, true, true, true, true] rfl rfl (any_of HT_.out qq) (fun _ _ _ h => h) (Or.inl ⟨by rfl, ?_⟩) ?_ ?_
            rotate_left
            ·
             intro w'
             go_simp
             with_reducible rfl
            rotate_left
            ·
             simp only [Act.put, List.setIfInBounds_toArray, List.set_cons_zero, List.set_cons_succ, i64_w, i32_w]
             rfl
            refine done_ (done_of HT_.out qq) ?_
            try go_wp2
            go_roundg k1
            case measure => have := HK1.out; omega
            case rel => exact ⟨(Go.bits .or .i64 x21_1 (ji40)), (wrap64 (x22_1 + 1)), (by first | rfl | (simp; done) | (simp only [← hji40] <;> (first | rfl | simp)) | (simp [*]; done)), (by first | rfl | (simp; done) | (simp [*]; done)), H', ⟨by have := HK1.out; omega⟩, ⟨by (with_reducible repeat (first | apply Kd.R_alloc | apply Kd.R_drewN | apply Kd.R_drew)); exact HO_587001.out⟩, ⟨by (with_reducible repeat (first | refine blk_drewN ?_ _ | refine blk_drew ?_ | refine blk_alloc ?_ _)); exact BK580.out⟩, ⟨by (with_reducible repeat (first | refine blk_drewN ?_ _ | refine blk_drew ?_ | refine blk_alloc ?_ _)); exact BK586.out⟩, ⟨by (with_reducible repeat (first | refine blk_drewN ?_ _ | refine blk_drew ?_ | refine blk_alloc ?_ _)); exact BK594.out⟩, ⟨qb⟩⟩
           ·
            rw [if_neg c39] at H
            exact absurd H (by simp)
          ·
           rw [if_neg c37] at H
           exact absurd H (by simp)
         ·
          rw [if_neg c36] at H
          exact absurd H (by simp)
        ·
         rw [if_neg c35] at H
         have c35b0 : decide (0 < (t583.length : Int)) = false := decide_eq_false c35
         have c35b1 : decide (0 < t583.length) = false := decide_eq_false (by omega)
         clear c35
         have H' := Aside0.mk H
         clear H
         have hnb45 := NB586_580.out
         have hnc45 := NB580_586.out
         have hnb46 := NB586_594.out
         have hnc46 := NB594_586.out
         obtain ⟨hcz47_0, hcz47_1, hfz47_0, hfz47_1⟩ := qc2 BK586.out
         go_wp2
         go_meet
         case rel => exact ⟨_, (x21_1), (by first | rfl | (simp; done) | (simp [*]; done)), H', ⟨by have := HK1.out; first | omega | exact Nat.le_refl _⟩, ⟨by (with_reducible repeat (first | apply Kd.R_alloc | apply Kd.R_drewN | apply Kd.R_drew)); exact HO_587001.out⟩, ⟨by (with_reducible repeat (first | refine blk_drewN ?_ _ | refine blk_drew ?_ | refine blk_alloc ?_ _)); exact BK580.out⟩, ⟨by (with_reducible repeat (first | refine blk_drewN ?_ _ | refine blk_drew ?_ | refine blk_alloc ?_ _)); exact BK586.out⟩, ⟨by (with_reducible repeat (first | refine blk_drewN ?_ _ | refine blk_drew ?_ | refine blk_alloc ?_ _)); exact BK594.out⟩, ⟨qb⟩⟩
       ·
        rw [if_neg c34] at H
        have c34b0 : decide (x22_1 < t589) = false := decide_eq_false c34
        clear c34
        (first | rw [c34b0] | (simp only [i64_w, i32_w]; rw [c34b0]) | skip)
        have H' := Aside0.mk H
        clear H
        go_wp2
        go_meet
        case rel => exact ⟨_, (x21_1), (by first | rfl | (simp; done) | (simp [*]; done)), H', ⟨by have := HK1.out; first | omega | exact Nat.le_refl _⟩, ⟨by (with_reducible repeat (first | apply Kd.R_alloc | apply Kd.R_drewN | apply Kd.R_drew)); exact HO_587001.out⟩, ⟨by (with_reducible repeat (first | refine blk_drewN ?_ _ | refine blk_drew ?_ | refine blk_alloc ?_ _)); exact BK580.out⟩, ⟨by (with_reducible repeat (first | refine blk_drewN ?_ _ | refine blk_drew ?_ | refine blk_alloc ?_ _)); exact BK586.out⟩, ⟨by (with_reducible repeat (first | refine blk_drewN ?_ _ | refine blk_drew ?_ | refine blk_alloc ?_ _)); exact BK594.out⟩, ⟨qb⟩⟩
    case rest =>
     clear HC17
     try clear c1
     try clear c2
     try clear p2
     try clear c3
     try clear c4
     try clear p5
     try clear q5
     try clear p6
     try clear c7
     try clear c9
     try clear c14
     try clear c14b0
     try clear c14b1
     try clear c16
     try clear c22
     try clear c23
     try clear c24
     try clear c29
     try clear c30
     try clear c34
     try clear c34b0
     try clear c35
     try clear c35b0
     try clear c35b1
     try clear c36
     try clear c36b0
     try clear c37
     try clear c37b0
     try clear c39
     try clear c39b0
     try clear c39b1
     try clear c41
     try clear c42
     try clear c45
     try clear c46
     try clear hcz23_0
     try clear hcz23_1
     try clear hcz26_0
     try clear hcz26_1
     try clear hcz31_0
     try clear hcz31_1
     try clear hcz31_2
     try clear hcz32_0
     try clear hcz32_1
     try clear hcz43_0
     try clear hcz43_1
     try clear hcz47_0
     try clear hcz47_1
     try clear hfz23_0
     try clear hfz23_1
     try clear hfz26_0
     try clear hfz26_1
     try clear hfz31_0
     try clear hfz31_1
     try clear hfz31_2
     try clear hfz32_0
     try clear hfz32_1
     try clear hfz43_0
     try clear hfz43_1
     try clear hfz47_0
     try clear hfz47_1
     try clear p2
     try clear p596
     try clear q596
     obtain ⟨kq, x21_16, rfl, HA, HJ16, HO_587001, BK580, BK586, BK594, HB⟩ := hcut
     cases kq with
     | zero => exact absurd HA.out (by simp [dialtonelaw27_FlowWorst.j1])
     | succ kj16 =>
      have H := HA.out
      clear HA
      simp only [dialtonelaw27_FlowWorst.j1] at H
      replace H := Option.bind_eq_some_iff.mp H
      obtain ⟨⟨t598, t599, t602⟩, A480, H⟩ := H
      (try dsimp only at H)
      have A48 := Aside0.mk A480
      clear A480
      by_cases c49 : t602 = 0
      ·
       rw [if_pos c49] at H
       obtain ⟨c49b0, c49b1⟩ := qt c49
       clear c49
       replace H := Option.bind_eq_some_iff.mp H
       obtain ⟨⟨t604, t605, t606⟩, A500, H⟩ := H
       (try dsimp only at H)
       have A50 := Aside0.mk A500
       clear A500
       by_cases c51 : t606 = true
       ·
        subst c51
        rw [if_pos rfl] at H
        by_cases c52 : t604 < t591
        ·
         rw [if_pos c52] at H
         have c52b0 : decide (t604 < t591) = true := decide_eq_true c52
         clear c52
         obtain rfl := Option.some.inj H
         have hnb53 := NB586_580.out
         have hnc53 := NB580_586.out
         have hnb54 := NB586_594.out
         have hnc54 := NB594_586.out
         obtain ⟨hcz55_0, hcz55_1, hfz55_0, hfz55_1⟩ := qc2 BK586.out
         go_wp2_with (first | ((with_reducible refine gate_callee (f := 38) rfl ?_); refine goesL_ (some 92) rfl rfl Try.func38 qq rfl #[.agg #[.int .i64 t582, .slice Ao24 t583.length co24], .int .i64 x21_16] rfl qa ?_; (with_reducible refine (flow_Without.calls t582 _ _ t583 x21_16 t598 t599 t602 _ ?side1 ?side2 A48.out).mono ?_); (case side1 => exact qC (Kd.R_reads' HO_587001.out).2.2); (case side2 => exact (Kd.R_reads' HO_587001.out).2.1); rintro e w56 ⟨v600, rfl, ho0, hb⟩; refine ⟨_, rfl, ?_⟩; have HO601 := Aside0.mk (Kd.R_lower (Kd.R_new' ho0 (Kd.R_lt (qr HO_587001.out))) (below_size (qb))); replace HO_587001 := Aside0.mk (Kd.R_elder' (qr HO_587001.out) (Kd.R_base ho0) hb); replace BK580 := qB BK580 hb; replace BK586 := qB BK586 hb; replace BK594 := qB BK594 hb; replace HB := qS HB hb; (try clear hb); (try clear hb2); (try clear hk); (try clear hi); (try clear ho0)) | ((with_reducible refine gate_dst (N := 23) rfl ?_); (try (refine gate_guard (by rfl) ?_; dsimp only)); refine box_event rfl (N := 23) rfl (cs := #[.int .i64 0, .slice none 0 0]) (t := 26) qh ?_; intro gb603 hg w57 hbox hb; replace HO_587001 := qR HO_587001 hb; replace HO601 := qR HO601 hb; have BK603 := Aside0.mk (hbox); have GW603 := qg HB hg; have GE603 := qg HB hg; replace HB := qS HB hb; have NB580_603 := qn BK580 hg; have NB603_580 := qm BK580 hg; replace BK580 := qB BK580 hb; have NB586_603 := qn BK586 hg; have NB603_586 := qm BK586 hg; replace BK586 := qB BK586 hb; have NB594_603 := qn BK594 hg; have NB603_594 := qm BK594 hg; replace BK594 := qB BK594 hb; clear hb hbox hg; have hnb58 := NB603_580.out; have hnc58 := NB580_603.out; have hnb59 := NB603_586.out; have hnc59 := NB586_603.out; have hnb60 := NB603_594.out; have hnc60 := NB594_603.out; obtain ⟨hcz61_0, hcz61_1, hfz61_0, hfz61_1⟩ := qc2 BK603.out; obtain ⟨Ao62, co62, eo62⟩ := Kd.R_slice HO601.out; subst eo62) | ((with_reducible refine gate_callee (f := 51) rfl ?_); refine goesL_ (some 99) rfl rfl Try.func51 qq rfl #[.agg #[.int .i64 t598, .slice Ao62 t599.length co62], .int .i64 t587, .int .i64 t588] rfl qa ?_; (with_reducible refine (dialtonelaw27_greatest.calls kj16 t598 _ _ t599 t587 t588 t604 t605 true _ ?side1 ?side2 A50.out).mono ?_); (case side1 => refine (Kd.R_reads' (e := 72) (base := w.heap.size) (ok := fun k_ => (True ∧ some k_ ≠ (.slice Ao24 t583.length co24 : Value).ownBlock)) (n := t599.length) (c := co62) ?_).2.2; exact (qr (Kd.R_mono (Kd.R_far (p := ⟨gb603, 1, none⟩) (Kd.R_far (p := ⟨gb603, 0, none⟩) (Kd.R_types HO601.out BK603.out (by decide)) (fun _ hk => hk.2) (.int .i64 t598)) (fun _ hk => hk.2) (.slice Ao62 t599.length co62)) (fun _ h_ => h_.1)))); (case side2 => exact (Kd.R_reads' HO601.out).2.1); rintro e w63 ⟨rfl, hb⟩; refine ⟨_, rfl, ?_⟩; replace HO_587001 := Aside0.mk (Kd.R_below (qr (Kd.R_mono (Kd.R_far (p := ⟨gb603, 1, none⟩) (Kd.R_far (p := ⟨gb603, 0, none⟩) (Kd.R_types HO_587001.out BK603.out (by decide)) (fun _ hk => hk.2) (.int .i64 t598)) (fun _ hk => hk.2) (.slice Ao62 t599.length co62)) (fun _ h_ => h_.1))) hb); replace HO601 := Aside0.mk (Kd.R_below (qr (Kd.R_mono (Kd.R_far (p := ⟨gb603, 1, none⟩) (Kd.R_far (p := ⟨gb603, 0, none⟩) (Kd.R_types HO601.out BK603.out (by decide)) (fun _ hk => hk.2) (.int .i64 t598)) (fun _ hk => hk.2) (.slice Ao62 t599.length co62)) (fun _ h_ => h_.1))) hb); replace BK580 := Aside0.mk (blk_below (g := gb580) (o := .cells #[.int .i64 a5_0, .int .i64 a5_1, .int .i64 a5_2] 23 (0, 0)) (by (with_reducible repeat (first | refine blk_drewN ?_ _ | refine blk_drew ?_ | refine blk_alloc ?_ _)); refine blk_far ?_ NB580_603.out _; (with_reducible repeat (first | refine blk_drewN ?_ _ | refine blk_drew ?_ | refine blk_alloc ?_ _)); refine blk_far ?_ NB580_603.out _; (with_reducible repeat (first | refine blk_drewN ?_ _ | refine blk_drew ?_ | refine blk_alloc ?_ _)); exact BK580.out) hb); replace BK586 := Aside0.mk (blk_below (g := gb586) (o := .cells #[.int .i64 t582, .slice Ao24 t583.length co24] 26 (0, 0)) (by (with_reducible repeat (first | refine blk_drewN ?_ _ | refine blk_drew ?_ | refine blk_alloc ?_ _)); refine blk_far ?_ NB586_603.out _; (with_reducible repeat (first | refine blk_drewN ?_ _ | refine blk_drew ?_ | refine blk_alloc ?_ _)); refine blk_far ?_ NB586_603.out _; (with_reducible repeat (first | refine blk_drewN ?_ _ | refine blk_drew ?_ | refine blk_alloc ?_ _)); exact BK586.out) hb); replace BK594 := Aside0.mk (blk_below (g := gb594) (o := .cells #[.int .i64 t590, .int .i64 t591, .int .i64 t592] 53 (0, 0)) (by (with_reducible repeat (first | refine blk_drewN ?_ _ | refine blk_drew ?_ | refine blk_alloc ?_ _)); refine blk_far ?_ NB594_603.out _; (with_reducible repeat (first | refine blk_drewN ?_ _ | refine blk_drew ?_ | refine blk_alloc ?_ _)); refine blk_far ?_ NB594_603.out _; (with_reducible repeat (first | refine blk_drewN ?_ _ | refine blk_drew ?_ | refine blk_alloc ?_ _)); exact BK594.out) hb); replace BK603 := Aside0.mk (blk_below (g := gb603) (o := .cells #[.int .i64 t598, .slice Ao62 t599.length co62] 26 (0, 0)) (by (with_reducible repeat (first | refine blk_drewN ?_ _ | refine blk_drew ?_ | refine blk_alloc ?_ _)); refine blk_put (cs := #[.int .i64 t598, .slice none 0 0]) ?_ 1 _ rfl; (with_reducible repeat (first | refine blk_drewN ?_ _ | refine blk_drew ?_ | refine blk_alloc ?_ _)); refine blk_put (cs := #[.int .i64 0, .slice none 0 0]) ?_ 0 _ rfl; (with_reducible repeat (first | refine blk_drewN ?_ _ | refine blk_drew ?_ | refine blk_alloc ?_ _)); exact BK603.out) hb); replace HB := qS HB hb; (try clear hb); (try clear hb2); (try clear hk); (try clear hi); have hnb64 := NB594_580.out; have hnc64 := NB580_594.out; obtain ⟨hcz65_0, hcz65_1, hcz65_2, hfz65_0, hfz65_1, hfz65_2⟩ := qc3 BK594.out))
         go_ret
         exact ⟨qe, qb⟩
        ·
         rw [if_neg c52] at H
         have c52b0 : decide (t604 < t591) = false := decide_eq_false c52
         clear c52
         replace H := Option.bind_eq_some_iff.mp H
         obtain ⟨⟨t607, t608, t611⟩, A660, H⟩ := H
         (try dsimp only at H)
         have A66 := Aside0.mk A660
         clear A660
         by_cases c67 : t611 = 0
         ·
          rw [if_pos c67] at H
          obtain ⟨c67b0, c67b1⟩ := qt c67
          clear c67
          replace H := Option.bind_eq_some_iff.mp H
          obtain ⟨⟨t613, t614, t615⟩, A680, H⟩ := H
          (try dsimp only at H)
          have A68 := Aside0.mk A680
          clear A680
          by_cases c69 : t615 = true
          ·
           subst c69
           rw [if_pos rfl] at H
           by_cases c70 : t613 = t591
           ·
            rw [if_pos c70] at H
            obtain ⟨c70b0, c70b1⟩ := qt c70
            clear c70
            by_cases c71 : 0 ≤ t582
            ·
             rw [if_pos c71] at H
             have c71b0 := eq_true c71
             have c71b1 : decide (0 ≤ t582) = true := decide_eq_true c71
             clear c71
             obtain ⟨ji72, hji72⟩ : ∃ j_ : Int, (shl .i64 1 t582) = j_ := ⟨_, rfl⟩
             replace H : ((dialtonelaw27_pick.f a6 (ji72)).bind fun t616 => ((flow_CheckCut.f kj16 t598 t599 t587 t588 t616).bind fun bt617 => (if bt617.2 = true then (some (decide (bt617.1 ≥ t591))) else (some true)))) = some r := by first | (rw [hji72] at H; exact H) | (simp only [hji72] at H ⊢; exact H)
             (try rw [hji72] at A48)
             (try rw [hji72] at A50)
             (try rw [hji72] at A66)
             (try rw [hji72] at A68)
             have hji72_ : (IntKind.i64.wrap (1 * 2 ^ min t582.toNat 64)) = ji72 := hji72
             have hji72z : t582 ≤ 64 → (IntKind.i64.wrap (1 * 2 ^ t582.toNat)) = ji72 := shl_small hji72
             have hji72u : (IntKind.i64.wrap (2 ^ min t582.toNat 64)) = ji72 := by have h_ := hji72_; rw [Int.one_mul] at h_; exact h_
             have hji72v : t582 ≤ 64 → (IntKind.i64.wrap (2 ^ t582.toNat)) = ji72 := fun hle_ => by have h_ := hji72z hle_; rw [Int.one_mul] at h_; exact h_
             have hji72y : (wrap64 (1 * 2 ^ min t582.toNat 64)) = ji72 := (i64_w _).symm.trans hji72_
             have hji72x : t582 ≤ 64 → (wrap64 (1 * 2 ^ t582.toNat)) = ji72 := fun h_ => (i64_w _).symm.trans (hji72z h_)
             replace H := Option.bind_eq_some_iff.mp H
             obtain ⟨t616, A730, H⟩ := H
             (try dsimp only at H)
             have A73 := Aside0.mk A730
             clear A730
             replace H := Option.bind_eq_some_iff.mp H
             obtain ⟨⟨t617, t618⟩, A740, H⟩ := H
             (try dsimp only at H)
             have A74 := Aside0.mk A740
             clear A740
             by_cases c75 : t618 = true
             ·
              subst c75
              rw [if_pos rfl] at H
              obtain rfl := Option.some.inj H
              have hnb76 := NB586_580.out
              have hnc76 := NB580_586.out
              have hnb77 := NB586_594.out
              have hnc77 := NB594_586.out
              obtain ⟨hcz78_0, hcz78_1, hfz78_0, hfz78_1⟩ := qc2 BK586.out
              try go_wp2_with (first | ((with_reducible refine gate_callee (f := 38) rfl ?_); refine goesL_ (some 92) rfl rfl Try.func38 qq rfl #[.agg #[.int .i64 t582, .slice Ao24 t583.length co24], .int .i64 x21_16] rfl qa ?_; (with_reducible refine (flow_Without.calls t582 _ _ t583 x21_16 t598 t599 t602 _ ?side1 ?side2 A48.out).mono ?_); (case side1 => exact qC (Kd.R_reads' HO_587001.out).2.2); (case side2 => exact (Kd.R_reads' HO_587001.out).2.1); rintro e w79 ⟨v600, rfl, ho0, hb⟩; refine ⟨_, rfl, ?_⟩; have HO601 := Aside0.mk (Kd.R_lower (Kd.R_new' ho0 (Kd.R_lt (qr HO_587001.out))) (below_size (qb))); replace HO_587001 := Aside0.mk (Kd.R_elder' (qr HO_587001.out) (Kd.R_base ho0) hb); replace BK580 := qB BK580 hb; replace BK586 := qB BK586 hb; replace BK594 := qB BK594 hb; replace HB := qS HB hb; (try clear hb); (try clear hb2); (try clear hk); (try clear hi); (try clear ho0)) | ((with_reducible refine gate_dst (N := 23) rfl ?_); (try (refine gate_guard (by rfl) ?_; dsimp only)); refine box_event rfl (N := 23) rfl (cs := #[.int .i64 0, .slice none 0 0]) (t := 26) qh ?_; intro gb603 hg w80 hbox hb; replace HO_587001 := qR HO_587001 hb; replace HO601 := qR HO601 hb; have BK603 := Aside0.mk (hbox); have GW603 := qg HB hg; have GE603 := qg HB hg; replace HB := qS HB hb; have NB580_603 := qn BK580 hg; have NB603_580 := qm BK580 hg; replace BK580 := qB BK580 hb; have NB586_603 := qn BK586 hg; have NB603_586 := qm BK586 hg; replace BK586 := qB BK586 hb; have NB594_603 := qn BK594 hg; have NB603_594 := qm BK594 hg; replace BK594 := qB BK594 hb; clear hb hbox hg; have hnb81 := NB603_580.out; have hnc81 := NB580_603.out; have hnb82 := NB603_586.out; have hnc82 := NB586_603.out; have hnb83 := NB603_594.out; have hnc83 := NB594_603.out; obtain ⟨hcz84_0, hcz84_1, hfz84_0, hfz84_1⟩ := qc2 BK603.out; obtain ⟨Ao85, co85, eo85⟩ := Kd.R_slice HO601.out; subst eo85) | ((with_reducible refine gate_callee (f := 51) rfl ?_); refine goesL_ (some 99) rfl rfl Try.func51 qq rfl #[.agg #[.int .i64 t598, .slice Ao85 t599.length co85], .int .i64 t587, .int .i64 t588] rfl qa ?_; (with_reducible refine (dialtonelaw27_greatest.calls kj16 t598 _ _ t599 t587 t588 t604 t605 true _ ?side1 ?side2 A50.out).mono ?_); (case side1 => refine (Kd.R_reads' (e := 72) (base := w.heap.size) (ok := fun k_ => (True ∧ some k_ ≠ (.slice Ao24 t583.length co24 : Value).ownBlock)) (n := t599.length) (c := co85) ?_).2.2; exact (qr (Kd.R_mono (Kd.R_far (p := ⟨gb603, 1, none⟩) (Kd.R_far (p := ⟨gb603, 0, none⟩) (Kd.R_types HO601.out BK603.out (by decide)) (fun _ hk => hk.2) (.int .i64 t598)) (fun _ hk => hk.2) (.slice Ao85 t599.length co85)) (fun _ h_ => h_.1)))); (case side2 => exact (Kd.R_reads' HO601.out).2.1); rintro e w86 ⟨rfl, hb⟩; refine ⟨_, rfl, ?_⟩; replace HO_587001 := Aside0.mk (Kd.R_below (qr (Kd.R_mono (Kd.R_far (p := ⟨gb603, 1, none⟩) (Kd.R_far (p := ⟨gb603, 0, none⟩) (Kd.R_types HO_587001.out BK603.out (by decide)) (fun _ hk => hk.2) (.int .i64 t598)) (fun _ hk => hk.2) (.slice Ao85 t599.length co85)) (fun _ h_ => h_.1))) hb); replace HO601 := Aside0.mk (Kd.R_below (qr (Kd.R_mono (Kd.R_far (p := ⟨gb603, 1, none⟩) (Kd.R_far (p := ⟨gb603, 0, none⟩) (Kd.R_types HO601.out BK603.out (by decide)) (fun _ hk => hk.2) (.int .i64 t598)) (fun _ hk => hk.2) (.slice Ao85 t599.length co85)) (fun _ h_ => h_.1))) hb); replace BK580 := Aside0.mk (blk_below (g := gb580) (o := .cells #[.int .i64 a5_0, .int .i64 a5_1, .int .i64 a5_2] 23 (0, 0)) (by (with_reducible repeat (first | refine blk_drewN ?_ _ | refine blk_drew ?_ | refine blk_alloc ?_ _)); refine blk_far ?_ NB580_603.out _; (with_reducible repeat (first | refine blk_drewN ?_ _ | refine blk_drew ?_ | refine blk_alloc ?_ _)); refine blk_far ?_ NB580_603.out _; (with_reducible repeat (first | refine blk_drewN ?_ _ | refine blk_drew ?_ | refine blk_alloc ?_ _)); exact BK580.out) hb); replace BK586 := Aside0.mk (blk_below (g := gb586) (o := .cells #[.int .i64 t582, .slice Ao24 t583.length co24] 26 (0, 0)) (by (with_reducible repeat (first | refine blk_drewN ?_ _ | refine blk_drew ?_ | refine blk_alloc ?_ _)); refine blk_far ?_ NB586_603.out _; (with_reducible repeat (first | refine blk_drewN ?_ _ | refine blk_drew ?_ | refine blk_alloc ?_ _)); refine blk_far ?_ NB586_603.out _; (with_reducible repeat (first | refine blk_drewN ?_ _ | refine blk_drew ?_ | refine blk_alloc ?_ _)); exact BK586.out) hb); replace BK594 := Aside0.mk (blk_below (g := gb594) (o := .cells #[.int .i64 t590, .int .i64 t591, .int .i64 t592] 53 (0, 0)) (by (with_reducible repeat (first | refine blk_drewN ?_ _ | refine blk_drew ?_ | refine blk_alloc ?_ _)); refine blk_far ?_ NB594_603.out _; (with_reducible repeat (first | refine blk_drewN ?_ _ | refine blk_drew ?_ | refine blk_alloc ?_ _)); refine blk_far ?_ NB594_603.out _; (with_reducible repeat (first | refine blk_drewN ?_ _ | refine blk_drew ?_ | refine blk_alloc ?_ _)); exact BK594.out) hb); replace BK603 := Aside0.mk (blk_below (g := gb603) (o := .cells #[.int .i64 t598, .slice Ao85 t599.length co85] 26 (0, 0)) (by (with_reducible repeat (first | refine blk_drewN ?_ _ | refine blk_drew ?_ | refine blk_alloc ?_ _)); refine blk_put (cs := #[.int .i64 t598, .slice none 0 0]) ?_ 1 _ rfl; (with_reducible repeat (first | refine blk_drewN ?_ _ | refine blk_drew ?_ | refine blk_alloc ?_ _)); refine blk_put (cs := #[.int .i64 0, .slice none 0 0]) ?_ 0 _ rfl; (with_reducible repeat (first | refine blk_drewN ?_ _ | refine blk_drew ?_ | refine blk_alloc ?_ _)); exact BK603.out) hb); replace HB := qS HB hb; (try clear hb); (try clear hb2); (try clear hk); (try clear hi); have hnb87 := NB594_580.out; have hnc87 := NB580_594.out; obtain ⟨hcz88_0, hcz88_1, hcz88_2, hfz88_0, hfz88_1, hfz88_2⟩ := qc3 BK594.out; obtain ⟨hcz89_0, hcz89_1, hfz89_0, hfz89_1⟩ := qc2 BK586.out) | ((with_reducible refine gate_callee (f := 38) rfl ?_); refine goesL_ (some 119) rfl rfl Try.func38 qq rfl #[.agg #[.int .i64 t582, .slice Ao24 t583.length co24], .int .i64 t590] rfl qa ?_; (with_reducible refine (flow_Without.calls t582 _ _ t583 t590 t607 t608 t611 _ ?side1 ?side2 A66.out).mono ?_); (case side1 => exact qC (Kd.R_reads' HO_587001.out).2.2); (case side2 => exact (Kd.R_reads' HO_587001.out).2.1); rintro e w90 ⟨v609, rfl, ho0, hb⟩; refine ⟨_, rfl, ?_⟩; have HO610 := Aside0.mk (Kd.R_lower (Kd.R_new' (Kd.R_new' ho0 (Kd.R_lt (qr HO_587001.out))) (Kd.R_lt (qr HO601.out))) (below_size (qb))); replace HO_587001 := Aside0.mk (Kd.R_elder' (qr HO_587001.out) (Kd.R_base ho0) hb); replace HO601 := Aside0.mk (Kd.R_elder' (qr HO601.out) (Kd.R_base ho0) hb); replace BK580 := qB BK580 hb; replace BK586 := qB BK586 hb; replace BK594 := qB BK594 hb; replace BK603 := qB BK603 hb; replace HB := qS HB hb; (try clear hb); (try clear hb2); (try clear hk); (try clear hi); (try clear ho0)) | ((with_reducible refine gate_dst (N := 28) rfl ?_); (try (refine gate_guard (by rfl) ?_; dsimp only)); refine box_event rfl (N := 28) rfl (cs := #[.int .i64 0, .slice none 0 0]) (t := 26) qh ?_; intro gb612 hg w91 hbox hb; replace HO_587001 := qR HO_587001 hb; replace HO601 := qR HO601 hb; replace HO610 := qR HO610 hb; have BK612 := Aside0.mk (hbox); have GW612 := qg HB hg; have GE612 := qg HB hg; replace HB := qS HB hb; have NB580_612 := qn BK580 hg; have NB612_580 := qm BK580 hg; replace BK580 := qB BK580 hb; have NB586_612 := qn BK586 hg; have NB612_586 := qm BK586 hg; replace BK586 := qB BK586 hb; have NB594_612 := qn BK594 hg; have NB612_594 := qm BK594 hg; replace BK594 := qB BK594 hb; have NB603_612 := qn BK603 hg; have NB612_603 := qm BK603 hg; replace BK603 := qB BK603 hb; clear hb hbox hg; have hnb92 := NB612_580.out; have hnc92 := NB580_612.out; have hnb93 := NB612_586.out; have hnc93 := NB586_612.out; have hnb94 := NB612_594.out; have hnc94 := NB594_612.out; have hnb95 := NB612_603.out; have hnc95 := NB603_612.out; obtain ⟨hcz96_0, hcz96_1, hfz96_0, hfz96_1⟩ := qc2 BK612.out; obtain ⟨Ao97, co97, eo97⟩ := Kd.R_slice HO610.out; subst eo97) | ((with_reducible refine gate_callee (f := 51) rfl ?_); refine goesL_ (some 126) rfl rfl Try.func51 qq rfl #[.agg #[.int .i64 t607, .slice Ao97 t608.length co97], .int .i64 t587, .int .i64 t588] rfl qa ?_; (with_reducible refine (dialtonelaw27_greatest.calls kj16 t607 _ _ t608 t587 t588 t613 t614 true _ ?side1 ?side2 A68.out).mono ?_); (case side1 => refine (Kd.R_reads' (e := 72) (base := w.heap.size) (ok := fun k_ => ((True ∧ some k_ ≠ (.slice Ao24 t583.length co24 : Value).ownBlock) ∧ some k_ ≠ (.slice Ao85 t599.length co85 : Value).ownBlock)) (n := t608.length) (c := co97) ?_).2.2; exact (qr (Kd.R_mono (Kd.R_far (p := ⟨gb612, 1, none⟩) (Kd.R_far (p := ⟨gb612, 0, none⟩) (Kd.R_types HO610.out BK612.out (by decide)) (fun _ hk => hk.2) (.int .i64 t607)) (fun _ hk => hk.2) (.slice Ao97 t608.length co97)) (fun _ h_ => h_.1)))); (case side2 => exact (Kd.R_reads' HO610.out).2.1); rintro e w98 ⟨rfl, hb⟩; refine ⟨_, rfl, ?_⟩; replace HO_587001 := Aside0.mk (Kd.R_below (qr (Kd.R_mono (Kd.R_far (p := ⟨gb612, 1, none⟩) (Kd.R_far (p := ⟨gb612, 0, none⟩) (Kd.R_types HO_587001.out BK612.out (by decide)) (fun _ hk => hk.2) (.int .i64 t607)) (fun _ hk => hk.2) (.slice Ao97 t608.length co97)) (fun _ h_ => h_.1))) hb); replace HO601 := Aside0.mk (Kd.R_below (qr (Kd.R_mono (Kd.R_far (p := ⟨gb612, 1, none⟩) (Kd.R_far (p := ⟨gb612, 0, none⟩) (Kd.R_types HO601.out BK612.out (by decide)) (fun _ hk => hk.2) (.int .i64 t607)) (fun _ hk => hk.2) (.slice Ao97 t608.length co97)) (fun _ h_ => h_.1))) hb); replace HO610 := Aside0.mk (Kd.R_below (qr (Kd.R_mono (Kd.R_far (p := ⟨gb612, 1, none⟩) (Kd.R_far (p := ⟨gb612, 0, none⟩) (Kd.R_types HO610.out BK612.out (by decide)) (fun _ hk => hk.2) (.int .i64 t607)) (fun _ hk => hk.2) (.slice Ao97 t608.length co97)) (fun _ h_ => h_.1))) hb); replace BK580 := Aside0.mk (blk_below (g := gb580) (o := .cells #[.int .i64 a5_0, .int .i64 a5_1, .int .i64 a5_2] 23 (0, 0)) (by (with_reducible repeat (first | refine blk_drewN ?_ _ | refine blk_drew ?_ | refine blk_alloc ?_ _)); refine blk_far ?_ NB580_612.out _; (with_reducible repeat (first | refine blk_drewN ?_ _ | refine blk_drew ?_ | refine blk_alloc ?_ _)); refine blk_far ?_ NB580_612.out _; (with_reducible repeat (first | refine blk_drewN ?_ _ | refine blk_drew ?_ | refine blk_alloc ?_ _)); exact BK580.out) hb); replace BK586 := Aside0.mk (blk_below (g := gb586) (o := .cells #[.int .i64 t582, .slice Ao24 t583.length co24] 26 (0, 0)) (by (with_reducible repeat (first | refine blk_drewN ?_ _ | refine blk_drew ?_ | refine blk_alloc ?_ _)); refine blk_far ?_ NB586_612.out _; (with_reducible repeat (first | refine blk_drewN ?_ _ | refine blk_drew ?_ | refine blk_alloc ?_ _)); refine blk_far ?_ NB586_612.out _; (with_reducible repeat (first | refine blk_drewN ?_ _ | refine blk_drew ?_ | refine blk_alloc ?_ _)); exact BK586.out) hb); replace BK594 := Aside0.mk (blk_below (g := gb594) (o := .cells #[.int .i64 t590, .int .i64 t591, .int .i64 t592] 53 (0, 0)) (by (with_reducible repeat (first | refine blk_drewN ?_ _ | refine blk_drew ?_ | refine blk_alloc ?_ _)); refine blk_far ?_ NB594_612.out _; (with_reducible repeat (first | refine blk_drewN ?_ _ | refine blk_drew ?_ | refine blk_alloc ?_ _)); refine blk_far ?_ NB594_612.out _; (with_reducible repeat (first | refine blk_drewN ?_ _ | refine blk_drew ?_ | refine blk_alloc ?_ _)); exact BK594.out) hb); replace BK603 := Aside0.mk (blk_below (g := gb603) (o := .cells #[.int .i64 t598, .slice Ao85 t599.length co85] 26 (0, 0)) (by (with_reducible repeat (first | refine blk_drewN ?_ _ | refine blk_drew ?_ | refine blk_alloc ?_ _)); refine blk_far ?_ NB603_612.out _; (with_reducible repeat (first | refine blk_drewN ?_ _ | refine blk_drew ?_ | refine blk_alloc ?_ _)); refine blk_far ?_ NB603_612.out _; (with_reducible repeat (first | refine blk_drewN ?_ _ | refine blk_drew ?_ | refine blk_alloc ?_ _)); exact BK603.out) hb); replace BK612 := Aside0.mk (blk_below (g := gb612) (o := .cells #[.int .i64 t607, .slice Ao97 t608.length co97] 26 (0, 0)) (by (with_reducible repeat (first | refine blk_drewN ?_ _ | refine blk_drew ?_ | refine blk_alloc ?_ _)); refine blk_put (cs := #[.int .i64 t607, .slice none 0 0]) ?_ 1 _ rfl; (with_reducible repeat (first | refine blk_drewN ?_ _ | refine blk_drew ?_ | refine blk_alloc ?_ _)); refine blk_put (cs := #[.int .i64 0, .slice none 0 0]) ?_ 0 _ rfl; (with_reducible repeat (first | refine blk_drewN ?_ _ | refine blk_drew ?_ | refine blk_alloc ?_ _)); exact BK612.out) hb); replace HB := qS HB hb; (try clear hb); (try clear hb2); (try clear hk); (try clear hi); obtain ⟨hcz99_0, hcz99_1, hcz99_2, hfz99_0, hfz99_1, hfz99_2⟩ := qc3 BK594.out))
              replace HO_587001 := Aside0.mk (Kd.R_drew HO_587001.out)
              replace HO601 := Aside0.mk (Kd.R_drew HO601.out)
              replace HO610 := Aside0.mk (Kd.R_drew HO610.out)
              replace BK580 := Aside0.mk (blk_drew BK580.out)
              replace BK586 := Aside0.mk (blk_drew BK586.out)
              replace BK594 := Aside0.mk (blk_drew BK594.out)
              replace BK603 := Aside0.mk (blk_drew BK603.out)
              replace BK612 := Aside0.mk (blk_drew BK612.out)
              replace HB := Aside0.mk (below_drew1 HB.out)
              refine start_ (n := 14) (S := fun w' => w'.cell? ⟨gb603, 0, none⟩ = some (.int .i64 t598) ∧ w'.cell? ⟨gb603, 1, none⟩ = some (.slice Ao85 t599.length co85) ∧ w'.cell? ⟨gb586, 0, none⟩ = some (.int .i64 t582) ∧ w'.cell? ⟨gb586, 1, none⟩ = some (.slice Ao24 t583.length co24)) (ds := []) #[false, false, false, false, false, false, false, false, false, false, false, false, false, false] qq rfl rfl ⟨(blk_cell BK603.out 0).trans rfl, (blk_cell BK603.out 1).trans rfl, (blk_cell BK586.out 0).trans rfl, (blk_cell BK586.out 1).trans rfl⟩ (fun hHeld => ?_); refine with_tabW dialtonelaw27_FlowWorst.tab22 dialtonelaw27_FlowWorst.bits22 (fun HT_ HW_ => ?_)
              generalize w98.drew = w100 at HO_587001 HO601 HO610 BK580 BK586 BK594 BK603 BK612 HB hHeld ⊢
              refine pure_ (i := 1) (N := some 144) (v := ?_) (a' := ?_) #[false, true, false, false, false, false, false, false, false, false, false, false, false, false] rfl rfl (any_of HT_.out qq) (fun _ _ _ h => h) (Or.inl ⟨by rfl, ?_⟩) ?_ ?_
              rotate_left
              ·
               intro w'
               go_simp
               with_reducible rfl
              rotate_left
              ·
               simp only [Act.put, List.setIfInBounds_toArray, List.set_cons_zero, List.set_cons_succ, i64_w, i32_w]
               rfl
              refine pure_ (i := 2) (N := some 145) (v := ?_) (a' := ?_) #[false, true, true, false, false, false, false, false, false, false, false, false, false, false] rfl rfl (any_of HT_.out qq) (fun _ _ _ h => h) (Or.inl ⟨by rfl, ?_⟩) ?_ ?_
              rotate_left
              ·
               intro w'
               go_simp
               with_reducible rfl
              rotate_left
              ·
               simp only [Act.put, List.setIfInBounds_toArray, List.set_cons_zero, List.set_cons_succ, i64_w, i32_w]
               rfl
              refine pure_ (i := 3) (N := some 146) (v := ?_) (a' := ?_) #[false, true, true, true, false, false, false, false, false, false, false, false, false, false] rfl rfl (any_of HT_.out qq) (fun _ _ _ h => h) (Or.inl ⟨by rfl, ?_⟩) ?_ ?_
              rotate_left
              ·
               intro w'
               go_simp
               with_reducible rfl
              rotate_left
              ·
               simp only [Act.put, List.setIfInBounds_toArray, List.set_cons_zero, List.set_cons_succ, i64_w, i32_w]
               rfl
              refine pure_ (i := 4) (N := some 147) (v := ?_) (a' := ?_) #[false, true, true, true, true, false, false, false, false, false, false, false, false, false] rfl rfl (any_of HT_.out qq) (fun _ _ _ h => h) (Or.inl ⟨by rfl, ?_⟩) ?_ ?_
              rotate_left
              ·
               intro w'
               go_simp
               with_reducible rfl
              rotate_left
              ·
               simp only [Act.put, List.setIfInBounds_toArray, List.set_cons_zero, List.set_cons_succ, i64_w, i32_w]
               rfl
              refine take_ (i := 0) (N := some 143) (v := ?_) (a' := ?_) #[true, true, true, true, true, false, false, false, false, false, false, false, false, false] rfl rfl (take_ofW HT_.out HW_.out qq) (fun _ _ _ h => h) (Or.inl ⟨by rfl, ?_⟩) hHeld ?_ ?_
              rotate_left
              ·
               rintro w' ⟨s0, s1, s2, s3⟩
               go_simp
               with_reducible rfl
              rotate_left
              ·
               simp only [Act.put, List.setIfInBounds_toArray, List.set_cons_zero, List.set_cons_succ, i64_w, i32_w]
               rfl
              refine take_ (i := 5) (N := some 148) (v := ?_) (a' := ?_) #[true, true, true, true, true, true, false, false, false, false, false, false, false, false] rfl rfl (take_ofW HT_.out HW_.out qq) (fun _ _ _ h => h) (Or.inl ⟨by rfl, ?_⟩) hHeld ?_ ?_
              rotate_left
              ·
               rintro w' ⟨s0, s1, s2, s3⟩
               go_simp
               with_reducible rfl
              rotate_left
              ·
               simp only [Act.put, List.setIfInBounds_toArray, List.set_cons_zero, List.set_cons_succ, i64_w, i32_w]
               rfl
              refine pure_ (i := 6) (N := some 149) (v := ?_) (a' := ?_) #[true, true, true, true, true, true, true, false, false, false, false, false, false, false] rfl rfl (any_of HT_.out qq) (fun _ _ _ h => h) (Or.inl ⟨by rfl, ?_⟩) ?_ ?_
              rotate_left
              ·
               intro w'
               go_simp
               with_reducible rfl
              rotate_left
              ·
               simp only [Act.put, List.setIfInBounds_toArray, List.set_cons_zero, List.set_cons_succ, i64_w, i32_w]
               rfl
              refine one_ (i := 7) (N := some 150) #[true, true, true, true, true, true, true, true, false, false, false, false, false, false] rfl rfl (one_of HT_.out qq) (by decide) (fun K hK => ?_)
              refine goes_ Try.func35 qq rfl #[.int .i64 a6, .int .i64 ji72] (by rfl) rfl rfl (by (try simp only [List.map_toArray, List.map_cons, List.map_nil]); first | done | (simp only [hji72]; rfl) | rfl | (simp only [List.length_drop, List.length_take]; rfl)) ?_
              with_reducible refine (dialtonelaw27_pick.calls a6 ji72 t616 _ A73.out).mono ?_
              rintro e w' ⟨rfl, ⟨nd, rfl⟩⟩
              refine ⟨_, rfl, ?_⟩
              refine hK.out _ _ ⟨(blk_cell BK603.out 0).trans rfl, (blk_cell BK603.out 1).trans rfl, (blk_cell BK586.out 0).trans rfl, (blk_cell BK586.out 1).trans rfl⟩ (fun hHeld => ?_)
              clear hK K
              refine norm_ (a' := ?_) ?_ ?_
              rotate_left
              ·
               show Act.put _ (some 150) _ = _
               simp only [Act.put, List.setIfInBounds_toArray, List.set_cons_zero, List.set_cons_succ, i64_w, i32_w]
               rfl
              refine one_ (i := 8) (N := some 151) #[true, true, true, true, true, true, true, true, true, false, false, false, false, false] rfl rfl (one_of HT_.out qq) (by decide) (fun K hK => ?_)
              refine goes_ Try.func36 qq rfl #[.agg #[.int .i64 t598, .slice Ao85 t599.length co85], .int .i64 t587, .int .i64 t588, .int .i64 t616] (by rfl) rfl rfl qa ?_
              with_reducible refine (flow_CheckCut.calls kj16 t598 _ _ t599 t587 t588 t616 t617 true _ ?side1 ?side2 A74.out).mono ?_
              (case side1 => exact qC (Kd.R_reads' HO601.out).2.2)
              (case side2 => exact (Kd.R_reads' HO601.out).2.1)
              rintro e w101 ⟨rfl, hb⟩
              refine ⟨_, rfl, ?_⟩
              replace HO_587001 := qR HO_587001 hb
              replace HO601 := qR HO601 hb
              replace HO610 := qR HO610 hb
              replace BK580 := qB BK580 hb
              replace BK586 := qB BK586 hb
              replace BK594 := qB BK594 hb
              replace BK603 := qB BK603 hb
              replace BK612 := qB BK612 hb
              replace HB := qS HB hb
              (try clear hb)
              (try clear hb2)
              (try clear hk)
              (try clear hi)
              refine hK.out _ _ ⟨(blk_cell BK603.out 0).trans rfl, (blk_cell BK603.out 1).trans rfl, (blk_cell BK586.out 0).trans rfl, (blk_cell BK586.out 1).trans rfl⟩ (fun hHeld => ?_)
              clear hK K
              refine norm_ (a' := ?_) ?_ ?_
              rotate_left
              ·
               show Act.put _ (some 151) _ = _
               simp only [Act.put, List.setIfInBounds_toArray, List.set_cons_zero, List.set_cons_succ, i64_w, i32_w]
               rfl
              refine pure_ (i := 9) (N := some 142) (v := ?_) (a' := ?_) #[true, true, true, true, true, true, true, true, true, true, false, false, false, false] rfl rfl (any_of HT_.out qq) (fun _ _ _ h => h) (Or.inl ⟨by rfl, ?_⟩) ?_ ?_
              rotate_left
              ·
               intro w'
               go_simp
               with_reducible rfl
              rotate_left
              ·
               simp only [Act.put, List.setIfInBounds_toArray, List.set_cons_zero, List.set_cons_succ, i64_w, i32_w]
               rfl
              refine pure_ (i := 10) (N := some 152) (v := ?_) (a' := ?_) #[true, true, true, true, true, true, true, true, true, true, true, false, false, false] rfl rfl (any_of HT_.out qq) (fun _ _ _ h => h) (Or.inl ⟨by rfl, ?_⟩) ?_ ?_
              rotate_left
              ·
               intro w'
               go_simp
               with_reducible rfl
              rotate_left
              ·
               simp only [Act.put, List.setIfInBounds_toArray, List.set_cons_zero, List.set_cons_succ, i64_w, i32_w]
               rfl
              refine pure_ (i := 11) (N := some 153) (v := ?_) (a' := ?_) #[true, true, true, true, true, true, true, true, true, true, true, true, false, false] rfl rfl (any_of HT_.out qq) (fun _ _ _ h => h) (Or.inl ⟨by rfl, ?_⟩) ?_ ?_
              rotate_left
              ·
               intro w'
               go_simp
               with_reducible rfl
              rotate_left
              ·
               simp only [Act.put, List.setIfInBounds_toArray, List.set_cons_zero, List.set_cons_succ, i64_w, i32_w]
               rfl
              refine pure_ (i := 12) (N := some 33) (v := ?_) (a' := ?_) #[true, true, true, true, true, true, true, true, true, true, true, true, true, false] rfl rfl (any_of HT_.out qq) (fun _ _ _ h => h) (Or.inl ⟨by rfl, ?_⟩) ?_ ?_
              rotate_left
              ·
               intro w'
               go_simp
               with_reducible rfl
              rotate_left
              ·
               simp only [Act.put, List.setIfInBounds_toArray, List.set_cons_zero, List.set_cons_succ, i64_w, i32_w]
               rfl
              refine pure_ (i := 13) (N := some 34) (v := ?_) (a' := ?_) #[true, true, true, true, true, true, true, true, true, true, true, true, true, true] rfl rfl (any_of HT_.out qq) (fun _ _ _ h => h) (Or.inl ⟨by rfl, ?_⟩) ?_ ?_
              rotate_left
              ·
               intro w'
               go_simp
               with_reducible rfl
              rotate_left
              ·
               simp only [Act.put, List.setIfInBounds_toArray, List.set_cons_zero, List.set_cons_succ, i64_w, i32_w]
               rfl
              refine done_ (done_of HT_.out qq) ?_
              obtain ⟨hcz102_0, hcz102_1, hcz102_2, hfz102_0, hfz102_1, hfz102_2⟩ := qc3 BK594.out
              try go_wp2
              go_ret
              exact ⟨by first | rfl | (simp [errW_none, errW_some] <;> rfl) | (simp only [← hji72]; first | rfl | (simp [errW_none, errW_some] <;> rfl)) | (simp [*, errW_none, errW_some] <;> rfl), qb⟩
             ·
              replace c75 := Bool.eq_false_iff.mpr c75
              subst c75
              rw [if_neg (show ¬ (false = true) by decide)] at H
              obtain rfl := Option.some.inj H
              have hnb103 := NB586_580.out
              have hnc103 := NB580_586.out
              have hnb104 := NB586_594.out
              have hnc104 := NB594_586.out
              obtain ⟨hcz105_0, hcz105_1, hfz105_0, hfz105_1⟩ := qc2 BK586.out
              try go_wp2_with (first | ((with_reducible refine gate_callee (f := 38) rfl ?_); refine goesL_ (some 92) rfl rfl Try.func38 qq rfl #[.agg #[.int .i64 t582, .slice Ao24 t583.length co24], .int .i64 x21_16] rfl qa ?_; (with_reducible refine (flow_Without.calls t582 _ _ t583 x21_16 t598 t599 t602 _ ?side1 ?side2 A48.out).mono ?_); (case side1 => exact qC (Kd.R_reads' HO_587001.out).2.2); (case side2 => exact (Kd.R_reads' HO_587001.out).2.1); rintro e w106 ⟨v600, rfl, ho0, hb⟩; refine ⟨_, rfl, ?_⟩; have HO601 := Aside0.mk (Kd.R_lower (Kd.R_new' ho0 (Kd.R_lt (qr HO_587001.out))) (below_size (qb))); replace HO_587001 := Aside0.mk (Kd.R_elder' (qr HO_587001.out) (Kd.R_base ho0) hb); replace BK580 := qB BK580 hb; replace BK586 := qB BK586 hb; replace BK594 := qB BK594 hb; replace HB := qS HB hb; (try clear hb); (try clear hb2); (try clear hk); (try clear hi); (try clear ho0)) | ((with_reducible refine gate_dst (N := 23) rfl ?_); (try (refine gate_guard (by rfl) ?_; dsimp only)); refine box_event rfl (N := 23) rfl (cs := #[.int .i64 0, .slice none 0 0]) (t := 26) qh ?_; intro gb603 hg w107 hbox hb; replace HO_587001 := qR HO_587001 hb; replace HO601 := qR HO601 hb; have BK603 := Aside0.mk (hbox); have GW603 := qg HB hg; have GE603 := qg HB hg; replace HB := qS HB hb; have NB580_603 := qn BK580 hg; have NB603_580 := qm BK580 hg; replace BK580 := qB BK580 hb; have NB586_603 := qn BK586 hg; have NB603_586 := qm BK586 hg; replace BK586 := qB BK586 hb; have NB594_603 := qn BK594 hg; have NB603_594 := qm BK594 hg; replace BK594 := qB BK594 hb; clear hb hbox hg; have hnb108 := NB603_580.out; have hnc108 := NB580_603.out; have hnb109 := NB603_586.out; have hnc109 := NB586_603.out; have hnb110 := NB603_594.out; have hnc110 := NB594_603.out; obtain ⟨hcz111_0, hcz111_1, hfz111_0, hfz111_1⟩ := qc2 BK603.out; obtain ⟨Ao112, co112, eo112⟩ := Kd.R_slice HO601.out; subst eo112) | ((with_reducible refine gate_callee (f := 51) rfl ?_); refine goesL_ (some 99) rfl rfl Try.func51 qq rfl #[.agg #[.int .i64 t598, .slice Ao112 t599.length co112], .int .i64 t587, .int .i64 t588] rfl qa ?_; (with_reducible refine (dialtonelaw27_greatest.calls kj16 t598 _ _ t599 t587 t588 t604 t605 true _ ?side1 ?side2 A50.out).mono ?_); (case side1 => refine (Kd.R_reads' (e := 72) (base := w.heap.size) (ok := fun k_ => (True ∧ some k_ ≠ (.slice Ao24 t583.length co24 : Value).ownBlock)) (n := t599.length) (c := co112) ?_).2.2; exact (qr (Kd.R_mono (Kd.R_far (p := ⟨gb603, 1, none⟩) (Kd.R_far (p := ⟨gb603, 0, none⟩) (Kd.R_types HO601.out BK603.out (by decide)) (fun _ hk => hk.2) (.int .i64 t598)) (fun _ hk => hk.2) (.slice Ao112 t599.length co112)) (fun _ h_ => h_.1)))); (case side2 => exact (Kd.R_reads' HO601.out).2.1); rintro e w113 ⟨rfl, hb⟩; refine ⟨_, rfl, ?_⟩; replace HO_587001 := Aside0.mk (Kd.R_below (qr (Kd.R_mono (Kd.R_far (p := ⟨gb603, 1, none⟩) (Kd.R_far (p := ⟨gb603, 0, none⟩) (Kd.R_types HO_587001.out BK603.out (by decide)) (fun _ hk => hk.2) (.int .i64 t598)) (fun _ hk => hk.2) (.slice Ao112 t599.length co112)) (fun _ h_ => h_.1))) hb); replace HO601 := Aside0.mk (Kd.R_below (qr (Kd.R_mono (Kd.R_far (p := ⟨gb603, 1, none⟩) (Kd.R_far (p := ⟨gb603, 0, none⟩) (Kd.R_types HO601.out BK603.out (by decide)) (fun _ hk => hk.2) (.int .i64 t598)) (fun _ hk => hk.2) (.slice Ao112 t599.length co112)) (fun _ h_ => h_.1))) hb); replace BK580 := Aside0.mk (blk_below (g := gb580) (o := .cells #[.int .i64 a5_0, .int .i64 a5_1, .int .i64 a5_2] 23 (0, 0)) (by (with_reducible repeat (first | refine blk_drewN ?_ _ | refine blk_drew ?_ | refine blk_alloc ?_ _)); refine blk_far ?_ NB580_603.out _; (with_reducible repeat (first | refine blk_drewN ?_ _ | refine blk_drew ?_ | refine blk_alloc ?_ _)); refine blk_far ?_ NB580_603.out _; (with_reducible repeat (first | refine blk_drewN ?_ _ | refine blk_drew ?_ | refine blk_alloc ?_ _)); exact BK580.out) hb); replace BK586 := Aside0.mk (blk_below (g := gb586) (o := .cells #[.int .i64 t582, .slice Ao24 t583.length co24] 26 (0, 0)) (by (with_reducible repeat (first | refine blk_drewN ?_ _ | refine blk_drew ?_ | refine blk_alloc ?_ _)); refine blk_far ?_ NB586_603.out _; (with_reducible repeat (first | refine blk_drewN ?_ _ | refine blk_drew ?_ | refine blk_alloc ?_ _)); refine blk_far ?_ NB586_603.out _; (with_reducible repeat (first | refine blk_drewN ?_ _ | refine blk_drew ?_ | refine blk_alloc ?_ _)); exact BK586.out) hb); replace BK594 := Aside0.mk (blk_below (g := gb594) (o := .cells #[.int .i64 t590, .int .i64 t591, .int .i64 t592] 53 (0, 0)) (by (with_reducible repeat (first | refine blk_drewN ?_ _ | refine blk_drew ?_ | refine blk_alloc ?_ _)); refine blk_far ?_ NB594_603.out _; (with_reducible repeat (first | refine blk_drewN ?_ _ | refine blk_drew ?_ | refine blk_alloc ?_ _)); refine blk_far ?_ NB594_603.out _; (with_reducible repeat (first | refine blk_drewN ?_ _ | refine blk_drew ?_ | refine blk_alloc ?_ _)); exact BK594.out) hb); replace BK603 := Aside0.mk (blk_below (g := gb603) (o := .cells #[.int .i64 t598, .slice Ao112 t599.length co112] 26 (0, 0)) (by (with_reducible repeat (first | refine blk_drewN ?_ _ | refine blk_drew ?_ | refine blk_alloc ?_ _)); refine blk_put (cs := #[.int .i64 t598, .slice none 0 0]) ?_ 1 _ rfl; (with_reducible repeat (first | refine blk_drewN ?_ _ | refine blk_drew ?_ | refine blk_alloc ?_ _)); refine blk_put (cs := #[.int .i64 0, .slice none 0 0]) ?_ 0 _ rfl; (with_reducible repeat (first | refine blk_drewN ?_ _ | refine blk_drew ?_ | refine blk_alloc ?_ _)); exact BK603.out) hb); replace HB := qS HB hb; (try clear hb); (try clear hb2); (try clear hk); (try clear hi); have hnb114 := NB594_580.out; have hnc114 := NB580_594.out; obtain ⟨hcz115_0, hcz115_1, hcz115_2, hfz115_0, hfz115_1, hfz115_2⟩ := qc3 BK594.out; obtain ⟨hcz116_0, hcz116_1, hfz116_0, hfz116_1⟩ := qc2 BK586.out) | ((with_reducible refine gate_callee (f := 38) rfl ?_); refine goesL_ (some 119) rfl rfl Try.func38 qq rfl #[.agg #[.int .i64 t582, .slice Ao24 t583.length co24], .int .i64 t590] rfl qa ?_; (with_reducible refine (flow_Without.calls t582 _ _ t583 t590 t607 t608 t611 _ ?side1 ?side2 A66.out).mono ?_); (case side1 => exact qC (Kd.R_reads' HO_587001.out).2.2); (case side2 => exact (Kd.R_reads' HO_587001.out).2.1); rintro e w117 ⟨v609, rfl, ho0, hb⟩; refine ⟨_, rfl, ?_⟩; have HO610 := Aside0.mk (Kd.R_lower (Kd.R_new' (Kd.R_new' ho0 (Kd.R_lt (qr HO_587001.out))) (Kd.R_lt (qr HO601.out))) (below_size (qb))); replace HO_587001 := Aside0.mk (Kd.R_elder' (qr HO_587001.out) (Kd.R_base ho0) hb); replace HO601 := Aside0.mk (Kd.R_elder' (qr HO601.out) (Kd.R_base ho0) hb); replace BK580 := qB BK580 hb; replace BK586 := qB BK586 hb; replace BK594 := qB BK594 hb; replace BK603 := qB BK603 hb; replace HB := qS HB hb; (try clear hb); (try clear hb2); (try clear hk); (try clear hi); (try clear ho0)) | ((with_reducible refine gate_dst (N := 28) rfl ?_); (try (refine gate_guard (by rfl) ?_; dsimp only)); refine box_event rfl (N := 28) rfl (cs := #[.int .i64 0, .slice none 0 0]) (t := 26) qh ?_; intro gb612 hg w118 hbox hb; replace HO_587001 := qR HO_587001 hb; replace HO601 := qR HO601 hb; replace HO610 := qR HO610 hb; have BK612 := Aside0.mk (hbox); have GW612 := qg HB hg; have GE612 := qg HB hg; replace HB := qS HB hb; have NB580_612 := qn BK580 hg; have NB612_580 := qm BK580 hg; replace BK580 := qB BK580 hb; have NB586_612 := qn BK586 hg; have NB612_586 := qm BK586 hg; replace BK586 := qB BK586 hb; have NB594_612 := qn BK594 hg; have NB612_594 := qm BK594 hg; replace BK594 := qB BK594 hb; have NB603_612 := qn BK603 hg; have NB612_603 := qm BK603 hg; replace BK603 := qB BK603 hb; clear hb hbox hg; have hnb119 := NB612_580.out; have hnc119 := NB580_612.out; have hnb120 := NB612_586.out; have hnc120 := NB586_612.out; have hnb121 := NB612_594.out; have hnc121 := NB594_612.out; have hnb122 := NB612_603.out; have hnc122 := NB603_612.out; obtain ⟨hcz123_0, hcz123_1, hfz123_0, hfz123_1⟩ := qc2 BK612.out; obtain ⟨Ao124, co124, eo124⟩ := Kd.R_slice HO610.out; subst eo124) | ((with_reducible refine gate_callee (f := 51) rfl ?_); refine goesL_ (some 126) rfl rfl Try.func51 qq rfl #[.agg #[.int .i64 t607, .slice Ao124 t608.length co124], .int .i64 t587, .int .i64 t588] rfl qa ?_; (with_reducible refine (dialtonelaw27_greatest.calls kj16 t607 _ _ t608 t587 t588 t613 t614 true _ ?side1 ?side2 A68.out).mono ?_); (case side1 => refine (Kd.R_reads' (e := 72) (base := w.heap.size) (ok := fun k_ => ((True ∧ some k_ ≠ (.slice Ao24 t583.length co24 : Value).ownBlock) ∧ some k_ ≠ (.slice Ao112 t599.length co112 : Value).ownBlock)) (n := t608.length) (c := co124) ?_).2.2; exact (qr (Kd.R_mono (Kd.R_far (p := ⟨gb612, 1, none⟩) (Kd.R_far (p := ⟨gb612, 0, none⟩) (Kd.R_types HO610.out BK612.out (by decide)) (fun _ hk => hk.2) (.int .i64 t607)) (fun _ hk => hk.2) (.slice Ao124 t608.length co124)) (fun _ h_ => h_.1)))); (case side2 => exact (Kd.R_reads' HO610.out).2.1); rintro e w125 ⟨rfl, hb⟩; refine ⟨_, rfl, ?_⟩; replace HO_587001 := Aside0.mk (Kd.R_below (qr (Kd.R_mono (Kd.R_far (p := ⟨gb612, 1, none⟩) (Kd.R_far (p := ⟨gb612, 0, none⟩) (Kd.R_types HO_587001.out BK612.out (by decide)) (fun _ hk => hk.2) (.int .i64 t607)) (fun _ hk => hk.2) (.slice Ao124 t608.length co124)) (fun _ h_ => h_.1))) hb); replace HO601 := Aside0.mk (Kd.R_below (qr (Kd.R_mono (Kd.R_far (p := ⟨gb612, 1, none⟩) (Kd.R_far (p := ⟨gb612, 0, none⟩) (Kd.R_types HO601.out BK612.out (by decide)) (fun _ hk => hk.2) (.int .i64 t607)) (fun _ hk => hk.2) (.slice Ao124 t608.length co124)) (fun _ h_ => h_.1))) hb); replace HO610 := Aside0.mk (Kd.R_below (qr (Kd.R_mono (Kd.R_far (p := ⟨gb612, 1, none⟩) (Kd.R_far (p := ⟨gb612, 0, none⟩) (Kd.R_types HO610.out BK612.out (by decide)) (fun _ hk => hk.2) (.int .i64 t607)) (fun _ hk => hk.2) (.slice Ao124 t608.length co124)) (fun _ h_ => h_.1))) hb); replace BK580 := Aside0.mk (blk_below (g := gb580) (o := .cells #[.int .i64 a5_0, .int .i64 a5_1, .int .i64 a5_2] 23 (0, 0)) (by (with_reducible repeat (first | refine blk_drewN ?_ _ | refine blk_drew ?_ | refine blk_alloc ?_ _)); refine blk_far ?_ NB580_612.out _; (with_reducible repeat (first | refine blk_drewN ?_ _ | refine blk_drew ?_ | refine blk_alloc ?_ _)); refine blk_far ?_ NB580_612.out _; (with_reducible repeat (first | refine blk_drewN ?_ _ | refine blk_drew ?_ | refine blk_alloc ?_ _)); exact BK580.out) hb); replace BK586 := Aside0.mk (blk_below (g := gb586) (o := .cells #[.int .i64 t582, .slice Ao24 t583.length co24] 26 (0, 0)) (by (with_reducible repeat (first | refine blk_drewN ?_ _ | refine blk_drew ?_ | refine blk_alloc ?_ _)); refine blk_far ?_ NB586_612.out _; (with_reducible repeat (first | refine blk_drewN ?_ _ | refine blk_drew ?_ | refine blk_alloc ?_ _)); refine blk_far ?_ NB586_612.out _; (with_reducible repeat (first | refine blk_drewN ?_ _ | refine blk_drew ?_ | refine blk_alloc ?_ _)); exact BK586.out) hb); replace BK594 := Aside0.mk (blk_below (g := gb594) (o := .cells #[.int .i64 t590, .int .i64 t591, .int .i64 t592] 53 (0, 0)) (by (with_reducible repeat (first | refine blk_drewN ?_ _ | refine blk_drew ?_ | refine blk_alloc ?_ _)); refine blk_far ?_ NB594_612.out _; (with_reducible repeat (first | refine blk_drewN ?_ _ | refine blk_drew ?_ | refine blk_alloc ?_ _)); refine blk_far ?_ NB594_612.out _; (with_reducible repeat (first | refine blk_drewN ?_ _ | refine blk_drew ?_ | refine blk_alloc ?_ _)); exact BK594.out) hb); replace BK603 := Aside0.mk (blk_below (g := gb603) (o := .cells #[.int .i64 t598, .slice Ao112 t599.length co112] 26 (0, 0)) (by (with_reducible repeat (first | refine blk_drewN ?_ _ | refine blk_drew ?_ | refine blk_alloc ?_ _)); refine blk_far ?_ NB603_612.out _; (with_reducible repeat (first | refine blk_drewN ?_ _ | refine blk_drew ?_ | refine blk_alloc ?_ _)); refine blk_far ?_ NB603_612.out _; (with_reducible repeat (first | refine blk_drewN ?_ _ | refine blk_drew ?_ | refine blk_alloc ?_ _)); exact BK603.out) hb); replace BK612 := Aside0.mk (blk_below (g := gb612) (o := .cells #[.int .i64 t607, .slice Ao124 t608.length co124] 26 (0, 0)) (by (with_reducible repeat (first | refine blk_drewN ?_ _ | refine blk_drew ?_ | refine blk_alloc ?_ _)); refine blk_put (cs := #[.int .i64 t607, .slice none 0 0]) ?_ 1 _ rfl; (with_reducible repeat (first | refine blk_drewN ?_ _ | refine blk_drew ?_ | refine blk_alloc ?_ _)); refine blk_put (cs := #[.int .i64 0, .slice none 0 0]) ?_ 0 _ rfl; (with_reducible repeat (first | refine blk_drewN ?_ _ | refine blk_drew ?_ | refine blk_alloc ?_ _)); exact BK612.out) hb); replace HB := qS HB hb; (try clear hb); (try clear hb2); (try clear hk); (try clear hi); obtain ⟨hcz126_0, hcz126_1, hcz126_2, hfz126_0, hfz126_1, hfz126_2⟩ := qc3 BK594.out))
              replace HO_587001 := Aside0.mk (Kd.R_drew HO_587001.out)
              replace HO601 := Aside0.mk (Kd.R_drew HO601.out)
              replace HO610 := Aside0.mk (Kd.R_drew HO610.out)
              replace BK580 := Aside0.mk (blk_drew BK580.out)
              replace BK586 := Aside0.mk (blk_drew BK586.out)
              replace BK594 := Aside0.mk (blk_drew BK594.out)
              replace BK603 := Aside0.mk (blk_drew BK603.out)
              replace BK612 := Aside0.mk (blk_drew BK612.out)
              replace HB := Aside0.mk (below_drew1 HB.out)
              refine start_ (n := 14) (S := fun w' => w'.cell? ⟨gb603, 0, none⟩ = some (.int .i64 t598) ∧ w'.cell? ⟨gb603, 1, none⟩ = some (.slice Ao112 t599.length co112) ∧ w'.cell? ⟨gb586, 0, none⟩ = some (.int .i64 t582) ∧ w'.cell? ⟨gb586, 1, none⟩ = some (.slice Ao24 t583.length co24)) (ds := []) #[false, false, false, false, false, false, false, false, false, false, false, false, false, false] qq rfl rfl ⟨(blk_cell BK603.out 0).trans rfl, (blk_cell BK603.out 1).trans rfl, (blk_cell BK586.out 0).trans rfl, (blk_cell BK586.out 1).trans rfl⟩ (fun hHeld => ?_); refine with_tabW dialtonelaw27_FlowWorst.tab22 dialtonelaw27_FlowWorst.bits22 (fun HT_ HW_ => ?_)
              generalize w125.drew = w127 at HO_587001 HO601 HO610 BK580 BK586 BK594 BK603 BK612 HB hHeld ⊢
              refine pure_ (i := 1) (N := some 144) (v := ?_) (a' := ?_) #[false, true, false, false, false, false, false, false, false, false, false, false, false, false] rfl rfl (any_of HT_.out qq) (fun _ _ _ h => h) (Or.inl ⟨by rfl, ?_⟩) ?_ ?_
              rotate_left
              ·
               intro w'
               go_simp
               with_reducible rfl
              rotate_left
              ·
               simp only [Act.put, List.setIfInBounds_toArray, List.set_cons_zero, List.set_cons_succ, i64_w, i32_w]
               rfl
              refine pure_ (i := 2) (N := some 145) (v := ?_) (a' := ?_) #[false, true, true, false, false, false, false, false, false, false, false, false, false, false] rfl rfl (any_of HT_.out qq) (fun _ _ _ h => h) (Or.inl ⟨by rfl, ?_⟩) ?_ ?_
              rotate_left
              ·
               intro w'
               go_simp
               with_reducible rfl
              rotate_left
              ·
               simp only [Act.put, List.setIfInBounds_toArray, List.set_cons_zero, List.set_cons_succ, i64_w, i32_w]
               rfl
              refine pure_ (i := 3) (N := some 146) (v := ?_) (a' := ?_) #[false, true, true, true, false, false, false, false, false, false, false, false, false, false] rfl rfl (any_of HT_.out qq) (fun _ _ _ h => h) (Or.inl ⟨by rfl, ?_⟩) ?_ ?_
              rotate_left
              ·
               intro w'
               go_simp
               with_reducible rfl
              rotate_left
              ·
               simp only [Act.put, List.setIfInBounds_toArray, List.set_cons_zero, List.set_cons_succ, i64_w, i32_w]
               rfl
              refine pure_ (i := 4) (N := some 147) (v := ?_) (a' := ?_) #[false, true, true, true, true, false, false, false, false, false, false, false, false, false] rfl rfl (any_of HT_.out qq) (fun _ _ _ h => h) (Or.inl ⟨by rfl, ?_⟩) ?_ ?_
              rotate_left
              ·
               intro w'
               go_simp
               with_reducible rfl
              rotate_left
              ·
               simp only [Act.put, List.setIfInBounds_toArray, List.set_cons_zero, List.set_cons_succ, i64_w, i32_w]
               rfl
              refine take_ (i := 0) (N := some 143) (v := ?_) (a' := ?_) #[true, true, true, true, true, false, false, false, false, false, false, false, false, false] rfl rfl (take_ofW HT_.out HW_.out qq) (fun _ _ _ h => h) (Or.inl ⟨by rfl, ?_⟩) hHeld ?_ ?_
              rotate_left
              ·
               rintro w' ⟨s0, s1, s2, s3⟩
               go_simp
               with_reducible rfl
              rotate_left
              ·
               simp only [Act.put, List.setIfInBounds_toArray, List.set_cons_zero, List.set_cons_succ, i64_w, i32_w]
               rfl
              refine take_ (i := 5) (N := some 148) (v := ?_) (a' := ?_) #[true, true, true, true, true, true, false, false, false, false, false, false, false, false] rfl rfl (take_ofW HT_.out HW_.out qq) (fun _ _ _ h => h) (Or.inl ⟨by rfl, ?_⟩) hHeld ?_ ?_
              rotate_left
              ·
               rintro w' ⟨s0, s1, s2, s3⟩
               go_simp
               with_reducible rfl
              rotate_left
              ·
               simp only [Act.put, List.setIfInBounds_toArray, List.set_cons_zero, List.set_cons_succ, i64_w, i32_w]
               rfl
              refine pure_ (i := 6) (N := some 149) (v := ?_) (a' := ?_) #[true, true, true, true, true, true, true, false, false, false, false, false, false, false] rfl rfl (any_of HT_.out qq) (fun _ _ _ h => h) (Or.inl ⟨by rfl, ?_⟩) ?_ ?_
              rotate_left
              ·
               intro w'
               go_simp
               with_reducible rfl
              rotate_left
              ·
               simp only [Act.put, List.setIfInBounds_toArray, List.set_cons_zero, List.set_cons_succ, i64_w, i32_w]
               rfl
              refine one_ (i := 7) (N := some 150) #[true, true, true, true, true, true, true, true, false, false, false, false, false, false] rfl rfl (one_of HT_.out qq) (by decide) (fun K hK => ?_)
              refine goes_ Try.func35 qq rfl #[.int .i64 a6, .int .i64 ji72] (by rfl) rfl rfl (by (try simp only [List.map_toArray, List.map_cons, List.map_nil]); first | done | (simp only [hji72]; rfl) | rfl | (simp only [List.length_drop, List.length_take]; rfl)) ?_
              with_reducible refine (dialtonelaw27_pick.calls a6 ji72 t616 _ A73.out).mono ?_
              rintro e w' ⟨rfl, ⟨nd, rfl⟩⟩
              refine ⟨_, rfl, ?_⟩
              refine hK.out _ _ ⟨(blk_cell BK603.out 0).trans rfl, (blk_cell BK603.out 1).trans rfl, (blk_cell BK586.out 0).trans rfl, (blk_cell BK586.out 1).trans rfl⟩ (fun hHeld => ?_)
              clear hK K
              refine norm_ (a' := ?_) ?_ ?_
              rotate_left
              ·
               show Act.put _ (some 150) _ = _
               simp only [Act.put, List.setIfInBounds_toArray, List.set_cons_zero, List.set_cons_succ, i64_w, i32_w]
               rfl
              refine one_ (i := 8) (N := some 151) #[true, true, true, true, true, true, true, true, true, false, false, false, false, false] rfl rfl (one_of HT_.out qq) (by decide) (fun K hK => ?_)
              refine goes_ Try.func36 qq rfl #[.agg #[.int .i64 t598, .slice Ao112 t599.length co112], .int .i64 t587, .int .i64 t588, .int .i64 t616] (by rfl) rfl rfl qa ?_
              with_reducible refine (flow_CheckCut.calls kj16 t598 _ _ t599 t587 t588 t616 t617 false _ ?side1 ?side2 A74.out).mono ?_
              (case side1 => exact qC (Kd.R_reads' HO601.out).2.2)
              (case side2 => exact (Kd.R_reads' HO601.out).2.1)
              rintro e w128 ⟨rfl, hb⟩
              refine ⟨_, rfl, ?_⟩
              replace HO_587001 := qR HO_587001 hb
              replace HO601 := qR HO601 hb
              replace HO610 := qR HO610 hb
              replace BK580 := qB BK580 hb
              replace BK586 := qB BK586 hb
              replace BK594 := qB BK594 hb
              replace BK603 := qB BK603 hb
              replace BK612 := qB BK612 hb
              replace HB := qS HB hb
              (try clear hb)
              (try clear hb2)
              (try clear hk)
              (try clear hi)
              refine hK.out _ _ ⟨(blk_cell BK603.out 0).trans rfl, (blk_cell BK603.out 1).trans rfl, (blk_cell BK586.out 0).trans rfl, (blk_cell BK586.out 1).trans rfl⟩ (fun hHeld => ?_)
              clear hK K
              refine norm_ (a' := ?_) ?_ ?_
              rotate_left
              ·
               show Act.put _ (some 151) _ = _
               simp only [Act.put, List.setIfInBounds_toArray, List.set_cons_zero, List.set_cons_succ, i64_w, i32_w]
               rfl
              refine pure_ (i := 9) (N := some 142) (v := ?_) (a' := ?_) #[true, true, true, true, true, true, true, true, true, true, false, false, false, false] rfl rfl (any_of HT_.out qq) (fun _ _ _ h => h) (Or.inl ⟨by rfl, ?_⟩) ?_ ?_
              rotate_left
              ·
               intro w'
               go_simp
               with_reducible rfl
              rotate_left
              ·
               simp only [Act.put, List.setIfInBounds_toArray, List.set_cons_zero, List.set_cons_succ, i64_w, i32_w]
               rfl
              refine pure_ (i := 10) (N := some 152) (v := ?_) (a' := ?_) #[true, true, true, true, true, true, true, true, true, true, true, false, false, false] rfl rfl (any_of HT_.out qq) (fun _ _ _ h => h) (Or.inl ⟨by rfl, ?_⟩) ?_ ?_
              rotate_left
              ·
               intro w'
               go_simp
               with_reducible rfl
              rotate_left
              ·
               simp only [Act.put, List.setIfInBounds_toArray, List.set_cons_zero, List.set_cons_succ, i64_w, i32_w]
               rfl
              refine pure_ (i := 11) (N := some 153) (v := ?_) (a' := ?_) #[true, true, true, true, true, true, true, true, true, true, true, true, false, false] rfl rfl (any_of HT_.out qq) (fun _ _ _ h => h) (Or.inl ⟨by rfl, ?_⟩) ?_ ?_
              rotate_left
              ·
               intro w'
               go_simp
               with_reducible rfl
              rotate_left
              ·
               simp only [Act.put, List.setIfInBounds_toArray, List.set_cons_zero, List.set_cons_succ, i64_w, i32_w]
               rfl
              refine pure_ (i := 12) (N := some 33) (v := ?_) (a' := ?_) #[true, true, true, true, true, true, true, true, true, true, true, true, true, false] rfl rfl (any_of HT_.out qq) (fun _ _ _ h => h) (Or.inl ⟨by rfl, ?_⟩) ?_ ?_
              rotate_left
              ·
               intro w'
               go_simp
               with_reducible rfl
              rotate_left
              ·
               simp only [Act.put, List.setIfInBounds_toArray, List.set_cons_zero, List.set_cons_succ, i64_w, i32_w]
               rfl
              refine pure_ (i := 13) (N := some 34) (v := ?_) (a' := ?_) #[true, true, true, true, true, true, true, true, true, true, true, true, true, true] rfl rfl (any_of HT_.out qq) (fun _ _ _ h => h) (Or.inl ⟨by rfl, ?_⟩) ?_ ?_
              rotate_left
              ·
               intro w'
               go_simp
               with_reducible rfl
              rotate_left
              ·
               simp only [Act.put, List.setIfInBounds_toArray, List.set_cons_zero, List.set_cons_succ, i64_w, i32_w]
               rfl
              refine done_ (done_of HT_.out qq) ?_
              try go_wp2
              go_ret
              exact ⟨by first | rfl | (simp [errW_none, errW_some] <;> rfl) | (simp only [← hji72]; first | rfl | (simp [errW_none, errW_some] <;> rfl)) | (simp [*, errW_none, errW_some] <;> rfl), qb⟩
            ·
             rw [if_neg c71] at H
             exact absurd H (by simp)
           ·
            rw [if_neg c70] at H
            obtain ⟨c70b0, c70b1⟩ := qf c70
            obtain rfl := Option.some.inj H
            have hnb129 := NB586_580.out
            have hnc129 := NB580_586.out
            have hnb130 := NB586_594.out
            have hnc130 := NB594_586.out
            obtain ⟨hcz131_0, hcz131_1, hfz131_0, hfz131_1⟩ := qc2 BK586.out
            go_wp2_with (first | ((with_reducible refine gate_callee (f := 38) rfl ?_); refine goesL_ (some 92) rfl rfl Try.func38 qq rfl #[.agg #[.int .i64 t582, .slice Ao24 t583.length co24], .int .i64 x21_16] rfl qa ?_; (with_reducible refine (flow_Without.calls t582 _ _ t583 x21_16 t598 t599 t602 _ ?side1 ?side2 A48.out).mono ?_); (case side1 => exact qC (Kd.R_reads' HO_587001.out).2.2); (case side2 => exact (Kd.R_reads' HO_587001.out).2.1); rintro e w132 ⟨v600, rfl, ho0, hb⟩; refine ⟨_, rfl, ?_⟩; have HO601 := Aside0.mk (Kd.R_lower (Kd.R_new' ho0 (Kd.R_lt (qr HO_587001.out))) (below_size (qb))); replace HO_587001 := Aside0.mk (Kd.R_elder' (qr HO_587001.out) (Kd.R_base ho0) hb); replace BK580 := qB BK580 hb; replace BK586 := qB BK586 hb; replace BK594 := qB BK594 hb; replace HB := qS HB hb; (try clear hb); (try clear hb2); (try clear hk); (try clear hi); (try clear ho0)) | ((with_reducible refine gate_dst (N := 23) rfl ?_); (try (refine gate_guard (by rfl) ?_; dsimp only)); refine box_event rfl (N := 23) rfl (cs := #[.int .i64 0, .slice none 0 0]) (t := 26) qh ?_; intro gb603 hg w133 hbox hb; replace HO_587001 := qR HO_587001 hb; replace HO601 := qR HO601 hb; have BK603 := Aside0.mk (hbox); have GW603 := qg HB hg; have GE603 := qg HB hg; replace HB := qS HB hb; have NB580_603 := qn BK580 hg; have NB603_580 := qm BK580 hg; replace BK580 := qB BK580 hb; have NB586_603 := qn BK586 hg; have NB603_586 := qm BK586 hg; replace BK586 := qB BK586 hb; have NB594_603 := qn BK594 hg; have NB603_594 := qm BK594 hg; replace BK594 := qB BK594 hb; clear hb hbox hg; have hnb134 := NB603_580.out; have hnc134 := NB580_603.out; have hnb135 := NB603_586.out; have hnc135 := NB586_603.out; have hnb136 := NB603_594.out; have hnc136 := NB594_603.out; obtain ⟨hcz137_0, hcz137_1, hfz137_0, hfz137_1⟩ := qc2 BK603.out; obtain ⟨Ao138, co138, eo138⟩ := Kd.R_slice HO601.out; subst eo138) | ((with_reducible refine gate_callee (f := 51) rfl ?_); refine goesL_ (some 99) rfl rfl Try.func51 qq rfl #[.agg #[.int .i64 t598, .slice Ao138 t599.length co138], .int .i64 t587, .int .i64 t588] rfl qa ?_; (with_reducible refine (dialtonelaw27_greatest.calls kj16 t598 _ _ t599 t587 t588 t604 t605 true _ ?side1 ?side2 A50.out).mono ?_); (case side1 => refine (Kd.R_reads' (e := 72) (base := w.heap.size) (ok := fun k_ => (True ∧ some k_ ≠ (.slice Ao24 t583.length co24 : Value).ownBlock)) (n := t599.length) (c := co138) ?_).2.2; exact (qr (Kd.R_mono (Kd.R_far (p := ⟨gb603, 1, none⟩) (Kd.R_far (p := ⟨gb603, 0, none⟩) (Kd.R_types HO601.out BK603.out (by decide)) (fun _ hk => hk.2) (.int .i64 t598)) (fun _ hk => hk.2) (.slice Ao138 t599.length co138)) (fun _ h_ => h_.1)))); (case side2 => exact (Kd.R_reads' HO601.out).2.1); rintro e w139 ⟨rfl, hb⟩; refine ⟨_, rfl, ?_⟩; replace HO_587001 := Aside0.mk (Kd.R_below (qr (Kd.R_mono (Kd.R_far (p := ⟨gb603, 1, none⟩) (Kd.R_far (p := ⟨gb603, 0, none⟩) (Kd.R_types HO_587001.out BK603.out (by decide)) (fun _ hk => hk.2) (.int .i64 t598)) (fun _ hk => hk.2) (.slice Ao138 t599.length co138)) (fun _ h_ => h_.1))) hb); replace HO601 := Aside0.mk (Kd.R_below (qr (Kd.R_mono (Kd.R_far (p := ⟨gb603, 1, none⟩) (Kd.R_far (p := ⟨gb603, 0, none⟩) (Kd.R_types HO601.out BK603.out (by decide)) (fun _ hk => hk.2) (.int .i64 t598)) (fun _ hk => hk.2) (.slice Ao138 t599.length co138)) (fun _ h_ => h_.1))) hb); replace BK580 := Aside0.mk (blk_below (g := gb580) (o := .cells #[.int .i64 a5_0, .int .i64 a5_1, .int .i64 a5_2] 23 (0, 0)) (by (with_reducible repeat (first | refine blk_drewN ?_ _ | refine blk_drew ?_ | refine blk_alloc ?_ _)); refine blk_far ?_ NB580_603.out _; (with_reducible repeat (first | refine blk_drewN ?_ _ | refine blk_drew ?_ | refine blk_alloc ?_ _)); refine blk_far ?_ NB580_603.out _; (with_reducible repeat (first | refine blk_drewN ?_ _ | refine blk_drew ?_ | refine blk_alloc ?_ _)); exact BK580.out) hb); replace BK586 := Aside0.mk (blk_below (g := gb586) (o := .cells #[.int .i64 t582, .slice Ao24 t583.length co24] 26 (0, 0)) (by (with_reducible repeat (first | refine blk_drewN ?_ _ | refine blk_drew ?_ | refine blk_alloc ?_ _)); refine blk_far ?_ NB586_603.out _; (with_reducible repeat (first | refine blk_drewN ?_ _ | refine blk_drew ?_ | refine blk_alloc ?_ _)); refine blk_far ?_ NB586_603.out _; (with_reducible repeat (first | refine blk_drewN ?_ _ | refine blk_drew ?_ | refine blk_alloc ?_ _)); exact BK586.out) hb); replace BK594 := Aside0.mk (blk_below (g := gb594) (o := .cells #[.int .i64 t590, .int .i64 t591, .int .i64 t592] 53 (0, 0)) (by (with_reducible repeat (first | refine blk_drewN ?_ _ | refine blk_drew ?_ | refine blk_alloc ?_ _)); refine blk_far ?_ NB594_603.out _; (with_reducible repeat (first | refine blk_drewN ?_ _ | refine blk_drew ?_ | refine blk_alloc ?_ _)); refine blk_far ?_ NB594_603.out _; (with_reducible repeat (first | refine blk_drewN ?_ _ | refine blk_drew ?_ | refine blk_alloc ?_ _)); exact BK594.out) hb); replace BK603 := Aside0.mk (blk_below (g := gb603) (o := .cells #[.int .i64 t598, .slice Ao138 t599.length co138] 26 (0, 0)) (by (with_reducible repeat (first | refine blk_drewN ?_ _ | refine blk_drew ?_ | refine blk_alloc ?_ _)); refine blk_put (cs := #[.int .i64 t598, .slice none 0 0]) ?_ 1 _ rfl; (with_reducible repeat (first | refine blk_drewN ?_ _ | refine blk_drew ?_ | refine blk_alloc ?_ _)); refine blk_put (cs := #[.int .i64 0, .slice none 0 0]) ?_ 0 _ rfl; (with_reducible repeat (first | refine blk_drewN ?_ _ | refine blk_drew ?_ | refine blk_alloc ?_ _)); exact BK603.out) hb); replace HB := qS HB hb; (try clear hb); (try clear hb2); (try clear hk); (try clear hi); have hnb140 := NB594_580.out; have hnc140 := NB580_594.out; obtain ⟨hcz141_0, hcz141_1, hcz141_2, hfz141_0, hfz141_1, hfz141_2⟩ := qc3 BK594.out; obtain ⟨hcz142_0, hcz142_1, hfz142_0, hfz142_1⟩ := qc2 BK586.out) | ((with_reducible refine gate_callee (f := 38) rfl ?_); refine goesL_ (some 119) rfl rfl Try.func38 qq rfl #[.agg #[.int .i64 t582, .slice Ao24 t583.length co24], .int .i64 t590] rfl qa ?_; (with_reducible refine (flow_Without.calls t582 _ _ t583 t590 t607 t608 t611 _ ?side1 ?side2 A66.out).mono ?_); (case side1 => exact qC (Kd.R_reads' HO_587001.out).2.2); (case side2 => exact (Kd.R_reads' HO_587001.out).2.1); rintro e w143 ⟨v609, rfl, ho0, hb⟩; refine ⟨_, rfl, ?_⟩; have HO610 := Aside0.mk (Kd.R_lower (Kd.R_new' (Kd.R_new' ho0 (Kd.R_lt (qr HO_587001.out))) (Kd.R_lt (qr HO601.out))) (below_size (qb))); replace HO_587001 := Aside0.mk (Kd.R_elder' (qr HO_587001.out) (Kd.R_base ho0) hb); replace HO601 := Aside0.mk (Kd.R_elder' (qr HO601.out) (Kd.R_base ho0) hb); replace BK580 := qB BK580 hb; replace BK586 := qB BK586 hb; replace BK594 := qB BK594 hb; replace BK603 := qB BK603 hb; replace HB := qS HB hb; (try clear hb); (try clear hb2); (try clear hk); (try clear hi); (try clear ho0)) | ((with_reducible refine gate_dst (N := 28) rfl ?_); (try (refine gate_guard (by rfl) ?_; dsimp only)); refine box_event rfl (N := 28) rfl (cs := #[.int .i64 0, .slice none 0 0]) (t := 26) qh ?_; intro gb612 hg w144 hbox hb; replace HO_587001 := qR HO_587001 hb; replace HO601 := qR HO601 hb; replace HO610 := qR HO610 hb; have BK612 := Aside0.mk (hbox); have GW612 := qg HB hg; have GE612 := qg HB hg; replace HB := qS HB hb; have NB580_612 := qn BK580 hg; have NB612_580 := qm BK580 hg; replace BK580 := qB BK580 hb; have NB586_612 := qn BK586 hg; have NB612_586 := qm BK586 hg; replace BK586 := qB BK586 hb; have NB594_612 := qn BK594 hg; have NB612_594 := qm BK594 hg; replace BK594 := qB BK594 hb; have NB603_612 := qn BK603 hg; have NB612_603 := qm BK603 hg; replace BK603 := qB BK603 hb; clear hb hbox hg; have hnb145 := NB612_580.out; have hnc145 := NB580_612.out; have hnb146 := NB612_586.out; have hnc146 := NB586_612.out; have hnb147 := NB612_594.out; have hnc147 := NB594_612.out; have hnb148 := NB612_603.out; have hnc148 := NB603_612.out; obtain ⟨hcz149_0, hcz149_1, hfz149_0, hfz149_1⟩ := qc2 BK612.out; obtain ⟨Ao150, co150, eo150⟩ := Kd.R_slice HO610.out; subst eo150) | ((with_reducible refine gate_callee (f := 51) rfl ?_); refine goesL_ (some 126) rfl rfl Try.func51 qq rfl #[.agg #[.int .i64 t607, .slice Ao150 t608.length co150], .int .i64 t587, .int .i64 t588] rfl qa ?_; (with_reducible refine (dialtonelaw27_greatest.calls kj16 t607 _ _ t608 t587 t588 t613 t614 true _ ?side1 ?side2 A68.out).mono ?_); (case side1 => refine (Kd.R_reads' (e := 72) (base := w.heap.size) (ok := fun k_ => ((True ∧ some k_ ≠ (.slice Ao24 t583.length co24 : Value).ownBlock) ∧ some k_ ≠ (.slice Ao138 t599.length co138 : Value).ownBlock)) (n := t608.length) (c := co150) ?_).2.2; exact (qr (Kd.R_mono (Kd.R_far (p := ⟨gb612, 1, none⟩) (Kd.R_far (p := ⟨gb612, 0, none⟩) (Kd.R_types HO610.out BK612.out (by decide)) (fun _ hk => hk.2) (.int .i64 t607)) (fun _ hk => hk.2) (.slice Ao150 t608.length co150)) (fun _ h_ => h_.1)))); (case side2 => exact (Kd.R_reads' HO610.out).2.1); rintro e w151 ⟨rfl, hb⟩; refine ⟨_, rfl, ?_⟩; replace HO_587001 := Aside0.mk (Kd.R_below (qr (Kd.R_mono (Kd.R_far (p := ⟨gb612, 1, none⟩) (Kd.R_far (p := ⟨gb612, 0, none⟩) (Kd.R_types HO_587001.out BK612.out (by decide)) (fun _ hk => hk.2) (.int .i64 t607)) (fun _ hk => hk.2) (.slice Ao150 t608.length co150)) (fun _ h_ => h_.1))) hb); replace HO601 := Aside0.mk (Kd.R_below (qr (Kd.R_mono (Kd.R_far (p := ⟨gb612, 1, none⟩) (Kd.R_far (p := ⟨gb612, 0, none⟩) (Kd.R_types HO601.out BK612.out (by decide)) (fun _ hk => hk.2) (.int .i64 t607)) (fun _ hk => hk.2) (.slice Ao150 t608.length co150)) (fun _ h_ => h_.1))) hb); replace HO610 := Aside0.mk (Kd.R_below (qr (Kd.R_mono (Kd.R_far (p := ⟨gb612, 1, none⟩) (Kd.R_far (p := ⟨gb612, 0, none⟩) (Kd.R_types HO610.out BK612.out (by decide)) (fun _ hk => hk.2) (.int .i64 t607)) (fun _ hk => hk.2) (.slice Ao150 t608.length co150)) (fun _ h_ => h_.1))) hb); replace BK580 := Aside0.mk (blk_below (g := gb580) (o := .cells #[.int .i64 a5_0, .int .i64 a5_1, .int .i64 a5_2] 23 (0, 0)) (by (with_reducible repeat (first | refine blk_drewN ?_ _ | refine blk_drew ?_ | refine blk_alloc ?_ _)); refine blk_far ?_ NB580_612.out _; (with_reducible repeat (first | refine blk_drewN ?_ _ | refine blk_drew ?_ | refine blk_alloc ?_ _)); refine blk_far ?_ NB580_612.out _; (with_reducible repeat (first | refine blk_drewN ?_ _ | refine blk_drew ?_ | refine blk_alloc ?_ _)); exact BK580.out) hb); replace BK586 := Aside0.mk (blk_below (g := gb586) (o := .cells #[.int .i64 t582, .slice Ao24 t583.length co24] 26 (0, 0)) (by (with_reducible repeat (first | refine blk_drewN ?_ _ | refine blk_drew ?_ | refine blk_alloc ?_ _)); refine blk_far ?_ NB586_612.out _; (with_reducible repeat (first | refine blk_drewN ?_ _ | refine blk_drew ?_ | refine blk_alloc ?_ _)); refine blk_far ?_ NB586_612.out _; (with_reducible repeat (first | refine blk_drewN ?_ _ | refine blk_drew ?_ | refine blk_alloc ?_ _)); exact BK586.out) hb); replace BK594 := Aside0.mk (blk_below (g := gb594) (o := .cells #[.int .i64 t590, .int .i64 t591, .int .i64 t592] 53 (0, 0)) (by (with_reducible repeat (first | refine blk_drewN ?_ _ | refine blk_drew ?_ | refine blk_alloc ?_ _)); refine blk_far ?_ NB594_612.out _; (with_reducible repeat (first | refine blk_drewN ?_ _ | refine blk_drew ?_ | refine blk_alloc ?_ _)); refine blk_far ?_ NB594_612.out _; (with_reducible repeat (first | refine blk_drewN ?_ _ | refine blk_drew ?_ | refine blk_alloc ?_ _)); exact BK594.out) hb); replace BK603 := Aside0.mk (blk_below (g := gb603) (o := .cells #[.int .i64 t598, .slice Ao138 t599.length co138] 26 (0, 0)) (by (with_reducible repeat (first | refine blk_drewN ?_ _ | refine blk_drew ?_ | refine blk_alloc ?_ _)); refine blk_far ?_ NB603_612.out _; (with_reducible repeat (first | refine blk_drewN ?_ _ | refine blk_drew ?_ | refine blk_alloc ?_ _)); refine blk_far ?_ NB603_612.out _; (with_reducible repeat (first | refine blk_drewN ?_ _ | refine blk_drew ?_ | refine blk_alloc ?_ _)); exact BK603.out) hb); replace BK612 := Aside0.mk (blk_below (g := gb612) (o := .cells #[.int .i64 t607, .slice Ao150 t608.length co150] 26 (0, 0)) (by (with_reducible repeat (first | refine blk_drewN ?_ _ | refine blk_drew ?_ | refine blk_alloc ?_ _)); refine blk_put (cs := #[.int .i64 t607, .slice none 0 0]) ?_ 1 _ rfl; (with_reducible repeat (first | refine blk_drewN ?_ _ | refine blk_drew ?_ | refine blk_alloc ?_ _)); refine blk_put (cs := #[.int .i64 0, .slice none 0 0]) ?_ 0 _ rfl; (with_reducible repeat (first | refine blk_drewN ?_ _ | refine blk_drew ?_ | refine blk_alloc ?_ _)); exact BK612.out) hb); replace HB := qS HB hb; (try clear hb); (try clear hb2); (try clear hk); (try clear hi); obtain ⟨hcz152_0, hcz152_1, hcz152_2, hfz152_0, hfz152_1, hfz152_2⟩ := qc3 BK594.out))
            go_ret
            exact ⟨qe, qb⟩
          ·
           replace c69 := Bool.eq_false_iff.mpr c69
           subst c69
           rw [if_neg (show ¬ (false = true) by decide)] at H
           exact absurd H (by simp)
         ·
          rw [if_neg c67] at H
          exact absurd H (by simp)
       ·
        replace c51 := Bool.eq_false_iff.mpr c51
        subst c51
        rw [if_neg (show ¬ (false = true) by decide)] at H
        exact absurd H (by simp)
      ·
       rw [if_neg c49] at H
       exact absurd H (by simp)
   ·
    replace c16 := Bool.eq_false_iff.mpr c16
    subst c16
    rw [if_neg (show ¬ (false = true) by decide)] at H
    exact absurd H (by simp)
  ·
   rw [if_neg c14] at H
   exact absurd H (by simp)
 ·
  replace c9 := Bool.eq_false_iff.mpr c9
  subst c9
  rw [if_neg (show ¬ (false = true) by decide)] at H
  exact absurd H (by simp)

end Go.Proofs.Ytkkakdpncogpkaa.D
end
