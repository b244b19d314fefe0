/- Parts of the proof of a law about flows (see the law's own text): Fdialtoneref27BentList, Fdialtonelaw27FlowCuts. Conditions: each theorem's own. -/
import Derived.Test.YtkkakdpncogpkaaBase5
import Derived.Test.YtkkakdpncogpkaaBase4
import Derived.Test.YtkkakdpncogpkaaBase6
import Derived.Test.YtkkakdpncogpkaaBase27
import Derived.Test.YtkkakdpncogpkaaBase28
import Derived.Test.YtkkakdpncogpkaaBase16
import Derived.Test.YtkkakdpncogpkaaBase21
section
namespace Go.Proofs.Ytkkakdpncogpkaa.D
open Go.RowKit Go.Proofs.YtkkakdpncogpkaaW.PrintWords Go.Proofs.YtkkakdpncogpkaaW.PrintLast Go.Proofs.YtkkakdpncogpkaaW.PrintMore
attribute [local go_sem] max2_int min2_int max_two min_two max_three min_three max_four min_four   -- for this text's walks alone
set_option linter.unusedVariables false
set_option linter.unusedSimpArgs false

/-! ### dialtoneref27_BentList: function 33 -/
def dialtoneref27_BentList.f (l0 : List Int) (a1 : Int) (a2 : Int) (a3 : Int) : Option (List Int) := (some (([] : List Int) : List Int)).bind fun y338 => (if y338.length + l0.length < 17592186044416 then ((some (y338 ++ l0 : List Int)).bind fun y341 => (if (y341.length : Int) = 0 then (some (([a2] : List Int))) else ((dialtoneref27_pick.f a3 (y341.length : Int)).bind fun t347 => ((dialtoneref27_pick.f a1 4).bind fun t348 => (if t348 = 0 then (if 0 ≤ t347 then (if t347 < (y341.length : Int) then (some (y341.set (t347 : Int).toNat a2)) else (none)) else (none)) else (if t348 = 1 then (if 0 ≤ t347 then (if t347 < (y341.length : Int) then (some (y341.set (t347 : Int).toNat (wrap64 ((rd y341 t347) + 1)))) else (none)) else (none)) else (if t348 = 2 then (if 0 ≤ t347 then (if t347 < (y341.length : Int) then (some (y341.set (t347 : Int).toNat (wrap64 ((rd y341 t347) - 1)))) else (none)) else (none)) else (if y341.length < 17592186044416 then (some (y341 ++ [a2])) else (none))))))))) else (none))
set_option maxHeartbeats 8000000 in
set_option maxRecDepth 100000 in
theorem dialtoneref27_BentList.calls (A0 : Option Addr) (c0 : Nat) (l0 : List Int) (a1 : Int) (a2 : Int) (a3 : Int) (r : List Int) (w : World) (hr0 : Kd.C (Kd.int .i64) w A0 l0.length l0) (hc0 : l0.length ≤ c0) (h : dialtoneref27_BentList.f l0 a1 a2 a3 = some r) :
  Calls Try.prog 33 #[.slice A0 l0.length c0, .int .i64 a1, .int .i64 a2, .int .i64 a3] w fun e w' => ∃ v0_ : Value, e = .returned (v0_) ∧ Kd.R (Kd.int .i64) 3 w' w.heap.size (fun _ => True) v0_ r ∧ Below w.heap.size w w' := by
 have HR0 := Aside0.mk hr0
 have HC0 := Aside0.mk hc0
 clear hr0 hc0
 have HB := Aside0.mk (Below.refl w.heap.size w)
 have H : ((some (([] : List Int) : List Int)).bind fun y338 => (if y338.length + l0.length < 17592186044416 then ((some (y338 ++ l0 : List Int)).bind fun y341 => (if (y341.length : Int) = 0 then (some (([a2] : List Int))) else ((dialtoneref27_pick.f a3 (y341.length : Int)).bind fun t347 => ((dialtoneref27_pick.f a1 4).bind fun t348 => (if t348 = 0 then (if 0 ≤ t347 then (if t347 < (y341.length : Int) then (some (y341.set (t347 : Int).toNat a2)) else (none)) else (none)) else (if t348 = 1 then (if 0 ≤ t347 then (if t347 < (y341.length : Int) then (some (y341.set (t347 : Int).toNat (wrap64 ((rd y341 t347) + 1)))) else (none)) else (none)) else (if t348 = 2 then (if 0 ≤ t347 then (if t347 < (y341.length : Int) then (some (y341.set (t347 : Int).toNat (wrap64 ((rd y341 t347) - 1)))) else (none)) else (none)) else (if y341.length < 17592186044416 then (some (y341 ++ [a2])) else (none))))))))) else (none))) = some r := h
 clear h
 obtain ⟨y338, hy338⟩ : ∃ y_ : List Int, y_ = (([] : List Int)) := ⟨_, rfl⟩
 replace H : (if y338.length + l0.length < 17592186044416 then ((some (y338 ++ l0 : List Int)).bind fun y341 => (if (y341.length : Int) = 0 then (some (([a2] : List Int))) else ((dialtoneref27_pick.f a3 (y341.length : Int)).bind fun t347 => ((dialtoneref27_pick.f a1 4).bind fun t348 => (if t348 = 0 then (if 0 ≤ t347 then (if t347 < (y341.length : Int) then (some (y341.set (t347 : Int).toNat a2)) else (none)) else (none)) else (if t348 = 1 then (if 0 ≤ t347 then (if t347 < (y341.length : Int) then (some (y341.set (t347 : Int).toNat (wrap64 ((rd y341 t347) + 1)))) else (none)) else (none)) else (if t348 = 2 then (if 0 ≤ t347 then (if t347 < (y341.length : Int) then (some (y341.set (t347 : Int).toNat (wrap64 ((rd y341 t347) - 1)))) else (none)) else (none)) else (if y341.length < 17592186044416 then (some (y341 ++ [a2])) else (none))))))))) else (none)) = some r := by first | (rw [hy338]; with_reducible exact H) | (have H2_ := (Option.bind_some _ _).symm.trans H; rw [hy338]; with_reducible exact H2_) | (have H2_ := (Option.bind_some _ _).symm.trans H; with_reducible exact H2_) | with_reducible exact H | (rw [hy338]; exact H) | exact H
 have Ny338 := Aside0.mk hy338
 clear hy338
 by_cases c5 : y338.length + l0.length < 17592186044416
 ·
  rw [if_pos c5] at H
  have LMc5 := Aside0.mk c5
  clear c5
  obtain ⟨y341, hy341⟩ : ∃ y_ : List Int, y_ = (y338 ++ l0) := ⟨_, rfl⟩
  replace H : (if (y341.length : Int) = 0 then (some (([a2] : List Int))) else ((dialtoneref27_pick.f a3 (y341.length : Int)).bind fun t347 => ((dialtoneref27_pick.f a1 4).bind fun t348 => (if t348 = 0 then (if 0 ≤ t347 then (if t347 < (y341.length : Int) then (some (y341.set (t347 : Int).toNat a2)) else (none)) else (none)) else (if t348 = 1 then (if 0 ≤ t347 then (if t347 < (y341.length : Int) then (some (y341.set (t347 : Int).toNat (wrap64 ((rd y341 t347) + 1)))) else (none)) else (none)) else (if t348 = 2 then (if 0 ≤ t347 then (if t347 < (y341.length : Int) then (some (y341.set (t347 : Int).toNat (wrap64 ((rd y341 t347) - 1)))) else (none)) else (none)) else (if y341.length < 17592186044416 then (some (y341 ++ [a2])) else (none)))))))) = some r := by first | (rw [hy341]; with_reducible exact H) | (have H2_ := (Option.bind_some _ _).symm.trans H; rw [hy341]; with_reducible exact H2_) | (have H2_ := (Option.bind_some _ _).symm.trans H; with_reducible exact H2_) | with_reducible exact H | (rw [hy341]; exact H) | exact H
  have Ny341 := Aside0.mk hy341
  clear hy341
  by_cases c6 : (y341.length : Int) = 0
  ·
   rw [if_pos c6] at H
   obtain ⟨c6b0, c6b1⟩ := qt c6
   clear c6
   obtain ⟨y344, hy344⟩ : ∃ y_ : List Int, y_ = (([a2] : List Int)) := ⟨_, rfl⟩
   replace H : (some y344) = some r := by first | (rw [hy344]; with_reducible exact H) | (have H2_ := (Option.bind_some _ _).symm.trans H; rw [hy344]; with_reducible exact H2_) | (have H2_ := (Option.bind_some _ _).symm.trans H; with_reducible exact H2_) | with_reducible exact H | (rw [hy344]; exact H) | exact H
   have Ny344 := Aside0.mk hy344
   clear hy344
   obtain rfl := Option.some.inj H
   go_enter Try.func33, Try.ntmps33
   go_wp2_with (first | ((with_reducible refine gate_dst (N := 11) rfl ?_); refine Kd.R_lit (Kd.int .i64) _ 3 ?hg (N := 11) ?hd (xs := ([] : List Int)) (inner := []) (ok := fun _ => True) (okp := fun _ => True) ?hr ?hp (fun _ hk => hk) trivial (Below.refl _ _) (Nat.le_refl _) (by simp) ?_; (case hd => rfl); (case hg => rfl); (case hr => first | (go_simp; done) | (go_simp; rfl)); (case hp => exact (Reps.none _ _)); intro v339 w7 ho8 hb hg_ hnew_; clear hg_ hnew_; (first | rw [← Ny338.out] at ho8 | (simp only [Int.reduceToNat] at ho8; rw [← Ny338.out] at ho8)); have HO340 := Aside0.mk (Kd.R_lower ho8 (below_size (qb))); replace HB := qS HB hb; clear hb ho8) | ((with_reducible refine gate_builtin (b := .append) (xs := #[.tmp 11, .tmp 12]) rfl ?_); at_builtin; refine Kd.R_append_rows (Kd.int .i64) (w0 := w) w.heap.size rfl (.tmp 11) (.tmp 12) 27 3 (.int .i64 0) 8 rfl Try.underlying27 info3 rfl (by decide) (by omega) v339 y338 l0 _ _ _ (fun _ => True) (fun _ => False) rfl rfl ?aO ?aR (fun _ _ h => h) (fun _ h => h.elim) ?aF ?aB ?aS ?aL ?_; (case aR => exact qC (Kd.C_below HR0.out HB.out)); (case aB => exact (qb)); (case aF => exact (fun _ _ => trivial)); (case aO => exact (qr HO340.out)); (case aS => exact (below_size (qb))); (case aL => have := LMc5.out; omega); intro v342 w9 ho hb hg hat; rw [← Ny341.out] at ho; have n0_ := Aside0.mk (hb); have n1_ := Aside0.mk (ho); clear HB; clear HO340; have HB := n0_; have HO343 := n1_; clear n0_ n1_; clear ho hb hg hat; obtain ⟨Ao10, co10, eo10⟩ := Kd.R_slice HO343.out; subst eo10) | ((with_reducible refine gate_dst (N := 18) rfl ?_); refine Kd.R_lit (Kd.int .i64) _ 3 ?hg (N := 18) ?hd (xs := ([a2] : List Int)) (inner := [.int .i64 a2]) (ok := fun _ => True) (okp := fun _ => True) ?hr ?hp (fun _ hk => hk) trivial (Below.refl _ _) (Nat.le_refl _) (by simp) ?_; (case hd => rfl); (case hg => rfl); (case hr => first | (go_simp; done) | (go_simp; rfl)); (case hp => exact (Reps.one (show Kd.M (Kd.int .i64) _ _ _ a2 [.int .i64 a2] from rfl) (Reps.none _ _))); intro v345 w11 ho12 hb hg_ hnew_; clear hg_ hnew_; (first | rw [← Ny344.out] at ho12 | (simp only [Int.reduceToNat] at ho12; rw [← Ny344.out] at ho12)); have HO346 := Aside0.mk (Kd.R_lower (Kd.R_new' ho12 (Kd.R_lt (qr HO343.out))) (below_size (qb))); replace HO343 := Aside0.mk (Kd.R_elder' (qr HO343.out) (Kd.R_base ho12) hb); replace HB := qS HB hb; clear hb ho12))
   go_ret
   exact ⟨_, qe, by (with_reducible repeat (first | apply Kd.R_alloc | apply Kd.R_drewN | apply Kd.R_drew)); exact Kd.R_mono HO346.out (fun _ hk => trivial), qb⟩
  ·
   rw [if_neg c6] at H
   obtain ⟨c6b0, c6b1⟩ := qf c6
   have c6b2 : ¬ (y341 = []) := fun h_ => c6 (by rw [h_]; rfl)
   replace H := Option.bind_eq_some_iff.mp H
   obtain ⟨t347, A130, H⟩ := H
   (try dsimp only at H)
   have A13 := Aside0.mk A130
   clear A130
   replace H := Option.bind_eq_some_iff.mp H
   obtain ⟨t348, A140, H⟩ := H
   (try dsimp only at H)
   have A14 := Aside0.mk A140
   clear A140
   by_cases c15 : t348 = 0
   ·
    rw [if_pos c15] at H
    obtain ⟨c15b0, c15b1⟩ := qt c15
    clear c15
    by_cases c16 : 0 ≤ t347
    ·
     rw [if_pos c16] at H
     have c16b0 : decide (0 ≤ t347) = true := decide_eq_true c16
     clear c16
     by_cases c17 : t347 < (y341.length : Int)
     ·
      rw [if_pos c17] at H
      have c17b0 : decide (t347 < (y341.length : Int)) = true := decide_eq_true c17
      clear c17
      obtain ⟨y349, hy349⟩ : ∃ y_ : List Int, y_ = (y341.set (t347 : Int).toNat a2) := ⟨_, rfl⟩
      replace H : (some y349) = some r := by first | (rw [hy349]; with_reducible exact H) | (have H2_ := (Option.bind_some _ _).symm.trans H; rw [hy349]; with_reducible exact H2_) | (have H2_ := (Option.bind_some _ _).symm.trans H; with_reducible exact H2_) | with_reducible exact H | (rw [hy349]; exact H) | exact H
      have Ny349 := Aside0.mk hy349
      clear hy349
      obtain rfl := Option.some.inj H
      go_enter Try.func33, Try.ntmps33
      go_wp2_with (first | ((with_reducible refine gate_dst (N := 11) rfl ?_); refine Kd.R_lit (Kd.int .i64) _ 3 ?hg (N := 11) ?hd (xs := ([] : List Int)) (inner := []) (ok := fun _ => True) (okp := fun _ => True) ?hr ?hp (fun _ hk => hk) trivial (Below.refl _ _) (Nat.le_refl _) (by simp) ?_; (case hd => rfl); (case hg => rfl); (case hr => first | (go_simp; done) | (go_simp; rfl)); (case hp => exact (Reps.none _ _)); intro v339 w19 ho20 hb hg_ hnew_; clear hg_ hnew_; (first | rw [← Ny338.out] at ho20 | (simp only [Int.reduceToNat] at ho20; rw [← Ny338.out] at ho20)); have HO340 := Aside0.mk (Kd.R_lower ho20 (below_size (qb))); replace HB := qS HB hb; clear hb ho20) | ((with_reducible refine gate_builtin (b := .append) (xs := #[.tmp 11, .tmp 12]) rfl ?_); at_builtin; refine Kd.R_append_rows (Kd.int .i64) (w0 := w) w.heap.size rfl (.tmp 11) (.tmp 12) 27 3 (.int .i64 0) 8 rfl Try.underlying27 info3 rfl (by decide) (by omega) v339 y338 l0 _ _ _ (fun _ => True) (fun _ => False) rfl rfl ?aO ?aR (fun _ _ h => h) (fun _ h => h.elim) ?aF ?aB ?aS ?aL ?_; (case aR => exact qC (Kd.C_below HR0.out HB.out)); (case aB => exact (qb)); (case aF => exact (fun _ _ => trivial)); (case aO => exact (qr HO340.out)); (case aS => exact (below_size (qb))); (case aL => have := LMc5.out; omega); intro v342 w21 ho hb hg hat; rw [← Ny341.out] at ho; have n0_ := Aside0.mk (hb); have n1_ := Aside0.mk (ho); clear HB; clear HO340; have HB := n0_; have HO343 := n1_; clear n0_ n1_; clear ho hb hg hat; obtain ⟨Ao22, co22, eo22⟩ := Kd.R_slice HO343.out; subst eo22) | ((with_reducible refine gate_callee (f := 68) rfl ?_); refine goesL_ (some 22) rfl rfl Try.func68 qq rfl #[.int .i64 a3, .int .i64 (y341.length : Int)] rfl qa ?_; (with_reducible refine (dialtoneref27_pick.calls a3 (y341.length : Int) t347 _ A13.out).mono ?_); rintro e w' ⟨rfl, ⟨nd, rfl⟩⟩; refine ⟨_, rfl, ?_⟩; (try (rw [drewN_self w21]; generalize hq_ : World.drewN w21 _ = w21; have n0_ : Aside0 (Kd.R (Kd.int .i64) 3 w21 w.heap.size (fun _ => True) (.slice Ao22 y341.length co22) y341) := ⟨by rw [← hq_]; exact (qr HO343.out)⟩; have n1_ : Aside0 (Below w.heap.size w w21) := ⟨by rw [← hq_]; exact (qb)⟩; clear HO343 HB hq_; have HO343 := n0_; have HB := n1_; clear n0_ n1_))) | ((with_reducible refine gate_callee (f := 68) rfl ?_); refine goesL_ (some 24) rfl rfl Try.func68 qq rfl #[.int .i64 a1, .int .i64 4] rfl qa ?_; (with_reducible refine (dialtoneref27_pick.calls a1 4 t348 _ A14.out).mono ?_); rintro e w' ⟨rfl, ⟨nd, rfl⟩⟩; refine ⟨_, rfl, ?_⟩; (try (rw [drewN_self w21]; generalize hq_ : World.drewN w21 _ = w21; have n0_ : Aside0 (Kd.R (Kd.int .i64) 3 w21 w.heap.size (fun _ => True) (.slice Ao22 y341.length co22) y341) := ⟨by rw [← hq_]; exact (qr HO343.out)⟩; have n1_ : Aside0 (Below w.heap.size w w21) := ⟨by rw [← hq_]; exact (qb)⟩; clear HO343 HB hq_; have HO343 := n0_; have HB := n1_; clear n0_ n1_)); have p18 : 0 ≤ (t347 : Int) := of_decide_eq_true (by first | (with_reducible assumption) | assumption); have q18 : (t347 : Int) < ((y341.length : Int) : Int) := of_decide_eq_true (by first | (with_reducible assumption) | assumption); obtain ⟨go18, co18, eo18, gb18, gl18, cl18, HG18⟩ := Kd.R_form HO343.out (by omega); (first | cases eo18 | (injection eo18 with ea_ en_ ec_; (first | subst ea_ | (injection ea_ with ea_; subst ea_)); subst ec_; clear en_)); have GB18 := Aside0.mk gb18; have GG18 := Aside0.mk HG18; clear gb18 gl18 HG18; obtain ⟨hx18_0, hf18_0⟩ := Kd.R_celln 0 HO343.out (t347 : Int) p18 q18; replace p18 := eq_true p18; replace q18 := eq_true q18; obtain ⟨hy23_, hz23_⟩ := Kd.R_celln 0 HO343.out (t347 : Int) (of_decide_eq_true (by first | (with_reducible assumption) | assumption)) (of_decide_eq_true (by first | (with_reducible assumption) | assumption)); have HP23 := Kd.R_putg HO343.out (t347 : Int) a2) | ((with_reducible refine gate_store (t := 3) (p := 34) rfl ?_); refine store_event (t := 3) (p := 34) (v := ?vo_w24) (w1 := (w21.setCell ⟨go18, (t347 : Int).toNat, none⟩ (.int .i64 a2))) ?hg ?ho ?hn ?hr ?_; (case ho => rfl); (case hg => rfl); (case hn => rfl); (case hr => first | (go_simp; done) | (go_simp; rfl)); intro w24 hw; have hg : w21.grownBy w24 (some go18) := (by rw [hw]; exact HP23.2); have hp_ : Kd.R (Kd.int .i64) 3 w24 w.heap.size (fun _ => True) (.slice (some ⟨go18, 0, none⟩) y341.length co22) y349 := (by rw [hw, Ny349.out]; exact HP23.1); clear HP23; replace HO343 := Aside0.mk (hp_); replace HB := Aside0.mk ((by rw [hw]; exact below_set (HB.out) GB18.out : Below w.heap.size w w24)); clear hg hw hp_))
      go_ret
      exact ⟨_, qe, by (with_reducible repeat (first | apply Kd.R_alloc | apply Kd.R_drewN | apply Kd.R_drew)); exact HO343.out, qb⟩
     ·
      rw [if_neg c17] at H
      exact absurd H (by simp)
    ·
     rw [if_neg c16] at H
     exact absurd H (by simp)
   ·
    rw [if_neg c15] at H
    obtain ⟨c15b0, c15b1⟩ := qf c15
    by_cases c25 : t348 = 1
    ·
     rw [if_pos c25] at H
     obtain ⟨c25b0, c25b1⟩ := qt c25
     clear c25
     by_cases c26 : 0 ≤ t347
     ·
      rw [if_pos c26] at H
      have c26b0 : decide (0 ≤ t347) = true := decide_eq_true c26
      clear c26
      by_cases c27 : t347 < (y341.length : Int)
      ·
       rw [if_pos c27] at H
       have c27b0 : decide (t347 < (y341.length : Int)) = true := decide_eq_true c27
       clear c27
       obtain ⟨y351, hy351⟩ : ∃ y_ : List Int, y_ = (y341.set (t347 : Int).toNat (wrap64 ((rd y341 t347) + 1))) := ⟨_, rfl⟩
       replace H : (some y351) = some r := by first | (rw [hy351]; with_reducible exact H) | (have H2_ := (Option.bind_some _ _).symm.trans H; rw [hy351]; with_reducible exact H2_) | (have H2_ := (Option.bind_some _ _).symm.trans H; with_reducible exact H2_) | with_reducible exact H | (rw [hy351]; exact H) | exact H
       have Ny351 := Aside0.mk hy351
       clear hy351
       obtain rfl := Option.some.inj H
       go_enter Try.func33, Try.ntmps33
       go_wp2_with (first | ((with_reducible refine gate_dst (N := 11) rfl ?_); refine Kd.R_lit (Kd.int .i64) _ 3 ?hg (N := 11) ?hd (xs := ([] : List Int)) (inner := []) (ok := fun _ => True) (okp := fun _ => True) ?hr ?hp (fun _ hk => hk) trivial (Below.refl _ _) (Nat.le_refl _) (by simp) ?_; (case hd => rfl); (case hg => rfl); (case hr => first | (go_simp; done) | (go_simp; rfl)); (case hp => exact (Reps.none _ _)); intro v339 w29 ho30 hb hg_ hnew_; clear hg_ hnew_; (first | rw [← Ny338.out] at ho30 | (simp only [Int.reduceToNat] at ho30; rw [← Ny338.out] at ho30)); have HO340 := Aside0.mk (Kd.R_lower ho30 (below_size (qb))); replace HB := qS HB hb; clear hb ho30) | ((with_reducible refine gate_builtin (b := .append) (xs := #[.tmp 11, .tmp 12]) rfl ?_); at_builtin; refine Kd.R_append_rows (Kd.int .i64) (w0 := w) w.heap.size rfl (.tmp 11) (.tmp 12) 27 3 (.int .i64 0) 8 rfl Try.underlying27 info3 rfl (by decide) (by omega) v339 y338 l0 _ _ _ (fun _ => True) (fun _ => False) rfl rfl ?aO ?aR (fun _ _ h => h) (fun _ h => h.elim) ?aF ?aB ?aS ?aL ?_; (case aR => exact qC (Kd.C_below HR0.out HB.out)); (case aB => exact (qb)); (case aF => exact (fun _ _ => trivial)); (case aO => exact (qr HO340.out)); (case aS => exact (below_size (qb))); (case aL => have := LMc5.out; omega); intro v342 w31 ho hb hg hat; rw [← Ny341.out] at ho; have n0_ := Aside0.mk (hb); have n1_ := Aside0.mk (ho); clear HB; clear HO340; have HB := n0_; have HO343 := n1_; clear n0_ n1_; clear ho hb hg hat; obtain ⟨Ao32, co32, eo32⟩ := Kd.R_slice HO343.out; subst eo32) | ((with_reducible refine gate_callee (f := 68) rfl ?_); refine goesL_ (some 22) rfl rfl Try.func68 qq rfl #[.int .i64 a3, .int .i64 (y341.length : Int)] rfl qa ?_; (with_reducible refine (dialtoneref27_pick.calls a3 (y341.length : Int) t347 _ A13.out).mono ?_); rintro e w' ⟨rfl, ⟨nd, rfl⟩⟩; refine ⟨_, rfl, ?_⟩; (try (rw [drewN_self w31]; generalize hq_ : World.drewN w31 _ = w31; have n0_ : Aside0 (Kd.R (Kd.int .i64) 3 w31 w.heap.size (fun _ => True) (.slice Ao32 y341.length co32) y341) := ⟨by rw [← hq_]; exact (qr HO343.out)⟩; have n1_ : Aside0 (Below w.heap.size w w31) := ⟨by rw [← hq_]; exact (qb)⟩; clear HO343 HB hq_; have HO343 := n0_; have HB := n1_; clear n0_ n1_))) | ((with_reducible refine gate_callee (f := 68) rfl ?_); refine goesL_ (some 24) rfl rfl Try.func68 qq rfl #[.int .i64 a1, .int .i64 4] rfl qa ?_; (with_reducible refine (dialtoneref27_pick.calls a1 4 t348 _ A14.out).mono ?_); rintro e w' ⟨rfl, ⟨nd, rfl⟩⟩; refine ⟨_, rfl, ?_⟩; (try (rw [drewN_self w31]; generalize hq_ : World.drewN w31 _ = w31; have n0_ : Aside0 (Kd.R (Kd.int .i64) 3 w31 w.heap.size (fun _ => True) (.slice Ao32 y341.length co32) y341) := ⟨by rw [← hq_]; exact (qr HO343.out)⟩; have n1_ : Aside0 (Below w.heap.size w w31) := ⟨by rw [← hq_]; exact (qb)⟩; clear HO343 HB hq_; have HO343 := n0_; have HB := n1_; clear n0_ n1_)); have p350 : 0 ≤ (t347 : Int) := of_decide_eq_true (by first | (with_reducible assumption) | assumption); have q350 : t347 < (y341.length : Int) := of_decide_eq_true (by first | (with_reducible assumption) | assumption); obtain ⟨ad350, e350, hx350_0⟩ := Kd.at_int (Kd.R_reads' HO343.out).2.2 t347 p350 q350; cases e350; replace p350 := eq_true p350; replace q350 := eq_true q350; have p28 : 0 ≤ (t347 : Int) := of_decide_eq_true (by first | (with_reducible assumption) | assumption); have q28 : (t347 : Int) < ((y341.length : Int) : Int) := of_decide_eq_true (by first | (with_reducible assumption) | assumption); obtain ⟨go28, co28, eo28, gb28, gl28, cl28, HG28⟩ := Kd.R_form HO343.out (by omega); (first | cases eo28 | (injection eo28 with ea_ en_ ec_; (first | subst ea_ | (injection ea_ with ea_; subst ea_)); subst ec_; clear en_)); have GB28 := Aside0.mk gb28; have GG28 := Aside0.mk HG28; clear gb28 gl28 HG28; (first | simp only [add_plain] at hx350_0 | skip); obtain ⟨hx28_0, hf28_0⟩ := Kd.R_celln 0 HO343.out (t347 : Int) p28 q28; replace p28 := eq_true p28; replace q28 := eq_true q28; obtain ⟨hy33_, hz33_⟩ := Kd.R_celln 0 HO343.out (t347 : Int) (of_decide_eq_true (by first | (with_reducible assumption) | assumption)) (of_decide_eq_true (by first | (with_reducible assumption) | assumption)); have HP33 := Kd.R_putg HO343.out (t347 : Int) (wrap64 ((rd y341 t347) + 1))) | ((with_reducible refine gate_store (t := 3) (p := 44) rfl ?_); refine store_event (t := 3) (p := 44) (v := ?vo_w34) (w1 := (w31.setCell ⟨go28, (t347 : Int).toNat, none⟩ (.int .i64 (wrap64 ((rd y341 t347) + 1))))) ?hg ?ho ?hn ?hr ?_; (case ho => rfl); (case hg => rfl); (case hn => rfl); (case hr => first | (go_simp; done) | (go_simp; rfl)); intro w34 hw; have hg : w31.grownBy w34 (some go28) := (by rw [hw]; exact HP33.2); have hp_ : Kd.R (Kd.int .i64) 3 w34 w.heap.size (fun _ => True) (.slice (some ⟨go28, 0, none⟩) y341.length co32) y351 := (by rw [hw, Ny351.out]; exact HP33.1); clear HP33; replace HO343 := Aside0.mk (hp_); replace HB := Aside0.mk ((by rw [hw]; exact below_set (HB.out) GB28.out : Below w.heap.size w w34)); clear hg hw hp_))
       go_ret
       exact ⟨_, qe, by (with_reducible repeat (first | apply Kd.R_alloc | apply Kd.R_drewN | apply Kd.R_drew)); exact HO343.out, qb⟩
      ·
       rw [if_neg c27] at H
       exact absurd H (by simp)
     ·
      rw [if_neg c26] at H
      exact absurd H (by simp)
    ·
     rw [if_neg c25] at H
     obtain ⟨c25b0, c25b1⟩ := qf c25
     by_cases c35 : t348 = 2
     ·
      rw [if_pos c35] at H
      obtain ⟨c35b0, c35b1⟩ := qt c35
      clear c35
      by_cases c36 : 0 ≤ t347
      ·
       rw [if_pos c36] at H
       have c36b0 : decide (0 ≤ t347) = true := decide_eq_true c36
       clear c36
       by_cases c37 : t347 < (y341.length : Int)
       ·
        rw [if_pos c37] at H
        have c37b0 : decide (t347 < (y341.length : Int)) = true := decide_eq_true c37
        clear c37
        obtain ⟨y353, hy353⟩ : ∃ y_ : List Int, y_ = (y341.set (t347 : Int).toNat (wrap64 ((rd y341 t347) - 1))) := ⟨_, rfl⟩
        replace H : (some y353) = some r := by first | (rw [hy353]; with_reducible exact H) | (have H2_ := (Option.bind_some _ _).symm.trans H; rw [hy353]; with_reducible exact H2_) | (have H2_ := (Option.bind_some _ _).symm.trans H; with_reducible exact H2_) | with_reducible exact H | (rw [hy353]; exact H) | exact H
        have Ny353 := Aside0.mk hy353
        clear hy353
        obtain rfl := Option.some.inj H
        go_enter Try.func33, Try.ntmps33
        go_wp2_with (first | ((with_reducible refine gate_dst (N := 11) rfl ?_); refine Kd.R_lit (Kd.int .i64) _ 3 ?hg (N := 11) ?hd (xs := ([] : List Int)) (inner := []) (ok := fun _ => True) (okp := fun _ => True) ?hr ?hp (fun _ hk => hk) trivial (Below.refl _ _) (Nat.le_refl _) (by simp) ?_; (case hd => rfl); (case hg => rfl); (case hr => first | (go_simp; done) | (go_simp; rfl)); (case hp => exact (Reps.none _ _)); intro v339 w39 ho40 hb hg_ hnew_; clear hg_ hnew_; (first | rw [← Ny338.out] at ho40 | (simp only [Int.reduceToNat] at ho40; rw [← Ny338.out] at ho40)); have HO340 := Aside0.mk (Kd.R_lower ho40 (below_size (qb))); replace HB := qS HB hb; clear hb ho40) | ((with_reducible refine gate_builtin (b := .append) (xs := #[.tmp 11, .tmp 12]) rfl ?_); at_builtin; refine Kd.R_append_rows (Kd.int .i64) (w0 := w) w.heap.size rfl (.tmp 11) (.tmp 12) 27 3 (.int .i64 0) 8 rfl Try.underlying27 info3 rfl (by decide) (by omega) v339 y338 l0 _ _ _ (fun _ => True) (fun _ => False) rfl rfl ?aO ?aR (fun _ _ h => h) (fun _ h => h.elim) ?aF ?aB ?aS ?aL ?_; (case aR => exact qC (Kd.C_below HR0.out HB.out)); (case aB => exact (qb)); (case aF => exact (fun _ _ => trivial)); (case aO => exact (qr HO340.out)); (case aS => exact (below_size (qb))); (case aL => have := LMc5.out; omega); intro v342 w41 ho hb hg hat; rw [← Ny341.out] at ho; have n0_ := Aside0.mk (hb); have n1_ := Aside0.mk (ho); clear HB; clear HO340; have HB := n0_; have HO343 := n1_; clear n0_ n1_; clear ho hb hg hat; obtain ⟨Ao42, co42, eo42⟩ := Kd.R_slice HO343.out; subst eo42) | ((with_reducible refine gate_callee (f := 68) rfl ?_); refine goesL_ (some 22) rfl rfl Try.func68 qq rfl #[.int .i64 a3, .int .i64 (y341.length : Int)] rfl qa ?_; (with_reducible refine (dialtoneref27_pick.calls a3 (y341.length : Int) t347 _ A13.out).mono ?_); rintro e w' ⟨rfl, ⟨nd, rfl⟩⟩; refine ⟨_, rfl, ?_⟩; (try (rw [drewN_self w41]; generalize hq_ : World.drewN w41 _ = w41; have n0_ : Aside0 (Kd.R (Kd.int .i64) 3 w41 w.heap.size (fun _ => True) (.slice Ao42 y341.length co42) y341) := ⟨by rw [← hq_]; exact (qr HO343.out)⟩; have n1_ : Aside0 (Below w.heap.size w w41) := ⟨by rw [← hq_]; exact (qb)⟩; clear HO343 HB hq_; have HO343 := n0_; have HB := n1_; clear n0_ n1_))) | ((with_reducible refine gate_callee (f := 68) rfl ?_); refine goesL_ (some 24) rfl rfl Try.func68 qq rfl #[.int .i64 a1, .int .i64 4] rfl qa ?_; (with_reducible refine (dialtoneref27_pick.calls a1 4 t348 _ A14.out).mono ?_); rintro e w' ⟨rfl, ⟨nd, rfl⟩⟩; refine ⟨_, rfl, ?_⟩; (try (rw [drewN_self w41]; generalize hq_ : World.drewN w41 _ = w41; have n0_ : Aside0 (Kd.R (Kd.int .i64) 3 w41 w.heap.size (fun _ => True) (.slice Ao42 y341.length co42) y341) := ⟨by rw [← hq_]; exact (qr HO343.out)⟩; have n1_ : Aside0 (Below w.heap.size w w41) := ⟨by rw [← hq_]; exact (qb)⟩; clear HO343 HB hq_; have HO343 := n0_; have HB := n1_; clear n0_ n1_)); have p352 : 0 ≤ (t347 : Int) := of_decide_eq_true (by first | (with_reducible assumption) | assumption); have q352 : t347 < (y341.length : Int) := of_decide_eq_true (by first | (with_reducible assumption) | assumption); obtain ⟨ad352, e352, hx352_0⟩ := Kd.at_int (Kd.R_reads' HO343.out).2.2 t347 p352 q352; cases e352; replace p352 := eq_true p352; replace q352 := eq_true q352; have p38 : 0 ≤ (t347 : Int) := of_decide_eq_true (by first | (with_reducible assumption) | assumption); have q38 : (t347 : Int) < ((y341.length : Int) : Int) := of_decide_eq_true (by first | (with_reducible assumption) | assumption); obtain ⟨go38, co38, eo38, gb38, gl38, cl38, HG38⟩ := Kd.R_form HO343.out (by omega); (first | cases eo38 | (injection eo38 with ea_ en_ ec_; (first | subst ea_ | (injection ea_ with ea_; subst ea_)); subst ec_; clear en_)); have GB38 := Aside0.mk gb38; have GG38 := Aside0.mk HG38; clear gb38 gl38 HG38; (first | simp only [add_plain] at hx352_0 | skip); obtain ⟨hx38_0, hf38_0⟩ := Kd.R_celln 0 HO343.out (t347 : Int) p38 q38; replace p38 := eq_true p38; replace q38 := eq_true q38; obtain ⟨hy43_, hz43_⟩ := Kd.R_celln 0 HO343.out (t347 : Int) (of_decide_eq_true (by first | (with_reducible assumption) | assumption)) (of_decide_eq_true (by first | (with_reducible assumption) | assumption)); have HP43 := Kd.R_putg HO343.out (t347 : Int) (wrap64 ((rd y341 t347) - 1))) | ((with_reducible refine gate_store (t := 3) (p := 54) rfl ?_); refine store_event (t := 3) (p := 54) (v := ?vo_w44) (w1 := (w41.setCell ⟨go38, (t347 : Int).toNat, none⟩ (.int .i64 (wrap64 ((rd y341 t347) - 1))))) ?hg ?ho ?hn ?hr ?_; (case ho => rfl); (case hg => rfl); (case hn => rfl); (case hr => first | (go_simp; done) | (go_simp; rfl)); intro w44 hw; have hg : w41.grownBy w44 (some go38) := (by rw [hw]; exact HP43.2); have hp_ : Kd.R (Kd.int .i64) 3 w44 w.heap.size (fun _ => True) (.slice (some ⟨go38, 0, none⟩) y341.length co42) y353 := (by rw [hw, Ny353.out]; exact HP43.1); clear HP43; replace HO343 := Aside0.mk (hp_); replace HB := Aside0.mk ((by rw [hw]; exact below_set (HB.out) GB38.out : Below w.heap.size w w44)); clear hg hw hp_))
        go_ret
        exact ⟨_, qe, by (with_reducible repeat (first | apply Kd.R_alloc | apply Kd.R_drewN | apply Kd.R_drew)); exact HO343.out, qb⟩
       ·
        rw [if_neg c37] at H
        exact absurd H (by simp)
      ·
       rw [if_neg c36] at H
       exact absurd H (by simp)
     ·
      rw [if_neg c35] at H
      obtain ⟨c35b0, c35b1⟩ := qf c35
      by_cases c45 : y341.length < 17592186044416
      ·
       rw [if_pos c45] at H
       have LMc45 := Aside0.mk c45
       clear c45
       obtain ⟨y354, hy354⟩ : ∃ y_ : List Int, y_ = (y341 ++ [a2]) := ⟨_, rfl⟩
       replace H : (some y354) = some r := by first | (rw [hy354]; with_reducible exact H) | (have H2_ := (Option.bind_some _ _).symm.trans H; rw [hy354]; with_reducible exact H2_) | (have H2_ := (Option.bind_some _ _).symm.trans H; with_reducible exact H2_) | with_reducible exact H | (rw [hy354]; exact H) | exact H
       have Ny354 := Aside0.mk hy354
       clear hy354
       obtain rfl := Option.some.inj H
       go_enter Try.func33, Try.ntmps33
       go_wp2_with (first | ((with_reducible refine gate_dst (N := 11) rfl ?_); refine Kd.R_lit (Kd.int .i64) _ 3 ?hg (N := 11) ?hd (xs := ([] : List Int)) (inner := []) (ok := fun _ => True) (okp := fun _ => True) ?hr ?hp (fun _ hk => hk) trivial (Below.refl _ _) (Nat.le_refl _) (by simp) ?_; (case hd => rfl); (case hg => rfl); (case hr => first | (go_simp; done) | (go_simp; rfl)); (case hp => exact (Reps.none _ _)); intro v339 w46 ho47 hb hg_ hnew_; clear hg_ hnew_; (first | rw [← Ny338.out] at ho47 | (simp only [Int.reduceToNat] at ho47; rw [← Ny338.out] at ho47)); have HO340 := Aside0.mk (Kd.R_lower ho47 (below_size (qb))); replace HB := qS HB hb; clear hb ho47) | ((with_reducible refine gate_builtin (b := .append) (xs := #[.tmp 11, .tmp 12]) rfl ?_); at_builtin; refine Kd.R_append_rows (Kd.int .i64) (w0 := w) w.heap.size rfl (.tmp 11) (.tmp 12) 27 3 (.int .i64 0) 8 rfl Try.underlying27 info3 rfl (by decide) (by omega) v339 y338 l0 _ _ _ (fun _ => True) (fun _ => False) rfl rfl ?aO ?aR (fun _ _ h => h) (fun _ h => h.elim) ?aF ?aB ?aS ?aL ?_; (case aR => exact qC (Kd.C_below HR0.out HB.out)); (case aB => exact (qb)); (case aF => exact (fun _ _ => trivial)); (case aO => exact (qr HO340.out)); (case aS => exact (below_size (qb))); (case aL => have := LMc5.out; omega); intro v342 w48 ho hb hg hat; rw [← Ny341.out] at ho; have n0_ := Aside0.mk (hb); have n1_ := Aside0.mk (ho); clear HB; clear HO340; have HB := n0_; have HO343 := n1_; clear n0_ n1_; clear ho hb hg hat; obtain ⟨Ao49, co49, eo49⟩ := Kd.R_slice HO343.out; subst eo49) | ((with_reducible refine gate_callee (f := 68) rfl ?_); refine goesL_ (some 22) rfl rfl Try.func68 qq rfl #[.int .i64 a3, .int .i64 (y341.length : Int)] rfl qa ?_; (with_reducible refine (dialtoneref27_pick.calls a3 (y341.length : Int) t347 _ A13.out).mono ?_); rintro e w' ⟨rfl, ⟨nd, rfl⟩⟩; refine ⟨_, rfl, ?_⟩) | ((with_reducible refine gate_callee (f := 68) rfl ?_); refine goesL_ (some 24) rfl rfl Try.func68 qq rfl #[.int .i64 a1, .int .i64 4] rfl qa ?_; (with_reducible refine (dialtoneref27_pick.calls a1 4 t348 _ A14.out).mono ?_); rintro e w' ⟨rfl, ⟨nd, rfl⟩⟩; refine ⟨_, rfl, ?_⟩) | ((with_reducible refine gate_builtin (b := .append) (xs := #[.tmp 25, .tmp 27]) rfl ?_); at_builtin; refine Kd.R_append (Kd.int .i64) (w0 := w) w.heap.size rfl (.tmp 25) (.tmp 27) 27 3 (.int .i64 0) 8 rfl Try.underlying27 info3 rfl (by decide) (by omega) (.slice Ao49 y341.length co49) y341 a2 [.int .i64 a2] (fun _ => True) (fun _ => False) rfl rfl ?aP (fun _ hk => hk.elim) ?aF ?aO ?aB ?aS ?aL ?_; (case aP => exact rfl); (case aB => exact (qb)); (case aF => exact (fun _ _ => trivial)); (case aO => exact (qr HO343.out)); (case aS => exact (below_size (qb))); (case aL => have := LMc45.out; omega); intro v355 w50 ho hb hg hat; rw [← Ny354.out] at ho; have n0_ := Aside0.mk (hb); have n1_ := Aside0.mk (ho); clear HB; clear HO343; have HB := n0_; have HO356 := n1_; clear n0_ n1_; clear ho hb hg hat))
       go_ret
       exact ⟨_, qe, by (with_reducible repeat (first | apply Kd.R_alloc | apply Kd.R_drewN | apply Kd.R_drew)); exact HO356.out, qb⟩
      ·
       rw [if_neg c45] at H
       exact absurd H (by simp)
 ·
  rw [if_neg c5] at H
  exact absurd H (by simp)

end Go.Proofs.Ytkkakdpncogpkaa.D
end
section
namespace Go.Proofs.Ytkkakdpncogpkaa.D
open Go.RowKit Go.Proofs.YtkkakdpncogpkaaW.PrintWords Go.Proofs.YtkkakdpncogpkaaW.PrintLast Go.Proofs.YtkkakdpncogpkaaW.PrintMore
attribute [local go_sem] max2_int min2_int max_two min_two max_three min_three max_four min_four   -- for this text's walks alone
set_option linter.unusedVariables false
set_option linter.unusedSimpArgs false

/-! ### dialtonelaw27_FlowCuts: function 5 -/
def dialtonelaw27_FlowCuts.j0 : Nat → Int → Int → Int → Bool → Option (Bool)
 | 0, _, _, _, _ => none
 | k + 1, x16, x17, x19, x144 => if x144 = true then (some false) else (if 0 ≤ x16 then (if (Int.tmod (shr .i64 x19 x16) 2) = 1 then (if 0 ≤ x17 then (some ((Int.tmod (shr .i64 x19 x17) 2) == 0)) else (none)) else (some false)) else (none))
def dialtonelaw27_FlowCuts.f (k : Nat) (a0 : Int) (l1 : List (S23)) (a2 : Int) (a3 : Int) (a4 : Int) (a5 : Int) (a6_0 : Int) (a6_1 : Int) (a6_2 : Int) : Option (Bool) := (dialtonelaw27_sane.f k).bind fun t518 => (if t518 = true then ((dialtoneref27_Made.f k a0 l1).bind fun bt519 => ((dialtonelaw27_ends.f bt519.1 bt519.2 a2 a3).bind fun bt524 => ((dialtonelaw27_greatest.f k bt519.1 bt519.2 bt524.1 bt524.2).bind fun bt526 => (if bt526.2.2 = true then ((dialtonelaw27_pick.f a4 (shl .i64 1 (bt519.2.length : Int))).bind fun t529 => ((flow_Without.f bt519.1 bt519.2 t529).bind fun bt530 => (if bt530.2.2 = 0 then ((flow_Max.f bt530.1 bt530.2.1 bt524.1 bt524.2).bind fun bt536 => (if bt536.2.2 = 0 then ((flow_CheckFlow.f k bt519.1 bt519.2 bt524.1 bt524.2 bt536.1).bind fun bt541 => (if bt541.2 = true then ((dialtoneref27_BentList.f bt536.1 a6_0 a6_1 a6_2).bind fun t543 => ((flow_CheckFlow.f k bt519.1 bt519.2 bt524.1 bt524.2 t543).bind fun bt546 => (if 0 ≤ bt519.1 then ((dialtonelaw27_pick.f a5 (shl .i64 1 bt519.1)).bind fun t548 => (if 0 ≤ bt524.1 then ((flow_CheckCut.f k bt519.1 bt519.2 bt524.1 bt524.2 (Go.bits .or .i64 t548 (shl .i64 1 bt524.1))).bind fun bt549 => (if bt541.1 > bt526.1 then (dialtonelaw27_FlowCuts.j0 k bt524.1 bt524.2 bt526.2.1 true) else (if bt546.2 = true then (if bt546.1 > bt526.1 then (dialtonelaw27_FlowCuts.j0 k bt524.1 bt524.2 bt526.2.1 true) else (if bt549.2 = true then (if bt549.1 < bt526.1 then (dialtonelaw27_FlowCuts.j0 k bt524.1 bt524.2 bt526.2.1 true) else (dialtonelaw27_FlowCuts.j0 k bt524.1 bt524.2 bt526.2.1 (decide (bt549.1 < bt541.1)))) else (dialtonelaw27_FlowCuts.j0 k bt524.1 bt524.2 bt526.2.1 false))) else (if bt549.2 = true then (if bt549.1 < bt526.1 then (dialtonelaw27_FlowCuts.j0 k bt524.1 bt524.2 bt526.2.1 true) else (dialtonelaw27_FlowCuts.j0 k bt524.1 bt524.2 bt526.2.1 (decide (bt549.1 < bt541.1)))) else (dialtonelaw27_FlowCuts.j0 k bt524.1 bt524.2 bt526.2.1 false))))) else (none))) else (none)))) else (none))) else (none))) else (none)))) else (none))))) else (none))
def dialtonelaw27_FlowCuts.T8 : Bool × List (List Nat × List Nat) := (true, [([], []), ([], []), ([], []), ([2], [2]), ([3], [3]), ([4], [4]), ([1, 5], [1, 5]), ([0, 6, 6], [0, 6]), ([7], [7]), ([8], [8]), ([8], [8]), ([], []), ([11, 9, 7, 0, 1, 2, 3, 4, 5, 6, 7, 8, 9, 11], [9, 11]), ([10, 12, 0, 1, 2, 3, 4, 5, 6, 7, 8, 9, 10, 11, 12], [10])])
def dialtonelaw27_FlowCuts.B8 : List Nat := [0, 0, 0, 4, 12, 28, 62, 127, 255, 511, 511, 0, 3071, 8191]
theorem dialtonelaw27_FlowCuts.tab8 : rtab .any (opsOf Try.f5 8) = dialtonelaw27_FlowCuts.T8 := by kernel_rfl
theorem dialtonelaw27_FlowCuts.bits8 : waitsOk dialtonelaw27_FlowCuts.T8.2 dialtonelaw27_FlowCuts.B8 = true := by kernel_rfl
def dialtonelaw27_FlowCuts.T13 : Bool × List (List Nat × List Nat) := (true, [([], []), ([], []), ([], []), ([], []), ([], []), ([4], [4]), ([], []), ([6], [6]), ([], []), ([8], [8]), ([3, 5, 7, 9], [3, 5, 7, 9]), ([0, 1, 2, 10, 10], [0, 1, 2, 10]), ([11], [11]), ([12], [12]), ([12], [12]), ([13, 11, 0, 1, 2, 3, 4, 5, 6, 7, 8, 9, 10, 11, 12, 13], [13]), ([14, 15, 0, 1, 2, 3, 4, 5, 6, 7, 8, 9, 10, 11, 12, 13, 14, 15], [14])])
def dialtonelaw27_FlowCuts.B13 : List Nat := [0, 0, 0, 0, 0, 16, 0, 64, 0, 256, 1016, 2047, 4095, 8191, 8191, 16383, 65535]
theorem dialtonelaw27_FlowCuts.tab13 : rtab .any (opsOf Try.f5 13) = dialtonelaw27_FlowCuts.T13 := by kernel_rfl
theorem dialtonelaw27_FlowCuts.bits13 : waitsOk dialtonelaw27_FlowCuts.T13.2 dialtonelaw27_FlowCuts.B13 = true := by kernel_rfl
def dialtonelaw27_FlowCuts.T14 : Bool × List (List Nat × List Nat) := (true, [([], []), ([], []), ([], []), ([], []), ([], []), ([4], [4]), ([5], [5]), ([3, 6], [3, 6]), ([], []), ([8], [8]), ([7, 9], [7, 9]), ([0, 1, 2, 10, 7], [0, 1, 2, 10]), ([11], [11]), ([12], [12]), ([12], [12]), ([13, 11, 0, 1, 2, 3, 4, 5, 6, 7, 8, 9, 10, 11, 12, 13], [13]), ([14, 15, 0, 1, 2, 3, 4, 5, 6, 7, 8, 9, 10, 11, 12, 13, 14, 15], [14])])
def dialtonelaw27_FlowCuts.B14 : List Nat := [0, 0, 0, 0, 0, 16, 48, 120, 0, 256, 1016, 2047, 4095, 8191, 8191, 16383, 65535]
theorem dialtonelaw27_FlowCuts.tab14 : rtab .any (opsOf Try.f5 14) = dialtonelaw27_FlowCuts.T14 := by kernel_rfl
theorem dialtonelaw27_FlowCuts.bits14 : waitsOk dialtonelaw27_FlowCuts.T14.2 dialtonelaw27_FlowCuts.B14 = true := by kernel_rfl
set_option maxHeartbeats 8000000 in
set_option maxRecDepth 100000 in
theorem dialtonelaw27_FlowCuts.calls (k : Nat) (a0 : Int) (A1 : Option Addr) (c1 : Nat) (l1 : List (S23)) (a2 : Int) (a3 : Int) (a4 : Int) (a5 : Int) (a6_0 : Int) (a6_1 : Int) (a6_2 : Int) (r : Bool) (w : World) (hr1 : Kd.C k23 w A1 l1.length l1) (hc1 : l1.length ≤ c1) (h : dialtonelaw27_FlowCuts.f k a0 l1 a2 a3 a4 a5 a6_0 a6_1 a6_2 = some r) :
  Calls Try.prog 5 #[.int .i64 a0, .slice A1 l1.length c1, .int .i64 a2, .int .i64 a3, .int .i64 a4, .int .i64 a5, .agg #[.int .i64 a6_0, .int .i64 a6_1, .int .i64 a6_2]] w fun e w' => e = .returned (.bool r) ∧ Below w.heap.size w w' := by
 have hu23 := Try.underlying23
 have hu26 := Try.underlying26
 have HR1 := Aside0.mk hr1
 have HC1 := Aside0.mk hc1
 clear hr1 hc1
 have HB := Aside0.mk (Below.refl w.heap.size w)
 have H : ((dialtonelaw27_sane.f k).bind fun t518 => (if t518 = true then ((dialtoneref27_Made.f k a0 l1).bind fun bt519 => ((dialtonelaw27_ends.f bt519.1 bt519.2 a2 a3).bind fun bt524 => ((dialtonelaw27_greatest.f k bt519.1 bt519.2 bt524.1 bt524.2).bind fun bt526 => (if bt526.2.2 = true then ((dialtonelaw27_pick.f a4 (shl .i64 1 (bt519.2.length : Int))).bind fun t529 => ((flow_Without.f bt519.1 bt519.2 t529).bind fun bt530 => (if bt530.2.2 = 0 then ((flow_Max.f bt530.1 bt530.2.1 bt524.1 bt524.2).bind fun bt536 => (if bt536.2.2 = 0 then ((flow_CheckFlow.f k bt519.1 bt519.2 bt524.1 bt524.2 bt536.1).bind fun bt541 => (if bt541.2 = true then ((dialtoneref27_BentList.f bt536.1 a6_0 a6_1 a6_2).bind fun t543 => ((flow_CheckFlow.f k bt519.1 bt519.2 bt524.1 bt524.2 t543).bind fun bt546 => (if 0 ≤ bt519.1 then ((dialtonelaw27_pick.f a5 (shl .i64 1 bt519.1)).bind fun t548 => (if 0 ≤ bt524.1 then ((flow_CheckCut.f k bt519.1 bt519.2 bt524.1 bt524.2 (Go.bits .or .i64 t548 (shl .i64 1 bt524.1))).bind fun bt549 => (if bt541.1 > bt526.1 then (dialtonelaw27_FlowCuts.j0 k bt524.1 bt524.2 bt526.2.1 true) else (if bt546.2 = true then (if bt546.1 > bt526.1 then (dialtonelaw27_FlowCuts.j0 k bt524.1 bt524.2 bt526.2.1 true) else (if bt549.2 = true then (if bt549.1 < bt526.1 then (dialtonelaw27_FlowCuts.j0 k bt524.1 bt524.2 bt526.2.1 true) else (dialtonelaw27_FlowCuts.j0 k bt524.1 bt524.2 bt526.2.1 (decide (bt549.1 < bt541.1)))) else (dialtonelaw27_FlowCuts.j0 k bt524.1 bt524.2 bt526.2.1 false))) else (if bt549.2 = true then (if bt549.1 < bt526.1 then (dialtonelaw27_FlowCuts.j0 k bt524.1 bt524.2 bt526.2.1 true) else (dialtonelaw27_FlowCuts.j0 k bt524.1 bt524.2 bt526.2.1 (decide (bt549.1 < bt541.1)))) else (dialtonelaw27_FlowCuts.j0 k bt524.1 bt524.2 bt526.2.1 false))))) else (none))) else (none)))) else (none))) else (none))) else (none)))) else (none))))) else (none))) = some r := h
 clear h
 replace H := Option.bind_eq_some_iff.mp H
 obtain ⟨t518, A80, H⟩ := H
 (try dsimp only at H)
 have A8 := Aside0.mk A80
 clear A80
 by_cases c9 : t518 = true
 ·
  subst c9
  rw [if_pos rfl] at H
  replace H := Option.bind_eq_some_iff.mp H
  obtain ⟨⟨t519, t520⟩, A100, H⟩ := H
  (try dsimp only at H)
  have A10 := Aside0.mk A100
  clear A100
  replace H := Option.bind_eq_some_iff.mp H
  obtain ⟨⟨t524, t525⟩, A110, H⟩ := H
  (try dsimp only at H)
  have A11 := Aside0.mk A110
  clear A110
  replace H := Option.bind_eq_some_iff.mp H
  obtain ⟨⟨t526, t527, t528⟩, A120, H⟩ := H
  (try dsimp only at H)
  have A12 := Aside0.mk A120
  clear A120
  by_cases c13 : t528 = true
  ·
   subst c13
   rw [if_pos rfl] at H
   obtain ⟨ji14, hji14⟩ : ∃ j_ : Int, (shl .i64 1 (t520.length : Int)) = j_ := ⟨_, rfl⟩
   replace H : ((dialtonelaw27_pick.f a4 (ji14)).bind fun t529 => ((flow_Without.f t519 t520 t529).bind fun bt530 => (if bt530.2.2 = 0 then ((flow_Max.f bt530.1 bt530.2.1 t524 t525).bind fun bt536 => (if bt536.2.2 = 0 then ((flow_CheckFlow.f k t519 t520 t524 t525 bt536.1).bind fun bt541 => (if bt541.2 = true then ((dialtoneref27_BentList.f bt536.1 a6_0 a6_1 a6_2).bind fun t543 => ((flow_CheckFlow.f k t519 t520 t524 t525 t543).bind fun bt546 => (if 0 ≤ t519 then ((dialtonelaw27_pick.f a5 (shl .i64 1 t519)).bind fun t548 => (if 0 ≤ t524 then ((flow_CheckCut.f k t519 t520 t524 t525 (Go.bits .or .i64 t548 (shl .i64 1 t524))).bind fun bt549 => (if bt541.1 > t526 then (dialtonelaw27_FlowCuts.j0 k t524 t525 t527 true) else (if bt546.2 = true then (if bt546.1 > t526 then (dialtonelaw27_FlowCuts.j0 k t524 t525 t527 true) else (if bt549.2 = true then (if bt549.1 < t526 then (dialtonelaw27_FlowCuts.j0 k t524 t525 t527 true) else (dialtonelaw27_FlowCuts.j0 k t524 t525 t527 (decide (bt549.1 < bt541.1)))) else (dialtonelaw27_FlowCuts.j0 k t524 t525 t527 false))) else (if bt549.2 = true then (if bt549.1 < t526 then (dialtonelaw27_FlowCuts.j0 k t524 t525 t527 true) else (dialtonelaw27_FlowCuts.j0 k t524 t525 t527 (decide (bt549.1 < bt541.1)))) else (dialtonelaw27_FlowCuts.j0 k t524 t525 t527 false))))) else (none))) else (none)))) else (none))) else (none))) else (none)))) = some r := by first | (rw [hji14] at H; exact H) | (simp only [hji14] at H ⊢; exact H)
   (try rw [hji14] at A8)
   (try rw [hji14] at A10)
   (try rw [hji14] at A11)
   (try rw [hji14] at A12)
   have hji14_ : (IntKind.i64.wrap (1 * 2 ^ min (t520.length : Int).toNat 64)) = ji14 := hji14
   have hji14z : (t520.length : Int) ≤ 64 → (IntKind.i64.wrap (1 * 2 ^ (t520.length : Int).toNat)) = ji14 := shl_small hji14
   have hji14p : (IntKind.i64.wrap (1 * 2 ^ min t520.length 64)) = ji14 := hji14_
   have hji14q : (t520.length : Int) ≤ 64 → (IntKind.i64.wrap (1 * 2 ^ t520.length)) = ji14 := hji14z
   have hji14r : (IntKind.i64.wrap (2 ^ min t520.length 64)) = ji14 := by have h_ := hji14p; rw [Int.one_mul] at h_; exact h_
   have hji14s : (t520.length : Int) ≤ 64 → (IntKind.i64.wrap (2 ^ t520.length)) = ji14 := fun hle_ => by have h_ := hji14q hle_; rw [Int.one_mul] at h_; exact h_
   have hji14u : (IntKind.i64.wrap (2 ^ min (t520.length : Int).toNat 64)) = ji14 := by have h_ := hji14_; rw [Int.one_mul] at h_; exact h_
   have hji14v : (t520.length : Int) ≤ 64 → (IntKind.i64.wrap (2 ^ (t520.length : Int).toNat)) = ji14 := fun hle_ => by have h_ := hji14z hle_; rw [Int.one_mul] at h_; exact h_
   have hji14y : (wrap64 (1 * 2 ^ min (t520.length : Int).toNat 64)) = ji14 := (i64_w _).symm.trans hji14_
   have hji14x : (t520.length : Int) ≤ 64 → (wrap64 (1 * 2 ^ (t520.length : Int).toNat)) = ji14 := fun h_ => (i64_w _).symm.trans (hji14z h_)
   replace H := Option.bind_eq_some_iff.mp H
   obtain ⟨t529, A150, H⟩ := H
   (try dsimp only at H)
   have A15 := Aside0.mk A150
   clear A150
   replace H := Option.bind_eq_some_iff.mp H
   obtain ⟨⟨t530, t531, t534⟩, A160, H⟩ := H
   (try dsimp only at H)
   have A16 := Aside0.mk A160
   clear A160
   by_cases c17 : t534 = 0
   ·
    rw [if_pos c17] at H
    obtain ⟨c17b0, c17b1⟩ := qt c17
    clear c17
    replace H := Option.bind_eq_some_iff.mp H
    obtain ⟨⟨t536, t539, t540⟩, A180, H⟩ := H
    (try dsimp only at H)
    have A18 := Aside0.mk A180
    clear A180
    by_cases c19 : t540 = 0
    ·
     rw [if_pos c19] at H
     obtain ⟨c19b0, c19b1⟩ := qt c19
     clear c19
     replace H := Option.bind_eq_some_iff.mp H
     obtain ⟨⟨t541, t542⟩, A200, H⟩ := H
     (try dsimp only at H)
     have A20 := Aside0.mk A200
     clear A200
     by_cases c21 : t542 = true
     ·
      subst c21
      rw [if_pos rfl] at H
      replace H := Option.bind_eq_some_iff.mp H
      obtain ⟨t543, A220, H⟩ := H
      (try dsimp only at H)
      have A22 := Aside0.mk A220
      clear A220
      replace H := Option.bind_eq_some_iff.mp H
      obtain ⟨⟨t546, t547⟩, A230, H⟩ := H
      (try dsimp only at H)
      have A23 := Aside0.mk A230
      clear A230
      by_cases c24 : 0 ≤ t519
      ·
       rw [if_pos c24] at H
       have c24b0 := eq_true c24
       have c24b1 : decide (0 ≤ t519) = true := decide_eq_true c24
       clear c24
       obtain ⟨ji25, hji25⟩ : ∃ j_ : Int, (shl .i64 1 t519) = j_ := ⟨_, rfl⟩
       replace H : ((dialtonelaw27_pick.f a5 (ji25)).bind fun t548 => (if 0 ≤ t524 then ((flow_CheckCut.f k t519 t520 t524 t525 (Go.bits .or .i64 t548 (shl .i64 1 t524))).bind fun bt549 => (if t541 > t526 then (dialtonelaw27_FlowCuts.j0 k t524 t525 t527 true) else (if t547 = true then (if t546 > t526 then (dialtonelaw27_FlowCuts.j0 k t524 t525 t527 true) else (if bt549.2 = true then (if bt549.1 < t526 then (dialtonelaw27_FlowCuts.j0 k t524 t525 t527 true) else (dialtonelaw27_FlowCuts.j0 k t524 t525 t527 (decide (bt549.1 < t541)))) else (dialtonelaw27_FlowCuts.j0 k t524 t525 t527 false))) else (if bt549.2 = true then (if bt549.1 < t526 then (dialtonelaw27_FlowCuts.j0 k t524 t525 t527 true) else (dialtonelaw27_FlowCuts.j0 k t524 t525 t527 (decide (bt549.1 < t541)))) else (dialtonelaw27_FlowCuts.j0 k t524 t525 t527 false))))) else (none))) = some r := by first | (rw [hji25] at H; exact H) | (simp only [hji25] at H ⊢; exact H)
       (try rw [hji25] at A8)
       (try rw [hji25] at A10)
       (try rw [hji25] at A11)
       (try rw [hji25] at A12)
       (try rw [hji25] at A15)
       (try rw [hji25] at A16)
       (try rw [hji25] at A18)
       (try rw [hji25] at A20)
       (try rw [hji25] at A22)
       (try rw [hji25] at A23)
       have hji25_ : (IntKind.i64.wrap (1 * 2 ^ min t519.toNat 64)) = ji25 := hji25
       have hji25z : t519 ≤ 64 → (IntKind.i64.wrap (1 * 2 ^ t519.toNat)) = ji25 := shl_small hji25
       have hji25u : (IntKind.i64.wrap (2 ^ min t519.toNat 64)) = ji25 := by have h_ := hji25_; rw [Int.one_mul] at h_; exact h_
       have hji25v : t519 ≤ 64 → (IntKind.i64.wrap (2 ^ t519.toNat)) = ji25 := fun hle_ => by have h_ := hji25z hle_; rw [Int.one_mul] at h_; exact h_
       have hji25y : (wrap64 (1 * 2 ^ min t519.toNat 64)) = ji25 := (i64_w _).symm.trans hji25_
       have hji25x : t519 ≤ 64 → (wrap64 (1 * 2 ^ t519.toNat)) = ji25 := fun h_ => (i64_w _).symm.trans (hji25z h_)
       replace H := Option.bind_eq_some_iff.mp H
       obtain ⟨t548, A260, H⟩ := H
       (try dsimp only at H)
       have A26 := Aside0.mk A260
       clear A260
       by_cases c27 : 0 ≤ t524
       ·
        rw [if_pos c27] at H
        have c27b0 := eq_true c27
        have c27b1 : decide (0 ≤ t524) = true := decide_eq_true c27
        clear c27
        obtain ⟨ji28, hji28⟩ : ∃ j_ : Int, (shl .i64 1 t524) = j_ := ⟨_, rfl⟩
        replace H : ((flow_CheckCut.f k t519 t520 t524 t525 (Go.bits .or .i64 t548 (ji28))).bind fun bt549 => (if t541 > t526 then (dialtonelaw27_FlowCuts.j0 k t524 t525 t527 true) else (if t547 = true then (if t546 > t526 then (dialtonelaw27_FlowCuts.j0 k t524 t525 t527 true) else (if bt549.2 = true then (if bt549.1 < t526 then (dialtonelaw27_FlowCuts.j0 k t524 t525 t527 true) else (dialtonelaw27_FlowCuts.j0 k t524 t525 t527 (decide (bt549.1 < t541)))) else (dialtonelaw27_FlowCuts.j0 k t524 t525 t527 false))) else (if bt549.2 = true then (if bt549.1 < t526 then (dialtonelaw27_FlowCuts.j0 k t524 t525 t527 true) else (dialtonelaw27_FlowCuts.j0 k t524 t525 t527 (decide (bt549.1 < t541)))) else (dialtonelaw27_FlowCuts.j0 k t524 t525 t527 false))))) = some r := by first | (rw [hji28] at H; exact H) | (simp only [hji28] at H ⊢; exact H)
        (try rw [hji28] at A8)
        (try rw [hji28] at A10)
        (try rw [hji28] at A11)
        (try rw [hji28] at A12)
        (try rw [hji28] at A15)
        (try rw [hji28] at A16)
        (try rw [hji28] at A18)
        (try rw [hji28] at A20)
        (try rw [hji28] at A22)
        (try rw [hji28] at A23)
        (try rw [hji28] at A26)
        have hji28_ : (IntKind.i64.wrap (1 * 2 ^ min t524.toNat 64)) = ji28 := hji28
        have hji28z : t524 ≤ 64 → (IntKind.i64.wrap (1 * 2 ^ t524.toNat)) = ji28 := shl_small hji28
        have hji28u : (IntKind.i64.wrap (2 ^ min t524.toNat 64)) = ji28 := by have h_ := hji28_; rw [Int.one_mul] at h_; exact h_
        have hji28v : t524 ≤ 64 → (IntKind.i64.wrap (2 ^ t524.toNat)) = ji28 := fun hle_ => by have h_ := hji28z hle_; rw [Int.one_mul] at h_; exact h_
        have hji28y : (wrap64 (1 * 2 ^ min t524.toNat 64)) = ji28 := (i64_w _).symm.trans hji28_
        have hji28x : t524 ≤ 64 → (wrap64 (1 * 2 ^ t524.toNat)) = ji28 := fun h_ => (i64_w _).symm.trans (hji28z h_)
        replace H := Option.bind_eq_some_iff.mp H
        obtain ⟨⟨t549, t550⟩, A290, H⟩ := H
        (try dsimp only at H)
        have A29 := Aside0.mk A290
        clear A290
        have HC30 := Aside0.mk H
        clear H
        go_enter Try.func5, Try.ntmps5
        try go_wp2_with (first | ((with_reducible refine gate_dst (N := 13) rfl ?_); refine box_event rfl (N := 13) rfl (cs := #[.int .i64 a6_0, .int .i64 a6_1, .int .i64 a6_2]) (t := 23) qh ?_; intro gb517 hg w31 hbox hb; have BK517 := Aside0.mk (hbox); have GW517 := qg HB hg; have GE517 := qg HB hg; replace HB := qS HB hb; clear hb hbox hg) | ((with_reducible refine gate_callee (f := 22) rfl ?_); refine goesL_ (some 32) rfl rfl Try.func22 qq rfl #[] rfl qa ?_; (with_reducible refine (dialtonelaw27_sane.calls k  true _ A8.out).mono ?_); rintro e w32 ⟨rfl, hb⟩; refine ⟨_, rfl, ?_⟩; replace BK517 := qB BK517 hb; replace HB := qS HB hb; (try clear hb); (try clear hb2); (try clear hk); (try clear hi)) | ((with_reducible refine gate_callee (f := 23) rfl ?_); refine goesL_ (some 36) rfl rfl Try.func23 qq rfl #[.int .i64 a0, .slice A1 l1.length c1] rfl qa ?_; (with_reducible refine (dialtoneref27_Made.calls k a0 _ _ l1 t519 t520 _ ?side1 ?side2 A10.out).mono ?_); (case side1 => exact qC (Kd.C_below HR1.out HB.out)); (case side2 => exact HC1.out); rintro e w33 ⟨v521, rfl, ho0, hb⟩; refine ⟨_, rfl, ?_⟩; have HO522 := qL HB ho0; replace BK517 := qB BK517 hb; replace HB := qS HB hb; (try clear hb); (try clear hb2); (try clear hk); (try clear hi); (try clear ho0)) | ((with_reducible refine gate_dst (N := 15) rfl ?_); refine box_event rfl (N := 15) rfl (cs := #[.int .i64 0, .slice none 0 0]) (t := 26) qh ?_; intro gb523 hg w34 hbox hb; replace HO522 := qR HO522 hb; have BK523 := Aside0.mk (hbox); have GW523 := qg HB hg; have GE523 := qg HB hg; replace HB := qS HB hb; have NB517_523 := qn BK517 hg; have NB523_517 := qm BK517 hg; replace BK517 := qB BK517 hb; clear hb hbox hg; have hnb35 := NB523_517.out; have hnc35 := NB517_523.out; obtain ⟨hcz36_0, hcz36_1, hfz36_0, hfz36_1⟩ := qc2 BK523.out; obtain ⟨Ao37, co37, eo37⟩ := Kd.R_slice HO522.out; subst eo37) | ((with_reducible refine gate_callee (f := 24) rfl ?_); refine goesL_ (some 41) rfl rfl Try.func24 qq rfl #[.agg #[.int .i64 t519, .slice Ao37 t520.length co37], .int .i64 a2, .int .i64 a3] rfl qa ?_; (with_reducible refine (dialtonelaw27_ends.calls t519 _ _ t520 a2 a3 t524 t525 _ ?side1 ?side2 A11.out).mono ?_); (case side1 => refine (Kd.R_reads' (e := 72) (base := w.heap.size) (ok := fun k_ => True) (n := t520.length) (c := co37) ?_).2.2; exact (qr (Kd.R_mono (Kd.R_far (p := ⟨gb523, 1, none⟩) (Kd.R_far (p := ⟨gb523, 0, none⟩) (Kd.R_types HO522.out BK523.out (by decide)) (fun _ hk => hk.2) (.int .i64 t519)) (fun _ hk => hk.2) (.slice Ao37 t520.length co37)) (fun _ h_ => h_.1)))); (case side2 => exact (Kd.R_reads' HO522.out).2.1); rintro e w38 ⟨rfl, hb⟩; refine ⟨_, rfl, ?_⟩; replace HO522 := Aside0.mk (Kd.R_below (qr (Kd.R_mono (Kd.R_far (p := ⟨gb523, 1, none⟩) (Kd.R_far (p := ⟨gb523, 0, none⟩) (Kd.R_types HO522.out BK523.out (by decide)) (fun _ hk => hk.2) (.int .i64 t519)) (fun _ hk => hk.2) (.slice Ao37 t520.length co37)) (fun _ h_ => h_.1))) hb); replace BK517 := Aside0.mk (blk_below (g := gb517) (o := .cells #[.int .i64 a6_0, .int .i64 a6_1, .int .i64 a6_2] 23 (0, 0)) (by (with_reducible repeat (first | refine blk_drewN ?_ _ | refine blk_drew ?_ | refine blk_alloc ?_ _)); refine blk_far ?_ NB517_523.out _; (with_reducible repeat (first | refine blk_drewN ?_ _ | refine blk_drew ?_ | refine blk_alloc ?_ _)); refine blk_far ?_ NB517_523.out _; (with_reducible repeat (first | refine blk_drewN ?_ _ | refine blk_drew ?_ | refine blk_alloc ?_ _)); exact BK517.out) hb); replace BK523 := Aside0.mk (blk_below (g := gb523) (o := .cells #[.int .i64 t519, .slice Ao37 t520.length co37] 26 (0, 0)) (by (with_reducible repeat (first | refine blk_drewN ?_ _ | refine blk_drew ?_ | refine blk_alloc ?_ _)); refine blk_put (cs := #[.int .i64 t519, .slice none 0 0]) ?_ 1 _ rfl; (with_reducible repeat (first | refine blk_drewN ?_ _ | refine blk_drew ?_ | refine blk_alloc ?_ _)); refine blk_put (cs := #[.int .i64 0, .slice none 0 0]) ?_ 0 _ rfl; (with_reducible repeat (first | refine blk_drewN ?_ _ | refine blk_drew ?_ | refine blk_alloc ?_ _)); exact BK523.out) hb); replace HB := qS HB hb; (try clear hb); (try clear hb2); (try clear hk); (try clear hi); obtain ⟨hcz39_0, hcz39_1, hfz39_0, hfz39_1⟩ := qc2 BK523.out) | ((with_reducible refine gate_callee (f := 51) rfl ?_); refine goesL_ (some 48) rfl rfl Try.func51 qq rfl #[.agg #[.int .i64 t519, .slice Ao37 t520.length co37], .int .i64 t524, .int .i64 t525] rfl qa ?_; (with_reducible refine (dialtonelaw27_greatest.calls k t519 _ _ t520 t524 t525 t526 t527 true _ ?side1 ?side2 A12.out).mono ?_); (case side1 => exact qC (Kd.R_reads' HO522.out).2.2); (case side2 => exact (Kd.R_reads' HO522.out).2.1); rintro e w40 ⟨rfl, hb⟩; refine ⟨_, rfl, ?_⟩; replace HO522 := qR HO522 hb; replace BK517 := qB BK517 hb; replace BK523 := qB BK523 hb; replace HB := qS HB hb; (try clear hb); (try clear hb2); (try clear hk); (try clear hi)))
        replace HO522 := Aside0.mk (Kd.R_drew HO522.out)
        replace BK517 := Aside0.mk (blk_drew BK517.out)
        replace BK523 := Aside0.mk (blk_drew BK523.out)
        replace HB := Aside0.mk (below_drew1 HB.out)
        refine start_ (n := 14) (S := fun w' => w'.cell? ⟨gb523, 0, none⟩ = some (.int .i64 t519) ∧ w'.cell? ⟨gb523, 1, none⟩ = some (.slice Ao37 t520.length co37)) (ds := []) #[false, false, false, false, false, false, false, false, false, false, false, false, false, false] qq rfl rfl ⟨(blk_cell BK523.out 0).trans rfl, (blk_cell BK523.out 1).trans rfl⟩ (fun hHeld => ?_); refine with_tabW dialtonelaw27_FlowCuts.tab8 dialtonelaw27_FlowCuts.bits8 (fun HT_ HW_ => ?_)
        generalize w40.drew = w41 at HO522 BK517 BK523 HB hHeld ⊢
        refine pure_ (i := 1) (N := some 56) (v := ?_) (a' := ?_) #[false, true, false, false, false, false, false, false, false, false, false, false, false, false] rfl rfl (any_of HT_.out qq) (fun _ _ _ h => h) (Or.inl ⟨by rfl, ?_⟩) ?_ ?_
        rotate_left
        ·
         intro w'
         go_simp
         with_reducible rfl
        rotate_left
        ·
         simp only [Act.put, List.setIfInBounds_toArray, List.set_cons_zero, List.set_cons_succ, i64_w, i32_w]
         rfl
        refine pure_ (i := 2) (N := some 57) (v := ?_) (a' := ?_) #[false, true, true, false, false, false, false, false, false, false, false, false, false, false] rfl rfl (any_of HT_.out qq) (fun _ _ _ h => h) (Or.inl ⟨by rfl, ?_⟩) ?_ ?_
        rotate_left
        ·
         intro w'
         go_simp
         with_reducible rfl
        rotate_left
        ·
         simp only [Act.put, List.setIfInBounds_toArray, List.set_cons_zero, List.set_cons_succ, i64_w, i32_w]
         rfl
        refine take_ (i := 0) (N := some 55) (v := ?_) (a' := ?_) #[true, true, true, false, false, false, false, false, false, false, false, false, false, false] rfl rfl (take_ofW HT_.out HW_.out qq) (fun _ _ _ h => h) (Or.inl ⟨by rfl, ?_⟩) hHeld ?_ ?_
        rotate_left
        ·
         rintro w' ⟨s0, s1⟩
         go_simp
         with_reducible rfl
        rotate_left
        ·
         simp only [Act.put, List.setIfInBounds_toArray, List.set_cons_zero, List.set_cons_succ, i64_w, i32_w]
         rfl
        refine take_ (i := 3) (N := some 58) (v := ?_) (a' := ?_) #[true, true, true, true, false, false, false, false, false, false, false, false, false, false] rfl rfl (take_ofW HT_.out HW_.out qq) (fun _ _ _ h => h) (Or.inl ⟨by rfl, ?_⟩) hHeld ?_ ?_
        rotate_left
        ·
         rintro w' ⟨s0, s1⟩
         go_simp
         with_reducible rfl
        rotate_left
        ·
         simp only [Act.put, List.setIfInBounds_toArray, List.set_cons_zero, List.set_cons_succ, i64_w, i32_w]
         rfl
        refine pure_ (i := 4) (N := some 59) (v := ?_) (a' := ?_) #[true, true, true, true, true, false, false, false, false, false, false, false, false, false] rfl rfl (any_of HT_.out qq) (fun _ _ _ h => h) (Or.inl ⟨by rfl, ?_⟩) ?_ ?_
        rotate_left
        ·
         intro w'
         go_simp
         with_reducible rfl
        rotate_left
        ·
         simp only [Act.put, List.setIfInBounds_toArray, List.set_cons_zero, List.set_cons_succ, i64_w, i32_w]
         rfl
        refine pure_ (i := 5) (N := some 60) (v := ?_) (a' := ?_) #[true, true, true, true, true, true, false, false, false, false, false, false, false, false] rfl rfl (any_of HT_.out qq) (fun _ _ _ h => h) (Or.inl ⟨by rfl, ?_⟩) ?_ ?_
        rotate_left
        ·
         intro w'
         go_simp
         with_reducible rfl
        rotate_left
        ·
         simp only [Act.put, List.setIfInBounds_toArray, List.set_cons_zero, List.set_cons_succ, i64_w, i32_w]
         rfl
        refine join_ (σ := Value × Nat) 2 #[true, true, true, true, true, true, true, true, true, true, true, true, false, false] (fun s_ => [(61, .int .i64 t529), (62, .tuple #[.agg #[.int .i64 t530, s_.1], .int .i64 t534]), (21, .pointer (some ⟨s_.2, 0, none⟩)), (54, .tuple #[.agg #[.int .i64 t530, s_.1], .int .i64 t534]), (63, .agg #[.int .i64 t530, s_.1]), (64, .int .i64 t534)]) (fun s_ w' => (w'.cell? ⟨gb523, 0, none⟩ = some (.int .i64 t519) ∧ w'.cell? ⟨gb523, 1, none⟩ = some (.slice Ao37 t520.length co37)) ∧ (Kd.R k72 72 w' w.heap.size (fun k_ => some k_ ≠ (s_.1 : Value).ownBlock) (.slice Ao37 t520.length co37) t520) ∧ (Kd.R k72 72 w' w.heap.size (fun k_ => some k_ ≠ (.slice Ao37 t520.length co37 : Value).ownBlock) s_.1 t531) ∧ (w'.heap[gb517]? = some (.cells #[.int .i64 a6_0, .int .i64 a6_1, .int .i64 a6_2] 23 (0, 0))) ∧ (w'.heap[gb523]? = some (.cells #[.int .i64 t519, .slice Ao37 t520.length co37] 26 (0, 0))) ∧ (w'.heap[s_.2]? = some (.cells #[.int .i64 0, .slice none 0 0] 26 (0, 0))) ∧ (w.heap.size ≤ s_.2) ∧ (w.heap.size ≤ s_.2) ∧ (gb517 ≠ s_.2) ∧ (s_.2 ≠ gb517) ∧ (gb523 ≠ s_.2) ∧ (s_.2 ≠ gb523) ∧ (Below w.heap.size w w')) ?_ ?_
        rotate_left
        ·
         intro hCont
         refine two_ (i := 6) (j := 11) (Ni := some 61) (Nj := some 21) #[true, true, true, true, true, true, true, false, false, false, false, false, false, false] #[true, true, true, true, true, true, false, false, false, false, false, true, false, false] rfl rfl rfl rfl (two_of HT_.out qq) (by decide) (by decide) (fun K hK => ?_) (fun K hK => ?_)
         ·
          skip
          refine goes_ Try.func35 qq rfl #[.int .i64 a4, .int .i64 ji14] (by rfl) rfl rfl (by (try simp only [List.map_toArray, List.map_cons, List.map_nil]); first | done | (simp only [hji14]; rfl) | rfl | (simp only [List.length_drop, List.length_take]; rfl)) ?_
          with_reducible refine (dialtonelaw27_pick.calls a4 ji14 t529 _ A15.out).mono ?_
          rintro e w' ⟨rfl, ⟨nd, rfl⟩⟩
          refine ⟨_, rfl, ?_⟩
          refine hK.out _ _ ⟨(blk_cell BK523.out 0).trans rfl, (blk_cell BK523.out 1).trans rfl⟩ (fun hHeld => ?_)
          clear hK K
          refine norm_ (a' := ?_) ?_ ?_
          rotate_left
          ·
           show Act.put _ (some 61) _ = _
           simp only [Act.put, List.setIfInBounds_toArray, List.set_cons_zero, List.set_cons_succ, i64_w, i32_w]
           rfl
          refine two_ (i := 7) (j := 11) (Ni := some 62) (Nj := some 21) #[true, true, true, true, true, true, true, true, false, false, false, false, false, false] #[true, true, true, true, true, true, true, false, false, false, false, true, false, false] rfl rfl rfl rfl (two_of HT_.out qq) (by decide) (by decide) (fun K hK => ?_) (fun K hK => ?_)
          ·
           skip
           refine goes_ Try.func38 qq rfl #[.agg #[.int .i64 t519, .slice Ao37 t520.length co37], .int .i64 t529] (by rfl) rfl rfl qa ?_
           with_reducible refine (flow_Without.calls t519 _ _ t520 t529 t530 t531 t534 _ ?side1 ?side2 A16.out).mono ?_
           (case side1 => exact qC (Kd.R_reads' HO522.out).2.2)
           (case side2 => exact (Kd.R_reads' HO522.out).2.1)
           rintro e w42 ⟨v532, rfl, ho0, hb⟩
           refine ⟨_, rfl, ?_⟩
           have HO533 := Aside0.mk (Kd.R_lower (Kd.R_new' ho0 (Kd.R_lt (qr HO522.out))) (below_size (qb)))
           replace HO522 := Aside0.mk (Kd.R_elder' (qr HO522.out) (Kd.R_base ho0) hb)
           replace BK517 := qB BK517 hb
           replace BK523 := qB BK523 hb
           replace HB := qS HB hb
           (try clear hb)
           (try clear hb2)
           (try clear hk)
           (try clear hi)
           (try clear ho0)
           refine hK.out _ _ ⟨(blk_cell BK523.out 0).trans rfl, (blk_cell BK523.out 1).trans rfl⟩ (fun hHeld => ?_)
           clear hK K
           refine norm_ (a' := ?_) ?_ ?_
           rotate_left
           ·
            show Act.put _ (some 62) _ = _
            simp only [Act.put, List.setIfInBounds_toArray, List.set_cons_zero, List.set_cons_succ, i64_w, i32_w]
            rfl
           refine pure_ (i := 8) (N := some 54) (v := ?_) (a' := ?_) #[true, true, true, true, true, true, true, true, true, false, false, false, false, false] rfl rfl (any_of HT_.out qq) (fun _ _ _ h => h) (Or.inl ⟨by rfl, ?_⟩) ?_ ?_
           rotate_left
           ·
            intro w'
            go_simp
            with_reducible rfl
           rotate_left
           ·
            simp only [Act.put, List.setIfInBounds_toArray, List.set_cons_zero, List.set_cons_succ, i64_w, i32_w]
            rfl
           refine pure_ (i := 9) (N := some 63) (v := ?_) (a' := ?_) #[true, true, true, true, true, true, true, true, true, true, false, false, false, false] rfl rfl (any_of HT_.out qq) (fun _ _ _ h => h) (Or.inl ⟨by rfl, ?_⟩) ?_ ?_
           rotate_left
           ·
            intro w'
            go_simp
            with_reducible rfl
           rotate_left
           ·
            simp only [Act.put, List.setIfInBounds_toArray, List.set_cons_zero, List.set_cons_succ, i64_w, i32_w]
            rfl
           refine pure_ (i := 10) (N := some 64) (v := ?_) (a' := ?_) #[true, true, true, true, true, true, true, true, true, true, true, false, false, false] rfl rfl (any_of HT_.out qq) (fun _ _ _ h => h) (Or.inl ⟨by rfl, ?_⟩) ?_ ?_
           rotate_left
           ·
            intro w'
            go_simp
            with_reducible rfl
           rotate_left
           ·
            simp only [Act.put, List.setIfInBounds_toArray, List.set_cons_zero, List.set_cons_succ, i64_w, i32_w]
            rfl
           refine one_ (i := 11) (N := some 21) #[true, true, true, true, true, true, true, true, true, true, true, true, false, false] rfl rfl (one_of HT_.out qq) (by decide) (fun K hK => ?_)
           refine box_step ?hg (N := 21) ?hd (cs := #[.int .i64 0, .slice none 0 0]) (t := 26) ?hr ?_; (case hd => rfl); (case hg => rfl); (case hr => first | (go_simp; done) | (go_simp; rfl))
           intro gb535 hg w43 hbox hb
           replace HO522 := qR HO522 hb
           replace HO533 := qR HO533 hb
           have BK535 := Aside0.mk (hbox)
           have GW535 := qg HB hg
           have GE535 := qg HB hg
           replace HB := qS HB hb
           have NB517_535 := qn BK517 hg
           have NB535_517 := qm BK517 hg
           replace BK517 := qB BK517 hb
           have NB523_535 := qn BK523 hg
           have NB535_523 := qm BK523 hg
           replace BK523 := qB BK523 hb
           clear hb hbox hg
           refine hK.out _ _ ⟨(blk_cell BK523.out 0).trans rfl, (blk_cell BK523.out 1).trans rfl⟩ (fun hHeld => ?_)
           clear hK K
           refine norm_ (a' := ?_) ?_ ?_
           rotate_left
           ·
            show Act.put _ (some 21) _ = _
            simp only [Act.put, List.setIfInBounds_toArray, List.set_cons_zero, List.set_cons_succ, i64_w, i32_w]
            rfl
           exact norm_ (by simp only [putAll, Act.put, List.setIfInBounds_toArray, List.set_cons_zero, List.set_cons_succ]) (hCont (v532, gb535) _ ⟨hHeld, (qr (Kd.R_mono HO522.out (fun _ hk => hk.2))), (qr (Kd.R_mono HO533.out (fun _ hk => hk.2))), (qk BK517.out), (qk BK523.out), (qk BK535.out), GW535.out, GE535.out, NB517_535.out, NB535_517.out, NB523_535.out, NB535_523.out, (qb)⟩)
          ·
           skip
           refine box_step ?hg (N := 21) ?hd (cs := #[.int .i64 0, .slice none 0 0]) (t := 26) ?hr ?_; (case hd => rfl); (case hg => rfl); (case hr => first | (go_simp; done) | (go_simp; rfl))
           intro gb535 hg w42 hbox hb
           replace HO522 := qR HO522 hb
           have BK535 := Aside0.mk (hbox)
           have GW535 := qg HB hg
           have GE535 := qg HB hg
           replace HB := qS HB hb
           have NB517_535 := qn BK517 hg
           have NB535_517 := qm BK517 hg
           replace BK517 := qB BK517 hb
           have NB523_535 := qn BK523 hg
           have NB535_523 := qm BK523 hg
           replace BK523 := qB BK523 hb
           clear hb hbox hg
           refine hK.out _ _ ⟨(blk_cell BK523.out 0).trans rfl, (blk_cell BK523.out 1).trans rfl⟩ (fun hHeld => ?_)
           clear hK K
           refine norm_ (a' := ?_) ?_ ?_
           rotate_left
           ·
            show Act.put _ (some 21) _ = _
            simp only [Act.put, List.setIfInBounds_toArray, List.set_cons_zero, List.set_cons_succ, i64_w, i32_w]
            rfl
           refine one_ (i := 7) (N := some 62) #[true, true, true, true, true, true, true, true, false, false, false, true, false, false] rfl rfl (one_of HT_.out qq) (by decide) (fun K hK => ?_)
           refine goes_ Try.func38 qq rfl #[.agg #[.int .i64 t519, .slice Ao37 t520.length co37], .int .i64 t529] (by rfl) rfl rfl qa ?_
           with_reducible refine (flow_Without.calls t519 _ _ t520 t529 t530 t531 t534 _ ?side1 ?side2 A16.out).mono ?_
           (case side1 => exact qC (Kd.R_reads' HO522.out).2.2)
           (case side2 => exact (Kd.R_reads' HO522.out).2.1)
           rintro e w43 ⟨v532, rfl, ho0, hb⟩
           refine ⟨_, rfl, ?_⟩
           have HO533 := Aside0.mk (Kd.R_lower (Kd.R_new' ho0 (Kd.R_lt (qr HO522.out))) (below_size (qb)))
           replace HO522 := Aside0.mk (Kd.R_elder' (qr HO522.out) (Kd.R_base ho0) hb)
           replace BK517 := qB BK517 hb
           replace BK523 := qB BK523 hb
           replace BK535 := qB BK535 hb
           replace HB := qS HB hb
           (try clear hb)
           (try clear hb2)
           (try clear hk)
           (try clear hi)
           (try clear ho0)
           refine hK.out _ _ ⟨(blk_cell BK523.out 0).trans rfl, (blk_cell BK523.out 1).trans rfl⟩ (fun hHeld => ?_)
           clear hK K
           refine norm_ (a' := ?_) ?_ ?_
           rotate_left
           ·
            show Act.put _ (some 62) _ = _
            simp only [Act.put, List.setIfInBounds_toArray, List.set_cons_zero, List.set_cons_succ, i64_w, i32_w]
            rfl
           refine pure_ (i := 8) (N := some 54) (v := ?_) (a' := ?_) #[true, true, true, true, true, true, true, true, true, false, false, true, false, false] rfl rfl (any_of HT_.out qq) (fun _ _ _ h => h) (Or.inl ⟨by rfl, ?_⟩) ?_ ?_
           rotate_left
           ·
            intro w'
            go_simp
            with_reducible rfl
           rotate_left
           ·
            simp only [Act.put, List.setIfInBounds_toArray, List.set_cons_zero, List.set_cons_succ, i64_w, i32_w]
            rfl
           refine pure_ (i := 9) (N := some 63) (v := ?_) (a' := ?_) #[true, true, true, true, true, true, true, true, true, true, false, true, false, false] rfl rfl (any_of HT_.out qq) (fun _ _ _ h => h) (Or.inl ⟨by rfl, ?_⟩) ?_ ?_
           rotate_left
           ·
            intro w'
            go_simp
            with_reducible rfl
           rotate_left
           ·
            simp only [Act.put, List.setIfInBounds_toArray, List.set_cons_zero, List.set_cons_succ, i64_w, i32_w]
            rfl
           refine pure_ (i := 10) (N := some 64) (v := ?_) (a' := ?_) #[true, true, true, true, true, true, true, true, true, true, true, true, false, false] rfl rfl (any_of HT_.out qq) (fun _ _ _ h => h) (Or.inl ⟨by rfl, ?_⟩) ?_ ?_
           rotate_left
           ·
            intro w'
            go_simp
            with_reducible rfl
           rotate_left
           ·
            simp only [Act.put, List.setIfInBounds_toArray, List.set_cons_zero, List.set_cons_succ, i64_w, i32_w]
            rfl
           exact norm_ (by simp only [putAll, Act.put, List.setIfInBounds_toArray, List.set_cons_zero, List.set_cons_succ]) (hCont (v532, gb535) _ ⟨hHeld, (qr (Kd.R_mono HO522.out (fun _ hk => hk.2))), (qr (Kd.R_mono HO533.out (fun _ hk => hk.2))), (qk BK517.out), (qk BK523.out), (qk BK535.out), GW535.out, GE535.out, NB517_535.out, NB535_517.out, NB523_535.out, NB535_523.out, (qb)⟩)
         ·
          skip
          refine box_step ?hg (N := 21) ?hd (cs := #[.int .i64 0, .slice none 0 0]) (t := 26) ?hr ?_; (case hd => rfl); (case hg => rfl); (case hr => first | (go_simp; done) | (go_simp; rfl))
          intro gb535 hg w42 hbox hb
          replace HO522 := qR HO522 hb
          have BK535 := Aside0.mk (hbox)
          have GW535 := qg HB hg
          have GE535 := qg HB hg
          replace HB := qS HB hb
          have NB517_535 := qn BK517 hg
          have NB535_517 := qm BK517 hg
          replace BK517 := qB BK517 hb
          have NB523_535 := qn BK523 hg
          have NB535_523 := qm BK523 hg
          replace BK523 := qB BK523 hb
          clear hb hbox hg
          refine hK.out _ _ ⟨(blk_cell BK523.out 0).trans rfl, (blk_cell BK523.out 1).trans rfl⟩ (fun hHeld => ?_)
          clear hK K
          refine norm_ (a' := ?_) ?_ ?_
          rotate_left
          ·
           show Act.put _ (some 21) _ = _
           simp only [Act.put, List.setIfInBounds_toArray, List.set_cons_zero, List.set_cons_succ, i64_w, i32_w]
           rfl
          refine one_ (i := 6) (N := some 61) #[true, true, true, true, true, true, true, false, false, false, false, true, false, false] rfl rfl (one_of HT_.out qq) (by decide) (fun K hK => ?_)
          refine goes_ Try.func35 qq rfl #[.int .i64 a4, .int .i64 ji14] (by rfl) rfl rfl (by (try simp only [List.map_toArray, List.map_cons, List.map_nil]); first | done | (simp only [hji14]; rfl) | rfl | (simp only [List.length_drop, List.length_take]; rfl)) ?_
          with_reducible refine (dialtonelaw27_pick.calls a4 ji14 t529 _ A15.out).mono ?_
          rintro e w' ⟨rfl, ⟨nd, rfl⟩⟩
          refine ⟨_, rfl, ?_⟩
          refine hK.out _ _ ⟨(blk_cell BK523.out 0).trans rfl, (blk_cell BK523.out 1).trans rfl⟩ (fun hHeld => ?_)
          clear hK K
          refine norm_ (a' := ?_) ?_ ?_
          rotate_left
          ·
           show Act.put _ (some 61) _ = _
           simp only [Act.put, List.setIfInBounds_toArray, List.set_cons_zero, List.set_cons_succ, i64_w, i32_w]
           rfl
          refine one_ (i := 7) (N := some 62) #[true, true, true, true, true, true, true, true, false, false, false, true, false, false] rfl rfl (one_of HT_.out qq) (by decide) (fun K hK => ?_)
          refine goes_ Try.func38 qq rfl #[.agg #[.int .i64 t519, .slice Ao37 t520.length co37], .int .i64 t529] (by rfl) rfl rfl qa ?_
          with_reducible refine (flow_Without.calls t519 _ _ t520 t529 t530 t531 t534 _ ?side1 ?side2 A16.out).mono ?_
          (case side1 => exact qC (Kd.R_reads' HO522.out).2.2)
          (case side2 => exact (Kd.R_reads' HO522.out).2.1)
          rintro e w43 ⟨v532, rfl, ho0, hb⟩
          refine ⟨_, rfl, ?_⟩
          have HO533 := Aside0.mk (Kd.R_lower (Kd.R_new' ho0 (Kd.R_lt (qr HO522.out))) (below_size (qb)))
          replace HO522 := Aside0.mk (Kd.R_elder' (qr HO522.out) (Kd.R_base ho0) hb)
          replace BK517 := qB BK517 hb
          replace BK523 := qB BK523 hb
          replace BK535 := qB BK535 hb
          replace HB := qS HB hb
          (try clear hb)
          (try clear hb2)
          (try clear hk)
          (try clear hi)
          (try clear ho0)
          refine hK.out _ _ ⟨(blk_cell BK523.out 0).trans rfl, (blk_cell BK523.out 1).trans rfl⟩ (fun hHeld => ?_)
          clear hK K
          refine norm_ (a' := ?_) ?_ ?_
          rotate_left
          ·
           show Act.put _ (some 62) _ = _
           simp only [Act.put, List.setIfInBounds_toArray, List.set_cons_zero, List.set_cons_succ, i64_w, i32_w]
           rfl
          refine pure_ (i := 8) (N := some 54) (v := ?_) (a' := ?_) #[true, true, true, true, true, true, true, true, true, false, false, true, false, false] rfl rfl (any_of HT_.out qq) (fun _ _ _ h => h) (Or.inl ⟨by rfl, ?_⟩) ?_ ?_
          rotate_left
          ·
           intro w'
           go_simp
           with_reducible rfl
          rotate_left
          ·
           simp only [Act.put, List.setIfInBounds_toArray, List.set_cons_zero, List.set_cons_succ, i64_w, i32_w]
           rfl
          refine pure_ (i := 9) (N := some 63) (v := ?_) (a' := ?_) #[true, true, true, true, true, true, true, true, true, true, false, true, false, false] rfl rfl (any_of HT_.out qq) (fun _ _ _ h => h) (Or.inl ⟨by rfl, ?_⟩) ?_ ?_
          rotate_left
          ·
           intro w'
           go_simp
           with_reducible rfl
          rotate_left
          ·
           simp only [Act.put, List.setIfInBounds_toArray, List.set_cons_zero, List.set_cons_succ, i64_w, i32_w]
           rfl
          refine pure_ (i := 10) (N := some 64) (v := ?_) (a' := ?_) #[true, true, true, true, true, true, true, true, true, true, true, true, false, false] rfl rfl (any_of HT_.out qq) (fun _ _ _ h => h) (Or.inl ⟨by rfl, ?_⟩) ?_ ?_
          rotate_left
          ·
           intro w'
           go_simp
           with_reducible rfl
          rotate_left
          ·
           simp only [Act.put, List.setIfInBounds_toArray, List.set_cons_zero, List.set_cons_succ, i64_w, i32_w]
           rfl
          exact norm_ (by simp only [putAll, Act.put, List.setIfInBounds_toArray, List.set_cons_zero, List.set_cons_succ]) (hCont (v532, gb535) _ ⟨hHeld, (qr (Kd.R_mono HO522.out (fun _ hk => hk.2))), (qr (Kd.R_mono HO533.out (fun _ hk => hk.2))), (qk BK517.out), (qk BK523.out), (qk BK535.out), GW535.out, GE535.out, NB517_535.out, NB535_517.out, NB523_535.out, NB535_523.out, (qb)⟩)
        rintro ⟨v532, gb535⟩ w44 ⟨hS_, h0_, h1_, h2_, h3_, h4_, h5_, h6_, h7_, h8_, h9_, h10_, h11_⟩
        have n0_ : Aside0 (Kd.R k72 72 w44 w.heap.size (fun k_ => some k_ ≠ (v532 : Value).ownBlock) (.slice Ao37 t520.length co37) t520) := ⟨h0_⟩
        have n1_ : Aside0 (Kd.R k72 72 w44 w.heap.size (fun k_ => some k_ ≠ (.slice Ao37 t520.length co37 : Value).ownBlock) v532 t531) := ⟨h1_⟩
        have n2_ : Aside0 (w44.heap[gb517]? = some (.cells #[.int .i64 a6_0, .int .i64 a6_1, .int .i64 a6_2] 23 (0, 0))) := ⟨h2_⟩
        have n3_ : Aside0 (w44.heap[gb523]? = some (.cells #[.int .i64 t519, .slice Ao37 t520.length co37] 26 (0, 0))) := ⟨h3_⟩
        have n4_ : Aside0 (w44.heap[gb535]? = some (.cells #[.int .i64 0, .slice none 0 0] 26 (0, 0))) := ⟨h4_⟩
        have n5_ : Aside0 (w.heap.size ≤ gb535) := ⟨h5_⟩
        have n6_ : Aside0 (w.heap.size ≤ gb535) := ⟨h6_⟩
        have n7_ : Aside0 (gb517 ≠ gb535) := ⟨h7_⟩
        have n8_ : Aside0 (gb535 ≠ gb517) := ⟨h8_⟩
        have n9_ : Aside0 (gb523 ≠ gb535) := ⟨h9_⟩
        have n10_ : Aside0 (gb535 ≠ gb523) := ⟨h10_⟩
        have n11_ : Aside0 (Below w.heap.size w w44) := ⟨h11_⟩
        clear HO522
        clear BK517
        clear BK523
        clear HB
        clear h0_ h1_ h2_ h3_ h4_ h5_ h6_ h7_ h8_ h9_ h10_ h11_
        have HO522 := n0_
        have HO533 := n1_
        have BK517 := n2_
        have BK523 := n3_
        have BK535 := n4_
        have GW535 := n5_
        have GE535 := n6_
        have NB517_535 := n7_
        have NB535_517 := n8_
        have NB523_535 := n9_
        have NB535_523 := n10_
        have HB := n11_
        clear n0_ n1_ n2_ n3_ n4_ n5_ n6_ n7_ n8_ n9_ n10_ n11_
        have hHeld : w44.cell? ⟨gb523, 0, none⟩ = some (.int .i64 t519) ∧ w44.cell? ⟨gb523, 1, none⟩ = some (.slice Ao37 t520.length co37) := hS_
        obtain ⟨Ao46, co46, eo46⟩ := Kd.R_slice HO533.out
        (first | subst eo46 | (injection eo46 with f1_ f2_ f3_; have f4_ := f1_.symm; have f5_ := f3_.symm; clear f1_ f2_ f3_; subst f4_; subst f5_))
        refine norm_ (a' := ?_) ?_ ?_
        rotate_left
        ·
         simp only [putAll, Act.put, List.setIfInBounds_toArray, List.set_cons_zero, List.set_cons_succ]
         rfl
        refine one_ (i := 12) (N := none) #[true, true, true, true, true, true, true, true, true, true, true, true, true, false] rfl rfl (one_of HT_.out qq) (by decide) (fun K hK => ?_)
        have hs45 : w44.cell? ⟨gb535, 0, none⟩ = some (.int .i64 0) := (blk_cell BK535.out 0).trans rfl
        have hfs45 := blk_frozen BK535.out 0
        have hns45_0 := NB517_535.out
        have hns45_1 := NB523_535.out
        have hms45_0 := NB535_517.out
        have hms45_1 := NB535_523.out
        have hs47 : w44.cell? ⟨gb535, 1, none⟩ = some (.slice none 0 0) := (blk_cell BK535.out 1).trans rfl
        have hfs47 := blk_frozen BK535.out 1
        have hns47_0 := NB517_535.out
        have hns47_1 := NB523_535.out
        have hms47_0 := NB535_517.out
        have hms47_1 := NB535_523.out
        refine skip_ (w1 := ?_) (by rfl) rfl ?_ ?_
        rotate_left
        ·
         go_simp
         rfl
        refine hK.out _ _ ⟨((cell_far (p := ⟨gb535, _, none⟩) NB523_535.out _).trans (((cell_far (p := ⟨gb535, _, none⟩) NB523_535.out _).trans (hHeld.1)))), ((cell_far (p := ⟨gb535, _, none⟩) NB523_535.out _).trans (((cell_far (p := ⟨gb535, _, none⟩) NB523_535.out _).trans (hHeld.2))))⟩ (fun hHeld => ?_)
        clear hK K
        refine pure_ (i := 13) (N := some 22) (v := ?_) (a' := ?_) #[true, true, true, true, true, true, true, true, true, true, true, true, true, true] rfl rfl (any_of HT_.out qq) (fun _ _ _ h => h) (Or.inl ⟨by rfl, ?_⟩) ?_ ?_
        rotate_left
        ·
         intro w'
         go_simp
         with_reducible rfl
        rotate_left
        ·
         simp only [Act.put, List.setIfInBounds_toArray, List.set_cons_zero, List.set_cons_succ, i64_w, i32_w]
         rfl
        refine done_ (done_of HT_.out qq) ?_
        have hnb48 := NB535_517.out
        have hnc48 := NB517_535.out
        have hnb49 := NB535_523.out
        have hnc49 := NB523_535.out
        obtain ⟨hcz50_0, hcz50_1, hfz50_0, hfz50_1⟩ := qc2 BK535.out
        try go_wp2_with (first | ((with_reducible refine gate_callee (f := 29) rfl ?_); refine goesL_ (some 69) rfl rfl Try.func29 qq rfl #[.agg #[.int .i64 t530, .slice Ao46 t531.length co46], .int .i64 t524, .int .i64 t525] rfl qa ?_; (with_reducible refine (flow_Max.calls t530 _ _ t531 t524 t525 t536 t539 t540 _ ?side1 ?side2 A18.out).mono ?_); (case side1 => refine (Kd.R_reads' (e := 72) (base := w.heap.size) (ok := fun k_ => some k_ ≠ (.slice Ao37 t520.length co37 : Value).ownBlock) (n := t531.length) (c := co46) ?_).2.2; exact (qr (Kd.R_mono (Kd.R_far (p := ⟨gb535, 1, none⟩) (Kd.R_far (p := ⟨gb535, 0, none⟩) (Kd.R_types HO533.out BK535.out (by decide)) (fun _ hk => hk.2) (.int .i64 t530)) (fun _ hk => hk.2) (.slice Ao46 t531.length co46)) (fun _ h_ => h_.1)))); (case side2 => exact (Kd.R_reads' HO533.out).2.1); rintro e w51 ⟨v537, rfl, ho0, hb⟩; refine ⟨_, rfl, ?_⟩; replace HO522 := Aside0.mk (Kd.R_below (qr (Kd.R_mono (Kd.R_far (p := ⟨gb535, 1, none⟩) (Kd.R_far (p := ⟨gb535, 0, none⟩) (Kd.R_types HO522.out BK535.out (by decide)) (fun _ hk => hk.2) (.int .i64 t530)) (fun _ hk => hk.2) (.slice Ao46 t531.length co46)) (fun _ h_ => h_.1))) hb); replace HO533 := Aside0.mk (Kd.R_below (qr (Kd.R_mono (Kd.R_far (p := ⟨gb535, 1, none⟩) (Kd.R_far (p := ⟨gb535, 0, none⟩) (Kd.R_types HO533.out BK535.out (by decide)) (fun _ hk => hk.2) (.int .i64 t530)) (fun _ hk => hk.2) (.slice Ao46 t531.length co46)) (fun _ h_ => h_.1))) hb); have HO538 := qL HB ho0; replace BK517 := Aside0.mk (blk_below (g := gb517) (o := .cells #[.int .i64 a6_0, .int .i64 a6_1, .int .i64 a6_2] 23 (0, 0)) (by (with_reducible repeat (first | refine blk_drewN ?_ _ | refine blk_drew ?_ | refine blk_alloc ?_ _)); refine blk_far ?_ NB517_535.out _; (with_reducible repeat (first | refine blk_drewN ?_ _ | refine blk_drew ?_ | refine blk_alloc ?_ _)); refine blk_far ?_ NB517_535.out _; (with_reducible repeat (first | refine blk_drewN ?_ _ | refine blk_drew ?_ | refine blk_alloc ?_ _)); exact BK517.out) hb); replace BK523 := Aside0.mk (blk_below (g := gb523) (o := .cells #[.int .i64 t519, .slice Ao37 t520.length co37] 26 (0, 0)) (by (with_reducible repeat (first | refine blk_drewN ?_ _ | refine blk_drew ?_ | refine blk_alloc ?_ _)); refine blk_far ?_ NB523_535.out _; (with_reducible repeat (first | refine blk_drewN ?_ _ | refine blk_drew ?_ | refine blk_alloc ?_ _)); refine blk_far ?_ NB523_535.out _; (with_reducible repeat (first | refine blk_drewN ?_ _ | refine blk_drew ?_ | refine blk_alloc ?_ _)); exact BK523.out) hb); replace BK535 := Aside0.mk (blk_below (g := gb535) (o := .cells #[.int .i64 t530, .slice Ao46 t531.length co46] 26 (0, 0)) (by (with_reducible repeat (first | refine blk_drewN ?_ _ | refine blk_drew ?_ | refine blk_alloc ?_ _)); refine blk_put (cs := #[.int .i64 t530, .slice none 0 0]) ?_ 1 _ rfl; (with_reducible repeat (first | refine blk_drewN ?_ _ | refine blk_drew ?_ | refine blk_alloc ?_ _)); refine blk_put (cs := #[.int .i64 0, .slice none 0 0]) ?_ 0 _ rfl; (with_reducible repeat (first | refine blk_drewN ?_ _ | refine blk_drew ?_ | refine blk_alloc ?_ _)); exact BK535.out) hb); replace HB := qS HB hb; (try clear hb); (try clear hb2); (try clear hk); (try clear hi); (try clear ho0); obtain ⟨hcz52_0, hcz52_1, hfz52_0, hfz52_1⟩ := qc2 BK523.out; obtain ⟨Ao53, co53, eo53⟩ := Kd.R_slice HO538.out; subst eo53) | ((with_reducible refine gate_callee (f := 34) rfl ?_); refine goesL_ (some 84) rfl rfl Try.func34 qq rfl #[.agg #[.int .i64 t519, .slice Ao37 t520.length co37], .int .i64 t524, .int .i64 t525, .slice Ao53 t536.length co53] rfl qa ?_; (with_reducible refine (flow_CheckFlow.calls k t519 _ _ t520 t524 t525 _ _ t536 t541 true _ ?side1 ?side2 ?side3 ?side4 A20.out).mono ?_); (case side1 => exact qC (Kd.R_reads' HO522.out).2.2); (case side2 => exact (Kd.R_reads' HO522.out).2.1); (case side3 => exact qC (Kd.R_reads' HO538.out).2.2); (case side4 => exact (Kd.R_reads' HO538.out).2.1); rintro e w54 ⟨rfl, hb⟩; refine ⟨_, rfl, ?_⟩; replace HO522 := qR HO522 hb; replace HO533 := qR HO533 hb; replace HO538 := qR HO538 hb; replace BK517 := qB BK517 hb; replace BK523 := qB BK523 hb; replace BK535 := qB BK535 hb; replace HB := qS HB hb; (try clear hb); (try clear hb2); (try clear hk); (try clear hi)))
        replace HO522 := Aside0.mk (Kd.R_drew HO522.out)
        replace HO533 := Aside0.mk (Kd.R_drew HO533.out)
        replace HO538 := Aside0.mk (Kd.R_drew HO538.out)
        replace BK517 := Aside0.mk (blk_drew BK517.out)
        replace BK523 := Aside0.mk (blk_drew BK523.out)
        replace BK535 := Aside0.mk (blk_drew BK535.out)
        replace HB := Aside0.mk (below_drew1 HB.out)
        refine start_ (n := 17) (S := fun w' => w'.cell? ⟨gb523, 0, none⟩ = some (.int .i64 t519) ∧ w'.cell? ⟨gb523, 1, none⟩ = some (.slice Ao37 t520.length co37) ∧ w'.cell? ⟨gb517, 0, none⟩ = some (.int .i64 a6_0) ∧ w'.cell? ⟨gb517, 1, none⟩ = some (.int .i64 a6_1) ∧ w'.cell? ⟨gb517, 2, none⟩ = some (.int .i64 a6_2)) (ds := []) #[false, false, false, false, false, false, false, false, false, false, false, false, false, false, false, false, false] qq rfl rfl ⟨(blk_cell BK523.out 0).trans rfl, (blk_cell BK523.out 1).trans rfl, (blk_cell BK517.out 0).trans rfl, (blk_cell BK517.out 1).trans rfl, (blk_cell BK517.out 2).trans rfl⟩ (fun hHeld => ?_); refine with_tabW dialtonelaw27_FlowCuts.tab13 dialtonelaw27_FlowCuts.bits13 (fun HT_ HW_ => ?_)
        generalize w54.drew = w55 at HO522 HO533 HO538 BK517 BK523 BK535 HB hHeld ⊢
        refine pure_ (i := 1) (N := some 89) (v := ?_) (a' := ?_) #[false, true, false, false, false, false, false, false, false, false, false, false, false, false, false, false, false] rfl rfl (any_of HT_.out qq) (fun _ _ _ h => h) (Or.inl ⟨by rfl, ?_⟩) ?_ ?_
        rotate_left
        ·
         intro w'
         go_simp
         with_reducible rfl
        rotate_left
        ·
         simp only [Act.put, List.setIfInBounds_toArray, List.set_cons_zero, List.set_cons_succ, i64_w, i32_w]
         rfl
        refine pure_ (i := 2) (N := some 90) (v := ?_) (a' := ?_) #[false, true, true, false, false, false, false, false, false, false, false, false, false, false, false, false, false] rfl rfl (any_of HT_.out qq) (fun _ _ _ h => h) (Or.inl ⟨by rfl, ?_⟩) ?_ ?_
        rotate_left
        ·
         intro w'
         go_simp
         with_reducible rfl
        rotate_left
        ·
         simp only [Act.put, List.setIfInBounds_toArray, List.set_cons_zero, List.set_cons_succ, i64_w, i32_w]
         rfl
        refine pure_ (i := 3) (N := some 91) (v := ?_) (a' := ?_) #[false, true, true, true, false, false, false, false, false, false, false, false, false, false, false, false, false] rfl rfl (any_of HT_.out qq) (fun _ _ _ h => h) (Or.inl ⟨by rfl, ?_⟩) ?_ ?_
        rotate_left
        ·
         intro w'
         go_simp
         with_reducible rfl
        rotate_left
        ·
         simp only [Act.put, List.setIfInBounds_toArray, List.set_cons_zero, List.set_cons_succ, i64_w, i32_w]
         rfl
        refine pure_ (i := 4) (N := some 92) (v := ?_) (a' := ?_) #[false, true, true, true, true, false, false, false, false, false, false, false, false, false, false, false, false] rfl rfl (any_of HT_.out qq) (fun _ _ _ h => h) (Or.inl ⟨by rfl, ?_⟩) ?_ ?_
        rotate_left
        ·
         intro w'
         go_simp
         with_reducible rfl
        rotate_left
        ·
         simp only [Act.put, List.setIfInBounds_toArray, List.set_cons_zero, List.set_cons_succ, i64_w, i32_w]
         rfl
        refine pure_ (i := 6) (N := some 94) (v := ?_) (a' := ?_) #[false, true, true, true, true, false, true, false, false, false, false, false, false, false, false, false, false] rfl rfl (any_of HT_.out qq) (fun _ _ _ h => h) (Or.inl ⟨by rfl, ?_⟩) ?_ ?_
        rotate_left
        ·
         intro w'
         go_simp
         with_reducible rfl
        rotate_left
        ·
         simp only [Act.put, List.setIfInBounds_toArray, List.set_cons_zero, List.set_cons_succ, i64_w, i32_w]
         rfl
        refine pure_ (i := 8) (N := some 96) (v := ?_) (a' := ?_) #[false, true, true, true, true, false, true, false, true, false, false, false, false, false, false, false, false] rfl rfl (any_of HT_.out qq) (fun _ _ _ h => h) (Or.inl ⟨by rfl, ?_⟩) ?_ ?_
        rotate_left
        ·
         intro w'
         go_simp
         with_reducible rfl
        rotate_left
        ·
         simp only [Act.put, List.setIfInBounds_toArray, List.set_cons_zero, List.set_cons_succ, i64_w, i32_w]
         rfl
        refine take_ (i := 0) (N := some 88) (v := ?_) (a' := ?_) #[true, true, true, true, true, false, true, false, true, false, false, false, false, false, false, false, false] rfl rfl (take_ofW HT_.out HW_.out qq) (fun _ _ _ h => h) (Or.inl ⟨by rfl, ?_⟩) hHeld ?_ ?_
        rotate_left
        ·
         rintro w' ⟨s0, s1, s2, s3, s4⟩
         go_simp
         with_reducible rfl
        rotate_left
        ·
         simp only [Act.put, List.setIfInBounds_toArray, List.set_cons_zero, List.set_cons_succ, i64_w, i32_w]
         rfl
        refine take_ (i := 5) (N := some 93) (v := ?_) (a' := ?_) #[true, true, true, true, true, true, true, false, true, false, false, false, false, false, false, false, false] rfl rfl (take_ofW HT_.out HW_.out qq) (fun _ _ _ h => h) (Or.inl ⟨by rfl, ?_⟩) hHeld ?_ ?_
        rotate_left
        ·
         rintro w' ⟨s0, s1, s2, s3, s4⟩
         go_simp
         with_reducible rfl
        rotate_left
        ·
         simp only [Act.put, List.setIfInBounds_toArray, List.set_cons_zero, List.set_cons_succ, i64_w, i32_w]
         rfl
        refine take_ (i := 7) (N := some 95) (v := ?_) (a' := ?_) #[true, true, true, true, true, true, true, true, true, false, false, false, false, false, false, false, false] rfl rfl (take_ofW HT_.out HW_.out qq) (fun _ _ _ h => h) (Or.inl ⟨by rfl, ?_⟩) hHeld ?_ ?_
        rotate_left
        ·
         rintro w' ⟨s0, s1, s2, s3, s4⟩
         go_simp
         with_reducible rfl
        rotate_left
        ·
         simp only [Act.put, List.setIfInBounds_toArray, List.set_cons_zero, List.set_cons_succ, i64_w, i32_w]
         rfl
        refine take_ (i := 9) (N := some 97) (v := ?_) (a' := ?_) #[true, true, true, true, true, true, true, true, true, true, false, false, false, false, false, false, false] rfl rfl (take_ofW HT_.out HW_.out qq) (fun _ _ _ h => h) (Or.inl ⟨by rfl, ?_⟩) hHeld ?_ ?_
        rotate_left
        ·
         rintro w' ⟨s0, s1, s2, s3, s4⟩
         go_simp
         with_reducible rfl
        rotate_left
        ·
         simp only [Act.put, List.setIfInBounds_toArray, List.set_cons_zero, List.set_cons_succ, i64_w, i32_w]
         rfl
        refine one_ (i := 10) (N := some 98) #[true, true, true, true, true, true, true, true, true, true, true, false, false, false, false, false, false] rfl rfl (one_of HT_.out qq) (by decide) (fun K hK => ?_)
        refine goes_ Try.func33 qq rfl #[.slice Ao53 t536.length co53, .int .i64 a6_0, .int .i64 a6_1, .int .i64 a6_2] (by rfl) rfl rfl qa ?_
        with_reducible refine (dialtoneref27_BentList.calls _ _ t536 a6_0 a6_1 a6_2 t543 _ ?side1 ?side2 A22.out).mono ?_
        (case side1 => exact qC (Kd.R_reads' HO538.out).2.2)
        (case side2 => exact (Kd.R_reads' HO538.out).2.1)
        rintro e w56 ⟨v544, rfl, ho0, hb⟩
        refine ⟨_, rfl, ?_⟩
        replace HO522 := qR HO522 hb
        replace HO533 := qR HO533 hb
        have HO545 := Aside0.mk (Kd.R_lower (Kd.R_new' ho0 (Kd.R_lt (qr HO538.out))) (below_size (qb)))
        replace HO538 := Aside0.mk (Kd.R_elder' (qr HO538.out) (Kd.R_base ho0) hb)
        replace BK517 := qB BK517 hb
        replace BK523 := qB BK523 hb
        replace BK535 := qB BK535 hb
        replace HB := qS HB hb
        (try clear hb)
        (try clear hb2)
        (try clear hk)
        (try clear hi)
        (try clear ho0)
        obtain ⟨Ao57, co57, eo57⟩ := Kd.R_slice HO545.out
        (first | subst eo57 | (injection eo57 with f1_ f2_ f3_; have f4_ := f1_.symm; have f5_ := f3_.symm; clear f1_ f2_ f3_; subst f4_; subst f5_))
        refine hK.out _ _ ⟨(blk_cell BK523.out 0).trans rfl, (blk_cell BK523.out 1).trans rfl, (blk_cell BK517.out 0).trans rfl, (blk_cell BK517.out 1).trans rfl, (blk_cell BK517.out 2).trans rfl⟩ (fun hHeld => ?_)
        clear hK K
        refine norm_ (a' := ?_) ?_ ?_
        rotate_left
        ·
         show Act.put _ (some 98) _ = _
         simp only [Act.put, List.setIfInBounds_toArray, List.set_cons_zero, List.set_cons_succ, i64_w, i32_w]
         rfl
        refine one_ (i := 11) (N := some 99) #[true, true, true, true, true, true, true, true, true, true, true, true, false, false, false, false, false] rfl rfl (one_of HT_.out qq) (by decide) (fun K hK => ?_)
        refine goes_ Try.func34 qq rfl #[.agg #[.int .i64 t519, .slice Ao37 t520.length co37], .int .i64 t524, .int .i64 t525, .slice Ao57 t543.length co57] (by rfl) rfl rfl qa ?_
        with_reducible refine (flow_CheckFlow.calls k t519 _ _ t520 t524 t525 _ _ t543 t546 t547 _ ?side1 ?side2 ?side3 ?side4 A23.out).mono ?_
        (case side1 => exact qC (Kd.R_reads' HO522.out).2.2)
        (case side2 => exact (Kd.R_reads' HO522.out).2.1)
        (case side3 => exact qC (Kd.R_reads' HO545.out).2.2)
        (case side4 => exact (Kd.R_reads' HO545.out).2.1)
        rintro e w58 ⟨rfl, hb⟩
        refine ⟨_, rfl, ?_⟩
        replace HO522 := qR HO522 hb
        replace HO533 := qR HO533 hb
        replace HO538 := qR HO538 hb
        replace HO545 := qR HO545 hb
        replace BK517 := qB BK517 hb
        replace BK523 := qB BK523 hb
        replace BK535 := qB BK535 hb
        replace HB := qS HB hb
        (try clear hb)
        (try clear hb2)
        (try clear hk)
        (try clear hi)
        refine hK.out _ _ ⟨(blk_cell BK523.out 0).trans rfl, (blk_cell BK523.out 1).trans rfl, (blk_cell BK517.out 0).trans rfl, (blk_cell BK517.out 1).trans rfl, (blk_cell BK517.out 2).trans rfl⟩ (fun hHeld => ?_)
        clear hK K
        refine norm_ (a' := ?_) ?_ ?_
        rotate_left
        ·
         show Act.put _ (some 99) _ = _
         simp only [Act.put, List.setIfInBounds_toArray, List.set_cons_zero, List.set_cons_succ, i64_w, i32_w]
         rfl
        refine pure_ (i := 12) (N := some 87) (v := ?_) (a' := ?_) #[true, true, true, true, true, true, true, true, true, true, true, true, true, false, false, false, false] rfl rfl (any_of HT_.out qq) (fun _ _ _ h => h) (Or.inl ⟨by rfl, ?_⟩) ?_ ?_
        rotate_left
        ·
         intro w'
         go_simp
         with_reducible rfl
        rotate_left
        ·
         simp only [Act.put, List.setIfInBounds_toArray, List.set_cons_zero, List.set_cons_succ, i64_w, i32_w]
         rfl
        refine pure_ (i := 13) (N := some 100) (v := ?_) (a' := ?_) #[true, true, true, true, true, true, true, true, true, true, true, true, true, true, false, false, false] rfl rfl (any_of HT_.out qq) (fun _ _ _ h => h) (Or.inl ⟨by rfl, ?_⟩) ?_ ?_
        rotate_left
        ·
         intro w'
         go_simp
         with_reducible rfl
        rotate_left
        ·
         simp only [Act.put, List.setIfInBounds_toArray, List.set_cons_zero, List.set_cons_succ, i64_w, i32_w]
         rfl
        refine pure_ (i := 14) (N := some 101) (v := ?_) (a' := ?_) #[true, true, true, true, true, true, true, true, true, true, true, true, true, true, true, false, false] rfl rfl (any_of HT_.out qq) (fun _ _ _ h => h) (Or.inl ⟨by rfl, ?_⟩) ?_ ?_
        rotate_left
        ·
         intro w'
         go_simp
         with_reducible rfl
        rotate_left
        ·
         simp only [Act.put, List.setIfInBounds_toArray, List.set_cons_zero, List.set_cons_succ, i64_w, i32_w]
         rfl
        refine pure_ (i := 15) (N := some 28) (v := ?_) (a' := ?_) #[true, true, true, true, true, true, true, true, true, true, true, true, true, true, true, true, false] rfl rfl (any_of HT_.out qq) (fun _ _ _ h => h) (Or.inl ⟨by rfl, ?_⟩) ?_ ?_
        rotate_left
        ·
         intro w'
         go_simp
         with_reducible rfl
        rotate_left
        ·
         simp only [Act.put, List.setIfInBounds_toArray, List.set_cons_zero, List.set_cons_succ, i64_w, i32_w]
         rfl
        refine pure_ (i := 16) (N := some 29) (v := ?_) (a' := ?_) #[true, true, true, true, true, true, true, true, true, true, true, true, true, true, true, true, true] rfl rfl (any_of HT_.out qq) (fun _ _ _ h => h) (Or.inl ⟨by rfl, ?_⟩) ?_ ?_
        rotate_left
        ·
         intro w'
         go_simp
         with_reducible rfl
        rotate_left
        ·
         simp only [Act.put, List.setIfInBounds_toArray, List.set_cons_zero, List.set_cons_succ, i64_w, i32_w]
         rfl
        refine done_ (done_of HT_.out qq) ?_
        try go_wp2
        replace HO522 := Aside0.mk (Kd.R_drew HO522.out)
        replace HO533 := Aside0.mk (Kd.R_drew HO533.out)
        replace HO538 := Aside0.mk (Kd.R_drew HO538.out)
        replace HO545 := Aside0.mk (Kd.R_drew HO545.out)
        replace BK517 := Aside0.mk (blk_drew BK517.out)
        replace BK523 := Aside0.mk (blk_drew BK523.out)
        replace BK535 := Aside0.mk (blk_drew BK535.out)
        replace HB := Aside0.mk (below_drew1 HB.out)
        refine start_ (n := 17) (S := fun w' => w'.cell? ⟨gb523, 0, none⟩ = some (.int .i64 t519) ∧ w'.cell? ⟨gb523, 1, none⟩ = some (.slice Ao37 t520.length co37)) (ds := []) #[false, false, false, false, false, false, false, false, false, false, false, false, false, false, false, false, false] qq rfl rfl ⟨(blk_cell BK523.out 0).trans rfl, (blk_cell BK523.out 1).trans rfl⟩ (fun hHeld => ?_); refine with_tabW dialtonelaw27_FlowCuts.tab14 dialtonelaw27_FlowCuts.bits14 (fun HT_ HW_ => ?_)
        generalize w58.drew = w59 at HO522 HO533 HO538 HO545 BK517 BK523 BK535 HB hHeld ⊢
        refine pure_ (i := 1) (N := some 104) (v := ?_) (a' := ?_) #[false, true, false, false, false, false, false, false, false, false, false, false, false, false, false, false, false] rfl rfl (any_of HT_.out qq) (fun _ _ _ h => h) (Or.inl ⟨by rfl, ?_⟩) ?_ ?_
        rotate_left
        ·
         intro w'
         go_simp
         with_reducible rfl
        rotate_left
        ·
         simp only [Act.put, List.setIfInBounds_toArray, List.set_cons_zero, List.set_cons_succ, i64_w, i32_w]
         rfl
        refine pure_ (i := 2) (N := some 105) (v := ?_) (a' := ?_) #[false, true, true, false, false, false, false, false, false, false, false, false, false, false, false, false, false] rfl rfl (any_of HT_.out qq) (fun _ _ _ h => h) (Or.inl ⟨by rfl, ?_⟩) ?_ ?_
        rotate_left
        ·
         intro w'
         go_simp
         with_reducible rfl
        rotate_left
        ·
         simp only [Act.put, List.setIfInBounds_toArray, List.set_cons_zero, List.set_cons_succ, i64_w, i32_w]
         rfl
        refine pure_ (i := 3) (N := some 106) (v := ?_) (a' := ?_) #[false, true, true, true, false, false, false, false, false, false, false, false, false, false, false, false, false] rfl rfl (any_of HT_.out qq) (fun _ _ _ h => h) (Or.inl ⟨by rfl, ?_⟩) ?_ ?_
        rotate_left
        ·
         intro w'
         go_simp
         with_reducible rfl
        rotate_left
        ·
         simp only [Act.put, List.setIfInBounds_toArray, List.set_cons_zero, List.set_cons_succ, i64_w, i32_w]
         rfl
        refine pure_ (i := 4) (N := some 107) (v := ?_) (a' := ?_) #[false, true, true, true, true, false, false, false, false, false, false, false, false, false, false, false, false] rfl rfl (any_of HT_.out qq) (fun _ _ _ h => h) (Or.inl ⟨by rfl, ?_⟩) ?_ ?_
        rotate_left
        ·
         intro w'
         go_simp
         with_reducible rfl
        rotate_left
        ·
         simp only [Act.put, List.setIfInBounds_toArray, List.set_cons_zero, List.set_cons_succ, i64_w, i32_w]
         rfl
        refine pure_ (i := 8) (N := some 111) (v := ?_) (a' := ?_) #[false, true, true, true, true, false, false, false, true, false, false, false, false, false, false, false, false] rfl rfl (any_of HT_.out qq) (fun _ _ _ h => h) (Or.inl ⟨by rfl, ?_⟩) ?_ ?_
        rotate_left
        ·
         intro w'
         go_simp
         with_reducible rfl
        rotate_left
        ·
         simp only [Act.put, List.setIfInBounds_toArray, List.set_cons_zero, List.set_cons_succ, i64_w, i32_w]
         rfl
        refine pure_ (i := 9) (N := some 112) (v := ?_) (a' := ?_) #[false, true, true, true, true, false, false, false, true, true, false, false, false, false, false, false, false] rfl rfl (any_of HT_.out qq) (fun _ _ _ h => h) (Or.inl ⟨by rfl, ?_⟩) ?_ ?_
        rotate_left
        ·
         intro w'
         go_simp
         with_reducible rfl
        rotate_left
        ·
         simp only [Act.put, List.setIfInBounds_toArray, List.set_cons_zero, List.set_cons_succ, i64_w, i32_w]
         rfl
        refine take_ (i := 0) (N := some 103) (v := ?_) (a' := ?_) #[true, true, true, true, true, false, false, false, true, true, false, false, false, false, false, false, false] rfl rfl (take_ofW HT_.out HW_.out qq) (fun _ _ _ h => h) (Or.inl ⟨by rfl, ?_⟩) hHeld ?_ ?_
        rotate_left
        ·
         rintro w' ⟨s0, s1⟩
         go_simp
         with_reducible rfl
        rotate_left
        ·
         simp only [Act.put, List.setIfInBounds_toArray, List.set_cons_zero, List.set_cons_succ, i64_w, i32_w]
         rfl
        refine take_ (i := 5) (N := some 108) (v := ?_) (a' := ?_) #[true, true, true, true, true, true, false, false, true, true, false, false, false, false, false, false, false] rfl rfl (take_ofW HT_.out HW_.out qq) (fun _ _ _ h => h) (Or.inl ⟨by rfl, ?_⟩) hHeld ?_ ?_
        rotate_left
        ·
         rintro w' ⟨s0, s1⟩
         go_simp
         with_reducible rfl
        rotate_left
        ·
         simp only [Act.put, List.setIfInBounds_toArray, List.set_cons_zero, List.set_cons_succ, i64_w, i32_w]
         rfl
        refine pure_ (i := 6) (N := some 109) (v := ?_) (a' := ?_) #[true, true, true, true, true, true, true, false, true, true, false, false, false, false, false, false, false] rfl rfl (any_of HT_.out qq) (fun _ _ _ h => h) (Or.inl ⟨by rfl, ?_⟩) ?_ ?_
        rotate_left
        ·
         intro w'
         go_simp
         with_reducible rfl
        rotate_left
        ·
         simp only [Act.put, List.setIfInBounds_toArray, List.set_cons_zero, List.set_cons_succ, i64_w, i32_w]
         rfl
        refine one_ (i := 7) (N := some 110) #[true, true, true, true, true, true, true, true, true, true, false, false, false, false, false, false, false] rfl rfl (one_of HT_.out qq) (by decide) (fun K hK => ?_)
        refine goes_ Try.func35 qq rfl #[.int .i64 a5, .int .i64 ji25] (by rfl) rfl rfl (by (try simp only [List.map_toArray, List.map_cons, List.map_nil]); first | done | (simp only [hji25]; rfl) | rfl | (simp only [List.length_drop, List.length_take]; rfl)) ?_
        with_reducible refine (dialtonelaw27_pick.calls a5 ji25 t548 _ A26.out).mono ?_
        rintro e w' ⟨rfl, ⟨nd, rfl⟩⟩
        refine ⟨_, rfl, ?_⟩
        refine hK.out _ _ ⟨(blk_cell BK523.out 0).trans rfl, (blk_cell BK523.out 1).trans rfl⟩ (fun hHeld => ?_)
        clear hK K
        refine norm_ (a' := ?_) ?_ ?_
        rotate_left
        ·
         show Act.put _ (some 110) _ = _
         simp only [Act.put, List.setIfInBounds_toArray, List.set_cons_zero, List.set_cons_succ, i64_w, i32_w]
         rfl
        refine pure_ (i := 10) (N := some 113) (v := ?_) (a' := ?_) #[true, true, true, true, true, true, true, true, true, true, true, false, false, false, false, false, false] rfl rfl (any_of HT_.out qq) (fun _ _ _ h => h) (Or.inl ⟨by rfl, ?_⟩) ?_ ?_
        rotate_left
        ·
         intro w'
         go_simp
         with_reducible rfl
        rotate_left
        ·
         simp only [Act.put, List.setIfInBounds_toArray, List.set_cons_zero, List.set_cons_succ, i64_w, i32_w]
         rfl
        refine one_ (i := 11) (N := some 114) #[true, true, true, true, true, true, true, true, true, true, true, true, false, false, false, false, false] rfl rfl (one_of HT_.out qq) (by decide) (fun K hK => ?_)
        refine goes_ Try.func36 qq rfl #[.agg #[.int .i64 t519, .slice Ao37 t520.length co37], .int .i64 t524, .int .i64 t525, .int .i64 (Go.bits .or .i64 t548 (ji28))] (by rfl) rfl rfl (by (try simp only [List.map_toArray, List.map_cons, List.map_nil]); first | done | (simp only [hji28]; rfl) | rfl | (simp only [List.length_drop, List.length_take]; rfl)) ?_
        with_reducible refine (flow_CheckCut.calls k t519 _ _ t520 t524 t525 (Go.bits .or .i64 t548 (ji28)) t549 t550 _ ?side1 ?side2 A29.out).mono ?_
        (case side1 => exact qC (Kd.R_reads' HO522.out).2.2)
        (case side2 => exact (Kd.R_reads' HO522.out).2.1)
        rintro e w60 ⟨rfl, hb⟩
        refine ⟨_, rfl, ?_⟩
        replace HO522 := qR HO522 hb
        replace HO533 := qR HO533 hb
        replace HO538 := qR HO538 hb
        replace HO545 := qR HO545 hb
        replace BK517 := qB BK517 hb
        replace BK523 := qB BK523 hb
        replace BK535 := qB BK535 hb
        replace HB := qS HB hb
        (try clear hb)
        (try clear hb2)
        (try clear hk)
        (try clear hi)
        refine hK.out _ _ ⟨(blk_cell BK523.out 0).trans rfl, (blk_cell BK523.out 1).trans rfl⟩ (fun hHeld => ?_)
        clear hK K
        refine norm_ (a' := ?_) ?_ ?_
        rotate_left
        ·
         show Act.put _ (some 114) _ = _
         simp only [Act.put, List.setIfInBounds_toArray, List.set_cons_zero, List.set_cons_succ, i64_w, i32_w]
         rfl
        refine pure_ (i := 12) (N := some 102) (v := ?_) (a' := ?_) #[true, true, true, true, true, true, true, true, true, true, true, true, true, false, false, false, false] rfl rfl (any_of HT_.out qq) (fun _ _ _ h => h) (Or.inl ⟨by rfl, ?_⟩) ?_ ?_
        rotate_left
        ·
         intro w'
         go_simp
         with_reducible rfl
        rotate_left
        ·
         simp only [Act.put, List.setIfInBounds_toArray, List.set_cons_zero, List.set_cons_succ, i64_w, i32_w]
         rfl
        refine pure_ (i := 13) (N := some 115) (v := ?_) (a' := ?_) #[true, true, true, true, true, true, true, true, true, true, true, true, true, true, false, false, false] rfl rfl (any_of HT_.out qq) (fun _ _ _ h => h) (Or.inl ⟨by rfl, ?_⟩) ?_ ?_
        rotate_left
        ·
         intro w'
         go_simp
         with_reducible rfl
        rotate_left
        ·
         simp only [Act.put, List.setIfInBounds_toArray, List.set_cons_zero, List.set_cons_succ, i64_w, i32_w]
         rfl
        refine pure_ (i := 14) (N := some 116) (v := ?_) (a' := ?_) #[true, true, true, true, true, true, true, true, true, true, true, true, true, true, true, false, false] rfl rfl (any_of HT_.out qq) (fun _ _ _ h => h) (Or.inl ⟨by rfl, ?_⟩) ?_ ?_
        rotate_left
        ·
         intro w'
         go_simp
         with_reducible rfl
        rotate_left
        ·
         simp only [Act.put, List.setIfInBounds_toArray, List.set_cons_zero, List.set_cons_succ, i64_w, i32_w]
         rfl
        refine pure_ (i := 15) (N := some 30) (v := ?_) (a' := ?_) #[true, true, true, true, true, true, true, true, true, true, true, true, true, true, true, true, false] rfl rfl (any_of HT_.out qq) (fun _ _ _ h => h) (Or.inl ⟨by rfl, ?_⟩) ?_ ?_
        rotate_left
        ·
         intro w'
         go_simp
         with_reducible rfl
        rotate_left
        ·
         simp only [Act.put, List.setIfInBounds_toArray, List.set_cons_zero, List.set_cons_succ, i64_w, i32_w]
         rfl
        refine pure_ (i := 16) (N := some 31) (v := ?_) (a' := ?_) #[true, true, true, true, true, true, true, true, true, true, true, true, true, true, true, true, true] rfl rfl (any_of HT_.out qq) (fun _ _ _ h => h) (Or.inl ⟨by rfl, ?_⟩) ?_ ?_
        rotate_left
        ·
         intro w'
         go_simp
         with_reducible rfl
        rotate_left
        ·
         simp only [Act.put, List.setIfInBounds_toArray, List.set_cons_zero, List.set_cons_succ, i64_w, i32_w]
         rfl
        refine done_ (done_of HT_.out qq) ?_
        go_upto_region 15 with (fail)
        go_cut [144] (fun v144 wc => ∃ (kq : Nat) (x144_29 : Bool), v144 = .bool x144_29 ∧ Aside0 (dialtonelaw27_FlowCuts.j0 kq t524 t525 t527 x144_29 = some r) ∧ Aside0 (kq ≤ k) ∧ Aside0 (Kd.R k72 72 wc w.heap.size (fun k_ => some k_ ≠ ((.slice Ao46 t531.length co46) : Value).ownBlock) (.slice Ao37 t520.length co37) t520) ∧ Aside0 (Kd.R k72 72 wc w.heap.size (fun k_ => some k_ ≠ ((.slice Ao37 t520.length co37) : Value).ownBlock) (.slice Ao46 t531.length co46) t531) ∧ Aside0 (wc.heap[gb517]? = some (.cells #[.int .i64 a6_0, .int .i64 a6_1, .int .i64 a6_2] 23 (0, 0))) ∧ Aside0 (wc.heap[gb523]? = some (.cells #[.int .i64 t519, (.slice Ao37 t520.length co37)] 26 (0, 0))) ∧ Aside0 (wc.heap[gb535]? = some (.cells #[.int .i64 t530, (.slice Ao46 t531.length co46)] 26 (0, 0))) ∧ Aside0 (Below w.heap.size w wc))
        case first =>
         have H := HC30.out
         clear HC30
         by_cases c61 : t541 > t526
         ·
          rw [if_pos c61] at H
          have c61b0 : decide (t526 < t541) = true := decide_eq_true c61
          clear c61
          (first | rw [c61b0] | (simp only [i64_w, i32_w]; rw [c61b0]) | skip)
          have H' := Aside0.mk H
          clear H
          go_wp2
          go_meet
          case rel => exact ⟨_, (true), (by first | rfl | (simp; done) | (simp [*]; done)), H', ⟨by first | omega | exact Nat.le_refl _⟩, ⟨by (with_reducible repeat (first | apply Kd.R_alloc | apply Kd.R_drewN | apply Kd.R_drew)); exact HO522.out⟩, ⟨by (with_reducible repeat (first | apply Kd.R_alloc | apply Kd.R_drewN | apply Kd.R_drew)); exact HO533.out⟩, ⟨by (with_reducible repeat (first | refine blk_drewN ?_ _ | refine blk_drew ?_ | refine blk_alloc ?_ _)); exact BK517.out⟩, ⟨by (with_reducible repeat (first | refine blk_drewN ?_ _ | refine blk_drew ?_ | refine blk_alloc ?_ _)); exact BK523.out⟩, ⟨by (with_reducible repeat (first | refine blk_drewN ?_ _ | refine blk_drew ?_ | refine blk_alloc ?_ _)); exact BK535.out⟩, ⟨qb⟩⟩
         ·
          rw [if_neg c61] at H
          have c61b0 : decide (t526 < t541) = false := decide_eq_false c61
          clear c61
          (first | rw [c61b0] | (simp only [i64_w, i32_w]; rw [c61b0]) | skip)
          by_cases c62 : t547 = true
          ·
           subst c62
           rw [if_pos rfl] at H
           by_cases c63 : t546 > t526
           ·
            rw [if_pos c63] at H
            have c63b0 : decide (t526 < t546) = true := decide_eq_true c63
            clear c63
            have H' := Aside0.mk H
            clear H
            go_wp2
            go_meet
            case rel => exact ⟨_, (true), (by first | rfl | (simp; done) | (simp [*]; done)), H', ⟨by first | omega | exact Nat.le_refl _⟩, ⟨by (with_reducible repeat (first | apply Kd.R_alloc | apply Kd.R_drewN | apply Kd.R_drew)); exact HO522.out⟩, ⟨by (with_reducible repeat (first | apply Kd.R_alloc | apply Kd.R_drewN | apply Kd.R_drew)); exact HO533.out⟩, ⟨by (with_reducible repeat (first | refine blk_drewN ?_ _ | refine blk_drew ?_ | refine blk_alloc ?_ _)); exact BK517.out⟩, ⟨by (with_reducible repeat (first | refine blk_drewN ?_ _ | refine blk_drew ?_ | refine blk_alloc ?_ _)); exact BK523.out⟩, ⟨by (with_reducible repeat (first | refine blk_drewN ?_ _ | refine blk_drew ?_ | refine blk_alloc ?_ _)); exact BK535.out⟩, ⟨qb⟩⟩
           ·
            rw [if_neg c63] at H
            have c63b0 : decide (t526 < t546) = false := decide_eq_false c63
            clear c63
            by_cases c64 : t550 = true
            ·
             subst c64
             rw [if_pos rfl] at H
             by_cases c65 : t549 < t526
             ·
              rw [if_pos c65] at H
              have c65b0 : decide (t549 < t526) = true := decide_eq_true c65
              clear c65
              have H' := Aside0.mk H
              clear H
              go_wp2
              go_meet
              case rel => exact ⟨_, (true), (by first | rfl | (simp; done) | (simp [*]; done)), H', ⟨by first | omega | exact Nat.le_refl _⟩, ⟨by (with_reducible repeat (first | apply Kd.R_alloc | apply Kd.R_drewN | apply Kd.R_drew)); exact HO522.out⟩, ⟨by (with_reducible repeat (first | apply Kd.R_alloc | apply Kd.R_drewN | apply Kd.R_drew)); exact HO533.out⟩, ⟨by (with_reducible repeat (first | refine blk_drewN ?_ _ | refine blk_drew ?_ | refine blk_alloc ?_ _)); exact BK517.out⟩, ⟨by (with_reducible repeat (first | refine blk_drewN ?_ _ | refine blk_drew ?_ | refine blk_alloc ?_ _)); exact BK523.out⟩, ⟨by (with_reducible repeat (first | refine blk_drewN ?_ _ | refine blk_drew ?_ | refine blk_alloc ?_ _)); exact BK535.out⟩, ⟨qb⟩⟩
             ·
              rw [if_neg c65] at H
              have c65b0 : decide (t549 < t526) = false := decide_eq_false c65
              clear c65
              have H' := Aside0.mk H
              clear H
              go_wp2
              go_meet
              case rel => exact ⟨_, (decide (t549 < t541)), (by first | rfl | (simp; done) | (simp [*]; done)), H', ⟨by first | omega | exact Nat.le_refl _⟩, ⟨by (with_reducible repeat (first | apply Kd.R_alloc | apply Kd.R_drewN | apply Kd.R_drew)); exact HO522.out⟩, ⟨by (with_reducible repeat (first | apply Kd.R_alloc | apply Kd.R_drewN | apply Kd.R_drew)); exact HO533.out⟩, ⟨by (with_reducible repeat (first | refine blk_drewN ?_ _ | refine blk_drew ?_ | refine blk_alloc ?_ _)); exact BK517.out⟩, ⟨by (with_reducible repeat (first | refine blk_drewN ?_ _ | refine blk_drew ?_ | refine blk_alloc ?_ _)); exact BK523.out⟩, ⟨by (with_reducible repeat (first | refine blk_drewN ?_ _ | refine blk_drew ?_ | refine blk_alloc ?_ _)); exact BK535.out⟩, ⟨qb⟩⟩
            ·
             replace c64 := Bool.eq_false_iff.mpr c64
             subst c64
             rw [if_neg (show ¬ (false = true) by decide)] at H
             have H' := Aside0.mk H
             clear H
             go_wp2
             go_meet
             case rel => exact ⟨_, (false), (by first | rfl | (simp; done) | (simp [*]; done)), H', ⟨by first | omega | exact Nat.le_refl _⟩, ⟨by (with_reducible repeat (first | apply Kd.R_alloc | apply Kd.R_drewN | apply Kd.R_drew)); exact HO522.out⟩, ⟨by (with_reducible repeat (first | apply Kd.R_alloc | apply Kd.R_drewN | apply Kd.R_drew)); exact HO533.out⟩, ⟨by (with_reducible repeat (first | refine blk_drewN ?_ _ | refine blk_drew ?_ | refine blk_alloc ?_ _)); exact BK517.out⟩, ⟨by (with_reducible repeat (first | refine blk_drewN ?_ _ | refine blk_drew ?_ | refine blk_alloc ?_ _)); exact BK523.out⟩, ⟨by (with_reducible repeat (first | refine blk_drewN ?_ _ | refine blk_drew ?_ | refine blk_alloc ?_ _)); exact BK535.out⟩, ⟨qb⟩⟩
          ·
           replace c62 := Bool.eq_false_iff.mpr c62
           subst c62
           rw [if_neg (show ¬ (false = true) by decide)] at H
           by_cases c66 : t550 = true
           ·
            subst c66
            rw [if_pos rfl] at H
            by_cases c67 : t549 < t526
            ·
             rw [if_pos c67] at H
             have c67b0 : decide (t549 < t526) = true := decide_eq_true c67
             clear c67
             have H' := Aside0.mk H
             clear H
             go_wp2
             go_meet
             case rel => exact ⟨_, (true), (by first | rfl | (simp; done) | (simp [*]; done)), H', ⟨by first | omega | exact Nat.le_refl _⟩, ⟨by (with_reducible repeat (first | apply Kd.R_alloc | apply Kd.R_drewN | apply Kd.R_drew)); exact HO522.out⟩, ⟨by (with_reducible repeat (first | apply Kd.R_alloc | apply Kd.R_drewN | apply Kd.R_drew)); exact HO533.out⟩, ⟨by (with_reducible repeat (first | refine blk_drewN ?_ _ | refine blk_drew ?_ | refine blk_alloc ?_ _)); exact BK517.out⟩, ⟨by (with_reducible repeat (first | refine blk_drewN ?_ _ | refine blk_drew ?_ | refine blk_alloc ?_ _)); exact BK523.out⟩, ⟨by (with_reducible repeat (first | refine blk_drewN ?_ _ | refine blk_drew ?_ | refine blk_alloc ?_ _)); exact BK535.out⟩, ⟨qb⟩⟩
            ·
             rw [if_neg c67] at H
             have c67b0 : decide (t549 < t526) = false := decide_eq_false c67
             clear c67
             have H' := Aside0.mk H
             clear H
             go_wp2
             go_meet
             case rel => exact ⟨_, (decide (t549 < t541)), (by first | rfl | (simp; done) | (simp [*]; done)), H', ⟨by first | omega | exact Nat.le_refl _⟩, ⟨by (with_reducible repeat (first | apply Kd.R_alloc | apply Kd.R_drewN | apply Kd.R_drew)); exact HO522.out⟩, ⟨by (with_reducible repeat (first | apply Kd.R_alloc | apply Kd.R_drewN | apply Kd.R_drew)); exact HO533.out⟩, ⟨by (with_reducible repeat (first | refine blk_drewN ?_ _ | refine blk_drew ?_ | refine blk_alloc ?_ _)); exact BK517.out⟩, ⟨by (with_reducible repeat (first | refine blk_drewN ?_ _ | refine blk_drew ?_ | refine blk_alloc ?_ _)); exact BK523.out⟩, ⟨by (with_reducible repeat (first | refine blk_drewN ?_ _ | refine blk_drew ?_ | refine blk_alloc ?_ _)); exact BK535.out⟩, ⟨qb⟩⟩
           ·
            replace c66 := Bool.eq_false_iff.mpr c66
            subst c66
            rw [if_neg (show ¬ (false = true) by decide)] at H
            have H' := Aside0.mk H
            clear H
            go_wp2
            go_meet
            case rel => exact ⟨_, (false), (by first | rfl | (simp; done) | (simp [*]; done)), H', ⟨by first | omega | exact Nat.le_refl _⟩, ⟨by (with_reducible repeat (first | apply Kd.R_alloc | apply Kd.R_drewN | apply Kd.R_drew)); exact HO522.out⟩, ⟨by (with_reducible repeat (first | apply Kd.R_alloc | apply Kd.R_drewN | apply Kd.R_drew)); exact HO533.out⟩, ⟨by (with_reducible repeat (first | refine blk_drewN ?_ _ | refine blk_drew ?_ | refine blk_alloc ?_ _)); exact BK517.out⟩, ⟨by (with_reducible repeat (first | refine blk_drewN ?_ _ | refine blk_drew ?_ | refine blk_alloc ?_ _)); exact BK523.out⟩, ⟨by (with_reducible repeat (first | refine blk_drewN ?_ _ | refine blk_drew ?_ | refine blk_alloc ?_ _)); exact BK535.out⟩, ⟨qb⟩⟩
        case rest =>
         clear HC30
         try clear c2
         try clear p2
         try clear c3
         try clear c4
         try clear c6
         try clear c29
         try clear c33
         try clear c34
         try clear c35
         try clear c36
         try clear c48
         try clear c49
         try clear c61
         try clear c61b0
         try clear c62
         try clear c63
         try clear c63b0
         try clear c64
         try clear c65
         try clear c65b0
         try clear c66
         try clear c67
         try clear c67b0
         try clear hcz50_0
         try clear hcz50_1
         try clear hcz52_0
         try clear hcz52_1
         try clear hfz50_0
         try clear hfz50_1
         try clear hfz52_0
         try clear hfz52_1
         obtain ⟨kq, x144_29, rfl, HA, HJ29, HO_524001, HO_536001, BK517, BK523, BK535, HB⟩ := hcut
         cases kq with
         | zero => exact absurd HA.out (by simp [dialtonelaw27_FlowCuts.j0])
         | succ kj29 =>
          have H := HA.out
          clear HA
          simp only [dialtonelaw27_FlowCuts.j0] at H
          by_cases c68 : x144_29 = true
          ·
           subst c68
           rw [if_pos rfl] at H
           obtain rfl := Option.some.inj H
           go_wp2
           go_ret
           exact ⟨by first | rfl | (simp [errW_none, errW_some] <;> rfl) | (simp only [← hji14, ← hji25, ← hji28]; first | rfl | (simp [errW_none, errW_some] <;> rfl)) | (simp [*, errW_none, errW_some] <;> rfl), qb⟩
          ·
           replace c68 := Bool.eq_false_iff.mpr c68
           subst c68
           rw [if_neg (show ¬ (false = true) by decide)] at H
           by_cases c69 : 0 ≤ t524
           ·
            rw [if_pos c69] at H
            have c69b0 := eq_true c69
            have c69b1 : decide (0 ≤ t524) = true := decide_eq_true c69
            clear c69
            obtain ⟨ji70, hji70⟩ : ∃ j_ : Int, (shr .i64 t527 t524) = j_ := ⟨_, rfl⟩
            replace H : (if (Int.tmod (ji70) 2) = 1 then (if 0 ≤ t525 then (some ((Int.tmod (shr .i64 t527 t525) 2) == 0)) else (none)) else (some false)) = some r := by first | (rw [hji70] at H; exact H) | (simp only [hji70] at H ⊢; exact H)
            have hji70_ : (t527 / 2 ^ min t524.toNat 64) = ji70 := hji70
            have hji70z : t524 ≤ 64 → (t527 / 2 ^ t524.toNat) = ji70 := shr_small hji70
            by_cases c71 : (Int.tmod (ji70) 2) = 1
            ·
             rw [if_pos c71] at H
             obtain ⟨c71b0, c71b1⟩ := qt c71
             clear c71
             by_cases c72 : 0 ≤ t525
             ·
              rw [if_pos c72] at H
              have c72b0 := eq_true c72
              have c72b1 : decide (0 ≤ t525) = true := decide_eq_true c72
              clear c72
              obtain ⟨ji73, hji73⟩ : ∃ j_ : Int, (shr .i64 t527 t525) = j_ := ⟨_, rfl⟩
              replace H : (some ((Int.tmod (ji73) 2) == 0)) = some r := by first | (rw [hji73] at H; exact H) | (simp only [hji73] at H ⊢; exact H)
              have hji73_ : (t527 / 2 ^ min t525.toNat 64) = ji73 := hji73
              have hji73z : t525 ≤ 64 → (t527 / 2 ^ t525.toNat) = ji73 := shr_small hji73
              obtain rfl := Option.some.inj H
              go_wp2
              go_ret
              exact ⟨by first | rfl | (simp [errW_none, errW_some] <;> rfl) | (simp only [← hji14, ← hji25, ← hji28, ← hji70, ← hji73]; first | rfl | (simp [errW_none, errW_some] <;> rfl)) | (simp [*, errW_none, errW_some] <;> rfl), qb⟩
             ·
              rw [if_neg c72] at H
              exact absurd H (by simp)
            ·
             rw [if_neg c71] at H
             obtain ⟨c71b0, c71b1⟩ := qf c71
             obtain rfl := Option.some.inj H
             go_wp2
             go_ret
             exact ⟨by first | rfl | (simp [errW_none, errW_some] <;> rfl) | (simp only [← hji14, ← hji25, ← hji28, ← hji70]; first | rfl | (simp [errW_none, errW_some] <;> rfl)) | (simp [*, errW_none, errW_some] <;> rfl), qb⟩
           ·
            rw [if_neg c69] at H
            exact absurd H (by simp)
       ·
        rw [if_neg c27] at H
        exact absurd H (by simp)
      ·
       rw [if_neg c24] at H
       exact absurd H (by simp)
     ·
      replace c21 := Bool.eq_false_iff.mpr c21
      subst c21
      rw [if_neg (show ¬ (false = true) by decide)] at H
      exact absurd H (by simp)
    ·
     rw [if_neg c19] at H
     exact absurd H (by simp)
   ·
    rw [if_neg c17] at H
    exact absurd H (by simp)
  ·
   replace c13 := Bool.eq_false_iff.mpr c13
   subst c13
   rw [if_neg (show ¬ (false = true) by decide)] at H
   exact absurd H (by simp)
 ·
  replace c9 := Bool.eq_false_iff.mpr c9
  subst c9
  rw [if_neg (show ¬ (false = true) by decide)] at H
  exact absurd H (by simp)

end Go.Proofs.Ytkkakdpncogpkaa.D
end
