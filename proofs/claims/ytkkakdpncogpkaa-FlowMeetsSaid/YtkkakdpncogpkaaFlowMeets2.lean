/- Parts of the proof of a law about flows (see the law's own text): Fdialtoneref27BentList, Fdialtoneref27Supplied, Fdialtonelaw27FlowMeets. Conditions: each theorem's own. -/
import Derived.Test.YtkkakdpncogpkaaBase5
import Derived.Test.YtkkakdpncogpkaaBase4
import Derived.Test.YtkkakdpncogpkaaBase6
import Derived.Test.YtkkakdpncogpkaaBase28
import Derived.Test.YtkkakdpncogpkaaBase16
import Derived.Test.YtkkakdpncogpkaaBase23
section
namespace Go.Proofs.Ytkkakdpncogpkaa.D
open Go.RowKit Go.Proofs.YtkkakdpncogpkaaW.PrintWords Go.Proofs.YtkkakdpncogpkaaW.PrintLast Go.Proofs.YtkkakdpncogpkaaW.PrintMore
attribute [local go_sem] max2_int min2_int max_two min_two max_three min_three max_four min_four   -- for this text's walks alone
set_option linter.unusedVariables false
set_option linter.unusedSimpArgs false

/-! ### dialtoneref27_BentList: function 33 -/
def dialtoneref27_BentList.f (l0 : List Int) (a1 : Int) (a2 : Int) (a3 : Int) : Option (List Int) := (some (([] : List Int) : List Int)).bind fun y338 => (if y338.length + l0.length < 17592186044416 then ((some (y338 ++ l0 : List Int)).bind fun y341 => (if (y341.length : Int) = 0 then (some (([a2] : List Int))) else ((dialtoneref27_pick.f a3 (y341.length : Int)).bind fun t347 => ((dialtoneref27_pick.f a1 4).bind fun t348 => (if t348 = 0 then (if 0 ≤ t347 then (if t347 < (y341.length : Int) then (some (y341.set (t347 : Int).toNat a2)) else (none)) else (none)) else (if t348 = 1 then (if 0 ≤ t347 then (if t347 < (y341.length : Int) then (some (y341.set (t347 : Int).toNat (wrap64 ((rd y341 t347) + 1)))) else (none)) else (none)) else (if t348 = 2 then (if 0 ≤ t347 then (if t347 < (y341.length : Int) then (some (y341.set (t347 : Int).toNat (wrap64 ((rd y341 t347) - 1)))) else (none)) else (none)) else (if y341.length < 17592186044416 then (some (y341 ++ [a2])) else (none))))))))) else (none))
set_option maxHeartbeats 8000000 in
set_option maxRecDepth 100000 in
theorem dialtoneref27_BentList.calls (A0 : Option Addr) (c0 : Nat) (l0 : List Int) (a1 : Int) (a2 : Int) (a3 : Int) (r : List Int) (w : World) (hr0 : Kd.C (Kd.int .i64) w A0 l0.length l0) (hc0 : l0.length ≤ c0) (h : dialtoneref27_BentList.f l0 a1 a2 a3 = some r) :
  Calls Try.prog 33 #[.slice A0 l0.length c0, .int .i64 a1, .int .i64 a2, .int .i64 a3] w fun e w' => ∃ v0_ : Value, e = .returned (v0_) ∧ Kd.R (Kd.int .i64) 3 w' w.heap.size (fun _ => True) v0_ r ∧ Below w.heap.size w w' := by
 have HR0 := Aside0.mk hr0
 have HC0 := Aside0.mk hc0
 clear hr0 hc0
 have HB := Aside0.mk (Below.refl w.heap.size w)
 have H : ((some (([] : List Int) : List Int)).bind fun y338 => (if y338.length + l0.length < 17592186044416 then ((some (y338 ++ l0 : List Int)).bind fun y341 => (if (y341.length : Int) = 0 then (some (([a2] : List Int))) else ((dialtoneref27_pick.f a3 (y341.length : Int)).bind fun t347 => ((dialtoneref27_pick.f a1 4).bind fun t348 => (if t348 = 0 then (if 0 ≤ t347 then (if t347 < (y341.length : Int) then (some (y341.set (t347 : Int).toNat a2)) else (none)) else (none)) else (if t348 = 1 then (if 0 ≤ t347 then (if t347 < (y341.length : Int) then (some (y341.set (t347 : Int).toNat (wrap64 ((rd y341 t347) + 1)))) else (none)) else (none)) else (if t348 = 2 then (if 0 ≤ t347 then (if t347 < (y341.length : Int) then (some (y341.set (t347 : Int).toNat (wrap64 ((rd y341 t347) - 1)))) else (none)) else (none)) else (if y341.length < 17592186044416 then (some (y341 ++ [a2])) else (none))))))))) else (none))) = some r := h
 clear h
 obtain ⟨y338, hy338⟩ : ∃ y_ : List Int, y_ = (([] : List Int)) := ⟨_, rfl⟩
 replace H : (if y338.length + l0.length < 17592186044416 then ((some (y338 ++ l0 : List Int)).bind fun y341 => (if (y341.length : Int) = 0 then (some (([a2] : List Int))) else ((dialtoneref27_pick.f a3 (y341.length : Int)).bind fun t347 => ((dialtoneref27_pick.f a1 4).bind fun t348 => (if t348 = 0 then (if 0 ≤ t347 then (if t347 < (y341.length : Int) then (some (y341.set (t347 : Int).toNat a2)) else (none)) else (none)) else (if t348 = 1 then (if 0 ≤ t347 then (if t347 < (y341.length : Int) then (some (y341.set (t347 : Int).toNat (wrap64 ((rd y341 t347) + 1)))) else (none)) else (none)) else (if t348 = 2 then (if 0 ≤ t347 then (if t347 < (y341.length : Int) then (some (y341.set (t347 : Int).toNat (wrap64 ((rd y341 t347) - 1)))) else (none)) else (none)) else (if y341.length < 17592186044416 then (some (y341 ++ [a2])) else (none))))))))) else (none)) = some r := by first | (rw [hy338]; with_reducible exact H) | (have H2_ := (Option.bind_some _ _).symm.trans H; rw [hy338]; with_reducible exact H2_) | (have H2_ := (Option.bind_some _ _).symm.trans H; with_reducible exact H2_) | with_reducible exact H | (rw [hy338]; exact H) | exact H
 have Ny338 := Aside0.mk hy338
 clear hy338
 by_cases c5 : y338.length + l0.length < 17592186044416
 ·
  rw [if_pos c5] at H
  have LMc5 := Aside0.mk c5
  clear c5
  obtain ⟨y341, hy341⟩ : ∃ y_ : List Int, y_ = (y338 ++ l0) := ⟨_, rfl⟩
  replace H : (if (y341.length : Int) = 0 then (some (([a2] : List Int))) else ((dialtoneref27_pick.f a3 (y341.length : Int)).bind fun t347 => ((dialtoneref27_pick.f a1 4).bind fun t348 => (if t348 = 0 then (if 0 ≤ t347 then (if t347 < (y341.length : Int) then (some (y341.set (t347 : Int).toNat a2)) else (none)) else (none)) else (if t348 = 1 then (if 0 ≤ t347 then (if t347 < (y341.length : Int) then (some (y341.set (t347 : Int).toNat (wrap64 ((rd y341 t347) + 1)))) else (none)) else (none)) else (if t348 = 2 then (if 0 ≤ t347 then (if t347 < (y341.length : Int) then (some (y341.set (t347 : Int).toNat (wrap64 ((rd y341 t347) - 1)))) else (none)) else (none)) else (if y341.length < 17592186044416 then (some (y341 ++ [a2])) else (none)))))))) = some r := by first | (rw [hy341]; with_reducible exact H) | (have H2_ := (Option.bind_some _ _).symm.trans H; rw [hy341]; with_reducible exact H2_) | (have H2_ := (Option.bind_some _ _).symm.trans H; with_reducible exact H2_) | with_reducible exact H | (rw [hy341]; exact H) | exact H
  have Ny341 := Aside0.mk hy341
  clear hy341
  by_cases c6 : (y341.length : Int) = 0
  ·
   rw [if_pos c6] at H
   obtain ⟨c6b0, c6b1⟩ := qt c6
   clear c6
   obtain ⟨y344, hy344⟩ : ∃ y_ : List Int, y_ = (([a2] : List Int)) := ⟨_, rfl⟩
   replace H : (some y344) = some r := by first | (rw [hy344]; with_reducible exact H) | (have H2_ := (Option.bind_some _ _).symm.trans H; rw [hy344]; with_reducible exact H2_) | (have H2_ := (Option.bind_some _ _).symm.trans H; with_reducible exact H2_) | with_reducible exact H | (rw [hy344]; exact H) | exact H
   have Ny344 := Aside0.mk hy344
   clear hy344
   obtain rfl := Option.some.inj H
   go_enter Try.func33, Try.ntmps33
   go_wp2_with (first | ((with_reducible refine gate_dst (N := 11) rfl ?_); refine Kd.R_lit (Kd.int .i64) _ 3 ?hg (N := 11) ?hd (xs := ([] : List Int)) (inner := []) (ok := fun _ => True) (okp := fun _ => True) ?hr ?hp (fun _ hk => hk) trivial (Below.refl _ _) (Nat.le_refl _) (by simp) ?_; (case hd => rfl); (case hg => rfl); (case hr => first | (go_simp; done) | (go_simp; rfl)); (case hp => exact (Reps.none _ _)); intro v339 w7 ho8 hb hg_ hnew_; clear hg_ hnew_; (first | rw [← Ny338.out] at ho8 | (simp only [Int.reduceToNat] at ho8; rw [← Ny338.out] at ho8)); have HO340 := Aside0.mk (Kd.R_lower ho8 (below_size (qb))); replace HB := qS HB hb; clear hb ho8) | ((with_reducible refine gate_builtin (b := .append) (xs := #[.tmp 11, .tmp 12]) rfl ?_); at_builtin; refine Kd.R_append_rows (Kd.int .i64) (w0 := w) w.heap.size rfl (.tmp 11) (.tmp 12) 27 3 (.int .i64 0) 8 rfl Try.underlying27 info3 rfl (by decide) (by omega) v339 y338 l0 _ _ _ (fun _ => True) (fun _ => False) rfl rfl ?aO ?aR (fun _ _ h => h) (fun _ h => h.elim) ?aF ?aB ?aS ?aL ?_; (case aR => exact qC (Kd.C_below HR0.out HB.out)); (case aB => exact (qb)); (case aF => exact (fun _ _ => trivial)); (case aO => exact (qr HO340.out)); (case aS => exact (below_size (qb))); (case aL => have := LMc5.out; omega); intro v342 w9 ho hb hg hat; rw [← Ny341.out] at ho; have n0_ := Aside0.mk (hb); have n1_ := Aside0.mk (ho); clear HB; clear HO340; have HB := n0_; have HO343 := n1_; clear n0_ n1_; clear ho hb hg hat; obtain ⟨Ao10, co10, eo10⟩ := Kd.R_slice HO343.out; subst eo10) | ((with_reducible refine gate_dst (N := 18) rfl ?_); refine Kd.R_lit (Kd.int .i64) _ 3 ?hg (N := 18) ?hd (xs := ([a2] : List Int)) (inner := [.int .i64 a2]) (ok := fun _ => True) (okp := fun _ => True) ?hr ?hp (fun _ hk => hk) trivial (Below.refl _ _) (Nat.le_refl _) (by simp) ?_; (case hd => rfl); (case hg => rfl); (case hr => first | (go_simp; done) | (go_simp; rfl)); (case hp => exact (Reps.one (show Kd.M (Kd.int .i64) _ _ _ a2 [.int .i64 a2] from rfl) (Reps.none _ _))); intro v345 w11 ho12 hb hg_ hnew_; clear hg_ hnew_; (first | rw [← Ny344.out] at ho12 | (simp only [Int.reduceToNat] at ho12; rw [← Ny344.out] at ho12)); have HO346 := Aside0.mk (Kd.R_lower (Kd.R_new' ho12 (Kd.R_lt (qr HO343.out))) (below_size (qb))); replace HO343 := Aside0.mk (Kd.R_elder' (qr HO343.out) (Kd.R_base ho12) hb); replace HB := qS HB hb; clear hb ho12))
   go_ret
   exact ⟨_, qe, by (with_reducible repeat (first | apply Kd.R_alloc | apply Kd.R_drewN | apply Kd.R_drew)); exact Kd.R_mono HO346.out (fun _ hk => trivial), qb⟩
  ·
   rw [if_neg c6] at H
   obtain ⟨c6b0, c6b1⟩ := qf c6
   have c6b2 : ¬ (y341 = []) := fun h_ => c6 (by rw [h_]; rfl)
   replace H := Option.bind_eq_some_iff.mp H
   obtain ⟨t347, A130, H⟩ := H
   (try dsimp only at H)
   have A13 := Aside0.mk A130
   clear A130
   replace H := Option.bind_eq_some_iff.mp H
   obtain ⟨t348, A140, H⟩ := H
   (try dsimp only at H)
   have A14 := Aside0.mk A140
   clear A140
   by_cases c15 : t348 = 0
   ·
    rw [if_pos c15] at H
    obtain ⟨c15b0, c15b1⟩ := qt c15
    clear c15
    by_cases c16 : 0 ≤ t347
    ·
     rw [if_pos c16] at H
     have c16b0 : decide (0 ≤ t347) = true := decide_eq_true c16
     clear c16
     by_cases c17 : t347 < (y341.length : Int)
     ·
      rw [if_pos c17] at H
      have c17b0 : decide (t347 < (y341.length : Int)) = true := decide_eq_true c17
      clear c17
      obtain ⟨y349, hy349⟩ : ∃ y_ : List Int, y_ = (y341.set (t347 : Int).toNat a2) := ⟨_, rfl⟩
      replace H : (some y349) = some r := by first | (rw [hy349]; with_reducible exact H) | (have H2_ := (Option.bind_some _ _).symm.trans H; rw [hy349]; with_reducible exact H2_) | (have H2_ := (Option.bind_some _ _).symm.trans H; with_reducible exact H2_) | with_reducible exact H | (rw [hy349]; exact H) | exact H
      have Ny349 := Aside0.mk hy349
      clear hy349
      obtain rfl := Option.some.inj H
      go_enter Try.func33, Try.ntmps33
      go_wp2_with (first | ((with_reducible refine gate_dst (N := 11) rfl ?_); refine Kd.R_lit (Kd.int .i64) _ 3 ?hg (N := 11) ?hd (xs := ([] : List Int)) (inner := []) (ok := fun _ => True) (okp := fun _ => True) ?hr ?hp (fun _ hk => hk) trivial (Below.refl _ _) (Nat.le_refl _) (by simp) ?_; (case hd => rfl); (case hg => rfl); (case hr => first | (go_simp; done) | (go_simp; rfl)); (case hp => exact (Reps.none _ _)); intro v339 w19 ho20 hb hg_ hnew_; clear hg_ hnew_; (first | rw [← Ny338.out] at ho20 | (simp only [Int.reduceToNat] at ho20; rw [← Ny338.out] at ho20)); have HO340 := Aside0.mk (Kd.R_lower ho20 (below_size (qb))); replace HB := qS HB hb; clear hb ho20) | ((with_reducible refine gate_builtin (b := .append) (xs := #[.tmp 11, .tmp 12]) rfl ?_); at_builtin; refine Kd.R_append_rows (Kd.int .i64) (w0 := w) w.heap.size rfl (.tmp 11) (.tmp 12) 27 3 (.int .i64 0) 8 rfl Try.underlying27 info3 rfl (by decide) (by omega) v339 y338 l0 _ _ _ (fun _ => True) (fun _ => False) rfl rfl ?aO ?aR (fun _ _ h => h) (fun _ h => h.elim) ?aF ?aB ?aS ?aL ?_; (case aR => exact qC (Kd.C_below HR0.out HB.out)); (case aB => exact (qb)); (case aF => exact (fun _ _ => trivial)); (case aO => exact (qr HO340.out)); (case aS => exact (below_size (qb))); (case aL => have := LMc5.out; omega); intro v342 w21 ho hb hg hat; rw [← Ny341.out] at ho; have n0_ := Aside0.mk (hb); have n1_ := Aside0.mk (ho); clear HB; clear HO340; have HB := n0_; have HO343 := n1_; clear n0_ n1_; clear ho hb hg hat; obtain ⟨Ao22, co22, eo22⟩ := Kd.R_slice HO343.out; subst eo22) | ((with_reducible refine gate_callee (f := 68) rfl ?_); refine goesL_ (some 22) rfl rfl Try.func68 qq rfl #[.int .i64 a3, .int .i64 (y341.length : Int)] rfl qa ?_; (with_reducible refine (dialtoneref27_pick.calls a3 (y341.length : Int) t347 _ A13.out).mono ?_); rintro e w' ⟨rfl, ⟨nd, rfl⟩⟩; refine ⟨_, rfl, ?_⟩; (try (rw [drewN_self w21]; generalize hq_ : World.drewN w21 _ = w21; have n0_ : Aside0 (Kd.R (Kd.int .i64) 3 w21 w.heap.size (fun _ => True) (.slice Ao22 y341.length co22) y341) := ⟨by rw [← hq_]; exact (qr HO343.out)⟩; have n1_ : Aside0 (Below w.heap.size w w21) := ⟨by rw [← hq_]; exact (qb)⟩; clear HO343 HB hq_; have HO343 := n0_; have HB := n1_; clear n0_ n1_))) | ((with_reducible refine gate_callee (f := 68) rfl ?_); refine goesL_ (some 24) rfl rfl Try.func68 qq rfl #[.int .i64 a1, .int .i64 4] rfl qa ?_; (with_reducible refine (dialtoneref27_pick.calls a1 4 t348 _ A14.out).mono ?_); rintro e w' ⟨rfl, ⟨nd, rfl⟩⟩; refine ⟨_, rfl, ?_⟩; (try (rw [drewN_self w21]; generalize hq_ : World.drewN w21 _ = w21; have n0_ : Aside0 (Kd.R (Kd.int .i64) 3 w21 w.heap.size (fun _ => True) (.slice Ao22 y341.length co22) y341) := ⟨by rw [← hq_]; exact (qr HO343.out)⟩; have n1_ : Aside0 (Below w.heap.size w w21) := ⟨by rw [← hq_]; exact (qb)⟩; clear HO343 HB hq_; have HO343 := n0_; have HB := n1_; clear n0_ n1_)); have p18 : 0 ≤ (t347 : Int) := of_decide_eq_true (by first | (with_reducible assumption) | assumption); have q18 : (t347 : Int) < ((y341.length : Int) : Int) := of_decide_eq_true (by first | (with_reducible assumption) | assumption); obtain ⟨go18, co18, eo18, gb18, gl18, cl18, HG18⟩ := Kd.R_form HO343.out (by omega); (first | cases eo18 | (injection eo18 with ea_ en_ ec_; (first | subst ea_ | (injection ea_ with ea_; subst ea_)); subst ec_; clear en_)); have GB18 := Aside0.mk gb18; have GG18 := Aside0.mk HG18; clear gb18 gl18 HG18; obtain ⟨hx18_0, hf18_0⟩ := Kd.R_celln 0 HO343.out (t347 : Int) p18 q18; replace p18 := eq_true p18; replace q18 := eq_true q18; obtain ⟨hy23_, hz23_⟩ := Kd.R_celln 0 HO343.out (t347 : Int) (of_decide_eq_true (by first | (with_reducible assumption) | assumption)) (of_decide_eq_true (by first | (with_reducible assumption) | assumption)); have HP23 := Kd.R_putg HO343.out (t347 : Int) a2) | ((with_reducible refine gate_store (t := 3) (p := 34) rfl ?_); refine store_event (t := 3) (p := 34) (v := ?vo_w24) (w1 := (w21.setCell ⟨go18, (t347 : Int).toNat, none⟩ (.int .i64 a2))) ?hg ?ho ?hn ?hr ?_; (case ho => rfl); (case hg => rfl); (case hn => rfl); (case hr => first | (go_simp; done) | (go_simp; rfl)); intro w24 hw; have hg : w21.grownBy w24 (some go18) := (by rw [hw]; exact HP23.2); have hp_ : Kd.R (Kd.int .i64) 3 w24 w.heap.size (fun _ => True) (.slice (some ⟨go18, 0, none⟩) y341.length co22) y349 := (by rw [hw, Ny349.out]; exact HP23.1); clear HP23; replace HO343 := Aside0.mk (hp_); replace HB := Aside0.mk ((by rw [hw]; exact below_set (HB.out) GB18.out : Below w.heap.size w w24)); clear hg hw hp_))
      go_ret
      exact ⟨_, qe, by (with_reducible repeat (first | apply Kd.R_alloc | apply Kd.R_drewN | apply Kd.R_drew)); exact HO343.out, qb⟩
     ·
      rw [if_neg c17] at H
      exact absurd H (by simp)
    ·
     rw [if_neg c16] at H
     exact absurd H (by simp)
   ·
    rw [if_neg c15] at H
    obtain ⟨c15b0, c15b1⟩ := qf c15
    by_cases c25 : t348 = 1
    ·
     rw [if_pos c25] at H
     obtain ⟨c25b0, c25b1⟩ := qt c25
     clear c25
     by_cases c26 : 0 ≤ t347
     ·
      rw [if_pos c26] at H
      have c26b0 : decide (0 ≤ t347) = true := decide_eq_true c26
      clear c26
      by_cases c27 : t347 < (y341.length : Int)
      ·
       rw [if_pos c27] at H
       have c27b0 : decide (t347 < (y341.length : Int)) = true := decide_eq_true c27
       clear c27
       obtain ⟨y351, hy351⟩ : ∃ y_ : List Int, y_ = (y341.set (t347 : Int).toNat (wrap64 ((rd y341 t347) + 1))) := ⟨_, rfl⟩
       replace H : (some y351) = some r := by first | (rw [hy351]; with_reducible exact H) | (have H2_ := (Option.bind_some _ _).symm.trans H; rw [hy351]; with_reducible exact H2_) | (have H2_ := (Option.bind_some _ _).symm.trans H; with_reducible exact H2_) | with_reducible exact H | (rw [hy351]; exact H) | exact H
       have Ny351 := Aside0.mk hy351
       clear hy351
       obtain rfl := Option.some.inj H
       go_enter Try.func33, Try.ntmps33
       go_wp2_with (first | ((with_reducible refine gate_dst (N := 11) rfl ?_); refine Kd.R_lit (Kd.int .i64) _ 3 ?hg (N := 11) ?hd (xs := ([] : List Int)) (inner := []) (ok := fun _ => True) (okp := fun _ => True) ?hr ?hp (fun _ hk => hk) trivial (Below.refl _ _) (Nat.le_refl _) (by simp) ?_; (case hd => rfl); (case hg => rfl); (case hr => first | (go_simp; done) | (go_simp; rfl)); (case hp => exact (Reps.none _ _)); intro v339 w29 ho30 hb hg_ hnew_; clear hg_ hnew_; (first | rw [← Ny338.out] at ho30 | (simp only [Int.reduceToNat] at ho30; rw [← Ny338.out] at ho30)); have HO340 := Aside0.mk (Kd.R_lower ho30 (below_size (qb))); replace HB := qS HB hb; clear hb ho30) | ((with_reducible refine gate_builtin (b := .append) (xs := #[.tmp 11, .tmp 12]) rfl ?_); at_builtin; refine Kd.R_append_rows (Kd.int .i64) (w0 := w) w.heap.size rfl (.tmp 11) (.tmp 12) 27 3 (.int .i64 0) 8 rfl Try.underlying27 info3 rfl (by decide) (by omega) v339 y338 l0 _ _ _ (fun _ => True) (fun _ => False) rfl rfl ?aO ?aR (fun _ _ h => h) (fun _ h => h.elim) ?aF ?aB ?aS ?aL ?_; (case aR => exact qC (Kd.C_below HR0.out HB.out)); (case aB => exact (qb)); (case aF => exact (fun _ _ => trivial)); (case aO => exact (qr HO340.out)); (case aS => exact (below_size (qb))); (case aL => have := LMc5.out; omega); intro v342 w31 ho hb hg hat; rw [← Ny341.out] at ho; have n0_ := Aside0.mk (hb); have n1_ := Aside0.mk (ho); clear HB; clear HO340; have HB := n0_; have HO343 := n1_; clear n0_ n1_; clear ho hb hg hat; obtain ⟨Ao32, co32, eo32⟩ := Kd.R_slice HO343.out; subst eo32) | ((with_reducible refine gate_callee (f := 68) rfl ?_); refine goesL_ (some 22) rfl rfl Try.func68 qq rfl #[.int .i64 a3, .int .i64 (y341.length : Int)] rfl qa ?_; (with_reducible refine (dialtoneref27_pick.calls a3 (y341.length : Int) t347 _ A13.out).mono ?_); rintro e w' ⟨rfl, ⟨nd, rfl⟩⟩; refine ⟨_, rfl, ?_⟩; (try (rw [drewN_self w31]; generalize hq_ : World.drewN w31 _ = w31; have n0_ : Aside0 (Kd.R (Kd.int .i64) 3 w31 w.heap.size (fun _ => True) (.slice Ao32 y341.length co32) y341) := ⟨by rw [← hq_]; exact (qr HO343.out)⟩; have n1_ : Aside0 (Below w.heap.size w w31) := ⟨by rw [← hq_]; exact (qb)⟩; clear HO343 HB hq_; have HO343 := n0_; have HB := n1_; clear n0_ n1_))) | ((with_reducible refine gate_callee (f := 68) rfl ?_); refine goesL_ (some 24) rfl rfl Try.func68 qq rfl #[.int .i64 a1, .int .i64 4] rfl qa ?_; (with_reducible refine (dialtoneref27_pick.calls a1 4 t348 _ A14.out).mono ?_); rintro e w' ⟨rfl, ⟨nd, rfl⟩⟩; refine ⟨_, rfl, ?_⟩; (try (rw [drewN_self w31]; generalize hq_ : World.drewN w31 _ = w31; have n0_ : Aside0 (Kd.R (Kd.int .i64) 3 w31 w.heap.size (fun _ => True) (.slice Ao32 y341.length co32) y341) := ⟨by rw [← hq_]; exact (qr HO343.out)⟩; have n1_ : Aside0 (Below w.heap.size w w31) := ⟨by rw [← hq_]; exact (qb)⟩; clear HO343 HB hq_; have HO343 := n0_; have HB := n1_; clear n0_ n1_)); have p350 : 0 ≤ (t347 : Int) := of_decide_eq_true (by first | (with_reducible assumption) | assumption); have q350 : t347 < (y341.length : Int) := of_decide_eq_true (by first | (with_reducible assumption) | assumption); obtain ⟨ad350, e350, hx350_0⟩ := Kd.at_int (Kd.R_reads' HO343.out).2.2 t347 p350 q350; cases e350; replace p350 := eq_true p350; replace q350 := eq_true q350; have p28 : 0 ≤ (t347 : Int) := of_decide_eq_true (by first | (with_reducible assumption) | assumption); have q28 : (t347 : Int) < ((y341.length : Int) : Int) := of_decide_eq_true (by first | (with_reducible assumption) | assumption); obtain ⟨go28, co28, eo28, gb28, gl28, cl28, HG28⟩ := Kd.R_form HO343.out (by omega); (first | cases eo28 | (injection eo28 with ea_ en_ ec_; (first | subst ea_ | (injection ea_ with ea_; subst ea_)); subst ec_; clear en_)); have GB28 := Aside0.mk gb28; have GG28 := Aside0.mk HG28; clear gb28 gl28 HG28; (first | simp only [add_plain] at hx350_0 | skip); obtain ⟨hx28_0, hf28_0⟩ := Kd.R_celln 0 HO343.out (t347 : Int) p28 q28; replace p28 := eq_true p28; replace q28 := eq_true q28; obtain ⟨hy33_, hz33_⟩ := Kd.R_celln 0 HO343.out (t347 : Int) (of_decide_eq_true (by first | (with_reducible assumption) | assumption)) (of_decide_eq_true (by first | (with_reducible assumption) | assumption)); have HP33 := Kd.R_putg HO343.out (t347 : Int) (wrap64 ((rd y341 t347) + 1))) | ((with_reducible refine gate_store (t := 3) (p := 44) rfl ?_); refine store_event (t := 3) (p := 44) (v := ?vo_w34) (w1 := (w31.setCell ⟨go28, (t347 : Int).toNat, none⟩ (.int .i64 (wrap64 ((rd y341 t347) + 1))))) ?hg ?ho ?hn ?hr ?_; (case ho => rfl); (case hg => rfl); (case hn => rfl); (case hr => first | (go_simp; done) | (go_simp; rfl)); intro w34 hw; have hg : w31.grownBy w34 (some go28) := (by rw [hw]; exact HP33.2); have hp_ : Kd.R (Kd.int .i64) 3 w34 w.heap.size (fun _ => True) (.slice (some ⟨go28, 0, none⟩) y341.length co32) y351 := (by rw [hw, Ny351.out]; exact HP33.1); clear HP33; replace HO343 := Aside0.mk (hp_); replace HB := Aside0.mk ((by rw [hw]; exact below_set (HB.out) GB28.out : Below w.heap.size w w34)); clear hg hw hp_))
       go_ret
       exact ⟨_, qe, by (with_reducible repeat (first | apply Kd.R_alloc | apply Kd.R_drewN | apply Kd.R_drew)); exact HO343.out, qb⟩
      ·
       rw [if_neg c27] at H
       exact absurd H (by simp)
     ·
      rw [if_neg c26] at H
      exact absurd H (by simp)
    ·
     rw [if_neg c25] at H
     obtain ⟨c25b0, c25b1⟩ := qf c25
     by_cases c35 : t348 = 2
     ·
      rw [if_pos c35] at H
      obtain ⟨c35b0, c35b1⟩ := qt c35
      clear c35
      by_cases c36 : 0 ≤ t347
      ·
       rw [if_pos c36] at H
       have c36b0 : decide (0 ≤ t347) = true := decide_eq_true c36
       clear c36
       by_cases c37 : t347 < (y341.length : Int)
       ·
        rw [if_pos c37] at H
        have c37b0 : decide (t347 < (y341.length : Int)) = true := decide_eq_true c37
        clear c37
        obtain ⟨y353, hy353⟩ : ∃ y_ : List Int, y_ = (y341.set (t347 : Int).toNat (wrap64 ((rd y341 t347) - 1))) := ⟨_, rfl⟩
        replace H : (some y353) = some r := by first | (rw [hy353]; with_reducible exact H) | (have H2_ := (Option.bind_some _ _).symm.trans H; rw [hy353]; with_reducible exact H2_) | (have H2_ := (Option.bind_some _ _).symm.trans H; with_reducible exact H2_) | with_reducible exact H | (rw [hy353]; exact H) | exact H
        have Ny353 := Aside0.mk hy353
        clear hy353
        obtain rfl := Option.some.inj H
        go_enter Try.func33, Try.ntmps33
        go_wp2_with (first | ((with_reducible refine gate_dst (N := 11) rfl ?_); refine Kd.R_lit (Kd.int .i64) _ 3 ?hg (N := 11) ?hd (xs := ([] : List Int)) (inner := []) (ok := fun _ => True) (okp := fun _ => True) ?hr ?hp (fun _ hk => hk) trivial (Below.refl _ _) (Nat.le_refl _) (by simp) ?_; (case hd => rfl); (case hg => rfl); (case hr => first | (go_simp; done) | (go_simp; rfl)); (case hp => exact (Reps.none _ _)); intro v339 w39 ho40 hb hg_ hnew_; clear hg_ hnew_; (first | rw [← Ny338.out] at ho40 | (simp only [Int.reduceToNat] at ho40; rw [← Ny338.out] at ho40)); have HO340 := Aside0.mk (Kd.R_lower ho40 (below_size (qb))); replace HB := qS HB hb; clear hb ho40) | ((with_reducible refine gate_builtin (b := .append) (xs := #[.tmp 11, .tmp 12]) rfl ?_); at_builtin; refine Kd.R_append_rows (Kd.int .i64) (w0 := w) w.heap.size rfl (.tmp 11) (.tmp 12) 27 3 (.int .i64 0) 8 rfl Try.underlying27 info3 rfl (by decide) (by omega) v339 y338 l0 _ _ _ (fun _ => True) (fun _ => False) rfl rfl ?aO ?aR (fun _ _ h => h) (fun _ h => h.elim) ?aF ?aB ?aS ?aL ?_; (case aR => exact qC (Kd.C_below HR0.out HB.out)); (case aB => exact (qb)); (case aF => exact (fun _ _ => trivial)); (case aO => exact (qr HO340.out)); (case aS => exact (below_size (qb))); (case aL => have := LMc5.out; omega); intro v342 w41 ho hb hg hat; rw [← Ny341.out] at ho; have n0_ := Aside0.mk (hb); have n1_ := Aside0.mk (ho); clear HB; clear HO340; have HB := n0_; have HO343 := n1_; clear n0_ n1_; clear ho hb hg hat; obtain ⟨Ao42, co42, eo42⟩ := Kd.R_slice HO343.out; subst eo42) | ((with_reducible refine gate_callee (f := 68) rfl ?_); refine goesL_ (some 22) rfl rfl Try.func68 qq rfl #[.int .i64 a3, .int .i64 (y341.length : Int)] rfl qa ?_; (with_reducible refine (dialtoneref27_pick.calls a3 (y341.length : Int) t347 _ A13.out).mono ?_); rintro e w' ⟨rfl, ⟨nd, rfl⟩⟩; refine ⟨_, rfl, ?_⟩; (try (rw [drewN_self w41]; generalize hq_ : World.drewN w41 _ = w41; have n0_ : Aside0 (Kd.R (Kd.int .i64) 3 w41 w.heap.size (fun _ => True) (.slice Ao42 y341.length co42) y341) := ⟨by rw [← hq_]; exact (qr HO343.out)⟩; have n1_ : Aside0 (Below w.heap.size w w41) := ⟨by rw [← hq_]; exact (qb)⟩; clear HO343 HB hq_; have HO343 := n0_; have HB := n1_; clear n0_ n1_))) | ((with_reducible refine gate_callee (f := 68) rfl ?_); refine goesL_ (some 24) rfl rfl Try.func68 qq rfl #[.int .i64 a1, .int .i64 4] rfl qa ?_; (with_reducible refine (dialtoneref27_pick.calls a1 4 t348 _ A14.out).mono ?_); rintro e w' ⟨rfl, ⟨nd, rfl⟩⟩; refine ⟨_, rfl, ?_⟩; (try (rw [drewN_self w41]; generalize hq_ : World.drewN w41 _ = w41; have n0_ : Aside0 (Kd.R (Kd.int .i64) 3 w41 w.heap.size (fun _ => True) (.slice Ao42 y341.length co42) y341) := ⟨by rw [← hq_]; exact (qr HO343.out)⟩; have n1_ : Aside0 (Below w.heap.size w w41) := ⟨by rw [← hq_]; exact (qb)⟩; clear HO343 HB hq_; have HO343 := n0_; have HB := n1_; clear n0_ n1_)); have p352 : 0 ≤ (t347 : Int) := of_decide_eq_true (by first | (with_reducible assumption) | assumption); have q352 : t347 < (y341.length : Int) := of_decide_eq_true (by first | (with_reducible assumption) | assumption); obtain ⟨ad352, e352, hx352_0⟩ := Kd.at_int (Kd.R_reads' HO343.out).2.2 t347 p352 q352; cases e352; replace p352 := eq_true p352; replace q352 := eq_true q352; have p38 : 0 ≤ (t347 : Int) := of_decide_eq_true (by first | (with_reducible assumption) | assumption); have q38 : (t347 : Int) < ((y341.length : Int) : Int) := of_decide_eq_true (by first | (with_reducible assumption) | assumption); obtain ⟨go38, co38, eo38, gb38, gl38, cl38, HG38⟩ := Kd.R_form HO343.out (by omega); (first | cases eo38 | (injection eo38 with ea_ en_ ec_; (first | subst ea_ | (injection ea_ with ea_; subst ea_)); subst ec_; clear en_)); have GB38 := Aside0.mk gb38; have GG38 := Aside0.mk HG38; clear gb38 gl38 HG38; (first | simp only [add_plain] at hx352_0 | skip); obtain ⟨hx38_0, hf38_0⟩ := Kd.R_celln 0 HO343.out (t347 : Int) p38 q38; replace p38 := eq_true p38; replace q38 := eq_true q38; obtain ⟨hy43_, hz43_⟩ := Kd.R_celln 0 HO343.out (t347 : Int) (of_decide_eq_true (by first | (with_reducible assumption) | assumption)) (of_decide_eq_true (by first | (with_reducible assumption) | assumption)); have HP43 := Kd.R_putg HO343.out (t347 : Int) (wrap64 ((rd y341 t347) - 1))) | ((with_reducible refine gate_store (t := 3) (p := 54) rfl ?_); refine store_event (t := 3) (p := 54) (v := ?vo_w44) (w1 := (w41.setCell ⟨go38, (t347 : Int).toNat, none⟩ (.int .i64 (wrap64 ((rd y341 t347) - 1))))) ?hg ?ho ?hn ?hr ?_; (case ho => rfl); (case hg => rfl); (case hn => rfl); (case hr => first | (go_simp; done) | (go_simp; rfl)); intro w44 hw; have hg : w41.grownBy w44 (some go38) := (by rw [hw]; exact HP43.2); have hp_ : Kd.R (Kd.int .i64) 3 w44 w.heap.size (fun _ => True) (.slice (some ⟨go38, 0, none⟩) y341.length co42) y353 := (by rw [hw, Ny353.out]; exact HP43.1); clear HP43; replace HO343 := Aside0.mk (hp_); replace HB := Aside0.mk ((by rw [hw]; exact below_set (HB.out) GB38.out : Below w.heap.size w w44)); clear hg hw hp_))
        go_ret
        exact ⟨_, qe, by (with_reducible repeat (first | apply Kd.R_alloc | apply Kd.R_drewN | apply Kd.R_drew)); exact HO343.out, qb⟩
       ·
        rw [if_neg c37] at H
        exact absurd H (by simp)
      ·
       rw [if_neg c36] at H
       exact absurd H (by simp)
     ·
      rw [if_neg c35] at H
      obtain ⟨c35b0, c35b1⟩ := qf c35
      by_cases c45 : y341.length < 17592186044416
      ·
       rw [if_pos c45] at H
       have LMc45 := Aside0.mk c45
       clear c45
       obtain ⟨y354, hy354⟩ : ∃ y_ : List Int, y_ = (y341 ++ [a2]) := ⟨_, rfl⟩
       replace H : (some y354) = some r := by first | (rw [hy354]; with_reducible exact H) | (have H2_ := (Option.bind_some _ _).symm.trans H; rw [hy354]; with_reducible exact H2_) | (have H2_ := (Option.bind_some _ _).symm.trans H; with_reducible exact H2_) | with_reducible exact H | (rw [hy354]; exact H) | exact H
       have Ny354 := Aside0.mk hy354
       clear hy354
       obtain rfl := Option.some.inj H
       go_enter Try.func33, Try.ntmps33
       go_wp2_with (first | ((with_reducible refine gate_dst (N := 11) rfl ?_); refine Kd.R_lit (Kd.int .i64) _ 3 ?hg (N := 11) ?hd (xs := ([] : List Int)) (inner := []) (ok := fun _ => True) (okp := fun _ => True) ?hr ?hp (fun _ hk => hk) trivial (Below.refl _ _) (Nat.le_refl _) (by simp) ?_; (case hd => rfl); (case hg => rfl); (case hr => first | (go_simp; done) | (go_simp; rfl)); (case hp => exact (Reps.none _ _)); intro v339 w46 ho47 hb hg_ hnew_; clear hg_ hnew_; (first | rw [← Ny338.out] at ho47 | (simp only [Int.reduceToNat] at ho47; rw [← Ny338.out] at ho47)); have HO340 := Aside0.mk (Kd.R_lower ho47 (below_size (qb))); replace HB := qS HB hb; clear hb ho47) | ((with_reducible refine gate_builtin (b := .append) (xs := #[.tmp 11, .tmp 12]) rfl ?_); at_builtin; refine Kd.R_append_rows (Kd.int .i64) (w0 := w) w.heap.size rfl (.tmp 11) (.tmp 12) 27 3 (.int .i64 0) 8 rfl Try.underlying27 info3 rfl (by decide) (by omega) v339 y338 l0 _ _ _ (fun _ => True) (fun _ => False) rfl rfl ?aO ?aR (fun _ _ h => h) (fun _ h => h.elim) ?aF ?aB ?aS ?aL ?_; (case aR => exact qC (Kd.C_below HR0.out HB.out)); (case aB => exact (qb)); (case aF => exact (fun _ _ => trivial)); (case aO => exact (qr HO340.out)); (case aS => exact (below_size (qb))); (case aL => have := LMc5.out; omega); intro v342 w48 ho hb hg hat; rw [← Ny341.out] at ho; have n0_ := Aside0.mk (hb); have n1_ := Aside0.mk (ho); clear HB; clear HO340; have HB := n0_; have HO343 := n1_; clear n0_ n1_; clear ho hb hg hat; obtain ⟨Ao49, co49, eo49⟩ := Kd.R_slice HO343.out; subst eo49) | ((with_reducible refine gate_callee (f := 68) rfl ?_); refine goesL_ (some 22) rfl rfl Try.func68 qq rfl #[.int .i64 a3, .int .i64 (y341.length : Int)] rfl qa ?_; (with_reducible refine (dialtoneref27_pick.calls a3 (y341.length : Int) t347 _ A13.out).mono ?_); rintro e w' ⟨rfl, ⟨nd, rfl⟩⟩; refine ⟨_, rfl, ?_⟩) | ((with_reducible refine gate_callee (f := 68) rfl ?_); refine goesL_ (some 24) rfl rfl Try.func68 qq rfl #[.int .i64 a1, .int .i64 4] rfl qa ?_; (with_reducible refine (dialtoneref27_pick.calls a1 4 t348 _ A14.out).mono ?_); rintro e w' ⟨rfl, ⟨nd, rfl⟩⟩; refine ⟨_, rfl, ?_⟩) | ((with_reducible refine gate_builtin (b := .append) (xs := #[.tmp 25, .tmp 27]) rfl ?_); at_builtin; refine Kd.R_append (Kd.int .i64) (w0 := w) w.heap.size rfl (.tmp 25) (.tmp 27) 27 3 (.int .i64 0) 8 rfl Try.underlying27 info3 rfl (by decide) (by omega) (.slice Ao49 y341.length co49) y341 a2 [.int .i64 a2] (fun _ => True) (fun _ => False) rfl rfl ?aP (fun _ hk => hk.elim) ?aF ?aO ?aB ?aS ?aL ?_; (case aP => exact rfl); (case aB => exact (qb)); (case aF => exact (fun _ _ => trivial)); (case aO => exact (qr HO343.out)); (case aS => exact (below_size (qb))); (case aL => have := LMc45.out; omega); intro v355 w50 ho hb hg hat; rw [← Ny354.out] at ho; have n0_ := Aside0.mk (hb); have n1_ := Aside0.mk (ho); clear HB; clear HO343; have HB := n0_; have HO356 := n1_; clear n0_ n1_; clear ho hb hg hat))
       go_ret
       exact ⟨_, qe, by (with_reducible repeat (first | apply Kd.R_alloc | apply Kd.R_drewN | apply Kd.R_drew)); exact HO356.out, qb⟩
      ·
       rw [if_neg c45] at H
       exact absurd H (by simp)
 ·
  rw [if_neg c5] at H
  exact absurd H (by simp)

end Go.Proofs.Ytkkakdpncogpkaa.D
end
section
namespace Go.Proofs.Ytkkakdpncogpkaa.D
open Go.RowKit Go.Proofs.YtkkakdpncogpkaaW.PrintWords Go.Proofs.YtkkakdpncogpkaaW.PrintLast Go.Proofs.YtkkakdpncogpkaaW.PrintMore
attribute [local go_sem] max2_int min2_int max_two min_two max_three min_three max_four min_four   -- for this text's walks alone
set_option linter.unusedVariables false
set_option linter.unusedSimpArgs false

/-! ### dialtoneref27_Supplied: function 45 -/
def dialtoneref27_Supplied.l0 : Nat → List Int → List Int → Int → Int → Int → List (S72) → Option (List Int)
 | 0, _, _, _, _, _, _ => none
 | k + 1, x1, x5, x6, x7, x426000, x426001 => if (wrap64 (x7 + 1)) < x426000 then (if x7 < (x1.length : Int) then (if 0 ≤ x7 then ((dialtoneref27_pick.f (rd x1 x7) 25).bind fun t430 => (if x7 < (x5.length : Int) then ((some (x5.set (x7 : Int).toNat (wrap64 (t430 - 12)) : List Int)).bind fun y431 => (dialtoneref27_Supplied.l0 k x1 y431 (wrap64 (x6 + (rd y431 x7))) (wrap64 (x7 + 1)) x426000 x426001)) else (none))) else (none)) else (if 0 ≤ x7 then (if x7 < (x5.length : Int) then (dialtoneref27_Supplied.l0 k x1 x5 (wrap64 (x6 + (rd x5 x7))) (wrap64 (x7 + 1)) x426000 x426001) else (none)) else (none))) else (if x426000 > 0 then (if 0 ≤ (wrap64 (x426000 - 1)) then (if (wrap64 (x426000 - 1)) < (x5.length : Int) then (some (x5.set ((wrap64 (x426000 - 1)) : Int).toNat (wrap64 (-x6)))) else (none)) else (none)) else (some x5))
def dialtoneref27_Supplied.f (k : Nat) (a0_0 : Int) (l0_1 : List (S72)) (l1 : List Int) : Option (List Int) := if 0 ≤ a0_0 then (if (a0_0 : Int).toNat ≤ 35184372088832 then (dialtoneref27_Supplied.l0 k l1 (List.replicate (a0_0 : Int).toNat 0) 0 0 a0_0 l0_1) else (none)) else (none)
set_option maxHeartbeats 8000000 in
set_option maxRecDepth 100000 in
theorem dialtoneref27_Supplied.calls (k : Nat) (a0_0 : Int) (A0_1 : Option Addr) (c0_1 : Nat) (l0_1 : List (S72)) (A1 : Option Addr) (c1 : Nat) (l1 : List Int) (r : List Int) (w : World) (hr0_1 : Kd.C k72 w A0_1 l0_1.length l0_1) (hc0_1 : l0_1.length ≤ c0_1) (hr1 : Kd.C (Kd.int .i64) w A1 l1.length l1) (hc1 : l1.length ≤ c1) (h : dialtoneref27_Supplied.f k a0_0 l0_1 l1 = some r) :
  Calls Try.prog 45 #[.agg #[.int .i64 a0_0, .slice A0_1 l0_1.length c0_1], .slice A1 l1.length c1] w fun e w' => ∃ v0_ : Value, e = .returned (v0_) ∧ Kd.R (Kd.int .i64) 3 w' w.heap.size (fun _ => True) v0_ r ∧ Below w.heap.size w w' := by
 have hu26 := Try.underlying26
 have HR0_1 := Aside0.mk hr0_1
 have HC0_1 := Aside0.mk hc0_1
 clear hr0_1 hc0_1
 have HR1 := Aside0.mk hr1
 have HC1 := Aside0.mk hc1
 clear hr1 hc1
 have HB := Aside0.mk (Below.refl w.heap.size w)
 have H : (if 0 ≤ a0_0 then (if (a0_0 : Int).toNat ≤ 35184372088832 then (dialtoneref27_Supplied.l0 k l1 (List.replicate (a0_0 : Int).toNat 0) 0 0 a0_0 l0_1) else (none)) else (none)) = some r := h
 clear h
 by_cases c3 : 0 ≤ a0_0
 ·
  rw [if_pos c3] at H
  have c3b0 := eq_true c3
  have c3b1 : decide (0 ≤ a0_0) = true := decide_eq_true c3
  clear c3
  by_cases c4 : (a0_0 : Int).toNat ≤ 35184372088832
  ·
   rw [if_pos c4] at H
   have c4b0 := eq_true c4
   have c4b1 : decide ((a0_0 : Int).toNat ≤ 35184372088832) = true := decide_eq_true c4
   clear c4
   obtain ⟨y426, hy426⟩ : ∃ y_ : List Int, y_ = (List.replicate (a0_0 : Int).toNat 0) := ⟨_, rfl⟩
   replace H : (dialtoneref27_Supplied.l0 k l1 y426 0 0 a0_0 l0_1) = some r := by first | (rw [hy426]; with_reducible exact H) | (have H2_ := (Option.bind_some _ _).symm.trans H; rw [hy426]; with_reducible exact H2_) | (have H2_ := (Option.bind_some _ _).symm.trans H; with_reducible exact H2_) | with_reducible exact H | (rw [hy426]; exact H) | exact H
   have Ny426 := Aside0.mk hy426
   clear hy426
   have H' := Aside0.mk H
   clear H
   go_enter Try.func45, Try.ntmps45
   go_wp2_with (first | ((with_reducible refine gate_dst (N := 2) rfl ?_); refine box_event rfl (N := 2) rfl (cs := #[.int .i64 a0_0, .slice A0_1 l0_1.length c0_1]) (t := 26) qh ?_; intro gb425 hg w5 hbox hb; have BK425 := Aside0.mk (hbox); have GW425 := qg HB hg; have GE425 := qg HB hg; replace HB := qS HB hb; clear hb hbox hg; obtain ⟨hcz6_0, hcz6_1, hfz6_0, hfz6_1⟩ := qc2 BK425.out) | ((with_reducible refine gate_dst (N := 10) rfl ?_); refine Kd.R_make (Kd.int .i64) _ 3 rfl (N := 10) rfl 27 _ _ rfl a0_0 rfl rfl Try.underlying27 (.int .i64 0) 8 info3 rfl (by decide) (by omega) 0 (ok := fun _ => True) (okp := fun _ => True) rfl (fun _ hk => hk) trivial (of_decide_eq_true (by first | (with_reducible assumption) | assumption)) (Nat.le_trans (Nat.mul_le_mul_right _ (of_decide_eq_true (by first | (with_reducible assumption) | assumption) : a0_0.toNat ≤ 35184372088832)) (by omega)) (Below.refl _ _) (Nat.le_refl _) ?_; intro v427 w7 ho8 hb hg_ hnew_; clear hg_ hnew_; (first | rw [← Ny426.out] at ho8 | (simp only [Int.reduceToNat] at ho8; rw [← Ny426.out] at ho8)); have HO428 := Aside0.mk (Kd.R_lower ho8 (below_size (qb))); replace BK425 := qB BK425 hb; replace HB := qS HB hb; clear hb ho8))
   go_loopg [6, 7] k (fun kq v6 v7 w' => ∃ (x5_1 : List Int) (x6_1 : Int) (x7_1 : Int), v6 = .int .i64 x6_1 ∧ v7 = .int .i64 x7_1 ∧ Aside0 (dialtoneref27_Supplied.l0 kq l1 x5_1 x6_1 x7_1 a0_0 l0_1 = some r) ∧ Aside0 (kq ≤ k) ∧ Aside0 (Kd.R (Kd.int .i64) 3 w' w.heap.size (fun _ => True) v427 x5_1) ∧ Aside0 (w'.heap[gb425]? = some (.cells #[.int .i64 a0_0, (.slice A0_1 l0_1.length c0_1)] 26 (0, 0))) ∧ Aside0 (Below w.heap.size w w'))
   case atStart => exact ⟨(y426), (0), (0), (by first | rfl | (simp; done) | (simp [*]; done)), (by first | rfl | (simp; done) | (simp [*]; done)), H', ⟨Nat.le_refl _⟩, ⟨by (with_reducible repeat (first | apply Kd.R_alloc | apply Kd.R_drewN | apply Kd.R_drew)); exact HO428.out⟩, ⟨by (with_reducible repeat (first | refine blk_drewN ?_ _ | refine blk_drew ?_ | refine blk_alloc ?_ _)); exact BK425.out⟩, ⟨qb⟩⟩
   case round =>
    clear H'
    try clear c1
    try clear p2
    try clear c3
    try clear c3b0
    try clear c3b1
    try clear c4
    try clear c4b0
    try clear c4b1
    try clear hcz6_0
    try clear hcz6_1
    try clear hfz6_0
    try clear hfz6_1
    obtain ⟨x5_1, x6_1, x7_1, rfl, rfl, HA, HK1, HO_5, BK425, HB⟩ := hrel
    cases gk with
    | zero => exact absurd HA.out (by simp [dialtoneref27_Supplied.l0])
    | succ k1 =>
     have H := HA.out
     clear HA
     simp only [dialtoneref27_Supplied.l0] at H
     by_cases c9 : (wrap64 (x7_1 + 1)) < a0_0
     ·
      rw [if_pos c9] at H
      have c9b0 : decide ((wrap64 (x7_1 + 1)) < a0_0) = true := decide_eq_true c9
      clear c9
      by_cases c10 : x7_1 < (l1.length : Int)
      ·
       rw [if_pos c10] at H
       have c10b0 : decide (x7_1 < (l1.length : Int)) = true := decide_eq_true c10
       clear c10
       by_cases c11 : 0 ≤ x7_1
       ·
        rw [if_pos c11] at H
        have c11b0 : decide (0 ≤ x7_1) = true := decide_eq_true c11
        clear c11
        replace H := Option.bind_eq_some_iff.mp H
        obtain ⟨t430, A120, H⟩ := H
        (try dsimp only at H)
        have A12 := Aside0.mk A120
        clear A120
        by_cases c13 : x7_1 < (x5_1.length : Int)
        ·
         rw [if_pos c13] at H
         have c13b0 : decide (x7_1 < (x5_1.length : Int)) = true := decide_eq_true c13
         clear c13
         obtain ⟨y431, hy431⟩ : ∃ y_ : List Int, y_ = (x5_1.set (x7_1 : Int).toNat (wrap64 (t430 - 12))) := ⟨_, rfl⟩
         replace H : (dialtoneref27_Supplied.l0 k1 l1 y431 (wrap64 (x6_1 + (rd y431 x7_1))) (wrap64 (x7_1 + 1)) a0_0 l0_1) = some r := by first | (rw [hy431]; with_reducible exact H) | (have H2_ := (Option.bind_some _ _).symm.trans H; rw [hy431]; with_reducible exact H2_) | (have H2_ := (Option.bind_some _ _).symm.trans H; with_reducible exact H2_) | with_reducible exact H | (rw [hy431]; exact H) | exact H
         have Ny431 := Aside0.mk hy431
         clear hy431
         have H' := Aside0.mk H
         clear H
         obtain ⟨hcz15_0, hcz15_1, hfz15_0, hfz15_1⟩ := qc2 BK425.out
         have p429 : 0 ≤ (x7_1 : Int) := of_decide_eq_true (by first | (with_reducible assumption) | assumption)
         have q429 : x7_1 < (l1.length : Int) := of_decide_eq_true (by first | (with_reducible assumption) | assumption)
         obtain ⟨ad429, e429, hx429_0⟩ := Kd.at_int HR1.out x7_1 p429 q429
         cases e429
         replace hx429_0 := (HB.out.cell (World.block_lt_of_cell? w _ hx429_0)).trans hx429_0
         replace p429 := eq_true p429
         replace q429 := eq_true q429
         go_wp2_with (first | ((with_reducible refine gate_callee (f := 68) rfl ?_); refine goesL_ (some 28) rfl rfl Try.func68 qq rfl #[.int .i64 (rd l1 x7_1), .int .i64 25] rfl qa ?_; (with_reducible refine (dialtoneref27_pick.calls (rd l1 x7_1) 25 t430 _ A12.out).mono ?_); rintro e w' ⟨rfl, ⟨nd, rfl⟩⟩; refine ⟨_, rfl, ?_⟩; (try (rw [drewN_self wr]; generalize hq_ : World.drewN wr _ = wr; have n0_ : Aside0 (Kd.R (Kd.int .i64) 3 wr w.heap.size (fun _ => True) v427 x5_1) := ⟨by rw [← hq_]; exact (qr HO_5.out)⟩; have n1_ : Aside0 (wr.heap[gb425]? = some (.cells #[.int .i64 a0_0, .slice A0_1 l0_1.length c0_1] 26 (0, 0))) := ⟨by rw [← hq_]; exact (qk BK425.out)⟩; have n2_ : Aside0 (Below w.heap.size w wr) := ⟨by rw [← hq_]; exact (qb)⟩; clear HO_5 BK425 HB hq_; have HO_5 := n0_; have BK425 := n1_; have HB := n2_; clear n0_ n1_ n2_; have hcz16_0 : wr.cell? ⟨gb425, 0, none⟩ = some (.int .i64 a0_0) := (blk_cell BK425.out 0).trans rfl; have hfz16_0 := blk_frozen BK425.out 0; have hcz16_1 : wr.cell? ⟨gb425, 1, none⟩ = some (.slice A0_1 l0_1.length c0_1) := (blk_cell BK425.out 1).trans rfl; have hfz16_1 := blk_frozen BK425.out 1)); have p14 : 0 ≤ (x7_1 : Int) := of_decide_eq_true (by first | (with_reducible assumption) | assumption); have q14 : (x7_1 : Int) < ((x5_1.length : Int) : Int) := of_decide_eq_true (by first | (with_reducible assumption) | assumption); obtain ⟨go14, co14, eo14, gb14, gl14, cl14, HG14⟩ := Kd.R_form HO_5.out (by omega); (first | cases eo14 | (injection eo14 with ea_ en_ ec_; (first | subst ea_ | (injection ea_ with ea_; subst ea_)); subst ec_; clear en_)); have GB14 := Aside0.mk gb14; have GG14 := Aside0.mk HG14; clear gb14 gl14 HG14; obtain ⟨hx14_0, hf14_0⟩ := Kd.R_celln 0 HO_5.out (x7_1 : Int) p14 q14; replace p14 := eq_true p14; replace q14 := eq_true q14; obtain ⟨hy17_, hz17_⟩ := Kd.R_celln 0 HO_5.out (x7_1 : Int) (of_decide_eq_true (by first | (with_reducible assumption) | assumption)) (of_decide_eq_true (by first | (with_reducible assumption) | assumption)); have HP17 := Kd.R_putg HO_5.out (x7_1 : Int) (wrap64 (t430 - 12))) | ((with_reducible refine gate_store (t := 3) (p := 30) rfl ?_); refine store_event (t := 3) (p := 30) (v := ?vo_w18) (w1 := (wr.setCell ⟨go14, (x7_1 : Int).toNat, none⟩ (.int .i64 (wrap64 (t430 - 12))))) ?hg ?ho ?hn ?hr ?_; (case ho => rfl); (case hg => rfl); (case hn => rfl); (case hr => first | (go_simp; done) | (go_simp; rfl)); intro w18 hw; have hg : wr.grownBy w18 (some go14) := (by rw [hw]; exact HP17.2); have hp_ : Kd.R (Kd.int .i64) 3 w18 w.heap.size (fun _ => True) (.slice (some ⟨go14, 0, none⟩) x5_1.length co14) y431 := (by rw [hw, Ny431.out]; exact HP17.1); clear HP17; replace BK425 := Aside0.mk (blk_grown (g := gb425) (o := .cells #[.int .i64 a0_0, .slice A0_1 l0_1.length c0_1] 26 (0, 0)) (qk BK425.out) hg (Kd.R_ne HO_5.out BK425.out (by decide))); replace HO_5 := Aside0.mk (hp_); replace HB := Aside0.mk ((by rw [hw]; exact below_set (HB.out) GB14.out : Below w.heap.size w w18)); clear hg hw hp_; have p432 : 0 ≤ (x7_1 : Int) := of_decide_eq_true (by first | (with_reducible assumption) | assumption); have q432 : x7_1 < (y431.length : Int) := (by have h_ : (x7_1 : Int) < ((x5_1.length : Int) : Int) := of_decide_eq_true (by first | (with_reducible assumption) | assumption); first | (have e_ := (Kd.R_reads' HO_5.out).1; omega) | simpa only [Ny431.out, List.length_set] using h_); have ql432 : ((x7_1 : Int) < ((x5_1.length : Int) : Int)) = True := eq_true (of_decide_eq_true (by first | (with_reducible assumption) | assumption)); obtain ⟨ad432, e432, hx432_0⟩ := Kd.at_int (Kd.R_reads' HO_5.out).2.2 x7_1 p432 q432; obtain rfl : (⟨go14, 0, none⟩ : Addr) = ad432 := (by injection e432); (first | simp only [add_plain] at hx432_0 | simp only [add_at] at hx432_0 | simp only [Addr.add, Nat.zero_add] at hx432_0 | skip); replace p432 := eq_true p432; replace q432 := eq_true q432))
         go_roundg k1
         case measure => have := HK1.out; omega
         case rel => exact ⟨(y431), (wrap64 (x6_1 + (rd y431 x7_1))), (wrap64 (x7_1 + 1)), (by first | rfl | (simp; done) | (simp [*]; done)), (by first | rfl | (simp; done) | (simp [*]; done)), H', ⟨by have := HK1.out; omega⟩, ⟨by (with_reducible repeat (first | apply Kd.R_alloc | apply Kd.R_drewN | apply Kd.R_drew)); exact HO_5.out⟩, ⟨by (with_reducible repeat (first | refine blk_drewN ?_ _ | refine blk_drew ?_ | refine blk_alloc ?_ _)); exact BK425.out⟩, ⟨qb⟩⟩
        ·
         rw [if_neg c13] at H
         exact absurd H (by simp)
       ·
        rw [if_neg c11] at H
        exact absurd H (by simp)
      ·
       rw [if_neg c10] at H
       have c10b0 : decide (x7_1 < (l1.length : Int)) = false := decide_eq_false c10
       clear c10
       by_cases c19 : 0 ≤ x7_1
       ·
        rw [if_pos c19] at H
        have c19b0 : decide (0 ≤ x7_1) = true := decide_eq_true c19
        clear c19
        by_cases c20 : x7_1 < (x5_1.length : Int)
        ·
         rw [if_pos c20] at H
         have c20b0 : decide (x7_1 < (x5_1.length : Int)) = true := decide_eq_true c20
         clear c20
         have H' := Aside0.mk H
         clear H
         obtain ⟨hcz21_0, hcz21_1, hfz21_0, hfz21_1⟩ := qc2 BK425.out
         obtain ⟨Ao22, co22, eo22⟩ := Kd.R_slice HO_5.out
         subst eo22
         have p433 : 0 ≤ (x7_1 : Int) := of_decide_eq_true (by first | (with_reducible assumption) | assumption)
         have q433 : x7_1 < (x5_1.length : Int) := of_decide_eq_true (by first | (with_reducible assumption) | assumption)
         obtain ⟨ad433, e433, hx433_0⟩ := Kd.at_int (Kd.R_reads' HO_5.out).2.2 x7_1 p433 q433
         cases e433
         replace p433 := eq_true p433
         replace q433 := eq_true q433
         go_wp2
         go_roundg k1
         case measure => have := HK1.out; omega
         case rel => exact ⟨(x5_1), (wrap64 (x6_1 + (rd x5_1 x7_1))), (wrap64 (x7_1 + 1)), (by first | rfl | (simp; done) | (simp [*]; done)), (by first | rfl | (simp; done) | (simp [*]; done)), H', ⟨by have := HK1.out; omega⟩, ⟨by (with_reducible repeat (first | apply Kd.R_alloc | apply Kd.R_drewN | apply Kd.R_drew)); exact HO_5.out⟩, ⟨by (with_reducible repeat (first | refine blk_drewN ?_ _ | refine blk_drew ?_ | refine blk_alloc ?_ _)); exact BK425.out⟩, ⟨qb⟩⟩
        ·
         rw [if_neg c20] at H
         exact absurd H (by simp)
       ·
        rw [if_neg c19] at H
        exact absurd H (by simp)
     ·
      rw [if_neg c9] at H
      have c9b0 : decide ((wrap64 (x7_1 + 1)) < a0_0) = false := decide_eq_false c9
      clear c9
      by_cases c23 : a0_0 > 0
      ·
       rw [if_pos c23] at H
       have c23b0 : decide (0 < a0_0) = true := decide_eq_true c23
       clear c23
       obtain ⟨ji24, hji24⟩ : ∃ j_ : Int, (wrap64 (a0_0 - 1)) = j_ := ⟨_, rfl⟩
       replace H : (if 0 ≤ (ji24) then (if (ji24) < (x5_1.length : Int) then (some (x5_1.set ((ji24) : Int).toNat (wrap64 (-x6_1)))) else (none)) else (none)) = some r := by first | (rw [hji24] at H; exact H) | (simp only [hji24] at H ⊢; exact H)
       have hji24w : (IntKind.i64.wrap (a0_0 - 1)) = ji24 := (i64_w _).trans hji24
       by_cases c25 : 0 ≤ (ji24)
       ·
        rw [if_pos c25] at H
        have c25b0 : decide (0 ≤ (ji24)) = true := decide_eq_true c25
        clear c25
        by_cases c26 : (ji24) < (x5_1.length : Int)
        ·
         rw [if_pos c26] at H
         have c26b0 : decide ((ji24) < (x5_1.length : Int)) = true := decide_eq_true c26
         clear c26
         obtain ⟨y434, hy434⟩ : ∃ y_ : List Int, y_ = (x5_1.set ((ji24) : Int).toNat (wrap64 (-x6_1))) := ⟨_, rfl⟩
         replace H : (some y434) = some r := by first | (rw [hy434]; with_reducible exact H) | (have H2_ := (Option.bind_some _ _).symm.trans H; rw [hy434]; with_reducible exact H2_) | (have H2_ := (Option.bind_some _ _).symm.trans H; with_reducible exact H2_) | with_reducible exact H | (rw [hy434]; exact H) | exact H
         have Ny434 := Aside0.mk hy434
         clear hy434
         obtain rfl := Option.some.inj H
         obtain ⟨hcz28_0, hcz28_1, hfz28_0, hfz28_1⟩ := qc2 BK425.out
         have p27 : 0 ≤ ((ji24) : Int) := of_decide_eq_true (by first | (with_reducible assumption) | assumption)
         have q27 : ((ji24) : Int) < ((x5_1.length : Int) : Int) := of_decide_eq_true (by first | (with_reducible assumption) | assumption)
         obtain ⟨go27, co27, eo27, gb27, gl27, cl27, HG27⟩ := Kd.R_form HO_5.out (by omega)
         (first | cases eo27 | (injection eo27 with ea_ en_ ec_; (first | subst ea_ | (injection ea_ with ea_; subst ea_)); subst ec_; clear en_))
         have GB27 := Aside0.mk gb27
         have GG27 := Aside0.mk HG27
         clear gb27 gl27 HG27
         obtain ⟨hx27_0, hf27_0⟩ := Kd.R_celln 0 HO_5.out ((ji24) : Int) p27 q27
         replace p27 := eq_true p27
         replace q27 := eq_true q27
         have HP29 := Kd.R_putg HO_5.out ((ji24) : Int) (wrap64 (-x6_1))
         go_wp2_with (first | ((with_reducible refine gate_store (t := 3) (p := 46) rfl ?_); refine store_event (t := 3) (p := 46) (v := ?vo_w30) (w1 := (wr.setCell ⟨go27, ((ji24) : Int).toNat, none⟩ (.int .i64 (wrap64 (-x6_1))))) ?hg ?ho ?hn ?hr ?_; (case ho => rfl); (case hg => rfl); (case hn => rfl); (case hr => first | (go_simp; done) | (go_simp; rfl)); intro w30 hw; have hg : wr.grownBy w30 (some go27) := (by rw [hw]; exact HP29.2); have hp_ : Kd.R (Kd.int .i64) 3 w30 w.heap.size (fun _ => True) (.slice (some ⟨go27, 0, none⟩) x5_1.length co27) y434 := (by rw [hw, Ny434.out]; exact HP29.1); clear HP29; replace BK425 := Aside0.mk (blk_grown (g := gb425) (o := .cells #[.int .i64 a0_0, .slice A0_1 l0_1.length c0_1] 26 (0, 0)) (qk BK425.out) hg (Kd.R_ne HO_5.out BK425.out (by decide))); replace HO_5 := Aside0.mk (hp_); replace HB := Aside0.mk ((by rw [hw]; exact below_set (HB.out) GB27.out : Below w.heap.size w w30)); clear hg hw hp_))
         go_ret
         exact ⟨_, by first | rfl | (simp [errW_none, errW_some] <;> rfl) | (simp only [← hji24]; first | rfl | (simp [errW_none, errW_some] <;> rfl)) | (simp [*, errW_none, errW_some] <;> rfl), by (with_reducible repeat (first | apply Kd.R_alloc | apply Kd.R_drewN | apply Kd.R_drew)); exact HO_5.out, qb⟩
        ·
         rw [if_neg c26] at H
         exact absurd H (by simp)
       ·
        rw [if_neg c25] at H
        exact absurd H (by simp)
      ·
       rw [if_neg c23] at H
       have c23b0 : decide (0 < a0_0) = false := decide_eq_false c23
       clear c23
       obtain rfl := Option.some.inj H
       obtain ⟨hcz31_0, hcz31_1, hfz31_0, hfz31_1⟩ := qc2 BK425.out
       go_wp2
       go_ret
       exact ⟨_, qe, by (with_reducible repeat (first | apply Kd.R_alloc | apply Kd.R_drewN | apply Kd.R_drew)); exact HO_5.out, qb⟩
  ·
   rw [if_neg c4] at H
   exact absurd H (by simp)
 ·
  rw [if_neg c3] at H
  exact absurd H (by simp)

end Go.Proofs.Ytkkakdpncogpkaa.D
end
section
namespace Go.Proofs.Ytkkakdpncogpkaa.D
open Go.RowKit Go.Proofs.YtkkakdpncogpkaaW.PrintWords Go.Proofs.YtkkakdpncogpkaaW.PrintLast Go.Proofs.YtkkakdpncogpkaaW.PrintMore
attribute [local go_sem] max2_int min2_int max_two min_two max_three min_three max_four min_four   -- for this text's walks alone
set_option linter.unusedVariables false
set_option linter.unusedSimpArgs false

/-! ### dialtonelaw27_FlowMeets: function 11 -/
def dialtonelaw27_FlowMeets.l0 : Nat → List Int → List Int → Int → Int → Int → Int → Int → List (S72) → Option (Bool)
 | 0, _, _, _, _, _, _, _, _ => none
 | k + 1, x12, x16, x17, x973000, x973001, x973002, x979000, x979001 => if (wrap64 (x17 + 1)) < x979000 then (if 0 ≤ x17 then (if x17 < (x12.length : Int) then (if x17 < (x16.length : Int) then ((some (x16.set (x17 : Int).toNat (wrap64 (Int.tdiv (rd x12 x17) 2)) : List Int)).bind fun y996 => (if 0 ≤ (wrap64 (x979000 - 1)) then (if (wrap64 (x979000 - 1)) < (x16.length : Int) then (dialtonelaw27_FlowMeets.l0 k x12 (y996.set ((wrap64 (x979000 - 1)) : Int).toNat (wrap64 ((rd y996 (wrap64 (x979000 - 1))) - (rd y996 x17)))) (wrap64 (x17 + 1)) x973000 x973001 x973002 x979000 x979001) else (none)) else (none))) else (none)) else (none)) else (none)) else ((flow_Meet.f x979000 x979001 x16).bind fun bt1000 => (if bt1000.2.2.2 = 0 then ((flow_CheckMeet.f k x979000 x979001 x16 bt1000.1 bt1000.2.1 bt1000.2.2.1).bind fun t1007 => (if t1007 = true then ((flow_CheckMeet.f k x979000 x979001 x12 true bt1000.2.1 0).bind fun t1008 => (if t1008 = true then (none) else ((dialtoneref27_BentList.f bt1000.2.1 x973000 x973001 x973002).bind fun t1009 => ((flow_CheckMeet.f k x979000 x979001 x12 true t1009 0).bind fun t1012 => (if t1012 = true then (none) else (some (!t1012))))))) else (none))) else (none)))
def dialtonelaw27_FlowMeets.f (k : Nat) (a0 : Int) (l1 : List (S23)) (l2 : List Int) (a3 : Int) (a4_0 : Int) (a4_1 : Int) (a4_2 : Int) : Option (Bool) := (dialtonelaw27_sane.f k).bind fun t973 => (if t973 = true then ((dialtoneref27_Made.f k a0 l1).bind fun bt974 => ((dialtoneref27_Supplied.f k bt974.1 bt974.2 l2).bind fun t979 => ((flow_Meet.f bt974.1 bt974.2 t979).bind fun bt982 => (if bt982.2.2.2 = 0 then ((flow_CheckMeet.f k bt974.1 bt974.2 t979 bt982.1 bt982.2.1 bt982.2.2.1).bind fun t989 => (if t989 = true then (if 0 ≤ bt974.1 then ((dialtonelaw27_pick.f a3 (shl .i64 1 bt974.1)).bind fun t990 => ((flow_CheckMeet.f k bt974.1 bt974.2 t979 false ([] : List Int) t990).bind fun t991 => (if bt982.1 = true then (some (!t991)) else (if (bt974.1 : Int).toNat ≤ 35184372088832 then (dialtonelaw27_FlowMeets.l0 k t979 (List.replicate (bt974.1 : Int).toNat 0) 0 a4_0 a4_1 a4_2 bt974.1 bt974.2) else (none))))) else (none)) else (none))) else (none))))) else (none))
def dialtonelaw27_FlowMeets.T8 : Bool × List (List Nat × List Nat) := (true, [([], []), ([], []), ([], []), ([], []), ([3], [3]), ([4], [4]), ([2, 5], [2, 5]), ([6], [6]), ([0, 1, 7, 6], [0, 1, 7]), ([8, 8, 0, 1, 2, 3, 4, 5, 6, 7, 8], [8])])
def dialtonelaw27_FlowMeets.B8 : List Nat := [0, 0, 0, 0, 8, 24, 60, 124, 255, 511]
theorem dialtonelaw27_FlowMeets.tab8 : rtab .any (opsOf Try.f11 8) = dialtonelaw27_FlowMeets.T8 := by kernel_rfl
theorem dialtonelaw27_FlowMeets.bits8 : waitsOk dialtonelaw27_FlowMeets.T8.2 dialtonelaw27_FlowMeets.B8 = true := by kernel_rfl
def dialtonelaw27_FlowMeets.T16 : Bool × List (List Nat × List Nat) := (true, [([], []), ([], []), ([1], [1]), ([2], [2]), ([], []), ([], []), ([5], [5]), ([6], [6]), ([4, 7], [4, 7]), ([8], [8]), ([], []), ([], []), ([10, 11], [10, 11]), ([12], [12]), ([9, 13], [9, 13]), ([0, 3, 0, 1, 2, 3, 4, 5, 6, 7, 8, 9, 10, 11, 12, 13, 14], [0, 3]), ([15, 14, 0, 1, 2, 3, 4, 5, 6, 7, 8, 9, 10, 11, 12, 13, 14], [14, 15])])
def dialtonelaw27_FlowMeets.B16 : List Nat := [0, 0, 2, 6, 0, 0, 32, 96, 240, 496, 0, 0, 3072, 7168, 16368, 32767, 65535]
theorem dialtonelaw27_FlowMeets.tab16 : rtab .any (opsOf Try.f11 16) = dialtonelaw27_FlowMeets.T16 := by kernel_rfl
theorem dialtonelaw27_FlowMeets.bits16 : waitsOk dialtonelaw27_FlowMeets.T16.2 dialtonelaw27_FlowMeets.B16 = true := by kernel_rfl
def dialtonelaw27_FlowMeets.T20 : Bool × List (List Nat × List Nat) := (true, [([], []), ([], []), ([], []), ([2], [2]), ([3], [3]), ([0, 1, 4], [0, 1, 4]), ([5], [5]), ([6, 5], [6]), ([7], [7]), ([7], [7]), ([7], [7]), ([10, 7], [7, 10]), ([7], [7]), ([12, 7], [7, 12]), ([7], [7]), ([14, 7], [7, 14]), ([7], [7]), ([16, 7], [7, 16]), ([11, 13, 15, 17, 7, 7], [7, 11, 13, 15, 17]), ([18, 7], [7, 18]), ([8, 9, 19, 18, 7], [7, 8, 9, 19]), ([20, 7], [7, 20]), ([7, 21], [7, 21]), ([22, 20, 0, 1, 2, 3, 4, 5, 6, 7, 8, 9, 10, 11, 12, 13, 14, 15, 16, 17, 18, 19, 20, 21, 22], [22])])
def dialtonelaw27_FlowMeets.B20 : List Nat := [0, 0, 0, 4, 12, 31, 63, 127, 255, 255, 255, 1279, 255, 4351, 255, 16639, 255, 65791, 261375, 523519, 1048575, 2097151, 4194303, 8388607]
theorem dialtonelaw27_FlowMeets.tab20 : rtab .any (opsOf Try.f11 20) = dialtonelaw27_FlowMeets.T20 := by kernel_rfl
theorem dialtonelaw27_FlowMeets.bits20 : waitsOk dialtonelaw27_FlowMeets.T20.2 dialtonelaw27_FlowMeets.B20 = true := by kernel_rfl
set_option maxHeartbeats 8000000 in
set_option maxRecDepth 100000 in
theorem dialtonelaw27_FlowMeets.calls (k : Nat) (a0 : Int) (A1 : Option Addr) (c1 : Nat) (l1 : List (S23)) (A2 : Option Addr) (c2 : Nat) (l2 : List Int) (a3 : Int) (a4_0 : Int) (a4_1 : Int) (a4_2 : Int) (r : Bool) (w : World) (hr1 : Kd.C k23 w A1 l1.length l1) (hc1 : l1.length ≤ c1) (hr2 : Kd.C (Kd.int .i64) w A2 l2.length l2) (hc2 : l2.length ≤ c2) (h : dialtonelaw27_FlowMeets.f k a0 l1 l2 a3 a4_0 a4_1 a4_2 = some r) :
  Calls Try.prog 11 #[.int .i64 a0, .slice A1 l1.length c1, .slice A2 l2.length c2, .int .i64 a3, .agg #[.int .i64 a4_0, .int .i64 a4_1, .int .i64 a4_2]] w fun e w' => e = .returned (.bool r) ∧ Below w.heap.size w w' := by
 have hu23 := Try.underlying23
 have hu26 := Try.underlying26
 have hu55 := Try.underlying55
 have HR1 := Aside0.mk hr1
 have HC1 := Aside0.mk hc1
 clear hr1 hc1
 have HR2 := Aside0.mk hr2
 have HC2 := Aside0.mk hc2
 clear hr2 hc2
 have HB := Aside0.mk (Below.refl w.heap.size w)
 have H : ((dialtonelaw27_sane.f k).bind fun t973 => (if t973 = true then ((dialtoneref27_Made.f k a0 l1).bind fun bt974 => ((dialtoneref27_Supplied.f k bt974.1 bt974.2 l2).bind fun t979 => ((flow_Meet.f bt974.1 bt974.2 t979).bind fun bt982 => (if bt982.2.2.2 = 0 then ((flow_CheckMeet.f k bt974.1 bt974.2 t979 bt982.1 bt982.2.1 bt982.2.2.1).bind fun t989 => (if t989 = true then (if 0 ≤ bt974.1 then ((dialtonelaw27_pick.f a3 (shl .i64 1 bt974.1)).bind fun t990 => ((flow_CheckMeet.f k bt974.1 bt974.2 t979 false ([] : List Int) t990).bind fun t991 => (if bt982.1 = true then (some (!t991)) else (if (bt974.1 : Int).toNat ≤ 35184372088832 then (dialtonelaw27_FlowMeets.l0 k t979 (List.replicate (bt974.1 : Int).toNat 0) 0 a4_0 a4_1 a4_2 bt974.1 bt974.2) else (none))))) else (none)) else (none))) else (none))))) else (none))) = some r := h
 clear h
 replace H := Option.bind_eq_some_iff.mp H
 obtain ⟨t973, A60, H⟩ := H
 (try dsimp only at H)
 have A6 := Aside0.mk A60
 clear A60
 by_cases c7 : t973 = true
 ·
  subst c7
  rw [if_pos rfl] at H
  replace H := Option.bind_eq_some_iff.mp H
  obtain ⟨⟨t974, t975⟩, A80, H⟩ := H
  (try dsimp only at H)
  have A8 := Aside0.mk A80
  clear A80
  replace H := Option.bind_eq_some_iff.mp H
  obtain ⟨t979, A90, H⟩ := H
  (try dsimp only at H)
  have A9 := Aside0.mk A90
  clear A90
  replace H := Option.bind_eq_some_iff.mp H
  obtain ⟨⟨t982, t983, t986, t987⟩, A100, H⟩ := H
  (try dsimp only at H)
  have A10 := Aside0.mk A100
  clear A100
  by_cases c11 : t987 = 0
  ·
   rw [if_pos c11] at H
   obtain ⟨c11b0, c11b1⟩ := qt c11
   clear c11
   replace H := Option.bind_eq_some_iff.mp H
   obtain ⟨t989, A120, H⟩ := H
   (try dsimp only at H)
   have A12 := Aside0.mk A120
   clear A120
   by_cases c13 : t989 = true
   ·
    subst c13
    rw [if_pos rfl] at H
    by_cases c14 : 0 ≤ t974
    ·
     rw [if_pos c14] at H
     have c14b0 := eq_true c14
     have c14b1 : decide (0 ≤ t974) = true := decide_eq_true c14
     clear c14
     obtain ⟨ji15, hji15⟩ : ∃ j_ : Int, (shl .i64 1 t974) = j_ := ⟨_, rfl⟩
     replace H : ((dialtonelaw27_pick.f a3 (ji15)).bind fun t990 => ((flow_CheckMeet.f k t974 t975 t979 false ([] : List Int) t990).bind fun t991 => (if t982 = true then (some (!t991)) else (if (t974 : Int).toNat ≤ 35184372088832 then (dialtonelaw27_FlowMeets.l0 k t979 (List.replicate (t974 : Int).toNat 0) 0 a4_0 a4_1 a4_2 t974 t975) else (none))))) = some r := by first | (rw [hji15] at H; exact H) | (simp only [hji15] at H ⊢; exact H)
     (try rw [hji15] at A6)
     (try rw [hji15] at A8)
     (try rw [hji15] at A9)
     (try rw [hji15] at A10)
     (try rw [hji15] at A12)
     have hji15_ : (IntKind.i64.wrap (1 * 2 ^ min t974.toNat 64)) = ji15 := hji15
     have hji15z : t974 ≤ 64 → (IntKind.i64.wrap (1 * 2 ^ t974.toNat)) = ji15 := shl_small hji15
     have hji15u : (IntKind.i64.wrap (2 ^ min t974.toNat 64)) = ji15 := by have h_ := hji15_; rw [Int.one_mul] at h_; exact h_
     have hji15v : t974 ≤ 64 → (IntKind.i64.wrap (2 ^ t974.toNat)) = ji15 := fun hle_ => by have h_ := hji15z hle_; rw [Int.one_mul] at h_; exact h_
     have hji15y : (wrap64 (1 * 2 ^ min t974.toNat 64)) = ji15 := (i64_w _).symm.trans hji15_
     have hji15x : t974 ≤ 64 → (wrap64 (1 * 2 ^ t974.toNat)) = ji15 := fun h_ => (i64_w _).symm.trans (hji15z h_)
     replace H := Option.bind_eq_some_iff.mp H
     obtain ⟨t990, A160, H⟩ := H
     (try dsimp only at H)
     have A16 := Aside0.mk A160
     clear A160
     replace H := Option.bind_eq_some_iff.mp H
     obtain ⟨t991, A170, H⟩ := H
     (try dsimp only at H)
     have A17 := Aside0.mk A170
     clear A170
     by_cases c18 : t982 = true
     ·
      subst c18
      rw [if_pos rfl] at H
      obtain rfl := Option.some.inj H
      go_enter Try.func11, Try.ntmps11
      try go_wp2_with (first | ((with_reducible refine gate_dst (N := 9) rfl ?_); refine box_event rfl (N := 9) rfl (cs := #[.int .i64 a4_0, .int .i64 a4_1, .int .i64 a4_2]) (t := 23) qh ?_; intro gb972 hg w19 hbox hb; have BK972 := Aside0.mk (hbox); have GW972 := qg HB hg; have GE972 := qg HB hg; replace HB := qS HB hb; clear hb hbox hg) | ((with_reducible refine gate_callee (f := 22) rfl ?_); refine goesL_ (some 20) rfl rfl Try.func22 qq rfl #[] rfl qa ?_; (with_reducible refine (dialtonelaw27_sane.calls k  true _ A6.out).mono ?_); rintro e w20 ⟨rfl, hb⟩; refine ⟨_, rfl, ?_⟩; replace BK972 := qB BK972 hb; replace HB := qS HB hb; (try clear hb); (try clear hb2); (try clear hk); (try clear hi)) | ((with_reducible refine gate_callee (f := 23) rfl ?_); refine goesL_ (some 24) rfl rfl Try.func23 qq rfl #[.int .i64 a0, .slice A1 l1.length c1] rfl qa ?_; (with_reducible refine (dialtoneref27_Made.calls k a0 _ _ l1 t974 t975 _ ?side1 ?side2 A8.out).mono ?_); (case side1 => exact qC (Kd.C_below HR1.out HB.out)); (case side2 => exact HC1.out); rintro e w21 ⟨v976, rfl, ho0, hb⟩; refine ⟨_, rfl, ?_⟩; have HO977 := qL HB ho0; replace BK972 := qB BK972 hb; replace HB := qS HB hb; (try clear hb); (try clear hb2); (try clear hk); (try clear hi); (try clear ho0)) | ((with_reducible refine gate_dst (N := 11) rfl ?_); refine box_event rfl (N := 11) rfl (cs := #[.int .i64 0, .slice none 0 0]) (t := 26) qh ?_; intro gb978 hg w22 hbox hb; replace HO977 := qR HO977 hb; have BK978 := Aside0.mk (hbox); have GW978 := qg HB hg; have GE978 := qg HB hg; replace HB := qS HB hb; have NB972_978 := qn BK972 hg; have NB978_972 := qm BK972 hg; replace BK972 := qB BK972 hb; clear hb hbox hg; have hnb23 := NB978_972.out; have hnc23 := NB972_978.out; obtain ⟨hcz24_0, hcz24_1, hfz24_0, hfz24_1⟩ := qc2 BK978.out; obtain ⟨Ao25, co25, eo25⟩ := Kd.R_slice HO977.out; subst eo25) | ((with_reducible refine gate_callee (f := 45) rfl ?_); refine goesL_ (some 27) rfl rfl Try.func45 qq rfl #[.agg #[.int .i64 t974, .slice Ao25 t975.length co25], .slice A2 l2.length c2] rfl qa ?_; (with_reducible refine (dialtoneref27_Supplied.calls k t974 _ _ t975 _ _ l2 t979 _ ?side1 ?side2 ?side3 ?side4 A9.out).mono ?_); (case side1 => refine (Kd.R_reads' (e := 72) (base := w.heap.size) (ok := fun k_ => True) (n := t975.length) (c := co25) ?_).2.2; exact (qr (Kd.R_mono (Kd.R_far (p := ⟨gb978, 1, none⟩) (Kd.R_far (p := ⟨gb978, 0, none⟩) (Kd.R_types HO977.out BK978.out (by decide)) (fun _ hk => hk.2) (.int .i64 t974)) (fun _ hk => hk.2) (.slice Ao25 t975.length co25)) (fun _ h_ => h_.1)))); (case side2 => exact (Kd.R_reads' HO977.out).2.1); (case side3 => exact Kd.C_below HR2.out (qb)); (case side4 => exact HC2.out); rintro e w26 ⟨v980, rfl, ho0, hb⟩; refine ⟨_, rfl, ?_⟩; replace HO977 := Aside0.mk (Kd.R_below (qr (Kd.R_mono (Kd.R_far (p := ⟨gb978, 1, none⟩) (Kd.R_far (p := ⟨gb978, 0, none⟩) (Kd.R_types HO977.out BK978.out (by decide)) (fun _ hk => hk.2) (.int .i64 t974)) (fun _ hk => hk.2) (.slice Ao25 t975.length co25)) (fun _ h_ => h_.1))) hb); have HO981 := qL HB ho0; replace BK972 := Aside0.mk (blk_below (g := gb972) (o := .cells #[.int .i64 a4_0, .int .i64 a4_1, .int .i64 a4_2] 23 (0, 0)) (by (with_reducible repeat (first | refine blk_drewN ?_ _ | refine blk_drew ?_ | refine blk_alloc ?_ _)); refine blk_far ?_ NB972_978.out _; (with_reducible repeat (first | refine blk_drewN ?_ _ | refine blk_drew ?_ | refine blk_alloc ?_ _)); refine blk_far ?_ NB972_978.out _; (with_reducible repeat (first | refine blk_drewN ?_ _ | refine blk_drew ?_ | refine blk_alloc ?_ _)); exact BK972.out) hb); replace BK978 := Aside0.mk (blk_below (g := gb978) (o := .cells #[.int .i64 t974, .slice Ao25 t975.length co25] 26 (0, 0)) (by (with_reducible repeat (first | refine blk_drewN ?_ _ | refine blk_drew ?_ | refine blk_alloc ?_ _)); refine blk_put (cs := #[.int .i64 t974, .slice none 0 0]) ?_ 1 _ rfl; (with_reducible repeat (first | refine blk_drewN ?_ _ | refine blk_drew ?_ | refine blk_alloc ?_ _)); refine blk_put (cs := #[.int .i64 0, .slice none 0 0]) ?_ 0 _ rfl; (with_reducible repeat (first | refine blk_drewN ?_ _ | refine blk_drew ?_ | refine blk_alloc ?_ _)); exact BK978.out) hb); replace HB := qS HB hb; (try clear hb); (try clear hb2); (try clear hk); (try clear hi); (try clear ho0); obtain ⟨hcz27_0, hcz27_1, hfz27_0, hfz27_1⟩ := qc2 BK978.out; obtain ⟨Ao28, co28, eo28⟩ := Kd.R_slice HO981.out; subst eo28) | ((with_reducible refine gate_callee (f := 46) rfl ?_); refine goesL_ (some 31) rfl rfl Try.func46 qq rfl #[.agg #[.int .i64 t974, .slice Ao25 t975.length co25], .slice Ao28 t979.length co28] rfl qa ?_; (with_reducible refine (flow_Meet.calls t974 _ _ t975 _ _ t979 true t983 t986 t987 _ ?side1 ?side2 ?side3 ?side4 A10.out).mono ?_); (case side1 => exact qC (Kd.R_reads' HO977.out).2.2); (case side2 => exact (Kd.R_reads' HO977.out).2.1); (case side3 => exact qC (Kd.R_reads' HO981.out).2.2); (case side4 => exact (Kd.R_reads' HO981.out).2.1); rintro e w29 ⟨v984, rfl, ho0, hb⟩; refine ⟨_, rfl, ?_⟩; replace HO977 := qR HO977 hb; have HO985 := Aside0.mk (Kd.R_lower (Kd.R_new' ho0 (Kd.R_lt (qr HO981.out))) (below_size (qb))); replace HO981 := Aside0.mk (Kd.R_elder' (qr HO981.out) (Kd.R_base ho0) hb); replace BK972 := qB BK972 hb; replace BK978 := qB BK978 hb; replace HB := qS HB hb; (try clear hb); (try clear hb2); (try clear hk); (try clear hi); (try clear ho0)) | ((with_reducible refine gate_dst (N := 13) rfl ?_); refine box_event rfl (N := 13) rfl (cs := #[.bool false, .slice none 0 0, .int .i64 0]) (t := 55) qh ?_; intro gb988 hg w30 hbox hb; replace HO977 := qR HO977 hb; replace HO981 := qR HO981 hb; replace HO985 := qR HO985 hb; have BK988 := Aside0.mk (hbox); have GW988 := qg HB hg; have GE988 := qg HB hg; replace HB := qS HB hb; have NB972_988 := qn BK972 hg; have NB988_972 := qm BK972 hg; replace BK972 := qB BK972 hb; have NB978_988 := qn BK978 hg; have NB988_978 := qm BK978 hg; replace BK978 := qB BK978 hb; clear hb hbox hg; have hnb31 := NB988_972.out; have hnc31 := NB972_988.out; have hnb32 := NB988_978.out; have hnc32 := NB978_988.out; obtain ⟨hcz33_0, hcz33_1, hcz33_2, hfz33_0, hfz33_1, hfz33_2⟩ := qc3 BK988.out; obtain ⟨Ao34, co34, eo34⟩ := Kd.R_slice HO985.out; subst eo34; obtain ⟨hcz35_0, hcz35_1, hfz35_0, hfz35_1⟩ := qc2 BK978.out) | (go_at_call 49; (with_reducible refine (flow_CheckMeet.calls k t974 _ _ t975 _ _ t979 true _ _ t983 t986 true _ ?side1 ?side2 ?side3 ?side4 ?side5 ?side6 A12.out).mono ?_); (case side1 => refine (Kd.R_reads' (e := 72) (base := w.heap.size) (ok := fun k_ => True) (n := t975.length) (c := co25) ?_).2.2; exact (qr (Kd.R_mono (Kd.R_far (p := ⟨gb988, 2, none⟩) (Kd.R_far (p := ⟨gb988, 1, none⟩) (Kd.R_far (p := ⟨gb988, 0, none⟩) (Kd.R_types HO977.out BK988.out (by decide)) (fun _ hk => hk.2) (.bool true)) (fun _ hk => hk.2) (.slice Ao34 t983.length co34)) (fun _ hk => hk.2) (.int .i64 t986)) (fun _ h_ => h_.1)))); (case side2 => exact (Kd.R_reads' HO977.out).2.1); (case side3 => refine (Kd.R_reads' (e := 3) (base := w.heap.size) (ok := fun k_ => (True ∧ some k_ ≠ (.slice Ao34 t983.length co34 : Value).ownBlock)) (n := t979.length) (c := co28) ?_).2.2; exact (qr (Kd.R_mono (Kd.R_far (p := ⟨gb988, 2, none⟩) (Kd.R_far (p := ⟨gb988, 1, none⟩) (Kd.R_far (p := ⟨gb988, 0, none⟩) (Kd.R_types HO981.out BK988.out (by decide)) (fun _ hk => hk.2) (.bool true)) (fun _ hk => hk.2) (.slice Ao34 t983.length co34)) (fun _ hk => hk.2) (.int .i64 t986)) (fun _ h_ => h_.1)))); (case side4 => exact (Kd.R_reads' HO981.out).2.1); (case side5 => refine (Kd.R_reads' (e := 3) (base := w.heap.size) (ok := fun k_ => (True ∧ some k_ ≠ (.slice Ao28 t979.length co28 : Value).ownBlock)) (n := t983.length) (c := co34) ?_).2.2; exact (qr (Kd.R_mono (Kd.R_far (p := ⟨gb988, 2, none⟩) (Kd.R_far (p := ⟨gb988, 1, none⟩) (Kd.R_far (p := ⟨gb988, 0, none⟩) (Kd.R_types HO985.out BK988.out (by decide)) (fun _ hk => hk.2) (.bool true)) (fun _ hk => hk.2) (.slice Ao34 t983.length co34)) (fun _ hk => hk.2) (.int .i64 t986)) (fun _ h_ => h_.1)))); (case side6 => exact (Kd.R_reads' HO985.out).2.1); rintro e w36 ⟨rfl, hb⟩; replace HO977 := Aside0.mk (Kd.R_below (qr (Kd.R_mono (Kd.R_far (p := ⟨gb988, 2, none⟩) (Kd.R_far (p := ⟨gb988, 1, none⟩) (Kd.R_far (p := ⟨gb988, 0, none⟩) (Kd.R_types HO977.out BK988.out (by decide)) (fun _ hk => hk.2) (.bool true)) (fun _ hk => hk.2) (.slice Ao34 t983.length co34)) (fun _ hk => hk.2) (.int .i64 t986)) (fun _ h_ => h_.1))) hb); replace HO981 := Aside0.mk (Kd.R_below (qr (Kd.R_mono (Kd.R_far (p := ⟨gb988, 2, none⟩) (Kd.R_far (p := ⟨gb988, 1, none⟩) (Kd.R_far (p := ⟨gb988, 0, none⟩) (Kd.R_types HO981.out BK988.out (by decide)) (fun _ hk => hk.2) (.bool true)) (fun _ hk => hk.2) (.slice Ao34 t983.length co34)) (fun _ hk => hk.2) (.int .i64 t986)) (fun _ h_ => h_.1))) hb); replace HO985 := Aside0.mk (Kd.R_below (qr (Kd.R_mono (Kd.R_far (p := ⟨gb988, 2, none⟩) (Kd.R_far (p := ⟨gb988, 1, none⟩) (Kd.R_far (p := ⟨gb988, 0, none⟩) (Kd.R_types HO985.out BK988.out (by decide)) (fun _ hk => hk.2) (.bool true)) (fun _ hk => hk.2) (.slice Ao34 t983.length co34)) (fun _ hk => hk.2) (.int .i64 t986)) (fun _ h_ => h_.1))) hb); replace BK972 := Aside0.mk (blk_below (g := gb972) (o := .cells #[.int .i64 a4_0, .int .i64 a4_1, .int .i64 a4_2] 23 (0, 0)) (by (with_reducible repeat (first | refine blk_drewN ?_ _ | refine blk_drew ?_ | refine blk_alloc ?_ _)); refine blk_far ?_ NB972_988.out _; (with_reducible repeat (first | refine blk_drewN ?_ _ | refine blk_drew ?_ | refine blk_alloc ?_ _)); refine blk_far ?_ NB972_988.out _; (with_reducible repeat (first | refine blk_drewN ?_ _ | refine blk_drew ?_ | refine blk_alloc ?_ _)); refine blk_far ?_ NB972_988.out _; (with_reducible repeat (first | refine blk_drewN ?_ _ | refine blk_drew ?_ | refine blk_alloc ?_ _)); exact BK972.out) hb); replace BK978 := Aside0.mk (blk_below (g := gb978) (o := .cells #[.int .i64 t974, .slice Ao25 t975.length co25] 26 (0, 0)) (by (with_reducible repeat (first | refine blk_drewN ?_ _ | refine blk_drew ?_ | refine blk_alloc ?_ _)); refine blk_far ?_ NB978_988.out _; (with_reducible repeat (first | refine blk_drewN ?_ _ | refine blk_drew ?_ | refine blk_alloc ?_ _)); refine blk_far ?_ NB978_988.out _; (with_reducible repeat (first | refine blk_drewN ?_ _ | refine blk_drew ?_ | refine blk_alloc ?_ _)); refine blk_far ?_ NB978_988.out _; (with_reducible repeat (first | refine blk_drewN ?_ _ | refine blk_drew ?_ | refine blk_alloc ?_ _)); exact BK978.out) hb); replace BK988 := Aside0.mk (blk_below (g := gb988) (o := .cells #[.bool true, .slice Ao34 t983.length co34, .int .i64 t986] 55 (0, 0)) (by (with_reducible repeat (first | refine blk_drewN ?_ _ | refine blk_drew ?_ | refine blk_alloc ?_ _)); refine blk_put (cs := #[.bool true, .slice Ao34 t983.length co34, .int .i64 0]) ?_ 2 _ rfl; (with_reducible repeat (first | refine blk_drewN ?_ _ | refine blk_drew ?_ | refine blk_alloc ?_ _)); refine blk_put (cs := #[.bool true, .slice none 0 0, .int .i64 0]) ?_ 1 _ rfl; (with_reducible repeat (first | refine blk_drewN ?_ _ | refine blk_drew ?_ | refine blk_alloc ?_ _)); refine blk_put (cs := #[.bool false, .slice none 0 0, .int .i64 0]) ?_ 0 _ rfl; (with_reducible repeat (first | refine blk_drewN ?_ _ | refine blk_drew ?_ | refine blk_alloc ?_ _)); exact BK988.out) hb); replace HB := qS HB hb; (try clear hb); (try clear hb2); (try clear hk); (try clear hi)))
      replace HO977 := Aside0.mk (Kd.R_drew HO977.out)
      replace HO981 := Aside0.mk (Kd.R_drew HO981.out)
      replace HO985 := Aside0.mk (Kd.R_drew HO985.out)
      replace BK972 := Aside0.mk (blk_drew BK972.out)
      replace BK978 := Aside0.mk (blk_drew BK978.out)
      replace BK988 := Aside0.mk (blk_drew BK988.out)
      replace HB := Aside0.mk (below_drew1 HB.out)
      refine start_ (n := 10) (S := fun w' => w'.cell? ⟨gb978, 0, none⟩ = some (.int .i64 t974) ∧ w'.cell? ⟨gb978, 1, none⟩ = some (.slice Ao25 t975.length co25)) (ds := []) #[false, false, false, false, false, false, false, false, false, false] qq rfl rfl ⟨(blk_cell BK978.out 0).trans rfl, (blk_cell BK978.out 1).trans rfl⟩ (fun hHeld => ?_); refine with_tabW dialtonelaw27_FlowMeets.tab8 dialtonelaw27_FlowMeets.bits8 (fun HT_ HW_ => ?_)
      generalize w36.drew = w37 at HO977 HO981 HO985 BK972 BK978 BK988 HB hHeld ⊢
      refine pure_ (i := 1) (N := some 44) (v := ?_) (a' := ?_) #[false, true, false, false, false, false, false, false, false, false] rfl rfl (any_of HT_.out qq) (fun _ _ _ h => h) (Or.inl ⟨by rfl, ?_⟩) ?_ ?_
      rotate_left
      ·
       intro w'
       go_simp
       with_reducible rfl
      rotate_left
      ·
       simp only [Act.put, List.setIfInBounds_toArray, List.set_cons_zero, List.set_cons_succ, i64_w, i32_w]
       rfl
      refine pure_ (i := 2) (N := some 45) (v := ?_) (a' := ?_) #[false, true, true, false, false, false, false, false, false, false] rfl rfl (any_of HT_.out qq) (fun _ _ _ h => h) (Or.inl ⟨by rfl, ?_⟩) ?_ ?_
      rotate_left
      ·
       intro w'
       go_simp
       with_reducible rfl
      rotate_left
      ·
       simp only [Act.put, List.setIfInBounds_toArray, List.set_cons_zero, List.set_cons_succ, i64_w, i32_w]
       rfl
      refine pure_ (i := 3) (N := some 46) (v := ?_) (a' := ?_) #[false, true, true, true, false, false, false, false, false, false] rfl rfl (any_of HT_.out qq) (fun _ _ _ h => h) (Or.inl ⟨by rfl, ?_⟩) ?_ ?_
      rotate_left
      ·
       intro w'
       go_simp
       with_reducible rfl
      rotate_left
      ·
       simp only [Act.put, List.setIfInBounds_toArray, List.set_cons_zero, List.set_cons_succ, i64_w, i32_w]
       rfl
      refine take_ (i := 0) (N := some 43) (v := ?_) (a' := ?_) #[true, true, true, true, false, false, false, false, false, false] rfl rfl (take_ofW HT_.out HW_.out qq) (fun _ _ _ h => h) (Or.inl ⟨by rfl, ?_⟩) hHeld ?_ ?_
      rotate_left
      ·
       rintro w' ⟨s0, s1⟩
       go_simp
       with_reducible rfl
      rotate_left
      ·
       simp only [Act.put, List.setIfInBounds_toArray, List.set_cons_zero, List.set_cons_succ, i64_w, i32_w]
       rfl
      refine take_ (i := 4) (N := some 47) (v := ?_) (a' := ?_) #[true, true, true, true, true, false, false, false, false, false] rfl rfl (take_ofW HT_.out HW_.out qq) (fun _ _ _ h => h) (Or.inl ⟨by rfl, ?_⟩) hHeld ?_ ?_
      rotate_left
      ·
       rintro w' ⟨s0, s1⟩
       go_simp
       with_reducible rfl
      rotate_left
      ·
       simp only [Act.put, List.setIfInBounds_toArray, List.set_cons_zero, List.set_cons_succ, i64_w, i32_w]
       rfl
      refine pure_ (i := 5) (N := some 48) (v := ?_) (a' := ?_) #[true, true, true, true, true, true, false, false, false, false] rfl rfl (any_of HT_.out qq) (fun _ _ _ h => h) (Or.inl ⟨by rfl, ?_⟩) ?_ ?_
      rotate_left
      ·
       intro w'
       go_simp
       with_reducible rfl
      rotate_left
      ·
       simp only [Act.put, List.setIfInBounds_toArray, List.set_cons_zero, List.set_cons_succ, i64_w, i32_w]
       rfl
      refine one_ (i := 6) (N := some 49) #[true, true, true, true, true, true, true, false, false, false] rfl rfl (one_of HT_.out qq) (by decide) (fun K hK => ?_)
      refine goes_ Try.func35 qq rfl #[.int .i64 a3, .int .i64 ji15] (by rfl) rfl rfl (by (try simp only [List.map_toArray, List.map_cons, List.map_nil]); first | done | (simp only [hji15]; rfl) | rfl | (simp only [List.length_drop, List.length_take]; rfl)) ?_
      with_reducible refine (dialtonelaw27_pick.calls a3 ji15 t990 _ A16.out).mono ?_
      rintro e w' ⟨rfl, ⟨nd, rfl⟩⟩
      refine ⟨_, rfl, ?_⟩
      refine hK.out _ _ ⟨(blk_cell BK978.out 0).trans rfl, (blk_cell BK978.out 1).trans rfl⟩ (fun hHeld => ?_)
      clear hK K
      refine norm_ (a' := ?_) ?_ ?_
      rotate_left
      ·
       show Act.put _ (some 49) _ = _
       simp only [Act.put, List.setIfInBounds_toArray, List.set_cons_zero, List.set_cons_succ, i64_w, i32_w]
       rfl
      refine pure_ (i := 7) (N := some 50) (v := ?_) (a' := ?_) #[true, true, true, true, true, true, true, true, false, false] rfl rfl (any_of HT_.out qq) (fun _ _ _ h => h) (Or.inl ⟨by rfl, ?_⟩) ?_ ?_
      rotate_left
      ·
       intro w'
       go_simp
       with_reducible rfl
      rotate_left
      ·
       simp only [Act.put, List.setIfInBounds_toArray, List.set_cons_zero, List.set_cons_succ, i64_w, i32_w]
       rfl
      refine one_ (i := 8) (N := some 51) #[true, true, true, true, true, true, true, true, true, false] rfl rfl (one_of HT_.out qq) (by decide) (fun K hK => ?_)
      refine goes_ Try.func49 qq rfl #[.agg #[.int .i64 t974, .slice Ao25 t975.length co25], .slice Ao28 t979.length co28, .agg #[.bool false, .slice none 0 0, .int .i64 t990]] (by rfl) rfl rfl qa ?_
      refine (flow_CheckMeet.calls k t974 _ _ t975 _ _ t979 false _ _ ([] : List Int) t990 t991 _ ?side1 ?side2 ?side3 ?side4 ?side5 ?side6 A17.out).mono ?_
      (case side1 => exact qC (Kd.R_reads' HO977.out).2.2)
      (case side2 => exact (Kd.R_reads' HO977.out).2.1)
      (case side3 => exact qC (Kd.R_reads' HO981.out).2.2)
      (case side4 => exact (Kd.R_reads' HO981.out).2.1)
      (case side5 => exact Kd.C_nil _ _)
      (case side6 => exact Nat.le_refl _)
      rintro e w38 ⟨rfl, hb⟩
      refine ⟨_, rfl, ?_⟩
      replace HO977 := qR HO977 hb
      replace HO981 := qR HO981 hb
      replace HO985 := qR HO985 hb
      replace BK972 := qB BK972 hb
      replace BK978 := qB BK978 hb
      replace BK988 := qB BK988 hb
      replace HB := qS HB hb
      (try clear hb)
      (try clear hb2)
      (try clear hk)
      (try clear hi)
      refine hK.out _ _ ⟨(blk_cell BK978.out 0).trans rfl, (blk_cell BK978.out 1).trans rfl⟩ (fun hHeld => ?_)
      clear hK K
      refine norm_ (a' := ?_) ?_ ?_
      rotate_left
      ·
       show Act.put _ (some 51) _ = _
       simp only [Act.put, List.setIfInBounds_toArray, List.set_cons_zero, List.set_cons_succ, i64_w, i32_w]
       rfl
      refine pure_ (i := 9) (N := some 15) (v := ?_) (a' := ?_) #[true, true, true, true, true, true, true, true, true, true] rfl rfl (any_of HT_.out qq) (fun _ _ _ h => h) (Or.inl ⟨by rfl, ?_⟩) ?_ ?_
      rotate_left
      ·
       intro w'
       go_simp
       with_reducible rfl
      rotate_left
      ·
       simp only [Act.put, List.setIfInBounds_toArray, List.set_cons_zero, List.set_cons_succ, i64_w, i32_w]
       rfl
      refine done_ (done_of HT_.out qq) ?_
      obtain ⟨hcz39_0, hcz39_1, hcz39_2, hfz39_0, hfz39_1, hfz39_2⟩ := qc3 BK988.out
      try go_wp2
      go_ret
      exact ⟨by first | rfl | (simp [errW_none, errW_some] <;> rfl) | (simp only [← hji15]; first | rfl | (simp [errW_none, errW_some] <;> rfl)) | (simp [*, errW_none, errW_some] <;> rfl), qb⟩
     ·
      replace c18 := Bool.eq_false_iff.mpr c18
      subst c18
      rw [if_neg (show ¬ (false = true) by decide)] at H
      by_cases c40 : (t974 : Int).toNat ≤ 35184372088832
      ·
       rw [if_pos c40] at H
       have c40b0 := eq_true c40
       have c40b1 : decide ((t974 : Int).toNat ≤ 35184372088832) = true := decide_eq_true c40
       clear c40
       obtain ⟨y992, hy992⟩ : ∃ y_ : List Int, y_ = (List.replicate (t974 : Int).toNat 0) := ⟨_, rfl⟩
       replace H : (dialtonelaw27_FlowMeets.l0 k t979 y992 0 a4_0 a4_1 a4_2 t974 t975) = some r := by first | (rw [hy992]; with_reducible exact H) | (have H2_ := (Option.bind_some _ _).symm.trans H; rw [hy992]; with_reducible exact H2_) | (have H2_ := (Option.bind_some _ _).symm.trans H; with_reducible exact H2_) | with_reducible exact H | (rw [hy992]; exact H) | exact H
       have Ny992 := Aside0.mk hy992
       clear hy992
       have H' := Aside0.mk H
       clear H
       go_enter Try.func11, Try.ntmps11
       try go_wp2_with (first | ((with_reducible refine gate_dst (N := 9) rfl ?_); refine box_event rfl (N := 9) rfl (cs := #[.int .i64 a4_0, .int .i64 a4_1, .int .i64 a4_2]) (t := 23) qh ?_; intro gb972 hg w41 hbox hb; have BK972 := Aside0.mk (hbox); have GW972 := qg HB hg; have GE972 := qg HB hg; replace HB := qS HB hb; clear hb hbox hg) | ((with_reducible refine gate_callee (f := 22) rfl ?_); refine goesL_ (some 20) rfl rfl Try.func22 qq rfl #[] rfl qa ?_; (with_reducible refine (dialtonelaw27_sane.calls k  true _ A6.out).mono ?_); rintro e w42 ⟨rfl, hb⟩; refine ⟨_, rfl, ?_⟩; replace BK972 := qB BK972 hb; replace HB := qS HB hb; (try clear hb); (try clear hb2); (try clear hk); (try clear hi)) | ((with_reducible refine gate_callee (f := 23) rfl ?_); refine goesL_ (some 24) rfl rfl Try.func23 qq rfl #[.int .i64 a0, .slice A1 l1.length c1] rfl qa ?_; (with_reducible refine (dialtoneref27_Made.calls k a0 _ _ l1 t974 t975 _ ?side1 ?side2 A8.out).mono ?_); (case side1 => exact qC (Kd.C_below HR1.out HB.out)); (case side2 => exact HC1.out); rintro e w43 ⟨v976, rfl, ho0, hb⟩; refine ⟨_, rfl, ?_⟩; have HO977 := qL HB ho0; replace BK972 := qB BK972 hb; replace HB := qS HB hb; (try clear hb); (try clear hb2); (try clear hk); (try clear hi); (try clear ho0)) | ((with_reducible refine gate_dst (N := 11) rfl ?_); refine box_event rfl (N := 11) rfl (cs := #[.int .i64 0, .slice none 0 0]) (t := 26) qh ?_; intro gb978 hg w44 hbox hb; replace HO977 := qR HO977 hb; have BK978 := Aside0.mk (hbox); have GW978 := qg HB hg; have GE978 := qg HB hg; replace HB := qS HB hb; have NB972_978 := qn BK972 hg; have NB978_972 := qm BK972 hg; replace BK972 := qB BK972 hb; clear hb hbox hg; have hnb45 := NB978_972.out; have hnc45 := NB972_978.out; obtain ⟨hcz46_0, hcz46_1, hfz46_0, hfz46_1⟩ := qc2 BK978.out; obtain ⟨Ao47, co47, eo47⟩ := Kd.R_slice HO977.out; subst eo47) | ((with_reducible refine gate_callee (f := 45) rfl ?_); refine goesL_ (some 27) rfl rfl Try.func45 qq rfl #[.agg #[.int .i64 t974, .slice Ao47 t975.length co47], .slice A2 l2.length c2] rfl qa ?_; (with_reducible refine (dialtoneref27_Supplied.calls k t974 _ _ t975 _ _ l2 t979 _ ?side1 ?side2 ?side3 ?side4 A9.out).mono ?_); (case side1 => refine (Kd.R_reads' (e := 72) (base := w.heap.size) (ok := fun k_ => True) (n := t975.length) (c := co47) ?_).2.2; exact (qr (Kd.R_mono (Kd.R_far (p := ⟨gb978, 1, none⟩) (Kd.R_far (p := ⟨gb978, 0, none⟩) (Kd.R_types HO977.out BK978.out (by decide)) (fun _ hk => hk.2) (.int .i64 t974)) (fun _ hk => hk.2) (.slice Ao47 t975.length co47)) (fun _ h_ => h_.1)))); (case side2 => exact (Kd.R_reads' HO977.out).2.1); (case side3 => exact Kd.C_below HR2.out (qb)); (case side4 => exact HC2.out); rintro e w48 ⟨v980, rfl, ho0, hb⟩; refine ⟨_, rfl, ?_⟩; replace HO977 := Aside0.mk (Kd.R_below (qr (Kd.R_mono (Kd.R_far (p := ⟨gb978, 1, none⟩) (Kd.R_far (p := ⟨gb978, 0, none⟩) (Kd.R_types HO977.out BK978.out (by decide)) (fun _ hk => hk.2) (.int .i64 t974)) (fun _ hk => hk.2) (.slice Ao47 t975.length co47)) (fun _ h_ => h_.1))) hb); have HO981 := qL HB ho0; replace BK972 := Aside0.mk (blk_below (g := gb972) (o := .cells #[.int .i64 a4_0, .int .i64 a4_1, .int .i64 a4_2] 23 (0, 0)) (by (with_reducible repeat (first | refine blk_drewN ?_ _ | refine blk_drew ?_ | refine blk_alloc ?_ _)); refine blk_far ?_ NB972_978.out _; (with_reducible repeat (first | refine blk_drewN ?_ _ | refine blk_drew ?_ | refine blk_alloc ?_ _)); refine blk_far ?_ NB972_978.out _; (with_reducible repeat (first | refine blk_drewN ?_ _ | refine blk_drew ?_ | refine blk_alloc ?_ _)); exact BK972.out) hb); replace BK978 := Aside0.mk (blk_below (g := gb978) (o := .cells #[.int .i64 t974, .slice Ao47 t975.length co47] 26 (0, 0)) (by (with_reducible repeat (first | refine blk_drewN ?_ _ | refine blk_drew ?_ | refine blk_alloc ?_ _)); refine blk_put (cs := #[.int .i64 t974, .slice none 0 0]) ?_ 1 _ rfl; (with_reducible repeat (first | refine blk_drewN ?_ _ | refine blk_drew ?_ | refine blk_alloc ?_ _)); refine blk_put (cs := #[.int .i64 0, .slice none 0 0]) ?_ 0 _ rfl; (with_reducible repeat (first | refine blk_drewN ?_ _ | refine blk_drew ?_ | refine blk_alloc ?_ _)); exact BK978.out) hb); replace HB := qS HB hb; (try clear hb); (try clear hb2); (try clear hk); (try clear hi); (try clear ho0); obtain ⟨hcz49_0, hcz49_1, hfz49_0, hfz49_1⟩ := qc2 BK978.out; obtain ⟨Ao50, co50, eo50⟩ := Kd.R_slice HO981.out; subst eo50) | ((with_reducible refine gate_callee (f := 46) rfl ?_); refine goesL_ (some 31) rfl rfl Try.func46 qq rfl #[.agg #[.int .i64 t974, .slice Ao47 t975.length co47], .slice Ao50 t979.length co50] rfl qa ?_; (with_reducible refine (flow_Meet.calls t974 _ _ t975 _ _ t979 false t983 t986 t987 _ ?side1 ?side2 ?side3 ?side4 A10.out).mono ?_); (case side1 => exact qC (Kd.R_reads' HO977.out).2.2); (case side2 => exact (Kd.R_reads' HO977.out).2.1); (case side3 => exact qC (Kd.R_reads' HO981.out).2.2); (case side4 => exact (Kd.R_reads' HO981.out).2.1); rintro e w51 ⟨v984, rfl, ho0, hb⟩; refine ⟨_, rfl, ?_⟩; replace HO977 := qR HO977 hb; have HO985 := Aside0.mk (Kd.R_lower (Kd.R_new' ho0 (Kd.R_lt (qr HO981.out))) (below_size (qb))); replace HO981 := Aside0.mk (Kd.R_elder' (qr HO981.out) (Kd.R_base ho0) hb); replace BK972 := qB BK972 hb; replace BK978 := qB BK978 hb; replace HB := qS HB hb; (try clear hb); (try clear hb2); (try clear hk); (try clear hi); (try clear ho0)) | ((with_reducible refine gate_dst (N := 13) rfl ?_); refine box_event rfl (N := 13) rfl (cs := #[.bool false, .slice none 0 0, .int .i64 0]) (t := 55) qh ?_; intro gb988 hg w52 hbox hb; replace HO977 := qR HO977 hb; replace HO981 := qR HO981 hb; replace HO985 := qR HO985 hb; have BK988 := Aside0.mk (hbox); have GW988 := qg HB hg; have GE988 := qg HB hg; replace HB := qS HB hb; have NB972_988 := qn BK972 hg; have NB988_972 := qm BK972 hg; replace BK972 := qB BK972 hb; have NB978_988 := qn BK978 hg; have NB988_978 := qm BK978 hg; replace BK978 := qB BK978 hb; clear hb hbox hg; have hnb53 := NB988_972.out; have hnc53 := NB972_988.out; have hnb54 := NB988_978.out; have hnc54 := NB978_988.out; obtain ⟨hcz55_0, hcz55_1, hcz55_2, hfz55_0, hfz55_1, hfz55_2⟩ := qc3 BK988.out; obtain ⟨Ao56, co56, eo56⟩ := Kd.R_slice HO985.out; subst eo56; obtain ⟨hcz57_0, hcz57_1, hfz57_0, hfz57_1⟩ := qc2 BK978.out) | (go_at_call 49; (with_reducible refine (flow_CheckMeet.calls k t974 _ _ t975 _ _ t979 false _ _ t983 t986 true _ ?side1 ?side2 ?side3 ?side4 ?side5 ?side6 A12.out).mono ?_); (case side1 => refine (Kd.R_reads' (e := 72) (base := w.heap.size) (ok := fun k_ => True) (n := t975.length) (c := co47) ?_).2.2; exact (qr (Kd.R_mono (Kd.R_far (p := ⟨gb988, 2, none⟩) (Kd.R_far (p := ⟨gb988, 1, none⟩) (Kd.R_far (p := ⟨gb988, 0, none⟩) (Kd.R_types HO977.out BK988.out (by decide)) (fun _ hk => hk.2) (.bool false)) (fun _ hk => hk.2) (.slice Ao56 t983.length co56)) (fun _ hk => hk.2) (.int .i64 t986)) (fun _ h_ => h_.1)))); (case side2 => exact (Kd.R_reads' HO977.out).2.1); (case side3 => refine (Kd.R_reads' (e := 3) (base := w.heap.size) (ok := fun k_ => (True ∧ some k_ ≠ (.slice Ao56 t983.length co56 : Value).ownBlock)) (n := t979.length) (c := co50) ?_).2.2; exact (qr (Kd.R_mono (Kd.R_far (p := ⟨gb988, 2, none⟩) (Kd.R_far (p := ⟨gb988, 1, none⟩) (Kd.R_far (p := ⟨gb988, 0, none⟩) (Kd.R_types HO981.out BK988.out (by decide)) (fun _ hk => hk.2) (.bool false)) (fun _ hk => hk.2) (.slice Ao56 t983.length co56)) (fun _ hk => hk.2) (.int .i64 t986)) (fun _ h_ => h_.1)))); (case side4 => exact (Kd.R_reads' HO981.out).2.1); (case side5 => refine (Kd.R_reads' (e := 3) (base := w.heap.size) (ok := fun k_ => (True ∧ some k_ ≠ (.slice Ao50 t979.length co50 : Value).ownBlock)) (n := t983.length) (c := co56) ?_).2.2; exact (qr (Kd.R_mono (Kd.R_far (p := ⟨gb988, 2, none⟩) (Kd.R_far (p := ⟨gb988, 1, none⟩) (Kd.R_far (p := ⟨gb988, 0, none⟩) (Kd.R_types HO985.out BK988.out (by decide)) (fun _ hk => hk.2) (.bool false)) (fun _ hk => hk.2) (.slice Ao56 t983.length co56)) (fun _ hk => hk.2) (.int .i64 t986)) (fun _ h_ => h_.1)))); (case side6 => exact (Kd.R_reads' HO985.out).2.1); rintro e w58 ⟨rfl, hb⟩; replace HO977 := Aside0.mk (Kd.R_below (qr (Kd.R_mono (Kd.R_far (p := ⟨gb988, 2, none⟩) (Kd.R_far (p := ⟨gb988, 1, none⟩) (Kd.R_far (p := ⟨gb988, 0, none⟩) (Kd.R_types HO977.out BK988.out (by decide)) (fun _ hk => hk.2) (.bool false)) (fun _ hk => hk.2) (.slice Ao56 t983.length co56)) (fun _ hk => hk.2) (.int .i64 t986)) (fun _ h_ => h_.1))) hb); replace HO981 := Aside0.mk (Kd.R_below (qr (Kd.R_mono (Kd.R_far (p := ⟨gb988, 2, none⟩) (Kd.R_far (p := ⟨gb988, 1, none⟩) (Kd.R_far (p := ⟨gb988, 0, none⟩) (Kd.R_types HO981.out BK988.out (by decide)) (fun _ hk => hk.2) (.bool false)) (fun _ hk => hk.2) (.slice Ao56 t983.length co56)) (fun _ hk => hk.2) (.int .i64 t986)) (fun _ h_ => h_.1))) hb); replace HO985 := Aside0.mk (Kd.R_below (qr (Kd.R_mono (Kd.R_far (p := ⟨gb988, 2, none⟩) (Kd.R_far (p := ⟨gb988, 1, none⟩) (Kd.R_far (p := ⟨gb988, 0, none⟩) (Kd.R_types HO985.out BK988.out (by decide)) (fun _ hk => hk.2) (.bool false)) (fun _ hk => hk.2) (.slice Ao56 t983.length co56)) (fun _ hk => hk.2) (.int .i64 t986)) (fun _ h_ => h_.1))) hb); replace BK972 := Aside0.mk (blk_below (g := gb972) (o := .cells #[.int .i64 a4_0, .int .i64 a4_1, .int .i64 a4_2] 23 (0, 0)) (by (with_reducible repeat (first | refine blk_drewN ?_ _ | refine blk_drew ?_ | refine blk_alloc ?_ _)); refine blk_far ?_ NB972_988.out _; (with_reducible repeat (first | refine blk_drewN ?_ _ | refine blk_drew ?_ | refine blk_alloc ?_ _)); refine blk_far ?_ NB972_988.out _; (with_reducible repeat (first | refine blk_drewN ?_ _ | refine blk_drew ?_ | refine blk_alloc ?_ _)); refine blk_far ?_ NB972_988.out _; (with_reducible repeat (first | refine blk_drewN ?_ _ | refine blk_drew ?_ | refine blk_alloc ?_ _)); exact BK972.out) hb); replace BK978 := Aside0.mk (blk_below (g := gb978) (o := .cells #[.int .i64 t974, .slice Ao47 t975.length co47] 26 (0, 0)) (by (with_reducible repeat (first | refine blk_drewN ?_ _ | refine blk_drew ?_ | refine blk_alloc ?_ _)); refine blk_far ?_ NB978_988.out _; (with_reducible repeat (first | refine blk_drewN ?_ _ | refine blk_drew ?_ | refine blk_alloc ?_ _)); refine blk_far ?_ NB978_988.out _; (with_reducible repeat (first | refine blk_drewN ?_ _ | refine blk_drew ?_ | refine blk_alloc ?_ _)); refine blk_far ?_ NB978_988.out _; (with_reducible repeat (first | refine blk_drewN ?_ _ | refine blk_drew ?_ | refine blk_alloc ?_ _)); exact BK978.out) hb); replace BK988 := Aside0.mk (blk_below (g := gb988) (o := .cells #[.bool false, .slice Ao56 t983.length co56, .int .i64 t986] 55 (0, 0)) (by (with_reducible repeat (first | refine blk_drewN ?_ _ | refine blk_drew ?_ | refine blk_alloc ?_ _)); refine blk_put (cs := #[.bool false, .slice Ao56 t983.length co56, .int .i64 0]) ?_ 2 _ rfl; (with_reducible repeat (first | refine blk_drewN ?_ _ | refine blk_drew ?_ | refine blk_alloc ?_ _)); refine blk_put (cs := #[.bool false, .slice none 0 0, .int .i64 0]) ?_ 1 _ rfl; (with_reducible repeat (first | refine blk_drewN ?_ _ | refine blk_drew ?_ | refine blk_alloc ?_ _)); refine blk_put (cs := #[.bool false, .slice none 0 0, .int .i64 0]) ?_ 0 _ rfl; (with_reducible repeat (first | refine blk_drewN ?_ _ | refine blk_drew ?_ | refine blk_alloc ?_ _)); exact BK988.out) hb); replace HB := qS HB hb; (try clear hb); (try clear hb2); (try clear hk); (try clear hi)))
       replace HO977 := Aside0.mk (Kd.R_drew HO977.out)
       replace HO981 := Aside0.mk (Kd.R_drew HO981.out)
       replace HO985 := Aside0.mk (Kd.R_drew HO985.out)
       replace BK972 := Aside0.mk (blk_drew BK972.out)
       replace BK978 := Aside0.mk (blk_drew BK978.out)
       replace BK988 := Aside0.mk (blk_drew BK988.out)
       replace HB := Aside0.mk (below_drew1 HB.out)
       refine start_ (n := 10) (S := fun w' => w'.cell? ⟨gb978, 0, none⟩ = some (.int .i64 t974) ∧ w'.cell? ⟨gb978, 1, none⟩ = some (.slice Ao47 t975.length co47)) (ds := []) #[false, false, false, false, false, false, false, false, false, false] qq rfl rfl ⟨(blk_cell BK978.out 0).trans rfl, (blk_cell BK978.out 1).trans rfl⟩ (fun hHeld => ?_); refine with_tabW dialtonelaw27_FlowMeets.tab8 dialtonelaw27_FlowMeets.bits8 (fun HT_ HW_ => ?_)
       generalize w58.drew = w59 at HO977 HO981 HO985 BK972 BK978 BK988 HB hHeld ⊢
       refine pure_ (i := 1) (N := some 44) (v := ?_) (a' := ?_) #[false, true, false, false, false, false, false, false, false, false] rfl rfl (any_of HT_.out qq) (fun _ _ _ h => h) (Or.inl ⟨by rfl, ?_⟩) ?_ ?_
       rotate_left
       ·
        intro w'
        go_simp
        with_reducible rfl
       rotate_left
       ·
        simp only [Act.put, List.setIfInBounds_toArray, List.set_cons_zero, List.set_cons_succ, i64_w, i32_w]
        rfl
       refine pure_ (i := 2) (N := some 45) (v := ?_) (a' := ?_) #[false, true, true, false, false, false, false, false, false, false] rfl rfl (any_of HT_.out qq) (fun _ _ _ h => h) (Or.inl ⟨by rfl, ?_⟩) ?_ ?_
       rotate_left
       ·
        intro w'
        go_simp
        with_reducible rfl
       rotate_left
       ·
        simp only [Act.put, List.setIfInBounds_toArray, List.set_cons_zero, List.set_cons_succ, i64_w, i32_w]
        rfl
       refine pure_ (i := 3) (N := some 46) (v := ?_) (a' := ?_) #[false, true, true, true, false, false, false, false, false, false] rfl rfl (any_of HT_.out qq) (fun _ _ _ h => h) (Or.inl ⟨by rfl, ?_⟩) ?_ ?_
       rotate_left
       ·
        intro w'
        go_simp
        with_reducible rfl
       rotate_left
       ·
        simp only [Act.put, List.setIfInBounds_toArray, List.set_cons_zero, List.set_cons_succ, i64_w, i32_w]
        rfl
       refine take_ (i := 0) (N := some 43) (v := ?_) (a' := ?_) #[true, true, true, true, false, false, false, false, false, false] rfl rfl (take_ofW HT_.out HW_.out qq) (fun _ _ _ h => h) (Or.inl ⟨by rfl, ?_⟩) hHeld ?_ ?_
       rotate_left
       ·
        rintro w' ⟨s0, s1⟩
        go_simp
        with_reducible rfl
       rotate_left
       ·
        simp only [Act.put, List.setIfInBounds_toArray, List.set_cons_zero, List.set_cons_succ, i64_w, i32_w]
        rfl
       refine take_ (i := 4) (N := some 47) (v := ?_) (a' := ?_) #[true, true, true, true, true, false, false, false, false, false] rfl rfl (take_ofW HT_.out HW_.out qq) (fun _ _ _ h => h) (Or.inl ⟨by rfl, ?_⟩) hHeld ?_ ?_
       rotate_left
       ·
        rintro w' ⟨s0, s1⟩
        go_simp
        with_reducible rfl
       rotate_left
       ·
        simp only [Act.put, List.setIfInBounds_toArray, List.set_cons_zero, List.set_cons_succ, i64_w, i32_w]
        rfl
       refine pure_ (i := 5) (N := some 48) (v := ?_) (a' := ?_) #[true, true, true, true, true, true, false, false, false, false] rfl rfl (any_of HT_.out qq) (fun _ _ _ h => h) (Or.inl ⟨by rfl, ?_⟩) ?_ ?_
       rotate_left
       ·
        intro w'
        go_simp
        with_reducible rfl
       rotate_left
       ·
        simp only [Act.put, List.setIfInBounds_toArray, List.set_cons_zero, List.set_cons_succ, i64_w, i32_w]
        rfl
       refine one_ (i := 6) (N := some 49) #[true, true, true, true, true, true, true, false, false, false] rfl rfl (one_of HT_.out qq) (by decide) (fun K hK => ?_)
       refine goes_ Try.func35 qq rfl #[.int .i64 a3, .int .i64 ji15] (by rfl) rfl rfl (by (try simp only [List.map_toArray, List.map_cons, List.map_nil]); first | done | (simp only [hji15]; rfl) | rfl | (simp only [List.length_drop, List.length_take]; rfl)) ?_
       with_reducible refine (dialtonelaw27_pick.calls a3 ji15 t990 _ A16.out).mono ?_
       rintro e w' ⟨rfl, ⟨nd, rfl⟩⟩
       refine ⟨_, rfl, ?_⟩
       refine hK.out _ _ ⟨(blk_cell BK978.out 0).trans rfl, (blk_cell BK978.out 1).trans rfl⟩ (fun hHeld => ?_)
       clear hK K
       refine norm_ (a' := ?_) ?_ ?_
       rotate_left
       ·
        show Act.put _ (some 49) _ = _
        simp only [Act.put, List.setIfInBounds_toArray, List.set_cons_zero, List.set_cons_succ, i64_w, i32_w]
        rfl
       refine pure_ (i := 7) (N := some 50) (v := ?_) (a' := ?_) #[true, true, true, true, true, true, true, true, false, false] rfl rfl (any_of HT_.out qq) (fun _ _ _ h => h) (Or.inl ⟨by rfl, ?_⟩) ?_ ?_
       rotate_left
       ·
        intro w'
        go_simp
        with_reducible rfl
       rotate_left
       ·
        simp only [Act.put, List.setIfInBounds_toArray, List.set_cons_zero, List.set_cons_succ, i64_w, i32_w]
        rfl
       refine one_ (i := 8) (N := some 51) #[true, true, true, true, true, true, true, true, true, false] rfl rfl (one_of HT_.out qq) (by decide) (fun K hK => ?_)
       refine goes_ Try.func49 qq rfl #[.agg #[.int .i64 t974, .slice Ao47 t975.length co47], .slice Ao50 t979.length co50, .agg #[.bool false, .slice none 0 0, .int .i64 t990]] (by rfl) rfl rfl qa ?_
       refine (flow_CheckMeet.calls k t974 _ _ t975 _ _ t979 false _ _ ([] : List Int) t990 t991 _ ?side1 ?side2 ?side3 ?side4 ?side5 ?side6 A17.out).mono ?_
       (case side1 => exact qC (Kd.R_reads' HO977.out).2.2)
       (case side2 => exact (Kd.R_reads' HO977.out).2.1)
       (case side3 => exact qC (Kd.R_reads' HO981.out).2.2)
       (case side4 => exact (Kd.R_reads' HO981.out).2.1)
       (case side5 => exact Kd.C_nil _ _)
       (case side6 => exact Nat.le_refl _)
       rintro e w60 ⟨rfl, hb⟩
       refine ⟨_, rfl, ?_⟩
       replace HO977 := qR HO977 hb
       replace HO981 := qR HO981 hb
       replace HO985 := qR HO985 hb
       replace BK972 := qB BK972 hb
       replace BK978 := qB BK978 hb
       replace BK988 := qB BK988 hb
       replace HB := qS HB hb
       (try clear hb)
       (try clear hb2)
       (try clear hk)
       (try clear hi)
       refine hK.out _ _ ⟨(blk_cell BK978.out 0).trans rfl, (blk_cell BK978.out 1).trans rfl⟩ (fun hHeld => ?_)
       clear hK K
       refine norm_ (a' := ?_) ?_ ?_
       rotate_left
       ·
        show Act.put _ (some 51) _ = _
        simp only [Act.put, List.setIfInBounds_toArray, List.set_cons_zero, List.set_cons_succ, i64_w, i32_w]
        rfl
       refine pure_ (i := 9) (N := some 15) (v := ?_) (a' := ?_) #[true, true, true, true, true, true, true, true, true, true] rfl rfl (any_of HT_.out qq) (fun _ _ _ h => h) (Or.inl ⟨by rfl, ?_⟩) ?_ ?_
       rotate_left
       ·
        intro w'
        go_simp
        with_reducible rfl
       rotate_left
       ·
        simp only [Act.put, List.setIfInBounds_toArray, List.set_cons_zero, List.set_cons_succ, i64_w, i32_w]
        rfl
       refine done_ (done_of HT_.out qq) ?_
       obtain ⟨hcz61_0, hcz61_1, hcz61_2, hfz61_0, hfz61_1, hfz61_2⟩ := qc3 BK988.out
       obtain ⟨hcz62_0, hcz62_1, hfz62_0, hfz62_1⟩ := qc2 BK978.out
       try go_wp2_with (first | ((with_reducible refine gate_dst (N := 58) rfl ?_); refine Kd.R_make (Kd.int .i64) _ 3 rfl (N := 58) rfl 27 _ _ rfl t974 rfl rfl Try.underlying27 (.int .i64 0) 8 info3 rfl (by decide) (by omega) 0 (ok := fun _ => True) (okp := fun _ => True) rfl (fun _ hk => hk) trivial (of_decide_eq_true (by first | (with_reducible assumption) | assumption)) (Nat.le_trans (Nat.mul_le_mul_right _ (of_decide_eq_true (by first | (with_reducible assumption) | assumption) : t974.toNat ≤ 35184372088832)) (by omega)) (Below.refl _ _) (Nat.le_refl _) ?_; intro v993 w63 ho64 hb hg_ hnew_; clear hg_ hnew_; (first | rw [← Ny992.out] at ho64 | (simp only [Int.reduceToNat] at ho64; rw [← Ny992.out] at ho64)); replace HO977 := qR HO977 hb; have HO994 := Aside0.mk (Kd.R_lower (Kd.R_new' (Kd.R_new' ho64 (Kd.R_lt (qr HO981.out))) (Kd.R_lt (qr HO985.out))) (below_size (qb))); replace HO981 := Aside0.mk (Kd.R_elder' (qr HO981.out) (Kd.R_base ho64) hb); replace HO985 := Aside0.mk (Kd.R_elder' (qr HO985.out) (Kd.R_base ho64) hb); replace BK972 := qB BK972 hb; replace BK978 := qB BK978 hb; replace BK988 := qB BK988 hb; replace HB := qS HB hb; clear hb ho64))
       go_loopg [17] k (fun kq v17 w' => ∃ (x16_1 : List Int) (x17_1 : Int), v17 = .int .i64 x17_1 ∧ Aside0 (dialtonelaw27_FlowMeets.l0 kq t979 x16_1 x17_1 a4_0 a4_1 a4_2 t974 t975 = some r) ∧ Aside0 (kq ≤ k) ∧ Aside0 (Kd.R (Kd.int .i64) 3 w' w.heap.size (fun k_ => some k_ ≠ (v993 : Value).ownBlock ∧ some k_ ≠ ((.slice Ao56 t983.length co56) : Value).ownBlock) (.slice Ao50 t979.length co50) t979) ∧ Aside0 (Kd.R (Kd.int .i64) 3 w' w.heap.size (fun k_ => some k_ ≠ ((.slice Ao50 t979.length co50) : Value).ownBlock ∧ some k_ ≠ ((.slice Ao56 t983.length co56) : Value).ownBlock) v993 x16_1) ∧ Aside0 (Kd.R k72 72 w' w.heap.size (fun _ => True) (.slice Ao47 t975.length co47) t975) ∧ Aside0 (Kd.R (Kd.int .i64) 3 w' w.heap.size (fun k_ => some k_ ≠ ((.slice Ao50 t979.length co50) : Value).ownBlock ∧ some k_ ≠ (v993 : Value).ownBlock) (.slice Ao56 t983.length co56) t983) ∧ Aside0 (w'.heap[gb972]? = some (.cells #[.int .i64 a4_0, .int .i64 a4_1, .int .i64 a4_2] 23 (0, 0))) ∧ Aside0 (w'.heap[gb978]? = some (.cells #[.int .i64 t974, (.slice Ao47 t975.length co47)] 26 (0, 0))) ∧ Aside0 (w'.heap[gb988]? = some (.cells #[.bool false, (.slice Ao56 t983.length co56), .int .i64 t986] 55 (0, 0))) ∧ Aside0 (Below w.heap.size w w'))
       case atStart => exact ⟨(y992), (0), (by first | rfl | (simp; done) | (simp [*]; done)), H', ⟨Nat.le_refl _⟩, ⟨by (with_reducible repeat (first | apply Kd.R_alloc | apply Kd.R_drewN | apply Kd.R_drew)); exact Kd.R_mono HO981.out (fun _ hk => ⟨hk.2, hk.1.2⟩)⟩, ⟨by (with_reducible repeat (first | apply Kd.R_alloc | apply Kd.R_drewN | apply Kd.R_drew)); exact Kd.R_mono HO994.out (fun _ hk => ⟨hk.1.2, hk.2⟩)⟩, ⟨by (with_reducible repeat (first | apply Kd.R_alloc | apply Kd.R_drewN | apply Kd.R_drew)); exact HO977.out⟩, ⟨by (with_reducible repeat (first | apply Kd.R_alloc | apply Kd.R_drewN | apply Kd.R_drew)); exact Kd.R_mono HO985.out (fun _ hk => ⟨hk.1.2, hk.2⟩)⟩, ⟨by (with_reducible repeat (first | refine blk_drewN ?_ _ | refine blk_drew ?_ | refine blk_alloc ?_ _)); exact BK972.out⟩, ⟨by (with_reducible repeat (first | refine blk_drewN ?_ _ | refine blk_drew ?_ | refine blk_alloc ?_ _)); exact BK978.out⟩, ⟨by (with_reducible repeat (first | refine blk_drewN ?_ _ | refine blk_drew ?_ | refine blk_alloc ?_ _)); exact BK988.out⟩, ⟨qb⟩⟩
       case round =>
        clear H'
        try clear c1
        try clear c2
        try clear p2
        try clear c3
        try clear c4
        try clear c5
        try clear p6
        try clear c7
        try clear c11
        try clear c11b0
        try clear c11b1
        try clear c13
        try clear c14
        try clear c14b0
        try clear c14b1
        try clear c18
        try clear c22
        try clear c23
        try clear c31
        try clear c32
        try clear c35
        try clear c40
        try clear c40b0
        try clear c40b1
        try clear c45
        try clear c46
        try clear c49
        try clear c53
        try clear c54
        try clear p64
        try clear hcz24_0
        try clear hcz24_1
        try clear hcz27_0
        try clear hcz27_1
        try clear hcz33_0
        try clear hcz33_1
        try clear hcz33_2
        try clear hcz35_0
        try clear hcz35_1
        try clear hcz39_0
        try clear hcz39_1
        try clear hcz39_2
        try clear hcz46_0
        try clear hcz46_1
        try clear hcz49_0
        try clear hcz49_1
        try clear hcz55_0
        try clear hcz55_1
        try clear hcz55_2
        try clear hcz57_0
        try clear hcz57_1
        try clear hcz61_0
        try clear hcz61_1
        try clear hcz61_2
        try clear hcz62_0
        try clear hcz62_1
        try clear hfz24_0
        try clear hfz24_1
        try clear hfz27_0
        try clear hfz27_1
        try clear hfz33_0
        try clear hfz33_1
        try clear hfz33_2
        try clear hfz35_0
        try clear hfz35_1
        try clear hfz39_0
        try clear hfz39_1
        try clear hfz39_2
        try clear hfz46_0
        try clear hfz46_1
        try clear hfz49_0
        try clear hfz49_1
        try clear hfz55_0
        try clear hfz55_1
        try clear hfz55_2
        try clear hfz57_0
        try clear hfz57_1
        try clear hfz61_0
        try clear hfz61_1
        try clear hfz61_2
        try clear hfz62_0
        try clear hfz62_1
        obtain ⟨x16_1, x17_1, rfl, HA, HK1, HO_12, HO_16, HO_979001, HO_989001, BK972, BK978, BK988, HB⟩ := hrel
        cases gk with
        | zero => exact absurd HA.out (by simp [dialtonelaw27_FlowMeets.l0])
        | succ k1 =>
         have H := HA.out
         clear HA
         simp only [dialtonelaw27_FlowMeets.l0] at H
         by_cases c65 : (wrap64 (x17_1 + 1)) < t974
         ·
          rw [if_pos c65] at H
          have c65b0 : decide ((wrap64 (x17_1 + 1)) < t974) = true := decide_eq_true c65
          clear c65
          by_cases c66 : 0 ≤ x17_1
          ·
           rw [if_pos c66] at H
           have c66b0 : decide (0 ≤ x17_1) = true := decide_eq_true c66
           clear c66
           by_cases c67 : x17_1 < (t979.length : Int)
           ·
            rw [if_pos c67] at H
            have c67b0 : decide (x17_1 < (t979.length : Int)) = true := decide_eq_true c67
            clear c67
            by_cases c68 : x17_1 < (x16_1.length : Int)
            ·
             rw [if_pos c68] at H
             have c68b0 : decide (x17_1 < (x16_1.length : Int)) = true := decide_eq_true c68
             clear c68
             obtain ⟨y996, hy996⟩ : ∃ y_ : List Int, y_ = (x16_1.set (x17_1 : Int).toNat (wrap64 (Int.tdiv (rd t979 x17_1) 2))) := ⟨_, rfl⟩
             replace H : (if 0 ≤ (wrap64 (t974 - 1)) then (if (wrap64 (t974 - 1)) < (x16_1.length : Int) then (dialtonelaw27_FlowMeets.l0 k1 t979 (y996.set ((wrap64 (t974 - 1)) : Int).toNat (wrap64 ((rd y996 (wrap64 (t974 - 1))) - (rd y996 x17_1)))) (wrap64 (x17_1 + 1)) a4_0 a4_1 a4_2 t974 t975) else (none)) else (none)) = some r := by first | (rw [hy996]; with_reducible exact H) | (have H2_ := (Option.bind_some _ _).symm.trans H; rw [hy996]; with_reducible exact H2_) | (have H2_ := (Option.bind_some _ _).symm.trans H; with_reducible exact H2_) | with_reducible exact H | (rw [hy996]; exact H) | exact H
             have Ny996 := Aside0.mk hy996
             clear hy996
             obtain ⟨ji70, hji70⟩ : ∃ j_ : Int, (wrap64 (t974 - 1)) = j_ := ⟨_, rfl⟩
             replace H : (if 0 ≤ (ji70) then (if (ji70) < (x16_1.length : Int) then (dialtonelaw27_FlowMeets.l0 k1 t979 (y996.set ((ji70) : Int).toNat (wrap64 ((rd y996 (ji70)) - (rd y996 x17_1)))) (wrap64 (x17_1 + 1)) a4_0 a4_1 a4_2 t974 t975) else (none)) else (none)) = some r := by first | (rw [hji70] at H; exact H) | (simp only [hji70] at H ⊢; exact H)
             have hji70w : (IntKind.i64.wrap (t974 - 1)) = ji70 := (i64_w _).trans hji70
             by_cases c71 : 0 ≤ (ji70)
             ·
              rw [if_pos c71] at H
              have c71b0 : decide (0 ≤ (ji70)) = true := decide_eq_true c71
              clear c71
              by_cases c72 : (ji70) < (x16_1.length : Int)
              ·
               rw [if_pos c72] at H
               have c72b0 : decide ((ji70) < (x16_1.length : Int)) = true := decide_eq_true c72
               clear c72
               obtain ⟨y999, hy999⟩ : ∃ y_ : List Int, y_ = (y996.set ((ji70) : Int).toNat (wrap64 ((rd y996 (ji70)) - (rd y996 x17_1)))) := ⟨_, rfl⟩
               replace H : (dialtonelaw27_FlowMeets.l0 k1 t979 y999 (wrap64 (x17_1 + 1)) a4_0 a4_1 a4_2 t974 t975) = some r := by first | (rw [hy999]; with_reducible exact H) | (have H2_ := (Option.bind_some _ _).symm.trans H; rw [hy999]; with_reducible exact H2_) | (have H2_ := (Option.bind_some _ _).symm.trans H; with_reducible exact H2_) | with_reducible exact H | (rw [hy999]; exact H) | exact H
               have Ny999 := Aside0.mk hy999
               clear hy999
               have H' := Aside0.mk H
               clear H
               have hnb74 := NB978_972.out
               have hnc74 := NB972_978.out
               have hnb75 := NB978_988.out
               have hnc75 := NB988_978.out
               obtain ⟨hcz76_0, hcz76_1, hfz76_0, hfz76_1⟩ := qc2 BK978.out
               have p995 : 0 ≤ (x17_1 : Int) := of_decide_eq_true (by first | (with_reducible assumption) | assumption)
               have q995 : x17_1 < (t979.length : Int) := of_decide_eq_true (by first | (with_reducible assumption) | assumption)
               obtain ⟨ad995, e995, hx995_0⟩ := Kd.at_int (Kd.R_reads' HO_12.out).2.2 x17_1 p995 q995
               cases e995
               replace p995 := eq_true p995
               replace q995 := eq_true q995
               have p69 : 0 ≤ (x17_1 : Int) := of_decide_eq_true (by first | (with_reducible assumption) | assumption)
               have q69 : (x17_1 : Int) < ((x16_1.length : Int) : Int) := of_decide_eq_true (by first | (with_reducible assumption) | assumption)
               obtain ⟨go69, co69, eo69, gb69, gl69, cl69, HG69⟩ := Kd.R_form HO_16.out (by omega)
               (first | cases eo69 | (injection eo69 with ea_ en_ ec_; (first | subst ea_ | (injection ea_ with ea_; subst ea_)); subst ec_; clear en_))
               have GB69 := Aside0.mk gb69
               have GG69 := Aside0.mk HG69
               clear gb69 gl69 HG69
               obtain ⟨hx69_0, hf69_0⟩ := Kd.R_celln 0 HO_16.out (x17_1 : Int) p69 q69
               replace p69 := eq_true p69
               replace q69 := eq_true q69
               have HP77 := Kd.R_putg HO_16.out (x17_1 : Int) (wrap64 (Int.tdiv (rd t979 x17_1) 2))
               try go_wp2_with (first | ((with_reducible refine gate_store (t := 3) (p := 73) rfl ?_); refine store_event (t := 3) (p := 73) (v := ?vo_w78) (w1 := (wr.setCell ⟨go69, (x17_1 : Int).toNat, none⟩ (.int .i64 (wrap64 (Int.tdiv (rd t979 x17_1) 2))))) ?hg ?ho ?hn ?hr ?_; (case ho => rfl); (case hg => rfl); (case hn => rfl); (case hr => first | (go_simp; done) | (go_simp; rfl)); intro w78 hw; have hg : wr.grownBy w78 (some go69) := (by rw [hw]; exact HP77.2); have hp_ : Kd.R (Kd.int .i64) 3 w78 w.heap.size (fun k_ => some k_ ≠ (.slice (some ad995) t979.length co50 : Value).ownBlock ∧ some k_ ≠ (.slice Ao56 t983.length co56 : Value).ownBlock) (.slice (some ⟨go69, 0, none⟩) x16_1.length co69) y996 := (by rw [hw, Ny996.out]; exact HP77.1); clear HP77; replace HO_12 := Aside0.mk (Kd.R_after (v := (.slice (some ⟨go69, 0, none⟩) x16_1.length co69)) (v1 := (.slice (some ⟨go69, 0, none⟩) x16_1.length co69)) (ok := (fun k_ => some k_ ≠ (.slice Ao56 t983.length co56 : Value).ownBlock)) (by (with_reducible repeat (first | apply Kd.R_alloc | apply Kd.R_drewN | apply Kd.R_drew)); exact Kd.R_mono HO_12.out (fun _ hk => ⟨hk.2, hk.1⟩)) hg (.inl rfl)); replace HO_979001 := Aside0.mk (Kd.R_over' (v := (.slice (some ⟨go69, 0, none⟩) x16_1.length co69)) (qr HO_979001.out) (Kd.R_typed HO_16.out) (by decide) hg); replace HO_989001 := Aside0.mk (Kd.R_after (v := (.slice (some ⟨go69, 0, none⟩) x16_1.length co69)) (v1 := (.slice (some ⟨go69, 0, none⟩) x16_1.length co69)) (ok := (fun k_ => some k_ ≠ (.slice (some ad995) t979.length co50 : Value).ownBlock)) (qr HO_989001.out) hg (.inl rfl)); replace BK972 := Aside0.mk (blk_grown (g := gb972) (o := .cells #[.int .i64 a4_0, .int .i64 a4_1, .int .i64 a4_2] 23 (0, 0)) (qk BK972.out) hg (Kd.R_ne HO_16.out BK972.out (by decide))); replace BK978 := Aside0.mk (blk_grown (g := gb978) (o := .cells #[.int .i64 t974, .slice Ao47 t975.length co47] 26 (0, 0)) (qk BK978.out) hg (Kd.R_ne HO_16.out BK978.out (by decide))); replace BK988 := Aside0.mk (blk_grown (g := gb988) (o := .cells #[.bool false, .slice Ao56 t983.length co56, .int .i64 t986] 55 (0, 0)) (qk BK988.out) hg (Kd.R_ne HO_16.out BK988.out (by decide))); replace HO_16 := Aside0.mk (hp_); replace HB := Aside0.mk ((by rw [hw]; exact below_set (HB.out) GB69.out : Below w.heap.size w w78)); clear hg hw hp_))
               replace HO_12 := Aside0.mk (Kd.R_drew HO_12.out)
               replace HO_16 := Aside0.mk (Kd.R_drew HO_16.out)
               replace HO_979001 := Aside0.mk (Kd.R_drew HO_979001.out)
               replace HO_989001 := Aside0.mk (Kd.R_drew HO_989001.out)
               replace BK972 := Aside0.mk (blk_drew BK972.out)
               replace BK978 := Aside0.mk (blk_drew BK978.out)
               replace BK988 := Aside0.mk (blk_drew BK988.out)
               replace HB := Aside0.mk (below_drew1 HB.out)
               have p997 : 0 ≤ ((ji70) : Int) := of_decide_eq_true (by first | (with_reducible assumption) | assumption)
               have q997 : (ji70) < (y996.length : Int) := (by have h_ : ((ji70) : Int) < ((x16_1.length : Int) : Int) := of_decide_eq_true (by first | (with_reducible assumption) | assumption); first | (have e_ := (Kd.R_reads' HO_16.out).1; omega) | simpa only [Ny996.out, List.length_set] using h_)
               have ql997 : (((ji70) : Int) < ((x16_1.length : Int) : Int)) = True := eq_true (of_decide_eq_true (by first | (with_reducible assumption) | assumption))
               obtain ⟨ad997, e997, hx997_0⟩ := Kd.at_int (Kd.R_reads' HO_16.out).2.2 (ji70) p997 q997
               obtain rfl : (⟨go69, 0, none⟩ : Addr) = ad997 := (by injection e997)
               (first | simp only [add_plain] at hx997_0 | simp only [add_at] at hx997_0 | simp only [Addr.add, Nat.zero_add] at hx997_0 | skip)
               replace p997 := eq_true p997
               replace q997 := eq_true q997
               have p998 : 0 ≤ (x17_1 : Int) := of_decide_eq_true (by first | (with_reducible assumption) | assumption)
               have q998 : x17_1 < (y996.length : Int) := (by have h_ : (x17_1 : Int) < ((x16_1.length : Int) : Int) := of_decide_eq_true (by first | (with_reducible assumption) | assumption); first | (have e_ := (Kd.R_reads' HO_16.out).1; omega) | simpa only [Ny996.out, List.length_set] using h_)
               have ql998 : ((x17_1 : Int) < ((x16_1.length : Int) : Int)) = True := eq_true (of_decide_eq_true (by first | (with_reducible assumption) | assumption))
               obtain ⟨ad998, e998, hx998_0⟩ := Kd.at_int (Kd.R_reads' HO_16.out).2.2 x17_1 p998 q998
               obtain rfl : (⟨go69, 0, none⟩ : Addr) = ad998 := (by injection e998)
               (first | simp only [add_plain] at hx998_0 | simp only [add_at] at hx998_0 | simp only [Addr.add, Nat.zero_add] at hx998_0 | skip)
               replace p998 := eq_true p998
               replace q998 := eq_true q998
               have p73 : 0 ≤ ((ji70) : Int) := of_decide_eq_true (by first | (with_reducible assumption) | assumption)
               have q73 : ((ji70) : Int) < ((x16_1.length : Int) : Int) := of_decide_eq_true (by first | (with_reducible assumption) | assumption)
               obtain ⟨hx73_0, hf73_0⟩ := Kd.R_celln 0 HO_16.out ((ji70) : Int) p73 q73
               replace p73 := eq_true p73
               replace q73 := eq_true q73
               have HP80 := Kd.R_putn HO_16.out ((ji70) : Int) (wrap64 ((rd y996 (ji70)) - (rd y996 x17_1)))
               rw [← Ny999.out] at HP80
               have HQ80 := Aside0.mk HP80
               clear HP80
               refine start_ (n := 17) (S := fun w' => w'.cell? ⟨gb978, 0, none⟩ = some (.int .i64 t974) ∧ w'.cell? ⟨gb978, 1, none⟩ = some (.slice Ao47 t975.length co47) ∧ w'.cell? ⟨go69, ((ji70)).toNat, none⟩ = some (.int .i64 (rd y996 (ji70))) ∧ w'.cell? ⟨go69, (x17_1).toNat, none⟩ = some (.int .i64 (rd y996 x17_1))) (ds := [16]) #[false, false, false, false, false, false, false, false, false, false, false, false, false, false, false, false, false] qq rfl rfl ⟨(blk_cell BK978.out 0).trans rfl, (blk_cell BK978.out 1).trans rfl, hx997_0, hx998_0⟩ (fun hHeld => ?_); refine with_tabW dialtonelaw27_FlowMeets.tab16 dialtonelaw27_FlowMeets.bits16 (fun HT_ HW_ => ?_)
               generalize w78.drew = w79 at HO_12 HO_16 HO_979001 HO_989001 BK972 BK978 BK988 HB HQ80 hf73_0 hx73_0 hx997_0 hx998_0 hHeld ⊢
               refine pure_ (i := 0) (N := some 74) (v := ?_) (a' := ?_) #[true, false, false, false, false, false, false, false, false, false, false, false, false, false, false, false, false] rfl rfl (any_of HT_.out qq) (fun _ _ _ h => h) (Or.inl ⟨by rfl, ?_⟩) ?_ ?_
               rotate_left
               ·
                intro w'
                go_simp
                with_reducible rfl
               rotate_left
               ·
                simp only [Act.put, List.setIfInBounds_toArray, List.set_cons_zero, List.set_cons_succ, i64_w, i32_w]
                rfl
               refine pure_ (i := 1) (N := some 75) (v := ?_) (a' := ?_) #[true, true, false, false, false, false, false, false, false, false, false, false, false, false, false, false, false] rfl rfl (any_of HT_.out qq) (fun _ _ _ h => h) (Or.inl ⟨by rfl, ?_⟩) ?_ ?_
               rotate_left
               ·
                intro w'
                go_simp
                with_reducible rfl
               rotate_left
               ·
                simp only [Act.put, List.setIfInBounds_toArray, List.set_cons_zero, List.set_cons_succ, i64_w, i32_w]
                rfl
               refine pure_ (i := 4) (N := some 78) (v := ?_) (a' := ?_) #[true, true, false, false, true, false, false, false, false, false, false, false, false, false, false, false, false] rfl rfl (any_of HT_.out qq) (fun _ _ _ h => h) (Or.inl ⟨by rfl, ?_⟩) ?_ ?_
               rotate_left
               ·
                intro w'
                go_simp
                with_reducible rfl
               rotate_left
               ·
                simp only [Act.put, List.setIfInBounds_toArray, List.set_cons_zero, List.set_cons_succ, i64_w, i32_w]
                rfl
               refine pure_ (i := 5) (N := some 79) (v := ?_) (a' := ?_) #[true, true, false, false, true, true, false, false, false, false, false, false, false, false, false, false, false] rfl rfl (any_of HT_.out qq) (fun _ _ _ h => h) (Or.inl ⟨by rfl, ?_⟩) ?_ ?_
               rotate_left
               ·
                intro w'
                go_simp
                with_reducible rfl
               rotate_left
               ·
                simp only [Act.put, List.setIfInBounds_toArray, List.set_cons_zero, List.set_cons_succ, i64_w, i32_w]
                rfl
               refine pure_ (i := 10) (N := some 84) (v := ?_) (a' := ?_) #[true, true, false, false, true, true, false, false, false, false, true, false, false, false, false, false, false] rfl rfl (any_of HT_.out qq) (fun _ _ _ h => h) (Or.inl ⟨by rfl, ?_⟩) ?_ ?_
               rotate_left
               ·
                intro w'
                go_simp
                with_reducible rfl
               rotate_left
               ·
                simp only [Act.put, List.setIfInBounds_toArray, List.set_cons_zero, List.set_cons_succ, i64_w, i32_w]
                rfl
               refine pure_ (i := 11) (N := some 85) (v := ?_) (a' := ?_) #[true, true, false, false, true, true, false, false, false, false, true, true, false, false, false, false, false] rfl rfl (any_of HT_.out qq) (fun _ _ _ h => h) (Or.inl ⟨by rfl, ?_⟩) ?_ ?_
               rotate_left
               ·
                intro w'
                go_simp
                with_reducible rfl
               rotate_left
               ·
                simp only [Act.put, List.setIfInBounds_toArray, List.set_cons_zero, List.set_cons_succ, i64_w, i32_w]
                rfl
               refine pure_ (i := 12) (N := some 86) (v := ?_) (a' := ?_) #[true, true, false, false, true, true, false, false, false, false, true, true, true, false, false, false, false] rfl rfl (any_of HT_.out qq) (fun _ _ _ h => h) (Or.inl ⟨by rfl, ?_⟩) ?_ ?_
               rotate_left
               ·
                intro w'
                go_simp
                with_reducible rfl
               rotate_left
               ·
                simp only [Act.put, List.setIfInBounds_toArray, List.set_cons_zero, List.set_cons_succ, i64_w, i32_w]
                rfl
               refine take_ (i := 2) (N := some 76) (v := ?_) (a' := ?_) #[true, true, true, false, true, true, false, false, false, false, true, true, true, false, false, false, false] rfl rfl (take_ofW HT_.out HW_.out qq) (fun _ _ _ h => h) (Or.inl ⟨by rfl, ?_⟩) hHeld ?_ ?_
               rotate_left
               ·
                rintro w' ⟨s0, s1, s2, s3⟩
                go_simp
                with_reducible rfl
               rotate_left
               ·
                simp only [Act.put, List.setIfInBounds_toArray, List.set_cons_zero, List.set_cons_succ, i64_w, i32_w]
                rfl
               refine pure_ (i := 3) (N := some 77) (v := ?_) (a' := ?_) #[true, true, true, true, true, true, false, false, false, false, true, true, true, false, false, false, false] rfl rfl (any_of HT_.out qq) (fun _ _ _ h => h) (Or.inl ⟨by rfl, ?_⟩) ?_ ?_
               rotate_left
               ·
                intro w'
                go_simp
                with_reducible rfl
               rotate_left
               ·
                simp only [Act.put, List.setIfInBounds_toArray, List.set_cons_zero, List.set_cons_succ, i64_w, i32_w]
                rfl
               refine take_ (i := 6) (N := some 80) (v := ?_) (a' := ?_) #[true, true, true, true, true, true, true, false, false, false, true, true, true, false, false, false, false] rfl rfl (take_ofW HT_.out HW_.out qq) (fun _ _ _ h => h) (Or.inl ⟨by rfl, ?_⟩) hHeld ?_ ?_
               rotate_left
               ·
                rintro w' ⟨s0, s1, s2, s3⟩
                go_simp
                with_reducible rfl
               rotate_left
               ·
                simp only [Act.put, List.setIfInBounds_toArray, List.set_cons_zero, List.set_cons_succ, i64_w, i32_w]
                rfl
               refine pure_ (i := 7) (N := some 81) (v := ?_) (a' := ?_) #[true, true, true, true, true, true, true, true, false, false, true, true, true, false, false, false, false] rfl rfl (any_of HT_.out qq) (fun _ _ _ h => h) (Or.inl ⟨by rfl, ?_⟩) ?_ ?_
               rotate_left
               ·
                intro w'
                go_simp
                with_reducible rfl
               rotate_left
               ·
                simp only [Act.put, List.setIfInBounds_toArray, List.set_cons_zero, List.set_cons_succ, i64_w, i32_w]
                rfl
               refine pure_ (i := 8) (N := some 82) (v := ?_) (a' := ?_) #[true, true, true, true, true, true, true, true, true, false, true, true, true, false, false, false, false] rfl rfl (any_of HT_.out qq) (fun _ _ _ h => h) (Or.inl ⟨by rfl, ?_⟩) ?_ ?_
               rotate_left
               ·
                intro w'
                go_simp
                with_reducible rfl
               rotate_left
               ·
                simp only [Act.put, List.setIfInBounds_toArray, List.set_cons_zero, List.set_cons_succ, i64_w, i32_w]
                rfl
               refine take_ (i := 9) (N := some 83) (v := ?_) (a' := ?_) #[true, true, true, true, true, true, true, true, true, true, true, true, true, false, false, false, false] rfl rfl (take_ofW HT_.out HW_.out qq) (fun _ _ _ h => h) (Or.inl ⟨by rfl, ?_⟩) hHeld ?_ ?_
               rotate_left
               ·
                rintro w' ⟨s0, s1, s2, s3⟩
                go_simp
                with_reducible rfl
               rotate_left
               ·
                simp only [Act.put, List.setIfInBounds_toArray, List.set_cons_zero, List.set_cons_succ, i64_w, i32_w]
                rfl
               refine take_ (i := 13) (N := some 87) (v := ?_) (a' := ?_) #[true, true, true, true, true, true, true, true, true, true, true, true, true, true, false, false, false] rfl rfl (take_ofW HT_.out HW_.out qq) (fun _ _ _ h => h) (Or.inl ⟨by rfl, ?_⟩) hHeld ?_ ?_
               rotate_left
               ·
                rintro w' ⟨s0, s1, s2, s3⟩
                go_simp
                with_reducible rfl
               rotate_left
               ·
                simp only [Act.put, List.setIfInBounds_toArray, List.set_cons_zero, List.set_cons_succ, i64_w, i32_w]
                rfl
               refine pure_ (i := 14) (N := some 88) (v := ?_) (a' := ?_) #[true, true, true, true, true, true, true, true, true, true, true, true, true, true, true, false, false] rfl rfl (any_of HT_.out qq) (fun _ _ _ h => h) (Or.inl ⟨by rfl, ?_⟩) ?_ ?_
               rotate_left
               ·
                intro w'
                go_simp
                with_reducible rfl
               rotate_left
               ·
                simp only [Act.put, List.setIfInBounds_toArray, List.set_cons_zero, List.set_cons_succ, i64_w, i32_w]
                rfl
               refine pure_ (i := 15) (N := some 89) (v := ?_) (a' := ?_) #[true, true, true, true, true, true, true, true, true, true, true, true, true, true, true, true, false] rfl rfl (any_of HT_.out qq) (fun _ _ _ h => h) (Or.inl ⟨by rfl, ?_⟩) ?_ ?_
               rotate_left
               ·
                intro w'
                go_simp
                with_reducible rfl
               rotate_left
               ·
                simp only [Act.put, List.setIfInBounds_toArray, List.set_cons_zero, List.set_cons_succ, i64_w, i32_w]
                rfl
               refine last_ (i := 16) (N := none) #[true, true, true, true, true, true, true, true, true, true, true, true, true, true, true, true, true] rfl rfl (one_of HT_.out qq) (by decide) (fun K hK => ?_)
               refine skip_ (w1 := ?_) (by rfl) rfl ?_ ?_
               rotate_left
               ·
                go_simp
                rfl
               refine hK.out _ _ ?_
               clear hK K
               refine done_ (done_of HT_.out qq) ?_
               try go_wp2
               go_roundg k1
               case measure => have := HK1.out; omega
               case rel => exact ⟨(y999), (wrap64 (x17_1 + 1)), (by first | rfl | (simp; done) | (simp [*]; done)), H', ⟨by have := HK1.out; omega⟩, ⟨by (with_reducible repeat (first | apply Kd.R_alloc | apply Kd.R_drewN | apply Kd.R_drew)); exact Kd.R_mono (Kd.R_far (p := ⟨go69, ((ji70) : Int).toNat, none⟩) (Kd.R_mono HO_12.out (fun k_ hk => (⟨hk, fun e_ => hk.2 (by rw [e_]; rfl)⟩ : _ ∧ k_ ≠ go69))) (fun _ hk => hk.2) (.int .i64 (wrap64 ((rd y996 (ji70)) - (rd y996 x17_1))))) (fun _ hk => ⟨hk.1.2, hk.1.1⟩)⟩, ⟨by (with_reducible repeat (first | apply Kd.R_alloc | apply Kd.R_drewN | apply Kd.R_drew)); exact HQ80.out⟩, ⟨by (with_reducible repeat (first | apply Kd.R_alloc | apply Kd.R_drewN | apply Kd.R_drew)); exact Kd.R_mono (Kd.R_far (p := ⟨go69, ((ji70) : Int).toNat, none⟩) (Kd.R_mono (Kd.R_apart' HO_979001.out (Kd.R_typed HO_16.out) (by decide)) (fun k_ hk => (⟨hk.1, fun e_ => hk.2 (by rw [e_]; rfl)⟩ : _ ∧ k_ ≠ go69))) (fun _ hk => hk.2) (.int .i64 (wrap64 ((rd y996 (ji70)) - (rd y996 x17_1))))) (fun _ hk => trivial)⟩, ⟨by (with_reducible repeat (first | apply Kd.R_alloc | apply Kd.R_drewN | apply Kd.R_drew)); exact Kd.R_mono (Kd.R_far (p := ⟨go69, ((ji70) : Int).toNat, none⟩) (Kd.R_mono HO_989001.out (fun k_ hk => (⟨hk, fun e_ => hk.2 (by rw [e_]; rfl)⟩ : _ ∧ k_ ≠ go69))) (fun _ hk => hk.2) (.int .i64 (wrap64 ((rd y996 (ji70)) - (rd y996 x17_1))))) (fun _ hk => ⟨hk.1.1, hk.1.2⟩)⟩, ⟨by (with_reducible repeat (first | refine blk_drewN ?_ _ | refine blk_drew ?_ | refine blk_alloc ?_ _)); refine blk_far ?_ (by have h_ := Kd.R_ne HO_16.out BK972.out (by decide); intro e_; exact h_ (by rw [e_]; rfl)) _; (with_reducible repeat (first | refine blk_drewN ?_ _ | refine blk_drew ?_ | refine blk_alloc ?_ _)); exact BK972.out⟩, ⟨by (with_reducible repeat (first | refine blk_drewN ?_ _ | refine blk_drew ?_ | refine blk_alloc ?_ _)); refine blk_far ?_ (by have h_ := Kd.R_ne HO_16.out BK978.out (by decide); intro e_; exact h_ (by rw [e_]; rfl)) _; (with_reducible repeat (first | refine blk_drewN ?_ _ | refine blk_drew ?_ | refine blk_alloc ?_ _)); exact BK978.out⟩, ⟨by (with_reducible repeat (first | refine blk_drewN ?_ _ | refine blk_drew ?_ | refine blk_alloc ?_ _)); refine blk_far ?_ (by have h_ := Kd.R_ne HO_16.out BK988.out (by decide); intro e_; exact h_ (by rw [e_]; rfl)) _; (with_reducible repeat (first | refine blk_drewN ?_ _ | refine blk_drew ?_ | refine blk_alloc ?_ _)); exact BK988.out⟩, ⟨by repeat (first | (with_reducible first | exact HB.out | apply below_alloc | apply pw_below_drewN | apply below_drew1 | refine below_set ?_ GB69.out | refine below_set ?_ GE972.out | refine below_set ?_ GE978.out | refine below_set ?_ GE988.out) | exact HB.out)⟩⟩
              ·
               rw [if_neg c72] at H
               exact absurd H (by simp)
             ·
              rw [if_neg c71] at H
              exact absurd H (by simp)
            ·
             rw [if_neg c68] at H
             exact absurd H (by simp)
           ·
            rw [if_neg c67] at H
            exact absurd H (by simp)
          ·
           rw [if_neg c66] at H
           exact absurd H (by simp)
         ·
          rw [if_neg c65] at H
          have c65b0 : decide ((wrap64 (x17_1 + 1)) < t974) = false := decide_eq_false c65
          clear c65
          replace H := Option.bind_eq_some_iff.mp H
          obtain ⟨⟨t1000, t1001, t1004, t1005⟩, A810, H⟩ := H
          (try dsimp only at H)
          have A81 := Aside0.mk A810
          clear A810
          by_cases c82 : t1005 = 0
          ·
           rw [if_pos c82] at H
           obtain ⟨c82b0, c82b1⟩ := qt c82
           clear c82
           replace H := Option.bind_eq_some_iff.mp H
           obtain ⟨t1007, A830, H⟩ := H
           (try dsimp only at H)
           have A83 := Aside0.mk A830
           clear A830
           by_cases c84 : t1007 = true
           ·
            subst c84
            rw [if_pos rfl] at H
            replace H := Option.bind_eq_some_iff.mp H
            obtain ⟨t1008, A850, H⟩ := H
            (try dsimp only at H)
            have A85 := Aside0.mk A850
            clear A850
            by_cases c86 : t1008 = true
            ·
             subst c86
             rw [if_pos rfl] at H
             exact absurd H (by simp)
            ·
             replace c86 := Bool.eq_false_iff.mpr c86
             subst c86
             rw [if_neg (show ¬ (false = true) by decide)] at H
             replace H := Option.bind_eq_some_iff.mp H
             obtain ⟨t1009, A870, H⟩ := H
             (try dsimp only at H)
             have A87 := Aside0.mk A870
             clear A870
             replace H := Option.bind_eq_some_iff.mp H
             obtain ⟨t1012, A880, H⟩ := H
             (try dsimp only at H)
             have A88 := Aside0.mk A880
             clear A880
             by_cases c89 : t1012 = true
             ·
              subst c89
              rw [if_pos rfl] at H
              exact absurd H (by simp)
             ·
              replace c89 := Bool.eq_false_iff.mpr c89
              subst c89
              rw [if_neg (show ¬ (false = true) by decide)] at H
              obtain rfl := Option.some.inj H
              have hnb90 := NB978_972.out
              have hnc90 := NB972_978.out
              have hnb91 := NB978_988.out
              have hnc91 := NB988_978.out
              obtain ⟨hcz92_0, hcz92_1, hfz92_0, hfz92_1⟩ := qc2 BK978.out
              obtain ⟨Ao93, co93, eo93⟩ := Kd.R_slice HO_16.out
              subst eo93
              try go_wp2_with (first | ((with_reducible refine gate_callee (f := 46) rfl ?_); refine goesL_ (some 93) rfl rfl Try.func46 qq rfl #[.agg #[.int .i64 t974, .slice Ao47 t975.length co47], .slice Ao93 x16_1.length co93] rfl qa ?_; (with_reducible refine (flow_Meet.calls t974 _ _ t975 _ _ x16_1 t1000 t1001 t1004 t1005 _ ?side1 ?side2 ?side3 ?side4 A81.out).mono ?_); (case side1 => exact qC (Kd.R_reads' HO_979001.out).2.2); (case side2 => exact (Kd.R_reads' HO_979001.out).2.1); (case side3 => exact qC (Kd.R_reads' HO_16.out).2.2); (case side4 => exact (Kd.R_reads' HO_16.out).2.1); rintro e w94 ⟨v1002, rfl, ho0, hb⟩; refine ⟨_, rfl, ?_⟩; replace HO_979001 := qR HO_979001 hb; have HO1003 := Aside0.mk (Kd.R_lower (Kd.R_new' (Kd.R_new' (Kd.R_new' ho0 (Kd.R_lt (qr HO_12.out))) (Kd.R_lt (qr HO_16.out))) (Kd.R_lt (qr HO_989001.out))) (below_size (qb))); replace HO_12 := Aside0.mk (Kd.R_elder' (qr HO_12.out) (Kd.R_base ho0) hb); replace HO_16 := Aside0.mk (Kd.R_elder' (qr HO_16.out) (Kd.R_base ho0) hb); replace HO_989001 := Aside0.mk (Kd.R_elder' (qr HO_989001.out) (Kd.R_base ho0) hb); replace BK972 := qB BK972 hb; replace BK978 := qB BK978 hb; replace BK988 := qB BK988 hb; replace HB := qS HB hb; (try clear hb); (try clear hb2); (try clear hk); (try clear hi); (try clear ho0)) | ((with_reducible refine gate_dst (N := 18) rfl ?_); refine box_event rfl (N := 18) rfl (cs := #[.bool false, .slice none 0 0, .int .i64 0]) (t := 55) qh ?_; intro gb1006 hg w95 hbox hb; replace HO_12 := qR HO_12 hb; replace HO_16 := qR HO_16 hb; replace HO_979001 := qR HO_979001 hb; replace HO_989001 := qR HO_989001 hb; replace HO1003 := qR HO1003 hb; have BK1006 := Aside0.mk (hbox); have GW1006 := qg HB hg; have GE1006 := qg HB hg; replace HB := qS HB hb; have NB972_1006 := qn BK972 hg; have NB1006_972 := qm BK972 hg; replace BK972 := qB BK972 hb; have NB978_1006 := qn BK978 hg; have NB1006_978 := qm BK978 hg; replace BK978 := qB BK978 hb; have NB988_1006 := qn BK988 hg; have NB1006_988 := qm BK988 hg; replace BK988 := qB BK988 hb; clear hb hbox hg; have hnb96 := NB1006_972.out; have hnc96 := NB972_1006.out; have hnb97 := NB1006_978.out; have hnc97 := NB978_1006.out; have hnb98 := NB1006_988.out; have hnc98 := NB988_1006.out; obtain ⟨hcz99_0, hcz99_1, hcz99_2, hfz99_0, hfz99_1, hfz99_2⟩ := qc3 BK1006.out; obtain ⟨Ao100, co100, eo100⟩ := Kd.R_slice HO1003.out; subst eo100; obtain ⟨hcz101_0, hcz101_1, hfz101_0, hfz101_1⟩ := qc2 BK978.out) | (go_at_call 49; (with_reducible refine (flow_CheckMeet.calls k1 t974 _ _ t975 _ _ x16_1 t1000 _ _ t1001 t1004 true _ ?side1 ?side2 ?side3 ?side4 ?side5 ?side6 A83.out).mono ?_); (case side1 => refine (Kd.R_reads' (e := 72) (base := w.heap.size) (ok := fun k_ => True) (n := t975.length) (c := co47) ?_).2.2; exact (qr (Kd.R_mono (Kd.R_far (p := ⟨gb1006, 2, none⟩) (Kd.R_far (p := ⟨gb1006, 1, none⟩) (Kd.R_far (p := ⟨gb1006, 0, none⟩) (Kd.R_types HO_979001.out BK1006.out (by decide)) (fun _ hk => hk.2) (.bool t1000)) (fun _ hk => hk.2) (.slice Ao100 t1001.length co100)) (fun _ hk => hk.2) (.int .i64 t1004)) (fun _ h_ => h_.1)))); (case side2 => exact (Kd.R_reads' HO_979001.out).2.1); (case side3 => refine (Kd.R_reads' (e := 3) (base := w.heap.size) (ok := fun k_ => ((some k_ ≠ (.slice Ao50 t979.length co50 : Value).ownBlock ∧ some k_ ≠ (.slice Ao56 t983.length co56 : Value).ownBlock) ∧ some k_ ≠ (.slice Ao100 t1001.length co100 : Value).ownBlock)) (n := x16_1.length) (c := co93) ?_).2.2; exact (qr (Kd.R_mono (Kd.R_far (p := ⟨gb1006, 2, none⟩) (Kd.R_far (p := ⟨gb1006, 1, none⟩) (Kd.R_far (p := ⟨gb1006, 0, none⟩) (Kd.R_types HO_16.out BK1006.out (by decide)) (fun _ hk => hk.2) (.bool t1000)) (fun _ hk => hk.2) (.slice Ao100 t1001.length co100)) (fun _ hk => hk.2) (.int .i64 t1004)) (fun _ h_ => h_.1)))); (case side4 => exact (Kd.R_reads' HO_16.out).2.1); (case side5 => refine (Kd.R_reads' (e := 3) (base := w.heap.size) (ok := fun k_ => (((True ∧ some k_ ≠ (.slice Ao50 t979.length co50 : Value).ownBlock) ∧ some k_ ≠ (.slice Ao93 x16_1.length co93 : Value).ownBlock) ∧ some k_ ≠ (.slice Ao56 t983.length co56 : Value).ownBlock)) (n := t1001.length) (c := co100) ?_).2.2; exact (qr (Kd.R_mono (Kd.R_far (p := ⟨gb1006, 2, none⟩) (Kd.R_far (p := ⟨gb1006, 1, none⟩) (Kd.R_far (p := ⟨gb1006, 0, none⟩) (Kd.R_types HO1003.out BK1006.out (by decide)) (fun _ hk => hk.2) (.bool t1000)) (fun _ hk => hk.2) (.slice Ao100 t1001.length co100)) (fun _ hk => hk.2) (.int .i64 t1004)) (fun _ h_ => h_.1)))); (case side6 => exact (Kd.R_reads' HO1003.out).2.1); rintro e w102 ⟨rfl, hb⟩; replace HO_12 := Aside0.mk (Kd.R_below (qr (Kd.R_mono (Kd.R_far (p := ⟨gb1006, 2, none⟩) (Kd.R_far (p := ⟨gb1006, 1, none⟩) (Kd.R_far (p := ⟨gb1006, 0, none⟩) (Kd.R_types HO_12.out BK1006.out (by decide)) (fun _ hk => hk.2) (.bool t1000)) (fun _ hk => hk.2) (.slice Ao100 t1001.length co100)) (fun _ hk => hk.2) (.int .i64 t1004)) (fun _ h_ => h_.1))) hb); replace HO_16 := Aside0.mk (Kd.R_below (qr (Kd.R_mono (Kd.R_far (p := ⟨gb1006, 2, none⟩) (Kd.R_far (p := ⟨gb1006, 1, none⟩) (Kd.R_far (p := ⟨gb1006, 0, none⟩) (Kd.R_types HO_16.out BK1006.out (by decide)) (fun _ hk => hk.2) (.bool t1000)) (fun _ hk => hk.2) (.slice Ao100 t1001.length co100)) (fun _ hk => hk.2) (.int .i64 t1004)) (fun _ h_ => h_.1))) hb); replace HO_979001 := Aside0.mk (Kd.R_below (qr (Kd.R_mono (Kd.R_far (p := ⟨gb1006, 2, none⟩) (Kd.R_far (p := ⟨gb1006, 1, none⟩) (Kd.R_far (p := ⟨gb1006, 0, none⟩) (Kd.R_types HO_979001.out BK1006.out (by decide)) (fun _ hk => hk.2) (.bool t1000)) (fun _ hk => hk.2) (.slice Ao100 t1001.length co100)) (fun _ hk => hk.2) (.int .i64 t1004)) (fun _ h_ => h_.1))) hb); replace HO_989001 := Aside0.mk (Kd.R_below (qr (Kd.R_mono (Kd.R_far (p := ⟨gb1006, 2, none⟩) (Kd.R_far (p := ⟨gb1006, 1, none⟩) (Kd.R_far (p := ⟨gb1006, 0, none⟩) (Kd.R_types HO_989001.out BK1006.out (by decide)) (fun _ hk => hk.2) (.bool t1000)) (fun _ hk => hk.2) (.slice Ao100 t1001.length co100)) (fun _ hk => hk.2) (.int .i64 t1004)) (fun _ h_ => h_.1))) hb); replace HO1003 := Aside0.mk (Kd.R_below (qr (Kd.R_mono (Kd.R_far (p := ⟨gb1006, 2, none⟩) (Kd.R_far (p := ⟨gb1006, 1, none⟩) (Kd.R_far (p := ⟨gb1006, 0, none⟩) (Kd.R_types HO1003.out BK1006.out (by decide)) (fun _ hk => hk.2) (.bool t1000)) (fun _ hk => hk.2) (.slice Ao100 t1001.length co100)) (fun _ hk => hk.2) (.int .i64 t1004)) (fun _ h_ => h_.1))) hb); replace BK972 := Aside0.mk (blk_below (g := gb972) (o := .cells #[.int .i64 a4_0, .int .i64 a4_1, .int .i64 a4_2] 23 (0, 0)) (by (with_reducible repeat (first | refine blk_drewN ?_ _ | refine blk_drew ?_ | refine blk_alloc ?_ _)); refine blk_far ?_ NB972_1006.out _; (with_reducible repeat (first | refine blk_drewN ?_ _ | refine blk_drew ?_ | refine blk_alloc ?_ _)); refine blk_far ?_ NB972_1006.out _; (with_reducible repeat (first | refine blk_drewN ?_ _ | refine blk_drew ?_ | refine blk_alloc ?_ _)); refine blk_far ?_ NB972_1006.out _; (with_reducible repeat (first | refine blk_drewN ?_ _ | refine blk_drew ?_ | refine blk_alloc ?_ _)); exact BK972.out) hb); replace BK978 := Aside0.mk (blk_below (g := gb978) (o := .cells #[.int .i64 t974, .slice Ao47 t975.length co47] 26 (0, 0)) (by (with_reducible repeat (first | refine blk_drewN ?_ _ | refine blk_drew ?_ | refine blk_alloc ?_ _)); refine blk_far ?_ NB978_1006.out _; (with_reducible repeat (first | refine blk_drewN ?_ _ | refine blk_drew ?_ | refine blk_alloc ?_ _)); refine blk_far ?_ NB978_1006.out _; (with_reducible repeat (first | refine blk_drewN ?_ _ | refine blk_drew ?_ | refine blk_alloc ?_ _)); refine blk_far ?_ NB978_1006.out _; (with_reducible repeat (first | refine blk_drewN ?_ _ | refine blk_drew ?_ | refine blk_alloc ?_ _)); exact BK978.out) hb); replace BK988 := Aside0.mk (blk_below (g := gb988) (o := .cells #[.bool false, .slice Ao56 t983.length co56, .int .i64 t986] 55 (0, 0)) (by (with_reducible repeat (first | refine blk_drewN ?_ _ | refine blk_drew ?_ | refine blk_alloc ?_ _)); refine blk_far ?_ NB988_1006.out _; (with_reducible repeat (first | refine blk_drewN ?_ _ | refine blk_drew ?_ | refine blk_alloc ?_ _)); refine blk_far ?_ NB988_1006.out _; (with_reducible repeat (first | refine blk_drewN ?_ _ | refine blk_drew ?_ | refine blk_alloc ?_ _)); refine blk_far ?_ NB988_1006.out _; (with_reducible repeat (first | refine blk_drewN ?_ _ | refine blk_drew ?_ | refine blk_alloc ?_ _)); exact BK988.out) hb); replace BK1006 := Aside0.mk (blk_below (g := gb1006) (o := .cells #[.bool t1000, .slice Ao100 t1001.length co100, .int .i64 t1004] 55 (0, 0)) (by (with_reducible repeat (first | refine blk_drewN ?_ _ | refine blk_drew ?_ | refine blk_alloc ?_ _)); refine blk_put (cs := #[.bool t1000, .slice Ao100 t1001.length co100, .int .i64 0]) ?_ 2 _ rfl; (with_reducible repeat (first | refine blk_drewN ?_ _ | refine blk_drew ?_ | refine blk_alloc ?_ _)); refine blk_put (cs := #[.bool t1000, .slice none 0 0, .int .i64 0]) ?_ 1 _ rfl; (with_reducible repeat (first | refine blk_drewN ?_ _ | refine blk_drew ?_ | refine blk_alloc ?_ _)); refine blk_put (cs := #[.bool false, .slice none 0 0, .int .i64 0]) ?_ 0 _ rfl; (with_reducible repeat (first | refine blk_drewN ?_ _ | refine blk_drew ?_ | refine blk_alloc ?_ _)); exact BK1006.out) hb); replace HB := qS HB hb; (try clear hb); (try clear hb2); (try clear hk); (try clear hi)))
              replace HO_12 := Aside0.mk (Kd.R_drew HO_12.out)
              replace HO_16 := Aside0.mk (Kd.R_drew HO_16.out)
              replace HO_979001 := Aside0.mk (Kd.R_drew HO_979001.out)
              replace HO_989001 := Aside0.mk (Kd.R_drew HO_989001.out)
              replace HO1003 := Aside0.mk (Kd.R_drew HO1003.out)
              replace BK972 := Aside0.mk (blk_drew BK972.out)
              replace BK978 := Aside0.mk (blk_drew BK978.out)
              replace BK988 := Aside0.mk (blk_drew BK988.out)
              replace BK1006 := Aside0.mk (blk_drew BK1006.out)
              replace HB := Aside0.mk (below_drew1 HB.out)
              refine start_ (n := 24) (S := fun w' => w'.cell? ⟨gb978, 0, none⟩ = some (.int .i64 t974) ∧ w'.cell? ⟨gb978, 1, none⟩ = some (.slice Ao47 t975.length co47) ∧ w'.cell? ⟨gb1006, 0, none⟩ = some (.bool t1000) ∧ w'.cell? ⟨gb1006, 1, none⟩ = some (.slice Ao100 t1001.length co100) ∧ w'.cell? ⟨gb1006, 2, none⟩ = some (.int .i64 t1004) ∧ w'.cell? ⟨gb972, 0, none⟩ = some (.int .i64 a4_0) ∧ w'.cell? ⟨gb972, 1, none⟩ = some (.int .i64 a4_1) ∧ w'.cell? ⟨gb972, 2, none⟩ = some (.int .i64 a4_2)) (ds := []) #[false, false, false, false, false, false, false, false, false, false, false, false, false, false, false, false, false, false, false, false, false, false, false, false] qq rfl rfl ⟨(blk_cell BK978.out 0).trans rfl, (blk_cell BK978.out 1).trans rfl, (blk_cell BK1006.out 0).trans rfl, (blk_cell BK1006.out 1).trans rfl, (blk_cell BK1006.out 2).trans rfl, (blk_cell BK972.out 0).trans rfl, (blk_cell BK972.out 1).trans rfl, (blk_cell BK972.out 2).trans rfl⟩ (fun hHeld => ?_); refine with_tabW dialtonelaw27_FlowMeets.tab20 dialtonelaw27_FlowMeets.bits20 (fun HT_ HW_ => ?_)
              generalize w102.drew = w103 at HO_12 HO_16 HO_979001 HO_989001 HO1003 BK972 BK978 BK988 BK1006 HB hHeld ⊢
              refine pure_ (i := 1) (N := some 106) (v := ?_) (a' := ?_) #[false, true, false, false, false, false, false, false, false, false, false, false, false, false, false, false, false, false, false, false, false, false, false, false] rfl rfl (any_of HT_.out qq) (fun _ _ _ h => h) (Or.inl ⟨by rfl, ?_⟩) ?_ ?_
              rotate_left
              ·
               intro w'
               go_simp
               with_reducible rfl
              rotate_left
              ·
               simp only [Act.put, List.setIfInBounds_toArray, List.set_cons_zero, List.set_cons_succ, i64_w, i32_w]
               rfl
              refine pure_ (i := 2) (N := some 107) (v := ?_) (a' := ?_) #[false, true, true, false, false, false, false, false, false, false, false, false, false, false, false, false, false, false, false, false, false, false, false, false] rfl rfl (any_of HT_.out qq) (fun _ _ _ h => h) (Or.inl ⟨by rfl, ?_⟩) ?_ ?_
              rotate_left
              ·
               intro w'
               go_simp
               with_reducible rfl
              rotate_left
              ·
               simp only [Act.put, List.setIfInBounds_toArray, List.set_cons_zero, List.set_cons_succ, i64_w, i32_w]
               rfl
              refine take_ (i := 0) (N := some 105) (v := ?_) (a' := ?_) #[true, true, true, false, false, false, false, false, false, false, false, false, false, false, false, false, false, false, false, false, false, false, false, false] rfl rfl (take_ofW HT_.out HW_.out qq) (fun _ _ _ h => h) (Or.inl ⟨by rfl, ?_⟩) hHeld ?_ ?_
              rotate_left
              ·
               rintro w' ⟨s0, s1, s2, s3, s4, s5, s6, s7⟩
               go_simp
               with_reducible rfl
              rotate_left
              ·
               simp only [Act.put, List.setIfInBounds_toArray, List.set_cons_zero, List.set_cons_succ, i64_w, i32_w]
               rfl
              refine take_ (i := 3) (N := some 108) (v := ?_) (a' := ?_) #[true, true, true, true, false, false, false, false, false, false, false, false, false, false, false, false, false, false, false, false, false, false, false, false] rfl rfl (take_ofW HT_.out HW_.out qq) (fun _ _ _ h => h) (Or.inl ⟨by rfl, ?_⟩) hHeld ?_ ?_
              rotate_left
              ·
               rintro w' ⟨s0, s1, s2, s3, s4, s5, s6, s7⟩
               go_simp
               with_reducible rfl
              rotate_left
              ·
               simp only [Act.put, List.setIfInBounds_toArray, List.set_cons_zero, List.set_cons_succ, i64_w, i32_w]
               rfl
              refine pure_ (i := 4) (N := some 109) (v := ?_) (a' := ?_) #[true, true, true, true, true, false, false, false, false, false, false, false, false, false, false, false, false, false, false, false, false, false, false, false] rfl rfl (any_of HT_.out qq) (fun _ _ _ h => h) (Or.inl ⟨by rfl, ?_⟩) ?_ ?_
              rotate_left
              ·
               intro w'
               go_simp
               with_reducible rfl
              rotate_left
              ·
               simp only [Act.put, List.setIfInBounds_toArray, List.set_cons_zero, List.set_cons_succ, i64_w, i32_w]
               rfl
              refine one_ (i := 5) (N := some 110) #[true, true, true, true, true, true, false, false, false, false, false, false, false, false, false, false, false, false, false, false, false, false, false, false] rfl rfl (one_of HT_.out qq) (by decide) (fun K hK => ?_)
              refine goes_ Try.func49 qq rfl #[.agg #[.int .i64 t974, .slice Ao47 t975.length co47], .slice Ao50 t979.length co50, .agg #[.bool true, .slice Ao100 t1001.length co100, .int .i64 0]] (by rfl) rfl rfl qa ?_
              with_reducible refine (flow_CheckMeet.calls k1 t974 _ _ t975 _ _ t979 true _ _ t1001 0 false _ ?side1 ?side2 ?side3 ?side4 ?side5 ?side6 A85.out).mono ?_
              (case side1 => exact qC (Kd.R_reads' HO_979001.out).2.2)
              (case side2 => exact (Kd.R_reads' HO_979001.out).2.1)
              (case side3 => exact qC (Kd.R_reads' HO_12.out).2.2)
              (case side4 => exact (Kd.R_reads' HO_12.out).2.1)
              (case side5 => exact qC (Kd.R_reads' HO1003.out).2.2)
              (case side6 => exact (Kd.R_reads' HO1003.out).2.1)
              rintro e w104 ⟨rfl, hb⟩
              refine ⟨_, rfl, ?_⟩
              replace HO_12 := qR HO_12 hb
              replace HO_16 := qR HO_16 hb
              replace HO_979001 := qR HO_979001 hb
              replace HO_989001 := qR HO_989001 hb
              replace HO1003 := qR HO1003 hb
              replace BK972 := qB BK972 hb
              replace BK978 := qB BK978 hb
              replace BK988 := qB BK988 hb
              replace BK1006 := qB BK1006 hb
              replace HB := qS HB hb
              (try clear hb)
              (try clear hb2)
              (try clear hk)
              (try clear hi)
              refine hK.out _ _ ⟨(blk_cell BK978.out 0).trans rfl, (blk_cell BK978.out 1).trans rfl, (blk_cell BK1006.out 0).trans rfl, (blk_cell BK1006.out 1).trans rfl, (blk_cell BK1006.out 2).trans rfl, (blk_cell BK972.out 0).trans rfl, (blk_cell BK972.out 1).trans rfl, (blk_cell BK972.out 2).trans rfl⟩ (fun hHeld => ?_)
              clear hK K
              refine norm_ (a' := ?_) ?_ ?_
              rotate_left
              ·
               show Act.put _ (some 110) _ = _
               simp only [Act.put, List.setIfInBounds_toArray, List.set_cons_zero, List.set_cons_succ, i64_w, i32_w]
               rfl
              refine pure_ (i := 6) (N := some 111) (v := ?_) (a' := ?_) #[true, true, true, true, true, true, true, false, false, false, false, false, false, false, false, false, false, false, false, false, false, false, false, false] rfl rfl (any_of HT_.out qq) (fun _ _ _ h => h) (Or.inl ⟨by rfl, ?_⟩) ?_ ?_
              rotate_left
              ·
               intro w'
               go_simp
               with_reducible rfl
              rotate_left
              ·
               simp only [Act.put, List.setIfInBounds_toArray, List.set_cons_zero, List.set_cons_succ, i64_w, i32_w]
               rfl
              refine pure_ (i := 7) (N := some 112) (v := ?_) (a' := ?_) #[true, true, true, true, true, true, true, true, false, false, false, false, false, false, false, false, false, false, false, false, false, false, false, false] rfl rfl (any_of HT_.out qq) (fun _ _ _ h => h) (Or.inl ⟨by rfl, ?_⟩) ?_ ?_
              rotate_left
              ·
               intro w'
               go_simp
               with_reducible rfl
              rotate_left
              ·
               simp only [Act.put, List.setIfInBounds_toArray, List.set_cons_zero, List.set_cons_succ, i64_w, i32_w]
               rfl
              refine pure_ (i := 9) (N := some 114) (v := ?_) (a' := ?_) #[true, true, true, true, true, true, true, true, false, true, false, false, false, false, false, false, false, false, false, false, false, false, false, false] rfl rfl (any_of HT_.out qq) (fun _ _ _ h => h) (Or.inl ⟨by rfl, ?_⟩) ?_ ?_
              rotate_left
              ·
               intro w'
               go_simp
               with_reducible rfl
              rotate_left
              ·
               simp only [Act.put, List.setIfInBounds_toArray, List.set_cons_zero, List.set_cons_succ, i64_w, i32_w]
               rfl
              refine pure_ (i := 10) (N := some 115) (v := ?_) (a' := ?_) #[true, true, true, true, true, true, true, true, false, true, true, false, false, false, false, false, false, false, false, false, false, false, false, false] rfl rfl (any_of HT_.out qq) (fun _ _ _ h => h) (Or.inl ⟨by rfl, ?_⟩) ?_ ?_
              rotate_left
              ·
               intro w'
               go_simp
               with_reducible rfl
              rotate_left
              ·
               simp only [Act.put, List.setIfInBounds_toArray, List.set_cons_zero, List.set_cons_succ, i64_w, i32_w]
               rfl
              refine pure_ (i := 12) (N := some 117) (v := ?_) (a' := ?_) #[true, true, true, true, true, true, true, true, false, true, true, false, true, false, false, false, false, false, false, false, false, false, false, false] rfl rfl (any_of HT_.out qq) (fun _ _ _ h => h) (Or.inl ⟨by rfl, ?_⟩) ?_ ?_
              rotate_left
              ·
               intro w'
               go_simp
               with_reducible rfl
              rotate_left
              ·
               simp only [Act.put, List.setIfInBounds_toArray, List.set_cons_zero, List.set_cons_succ, i64_w, i32_w]
               rfl
              refine pure_ (i := 14) (N := some 119) (v := ?_) (a' := ?_) #[true, true, true, true, true, true, true, true, false, true, true, false, true, false, true, false, false, false, false, false, false, false, false, false] rfl rfl (any_of HT_.out qq) (fun _ _ _ h => h) (Or.inl ⟨by rfl, ?_⟩) ?_ ?_
              rotate_left
              ·
               intro w'
               go_simp
               with_reducible rfl
              rotate_left
              ·
               simp only [Act.put, List.setIfInBounds_toArray, List.set_cons_zero, List.set_cons_succ, i64_w, i32_w]
               rfl
              refine pure_ (i := 16) (N := some 121) (v := ?_) (a' := ?_) #[true, true, true, true, true, true, true, true, false, true, true, false, true, false, true, false, true, false, false, false, false, false, false, false] rfl rfl (any_of HT_.out qq) (fun _ _ _ h => h) (Or.inl ⟨by rfl, ?_⟩) ?_ ?_
              rotate_left
              ·
               intro w'
               go_simp
               with_reducible rfl
              rotate_left
              ·
               simp only [Act.put, List.setIfInBounds_toArray, List.set_cons_zero, List.set_cons_succ, i64_w, i32_w]
               rfl
              refine take_ (i := 8) (N := some 113) (v := ?_) (a' := ?_) #[true, true, true, true, true, true, true, true, true, true, true, false, true, false, true, false, true, false, false, false, false, false, false, false] rfl rfl (take_ofW HT_.out HW_.out qq) (fun _ _ _ h => h) (Or.inl ⟨by rfl, ?_⟩) hHeld ?_ ?_
              rotate_left
              ·
               rintro w' ⟨s0, s1, s2, s3, s4, s5, s6, s7⟩
               go_simp
               with_reducible rfl
              rotate_left
              ·
               simp only [Act.put, List.setIfInBounds_toArray, List.set_cons_zero, List.set_cons_succ, i64_w, i32_w]
               rfl
              refine take_ (i := 11) (N := some 116) (v := ?_) (a' := ?_) #[true, true, true, true, true, true, true, true, true, true, true, true, true, false, true, false, true, false, false, false, false, false, false, false] rfl rfl (take_ofW HT_.out HW_.out qq) (fun _ _ _ h => h) (Or.inl ⟨by rfl, ?_⟩) hHeld ?_ ?_
              rotate_left
              ·
               rintro w' ⟨s0, s1, s2, s3, s4, s5, s6, s7⟩
               go_simp
               with_reducible rfl
              rotate_left
              ·
               simp only [Act.put, List.setIfInBounds_toArray, List.set_cons_zero, List.set_cons_succ, i64_w, i32_w]
               rfl
              refine take_ (i := 13) (N := some 118) (v := ?_) (a' := ?_) #[true, true, true, true, true, true, true, true, true, true, true, true, true, true, true, false, true, false, false, false, false, false, false, false] rfl rfl (take_ofW HT_.out HW_.out qq) (fun _ _ _ h => h) (Or.inl ⟨by rfl, ?_⟩) hHeld ?_ ?_
              rotate_left
              ·
               rintro w' ⟨s0, s1, s2, s3, s4, s5, s6, s7⟩
               go_simp
               with_reducible rfl
              rotate_left
              ·
               simp only [Act.put, List.setIfInBounds_toArray, List.set_cons_zero, List.set_cons_succ, i64_w, i32_w]
               rfl
              refine take_ (i := 15) (N := some 120) (v := ?_) (a' := ?_) #[true, true, true, true, true, true, true, true, true, true, true, true, true, true, true, true, true, false, false, false, false, false, false, false] rfl rfl (take_ofW HT_.out HW_.out qq) (fun _ _ _ h => h) (Or.inl ⟨by rfl, ?_⟩) hHeld ?_ ?_
              rotate_left
              ·
               rintro w' ⟨s0, s1, s2, s3, s4, s5, s6, s7⟩
               go_simp
               with_reducible rfl
              rotate_left
              ·
               simp only [Act.put, List.setIfInBounds_toArray, List.set_cons_zero, List.set_cons_succ, i64_w, i32_w]
               rfl
              refine take_ (i := 17) (N := some 122) (v := ?_) (a' := ?_) #[true, true, true, true, true, true, true, true, true, true, true, true, true, true, true, true, true, true, false, false, false, false, false, false] rfl rfl (take_ofW HT_.out HW_.out qq) (fun _ _ _ h => h) (Or.inl ⟨by rfl, ?_⟩) hHeld ?_ ?_
              rotate_left
              ·
               rintro w' ⟨s0, s1, s2, s3, s4, s5, s6, s7⟩
               go_simp
               with_reducible rfl
              rotate_left
              ·
               simp only [Act.put, List.setIfInBounds_toArray, List.set_cons_zero, List.set_cons_succ, i64_w, i32_w]
               rfl
              refine one_ (i := 18) (N := some 123) #[true, true, true, true, true, true, true, true, true, true, true, true, true, true, true, true, true, true, true, false, false, false, false, false] rfl rfl (one_of HT_.out qq) (by decide) (fun K hK => ?_)
              refine goes_ Try.func33 qq rfl #[.slice Ao100 t1001.length co100, .int .i64 a4_0, .int .i64 a4_1, .int .i64 a4_2] (by rfl) rfl rfl qa ?_
              with_reducible refine (dialtoneref27_BentList.calls _ _ t1001 a4_0 a4_1 a4_2 t1009 _ ?side1 ?side2 A87.out).mono ?_
              (case side1 => exact qC (Kd.R_reads' HO1003.out).2.2)
              (case side2 => exact (Kd.R_reads' HO1003.out).2.1)
              rintro e w105 ⟨v1010, rfl, ho0, hb⟩
              refine ⟨_, rfl, ?_⟩
              replace HO_979001 := qR HO_979001 hb
              have HO1011 := Aside0.mk (Kd.R_lower (Kd.R_new' (Kd.R_new' (Kd.R_new' (Kd.R_new' ho0 (Kd.R_lt (qr HO_12.out))) (Kd.R_lt (qr HO_16.out))) (Kd.R_lt (qr HO_989001.out))) (Kd.R_lt (qr HO1003.out))) (below_size (qb)))
              replace HO_12 := Aside0.mk (Kd.R_elder' (qr HO_12.out) (Kd.R_base ho0) hb)
              replace HO_16 := Aside0.mk (Kd.R_elder' (qr HO_16.out) (Kd.R_base ho0) hb)
              replace HO_989001 := Aside0.mk (Kd.R_elder' (qr HO_989001.out) (Kd.R_base ho0) hb)
              replace HO1003 := Aside0.mk (Kd.R_elder' (qr HO1003.out) (Kd.R_base ho0) hb)
              replace BK972 := qB BK972 hb
              replace BK978 := qB BK978 hb
              replace BK988 := qB BK988 hb
              replace BK1006 := qB BK1006 hb
              replace HB := qS HB hb
              (try clear hb)
              (try clear hb2)
              (try clear hk)
              (try clear hi)
              (try clear ho0)
              obtain ⟨Ao106, co106, eo106⟩ := Kd.R_slice HO1011.out
              (first | subst eo106 | (injection eo106 with f1_ f2_ f3_; have f4_ := f1_.symm; have f5_ := f3_.symm; clear f1_ f2_ f3_; subst f4_; subst f5_))
              refine hK.out _ _ ⟨(blk_cell BK978.out 0).trans rfl, (blk_cell BK978.out 1).trans rfl, (blk_cell BK1006.out 0).trans rfl, (blk_cell BK1006.out 1).trans rfl, (blk_cell BK1006.out 2).trans rfl, (blk_cell BK972.out 0).trans rfl, (blk_cell BK972.out 1).trans rfl, (blk_cell BK972.out 2).trans rfl⟩ (fun hHeld => ?_)
              clear hK K
              refine norm_ (a' := ?_) ?_ ?_
              rotate_left
              ·
               show Act.put _ (some 123) _ = _
               simp only [Act.put, List.setIfInBounds_toArray, List.set_cons_zero, List.set_cons_succ, i64_w, i32_w]
               rfl
              refine pure_ (i := 19) (N := some 124) (v := ?_) (a' := ?_) #[true, true, true, true, true, true, true, true, true, true, true, true, true, true, true, true, true, true, true, true, false, false, false, false] rfl rfl (any_of HT_.out qq) (fun _ _ _ h => h) (Or.inl ⟨by rfl, ?_⟩) ?_ ?_
              rotate_left
              ·
               intro w'
               go_simp
               with_reducible rfl
              rotate_left
              ·
               simp only [Act.put, List.setIfInBounds_toArray, List.set_cons_zero, List.set_cons_succ, i64_w, i32_w]
               rfl
              refine one_ (i := 20) (N := some 125) #[true, true, true, true, true, true, true, true, true, true, true, true, true, true, true, true, true, true, true, true, true, false, false, false] rfl rfl (one_of HT_.out qq) (by decide) (fun K hK => ?_)
              refine goes_ Try.func49 qq rfl #[.agg #[.int .i64 t974, .slice Ao47 t975.length co47], .slice Ao50 t979.length co50, .agg #[.bool true, .slice Ao106 t1009.length co106, .int .i64 0]] (by rfl) rfl rfl qa ?_
              with_reducible refine (flow_CheckMeet.calls k1 t974 _ _ t975 _ _ t979 true _ _ t1009 0 false _ ?side1 ?side2 ?side3 ?side4 ?side5 ?side6 A88.out).mono ?_
              (case side1 => exact qC (Kd.R_reads' HO_979001.out).2.2)
              (case side2 => exact (Kd.R_reads' HO_979001.out).2.1)
              (case side3 => exact qC (Kd.R_reads' HO_12.out).2.2)
              (case side4 => exact (Kd.R_reads' HO_12.out).2.1)
              (case side5 => exact qC (Kd.R_reads' HO1011.out).2.2)
              (case side6 => exact (Kd.R_reads' HO1011.out).2.1)
              rintro e w107 ⟨rfl, hb⟩
              refine ⟨_, rfl, ?_⟩
              replace HO_12 := qR HO_12 hb
              replace HO_16 := qR HO_16 hb
              replace HO_979001 := qR HO_979001 hb
              replace HO_989001 := qR HO_989001 hb
              replace HO1003 := qR HO1003 hb
              replace HO1011 := qR HO1011 hb
              replace BK972 := qB BK972 hb
              replace BK978 := qB BK978 hb
              replace BK988 := qB BK988 hb
              replace BK1006 := qB BK1006 hb
              replace HB := qS HB hb
              (try clear hb)
              (try clear hb2)
              (try clear hk)
              (try clear hi)
              refine hK.out _ _ ⟨(blk_cell BK978.out 0).trans rfl, (blk_cell BK978.out 1).trans rfl, (blk_cell BK1006.out 0).trans rfl, (blk_cell BK1006.out 1).trans rfl, (blk_cell BK1006.out 2).trans rfl, (blk_cell BK972.out 0).trans rfl, (blk_cell BK972.out 1).trans rfl, (blk_cell BK972.out 2).trans rfl⟩ (fun hHeld => ?_)
              clear hK K
              refine norm_ (a' := ?_) ?_ ?_
              rotate_left
              ·
               show Act.put _ (some 125) _ = _
               simp only [Act.put, List.setIfInBounds_toArray, List.set_cons_zero, List.set_cons_succ, i64_w, i32_w]
               rfl
              refine pure_ (i := 21) (N := some 126) (v := ?_) (a' := ?_) #[true, true, true, true, true, true, true, true, true, true, true, true, true, true, true, true, true, true, true, true, true, true, false, false] rfl rfl (any_of HT_.out qq) (fun _ _ _ h => h) (Or.inl ⟨by rfl, ?_⟩) ?_ ?_
              rotate_left
              ·
               intro w'
               go_simp
               with_reducible rfl
              rotate_left
              ·
               simp only [Act.put, List.setIfInBounds_toArray, List.set_cons_zero, List.set_cons_succ, i64_w, i32_w]
               rfl
              refine pure_ (i := 22) (N := some 127) (v := ?_) (a' := ?_) #[true, true, true, true, true, true, true, true, true, true, true, true, true, true, true, true, true, true, true, true, true, true, true, false] rfl rfl (any_of HT_.out qq) (fun _ _ _ h => h) (Or.inl ⟨by rfl, ?_⟩) ?_ ?_
              rotate_left
              ·
               intro w'
               go_simp
               with_reducible rfl
              rotate_left
              ·
               simp only [Act.put, List.setIfInBounds_toArray, List.set_cons_zero, List.set_cons_succ, i64_w, i32_w]
               rfl
              refine pure_ (i := 23) (N := some 10) (v := ?_) (a' := ?_) #[true, true, true, true, true, true, true, true, true, true, true, true, true, true, true, true, true, true, true, true, true, true, true, true] rfl rfl (any_of HT_.out qq) (fun _ _ _ h => h) (Or.inl ⟨by rfl, ?_⟩) ?_ ?_
              rotate_left
              ·
               intro w'
               go_simp
               with_reducible rfl
              rotate_left
              ·
               simp only [Act.put, List.setIfInBounds_toArray, List.set_cons_zero, List.set_cons_succ, i64_w, i32_w]
               rfl
              refine done_ (done_of HT_.out qq) ?_
              try go_wp2
              go_ret
              exact ⟨by first | rfl | (simp [errW_none, errW_some] <;> rfl) | (simp only [← hji15]; first | rfl | (simp [errW_none, errW_some] <;> rfl)) | (simp [*, errW_none, errW_some] <;> rfl), qb⟩
           ·
            replace c84 := Bool.eq_false_iff.mpr c84
            subst c84
            rw [if_neg (show ¬ (false = true) by decide)] at H
            exact absurd H (by simp)
          ·
           rw [if_neg c82] at H
           exact absurd H (by simp)
      ·
       rw [if_neg c40] at H
       exact absurd H (by simp)
    ·
     rw [if_neg c14] at H
     exact absurd H (by simp)
   ·
    replace c13 := Bool.eq_false_iff.mpr c13
    subst c13
    rw [if_neg (show ¬ (false = true) by decide)] at H
    exact absurd H (by simp)
  ·
   rw [if_neg c11] at H
   exact absurd H (by simp)
 ·
  replace c7 := Bool.eq_false_iff.mpr c7
  subst c7
  rw [if_neg (show ¬ (false = true) by decide)] at H
  exact absurd H (by simp)

end Go.Proofs.Ytkkakdpncogpkaa.D
end
