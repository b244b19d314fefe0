/- Parts of the proof of a law about flows (see the law's own text): Fdialtoneref27BentList, Fdialtonelaw27FlowLeast. Conditions: each theorem's own. -/
import Derived.Test.YtkkakdpncogpkaaBase5
import Derived.Test.YtkkakdpncogpkaaBase4
import Derived.Test.YtkkakdpncogpkaaBase6
import Derived.Test.YtkkakdpncogpkaaBase27
import Derived.Test.YtkkakdpncogpkaaBase28
import Derived.Test.YtkkakdpncogpkaaBase16
section
namespace Go.Proofs.Ytkkakdpncogpkaa.D
open Go.RowKit Go.Proofs.YtkkakdpncogpkaaW.PrintWords Go.Proofs.YtkkakdpncogpkaaW.PrintLast Go.Proofs.YtkkakdpncogpkaaW.PrintMore
attribute [local go_sem] max2_int min2_int max_two min_two max_three min_three max_four min_four   -- for this text's walks alone
set_option linter.unusedVariables false
set_option linter.unusedSimpArgs false

/-! ### dialtoneref27_BentList: function 33 -/
def dialtoneref27_BentList.f (l0 : List Int) (a1 : Int) (a2 : Int) (a3 : Int) : Option (List Int) := (some (([] : List Int) : List Int)).bind fun y338 => (if y338.length + l0.length < 17592186044416 then ((some (y338 ++ l0 : List Int)).bind fun y341 => (if (y341.length : Int) = 0 then (some (([a2] : List Int))) else ((dialtoneref27_pick.f a3 (y341.length : Int)).bind fun t347 => ((dialtoneref27_pick.f a1 4).bind fun t348 => (if t348 = 0 then (if 0 ≤ t347 then (if t347 < (y341.length : Int) then (some (y341.set (t347 : Int).toNat a2)) else (none)) else (none)) else (if t348 = 1 then (if 0 ≤ t347 then (if t347 < (y341.length : Int) then (some (y341.set (t347 : Int).toNat (wrap64 ((rd y341 t347) + 1)))) else (none)) else (none)) else (if t348 = 2 then (if 0 ≤ t347 then (if t347 < (y341.length : Int) then (some (y341.set (t347 : Int).toNat (wrap64 ((rd y341 t347) - 1)))) else (none)) else (none)) else (if y341.length < 17592186044416 then (some (y341 ++ [a2])) else (none))))))))) else (none))
set_option maxHeartbeats 8000000 in
set_option maxRecDepth 100000 in
theorem dialtoneref27_BentList.calls (A0 : Option Addr) (c0 : Nat) (l0 : List Int) (a1 : Int) (a2 : Int) (a3 : Int) (r : List Int) (w : World) (hr0 : Kd.C (Kd.int .i64) w A0 l0.length l0) (hc0 : l0.length ≤ c0) (h : dialtoneref27_BentList.f l0 a1 a2 a3 = some r) :
  Calls Try.prog 33 #[.slice A0 l0.length c0, .int .i64 a1, .int .i64 a2, .int .i64 a3] w fun e w' => ∃ v0_ : Value, e = .returned (v0_) ∧ Kd.R (Kd.int .i64) 3 w' w.heap.size (fun _ => True) v0_ r ∧ Below w.heap.size w w' := by
 have HR0 := Aside0.mk hr0
 have HC0 := Aside0.mk hc0
 clear hr0 hc0
 have HB := Aside0.mk (Below.refl w.heap.size w)
 have H : ((some (([] : List Int) : List Int)).bind fun y338 => (if y338.length + l0.length < 17592186044416 then ((some (y338 ++ l0 : List Int)).bind fun y341 => (if (y341.length : Int) = 0 then (some (([a2] : List Int))) else ((dialtoneref27_pick.f a3 (y341.length : Int)).bind fun t347 => ((dialtoneref27_pick.f a1 4).bind fun t348 => (if t348 = 0 then (if 0 ≤ t347 then (if t347 < (y341.length : Int) then (some (y341.set (t347 : Int).toNat a2)) else (none)) else (none)) else (if t348 = 1 then (if 0 ≤ t347 then (if t347 < (y341.length : Int) then (some (y341.set (t347 : Int).toNat (wrap64 ((rd y341 t347) + 1)))) else (none)) else (none)) else (if t348 = 2 then (if 0 ≤ t347 then (if t347 < (y341.length : Int) then (some (y341.set (t347 : Int).toNat (wrap64 ((rd y341 t347) - 1)))) else (none)) else (none)) else (if y341.length < 17592186044416 then (some (y341 ++ [a2])) else (none))))))))) else (none))) = some r := h
 clear h
 obtain ⟨y338, hy338⟩ : ∃ y_ : List Int, y_ = (([] : List Int)) := ⟨_, rfl⟩
 replace H : (if y338.length + l0.length < 17592186044416 then ((some (y338 ++ l0 : List Int)).bind fun y341 => (if (y341.length : Int) = 0 then (some (([a2] : List Int))) else ((dialtoneref27_pick.f a3 (y341.length : Int)).bind fun t347 => ((dialtoneref27_pick.f a1 4).bind fun t348 => (if t348 = 0 then (if 0 ≤ t347 then (if t347 < (y341.length : Int) then (some (y341.set (t347 : Int).toNat a2)) else (none)) else (none)) else (if t348 = 1 then (if 0 ≤ t347 then (if t347 < (y341.length : Int) then (some (y341.set (t347 : Int).toNat (wrap64 ((rd y341 t347) + 1)))) else (none)) else (none)) else (if t348 = 2 then (if 0 ≤ t347 then (if t347 < (y341.length : Int) then (some (y341.set (t347 : Int).toNat (wrap64 ((rd y341 t347) - 1)))) else (none)) else (none)) else (if y341.length < 17592186044416 then (some (y341 ++ [a2])) else (none))))))))) else (none)) = some r := by first | (rw [hy338]; with_reducible exact H) | (have H2_ := (Option.bind_some _ _).symm.trans H; rw [hy338]; with_reducible exact H2_) | (have H2_ := (Option.bind_some _ _).symm.trans H; with_reducible exact H2_) | with_reducible exact H | (rw [hy338]; exact H) | exact H
 have Ny338 := Aside0.mk hy338
 clear hy338
 by_cases c5 : y338.length + l0.length < 17592186044416
 ·
  rw [if_pos c5] at H
  have LMc5 := Aside0.mk c5
  clear c5
  obtain ⟨y341, hy341⟩ : ∃ y_ : List Int, y_ = (y338 ++ l0) := ⟨_, rfl⟩
  replace H : (if (y341.length : Int) = 0 then (some (([a2] : List Int))) else ((dialtoneref27_pick.f a3 (y341.length : Int)).bind fun t347 => ((dialtoneref27_pick.f a1 4).bind fun t348 => (if t348 = 0 then (if 0 ≤ t347 then (if t347 < (y341.length : Int) then (some (y341.set (t347 : Int).toNat a2)) else (none)) else (none)) else (if t348 = 1 then (if 0 ≤ t347 then (if t347 < (y341.length : Int) then (some (y341.set (t347 : Int).toNat (wrap64 ((rd y341 t347) + 1)))) else (none)) else (none)) else (if t348 = 2 then (if 0 ≤ t347 then (if t347 < (y341.length : Int) then (some (y341.set (t347 : Int).toNat (wrap64 ((rd y341 t347) - 1)))) else (none)) else (none)) else (if y341.length < 17592186044416 then (some (y341 ++ [a2])) else (none)))))))) = some r := by first | (rw [hy341]; with_reducible exact H) | (have H2_ := (Option.bind_some _ _).symm.trans H; rw [hy341]; with_reducible exact H2_) | (have H2_ := (Option.bind_some _ _).symm.trans H; with_reducible exact H2_) | with_reducible exact H | (rw [hy341]; exact H) | exact H
  have Ny341 := Aside0.mk hy341
  clear hy341
  by_cases c6 : (y341.length : Int) = 0
  ·
   rw [if_pos c6] at H
   obtain ⟨c6b0, c6b1⟩ := qt c6
   clear c6
   obtain ⟨y344, hy344⟩ : ∃ y_ : List Int, y_ = (([a2] : List Int)) := ⟨_, rfl⟩
   replace H : (some y344) = some r := by first | (rw [hy344]; with_reducible exact H) | (have H2_ := (Option.bind_some _ _).symm.trans H; rw [hy344]; with_reducible exact H2_) | (have H2_ := (Option.bind_some _ _).symm.trans H; with_reducible exact H2_) | with_reducible exact H | (rw [hy344]; exact H) | exact H
   have Ny344 := Aside0.mk hy344
   clear hy344
   obtain rfl := Option.some.inj H
   go_enter Try.func33, Try.ntmps33
   go_wp2_with (first | ((with_reducible refine gate_dst (N := 11) rfl ?_); refine Kd.R_lit (Kd.int .i64) _ 3 ?hg (N := 11) ?hd (xs := ([] : List Int)) (inner := []) (ok := fun _ => True) (okp := fun _ => True) ?hr ?hp (fun _ hk => hk) trivial (Below.refl _ _) (Nat.le_refl _) (by simp) ?_; (case hd => rfl); (case hg => rfl); (case hr => first | (go_simp; done) | (go_simp; rfl)); (case hp => exact (Reps.none _ _)); intro v339 w7 ho8 hb hg_ hnew_; clear hg_ hnew_; (first | rw [← Ny338.out] at ho8 | (simp only [Int.reduceToNat] at ho8; rw [← Ny338.out] at ho8)); have HO340 := Aside0.mk (Kd.R_lower ho8 (below_size (qb))); replace HB := qS HB hb; clear hb ho8) | ((with_reducible refine gate_builtin (b := .append) (xs := #[.tmp 11, .tmp 12]) rfl ?_); at_builtin; refine Kd.R_append_rows (Kd.int .i64) (w0 := w) w.heap.size rfl (.tmp 11) (.tmp 12) 27 3 (.int .i64 0) 8 rfl Try.underlying27 info3 rfl (by decide) (by omega) v339 y338 l0 _ _ _ (fun _ => True) (fun _ => False) rfl rfl ?aO ?aR (fun _ _ h => h) (fun _ h => h.elim) ?aF ?aB ?aS ?aL ?_; (case aR => exact qC (Kd.C_below HR0.out HB.out)); (case aB => exact (qb)); (case aF => exact (fun _ _ => trivial)); (case aO => exact (qr HO340.out)); (case aS => exact (below_size (qb))); (case aL => have := LMc5.out; omega); intro v342 w9 ho hb hg hat; rw [← Ny341.out] at ho; have n0_ := Aside0.mk (hb); have n1_ := Aside0.mk (ho); clear HB; clear HO340; have HB := n0_; have HO343 := n1_; clear n0_ n1_; clear ho hb hg hat; obtain ⟨Ao10, co10, eo10⟩ := Kd.R_slice HO343.out; subst eo10) | ((with_reducible refine gate_dst (N := 18) rfl ?_); refine Kd.R_lit (Kd.int .i64) _ 3 ?hg (N := 18) ?hd (xs := ([a2] : List Int)) (inner := [.int .i64 a2]) (ok := fun _ => True) (okp := fun _ => True) ?hr ?hp (fun _ hk => hk) trivial (Below.refl _ _) (Nat.le_refl _) (by simp) ?_; (case hd => rfl); (case hg => rfl); (case hr => first | (go_simp; done) | (go_simp; rfl)); (case hp => exact (Reps.one (show Kd.M (Kd.int .i64) _ _ _ a2 [.int .i64 a2] from rfl) (Reps.none _ _))); intro v345 w11 ho12 hb hg_ hnew_; clear hg_ hnew_; (first | rw [← Ny344.out] at ho12 | (simp only [Int.reduceToNat] at ho12; rw [← Ny344.out] at ho12)); have HO346 := Aside0.mk (Kd.R_lower (Kd.R_new' ho12 (Kd.R_lt (qr HO343.out))) (below_size (qb))); replace HO343 := Aside0.mk (Kd.R_elder' (qr HO343.out) (Kd.R_base ho12) hb); replace HB := qS HB hb; clear hb ho12))
   go_ret
   exact ⟨_, qe, by (with_reducible repeat (first | apply Kd.R_alloc | apply Kd.R_drewN | apply Kd.R_drew)); exact Kd.R_mono HO346.out (fun _ hk => trivial), qb⟩
  ·
   rw [if_neg c6] at H
   obtain ⟨c6b0, c6b1⟩ := qf c6
   have c6b2 : ¬ (y341 = []) := fun h_ => c6 (by rw [h_]; rfl)
   replace H := Option.bind_eq_some_iff.mp H
   obtain ⟨t347, A130, H⟩ := H
   (try dsimp only at H)
   have A13 := Aside0.mk A130
   clear A130
   replace H := Option.bind_eq_some_iff.mp H
   obtain ⟨t348, A140, H⟩ := H
   (try dsimp only at H)
   have A14 := Aside0.mk A140
   clear A140
   by_cases c15 : t348 = 0
   ·
    rw [if_pos c15] at H
    obtain ⟨c15b0, c15b1⟩ := qt c15
    clear c15
    by_cases c16 : 0 ≤ t347
    ·
     rw [if_pos c16] at H
     have c16b0 : decide (0 ≤ t347) = true := decide_eq_true c16
     clear c16
     by_cases c17 : t347 < (y341.length : Int)
     ·
      rw [if_pos c17] at H
      have c17b0 : decide (t347 < (y341.length : Int)) = true := decide_eq_true c17
      clear c17
      obtain ⟨y349, hy349⟩ : ∃ y_ : List Int, y_ = (y341.set (t347 : Int).toNat a2) := ⟨_, rfl⟩
      replace H : (some y349) = some r := by first | (rw [hy349]; with_reducible exact H) | (have H2_ := (Option.bind_some _ _).symm.trans H; rw [hy349]; with_reducible exact H2_) | (have H2_ := (Option.bind_some _ _).symm.trans H; with_reducible exact H2_) | with_reducible exact H | (rw [hy349]; exact H) | exact H
      have Ny349 := Aside0.mk hy349
      clear hy349
      obtain rfl := Option.some.inj H
      go_enter Try.func33, Try.ntmps33
      go_wp2_with (first | ((with_reducible refine gate_dst (N := 11) rfl ?_); refine Kd.R_lit (Kd.int .i64) _ 3 ?hg (N := 11) ?hd (xs := ([] : List Int)) (inner := []) (ok := fun _ => True) (okp := fun _ => True) ?hr ?hp (fun _ hk => hk) trivial (Below.refl _ _) (Nat.le_refl _) (by simp) ?_; (case hd => rfl); (case hg => rfl); (case hr => first | (go_simp; done) | (go_simp; rfl)); (case hp => exact (Reps.none _ _)); intro v339 w19 ho20 hb hg_ hnew_; clear hg_ hnew_; (first | rw [← Ny338.out] at ho20 | (simp only [Int.reduceToNat] at ho20; rw [← Ny338.out] at ho20)); have HO340 := Aside0.mk (Kd.R_lower ho20 (below_size (qb))); replace HB := qS HB hb; clear hb ho20) | ((with_reducible refine gate_builtin (b := .append) (xs := #[.tmp 11, .tmp 12]) rfl ?_); at_builtin; refine Kd.R_append_rows (Kd.int .i64) (w0 := w) w.heap.size rfl (.tmp 11) (.tmp 12) 27 3 (.int .i64 0) 8 rfl Try.underlying27 info3 rfl (by decide) (by omega) v339 y338 l0 _ _ _ (fun _ => True) (fun _ => False) rfl rfl ?aO ?aR (fun _ _ h => h) (fun _ h => h.elim) ?aF ?aB ?aS ?aL ?_; (case aR => exact qC (Kd.C_below HR0.out HB.out)); (case aB => exact (qb)); (case aF => exact (fun _ _ => trivial)); (case aO => exact (qr HO340.out)); (case aS => exact (below_size (qb))); (case aL => have := LMc5.out; omega); intro v342 w21 ho hb hg hat; rw [← Ny341.out] at ho; have n0_ := Aside0.mk (hb); have n1_ := Aside0.mk (ho); clear HB; clear HO340; have HB := n0_; have HO343 := n1_; clear n0_ n1_; clear ho hb hg hat; obtain ⟨Ao22, co22, eo22⟩ := Kd.R_slice HO343.out; subst eo22) | ((with_reducible refine gate_callee (f := 68) rfl ?_); refine goesL_ (some 22) rfl rfl Try.func68 qq rfl #[.int .i64 a3, .int .i64 (y341.length : Int)] rfl qa ?_; (with_reducible refine (dialtoneref27_pick.calls a3 (y341.length : Int) t347 _ A13.out).mono ?_); rintro e w' ⟨rfl, ⟨nd, rfl⟩⟩; refine ⟨_, rfl, ?_⟩; (try (rw [drewN_self w21]; generalize hq_ : World.drewN w21 _ = w21; have n0_ : Aside0 (Kd.R (Kd.int .i64) 3 w21 w.heap.size (fun _ => True) (.slice Ao22 y341.length co22) y341) := ⟨by rw [← hq_]; exact (qr HO343.out)⟩; have n1_ : Aside0 (Below w.heap.size w w21) := ⟨by rw [← hq_]; exact (qb)⟩; clear HO343 HB hq_; have HO343 := n0_; have HB := n1_; clear n0_ n1_))) | ((with_reducible refine gate_callee (f := 68) rfl ?_); refine goesL_ (some 24) rfl rfl Try.func68 qq rfl #[.int .i64 a1, .int .i64 4] rfl qa ?_; (with_reducible refine (dialtoneref27_pick.calls a1 4 t348 _ A14.out).mono ?_); rintro e w' ⟨rfl, ⟨nd, rfl⟩⟩; refine ⟨_, rfl, ?_⟩; (try (rw [drewN_self w21]; generalize hq_ : World.drewN w21 _ = w21; have n0_ : Aside0 (Kd.R (Kd.int .i64) 3 w21 w.heap.size (fun _ => True) (.slice Ao22 y341.length co22) y341) := ⟨by rw [← hq_]; exact (qr HO343.out)⟩; have n1_ : Aside0 (Below w.heap.size w w21) := ⟨by rw [← hq_]; exact (qb)⟩; clear HO343 HB hq_; have HO343 := n0_; have HB := n1_; clear n0_ n1_)); have p18 : 0 ≤ (t347 : Int) := of_decide_eq_true (by first | (with_reducible assumption) | assumption); have q18 : (t347 : Int) < ((y341.length : Int) : Int) := of_decide_eq_true (by first | (with_reducible assumption) | assumption); obtain ⟨go18, co18, eo18, gb18, gl18, cl18, HG18⟩ := Kd.R_form HO343.out (by omega); (first | cases eo18 | (injection eo18 with ea_ en_ ec_; (first | subst ea_ | (injection ea_ with ea_; subst ea_)); subst ec_; clear en_)); have GB18 := Aside0.mk gb18; have GG18 := Aside0.mk HG18; clear gb18 gl18 HG18; obtain ⟨hx18_0, hf18_0⟩ := Kd.R_celln 0 HO343.out (t347 : Int) p18 q18; replace p18 := eq_true p18; replace q18 := eq_true q18; obtain ⟨hy23_, hz23_⟩ := Kd.R_celln 0 HO343.out (t347 : Int) (of_decide_eq_true (by first | (with_reducible assumption) | assumption)) (of_decide_eq_true (by first | (with_reducible assumption) | assumption)); have HP23 := Kd.R_putg HO343.out (t347 : Int) a2) | ((with_reducible refine gate_store (t := 3) (p := 34) rfl ?_); refine store_event (t := 3) (p := 34) (v := ?vo_w24) (w1 := (w21.setCell ⟨go18, (t347 : Int).toNat, none⟩ (.int .i64 a2))) ?hg ?ho ?hn ?hr ?_; (case ho => rfl); (case hg => rfl); (case hn => rfl); (case hr => first | (go_simp; done) | (go_simp; rfl)); intro w24 hw; have hg : w21.grownBy w24 (some go18) := (by rw [hw]; exact HP23.2); have hp_ : Kd.R (Kd.int .i64) 3 w24 w.heap.size (fun _ => True) (.slice (some ⟨go18, 0, none⟩) y341.length co22) y349 := (by rw [hw, Ny349.out]; exact HP23.1); clear HP23; replace HO343 := Aside0.mk (hp_); replace HB := Aside0.mk ((by rw [hw]; exact below_set (HB.out) GB18.out : Below w.heap.size w w24)); clear hg hw hp_))
      go_ret
      exact ⟨_, qe, by (with_reducible repeat (first | apply Kd.R_alloc | apply Kd.R_drewN | apply Kd.R_drew)); exact HO343.out, qb⟩
     ·
      rw [if_neg c17] at H
      exact absurd H (by simp)
    ·
     rw [if_neg c16] at H
     exact absurd H (by simp)
   ·
    rw [if_neg c15] at H
    obtain ⟨c15b0, c15b1⟩ := qf c15
    by_cases c25 : t348 = 1
    ·
     rw [if_pos c25] at H
     obtain ⟨c25b0, c25b1⟩ := qt c25
     clear c25
     by_cases c26 : 0 ≤ t347
     ·
      rw [if_pos c26] at H
      have c26b0 : decide (0 ≤ t347) = true := decide_eq_true c26
      clear c26
      by_cases c27 : t347 < (y341.length : Int)
      ·
       rw [if_pos c27] at H
       have c27b0 : decide (t347 < (y341.length : Int)) = true := decide_eq_true c27
       clear c27
       obtain ⟨y351, hy351⟩ : ∃ y_ : List Int, y_ = (y341.set (t347 : Int).toNat (wrap64 ((rd y341 t347) + 1))) := ⟨_, rfl⟩
       replace H : (some y351) = some r := by first | (rw [hy351]; with_reducible exact H) | (have H2_ := (Option.bind_some _ _).symm.trans H; rw [hy351]; with_reducible exact H2_) | (have H2_ := (Option.bind_some _ _).symm.trans H; with_reducible exact H2_) | with_reducible exact H | (rw [hy351]; exact H) | exact H
       have Ny351 := Aside0.mk hy351
       clear hy351
       obtain rfl := Option.some.inj H
       go_enter Try.func33, Try.ntmps33
       go_wp2_with (first | ((with_reducible refine gate_dst (N := 11) rfl ?_); refine Kd.R_lit (Kd.int .i64) _ 3 ?hg (N := 11) ?hd (xs := ([] : List Int)) (inner := []) (ok := fun _ => True) (okp := fun _ => True) ?hr ?hp (fun _ hk => hk) trivial (Below.refl _ _) (Nat.le_refl _) (by simp) ?_; (case hd => rfl); (case hg => rfl); (case hr => first | (go_simp; done) | (go_simp; rfl)); (case hp => exact (Reps.none _ _)); intro v339 w29 ho30 hb hg_ hnew_; clear hg_ hnew_; (first | rw [← Ny338.out] at ho30 | (simp only [Int.reduceToNat] at ho30; rw [← Ny338.out] at ho30)); have HO340 := Aside0.mk (Kd.R_lower ho30 (below_size (qb))); replace HB := qS HB hb; clear hb ho30) | ((with_reducible refine gate_builtin (b := .append) (xs := #[.tmp 11, .tmp 12]) rfl ?_); at_builtin; refine Kd.R_append_rows (Kd.int .i64) (w0 := w) w.heap.size rfl (.tmp 11) (.tmp 12) 27 3 (.int .i64 0) 8 rfl Try.underlying27 info3 rfl (by decide) (by omega) v339 y338 l0 _ _ _ (fun _ => True) (fun _ => False) rfl rfl ?aO ?aR (fun _ _ h => h) (fun _ h => h.elim) ?aF ?aB ?aS ?aL ?_; (case aR => exact qC (Kd.C_below HR0.out HB.out)); (case aB => exact (qb)); (case aF => exact (fun _ _ => trivial)); (case aO => exact (qr HO340.out)); (case aS => exact (below_size (qb))); (case aL => have := LMc5.out; omega); intro v342 w31 ho hb hg hat; rw [← Ny341.out] at ho; have n0_ := Aside0.mk (hb); have n1_ := Aside0.mk (ho); clear HB; clear HO340; have HB := n0_; have HO343 := n1_; clear n0_ n1_; clear ho hb hg hat; obtain ⟨Ao32, co32, eo32⟩ := Kd.R_slice HO343.out; subst eo32) | ((with_reducible refine gate_callee (f := 68) rfl ?_); refine goesL_ (some 22) rfl rfl Try.func68 qq rfl #[.int .i64 a3, .int .i64 (y341.length : Int)] rfl qa ?_; (with_reducible refine (dialtoneref27_pick.calls a3 (y341.length : Int) t347 _ A13.out).mono ?_); rintro e w' ⟨rfl, ⟨nd, rfl⟩⟩; refine ⟨_, rfl, ?_⟩; (try (rw [drewN_self w31]; generalize hq_ : World.drewN w31 _ = w31; have n0_ : Aside0 (Kd.R (Kd.int .i64) 3 w31 w.heap.size (fun _ => True) (.slice Ao32 y341.length co32) y341) := ⟨by rw [← hq_]; exact (qr HO343.out)⟩; have n1_ : Aside0 (Below w.heap.size w w31) := ⟨by rw [← hq_]; exact (qb)⟩; clear HO343 HB hq_; have HO343 := n0_; have HB := n1_; clear n0_ n1_))) | ((with_reducible refine gate_callee (f := 68) rfl ?_); refine goesL_ (some 24) rfl rfl Try.func68 qq rfl #[.int .i64 a1, .int .i64 4] rfl qa ?_; (with_reducible refine (dialtoneref27_pick.calls a1 4 t348 _ A14.out).mono ?_); rintro e w' ⟨rfl, ⟨nd, rfl⟩⟩; refine ⟨_, rfl, ?_⟩; (try (rw [drewN_self w31]; generalize hq_ : World.drewN w31 _ = w31; have n0_ : Aside0 (Kd.R (Kd.int .i64) 3 w31 w.heap.size (fun _ => True) (.slice Ao32 y341.length co32) y341) := ⟨by rw [← hq_]; exact (qr HO343.out)⟩; have n1_ : Aside0 (Below w.heap.size w w31) := ⟨by rw [← hq_]; exact (qb)⟩; clear HO343 HB hq_; have HO343 := n0_; have HB := n1_; clear n0_ n1_)); have p350 : 0 ≤ (t347 : Int) := of_decide_eq_true (by first | (with_reducible assumption) | assumption); have q350 : t347 < (y341.length : Int) := of_decide_eq_true (by first | (with_reducible assumption) | assumption); obtain ⟨ad350, e350, hx350_0⟩ := Kd.at_int (Kd.R_reads' HO343.out).2.2 t347 p350 q350; cases e350; replace p350 := eq_true p350; replace q350 := eq_true q350; have p28 : 0 ≤ (t347 : Int) := of_decide_eq_true (by first | (with_reducible assumption) | assumption); have q28 : (t347 : Int) < ((y341.length : Int) : Int) := of_decide_eq_true (by first | (with_reducible assumption) | assumption); obtain ⟨go28, co28, eo28, gb28, gl28, cl28, HG28⟩ := Kd.R_form HO343.out (by omega); (first | cases eo28 | (injection eo28 with ea_ en_ ec_; (first | subst ea_ | (injection ea_ with ea_; subst ea_)); subst ec_; clear en_)); have GB28 := Aside0.mk gb28; have GG28 := Aside0.mk HG28; clear gb28 gl28 HG28; (first | simp only [add_plain] at hx350_0 | skip); obtain ⟨hx28_0, hf28_0⟩ := Kd.R_celln 0 HO343.out (t347 : Int) p28 q28; replace p28 := eq_true p28; replace q28 := eq_true q28; obtain ⟨hy33_, hz33_⟩ := Kd.R_celln 0 HO343.out (t347 : Int) (of_decide_eq_true (by first | (with_reducible assumption) | assumption)) (of_decide_eq_true (by first | (with_reducible assumption) | assumption)); have HP33 := Kd.R_putg HO343.out (t347 : Int) (wrap64 ((rd y341 t347) + 1))) | ((with_reducible refine gate_store (t := 3) (p := 44) rfl ?_); refine store_event (t := 3) (p := 44) (v := ?vo_w34) (w1 := (w31.setCell ⟨go28, (t347 : Int).toNat, none⟩ (.int .i64 (wrap64 ((rd y341 t347) + 1))))) ?hg ?ho ?hn ?hr ?_; (case ho => rfl); (case hg => rfl); (case hn => rfl); (case hr => first | (go_simp; done) | (go_simp; rfl)); intro w34 hw; have hg : w31.grownBy w34 (some go28) := (by rw [hw]; exact HP33.2); have hp_ : Kd.R (Kd.int .i64) 3 w34 w.heap.size (fun _ => True) (.slice (some ⟨go28, 0, none⟩) y341.length co32) y351 := (by rw [hw, Ny351.out]; exact HP33.1); clear HP33; replace HO343 := Aside0.mk (hp_); replace HB := Aside0.mk ((by rw [hw]; exact below_set (HB.out) GB28.out : Below w.heap.size w w34)); clear hg hw hp_))
       go_ret
       exact ⟨_, qe, by (with_reducible repeat (first | apply Kd.R_alloc | apply Kd.R_drewN | apply Kd.R_drew)); exact HO343.out, qb⟩
      ·
       rw [if_neg c27] at H
       exact absurd H (by simp)
     ·
      rw [if_neg c26] at H
      exact absurd H (by simp)
    ·
     rw [if_neg c25] at H
     obtain ⟨c25b0, c25b1⟩ := qf c25
     by_cases c35 : t348 = 2
     ·
      rw [if_pos c35] at H
      obtain ⟨c35b0, c35b1⟩ := qt c35
      clear c35
      by_cases c36 : 0 ≤ t347
      ·
       rw [if_pos c36] at H
       have c36b0 : decide (0 ≤ t347) = true := decide_eq_true c36
       clear c36
       by_cases c37 : t347 < (y341.length : Int)
       ·
        rw [if_pos c37] at H
        have c37b0 : decide (t347 < (y341.length : Int)) = true := decide_eq_true c37
        clear c37
        obtain ⟨y353, hy353⟩ : ∃ y_ : List Int, y_ = (y341.set (t347 : Int).toNat (wrap64 ((rd y341 t347) - 1))) := ⟨_, rfl⟩
        replace H : (some y353) = some r := by first | (rw [hy353]; with_reducible exact H) | (have H2_ := (Option.bind_some _ _).symm.trans H; rw [hy353]; with_reducible exact H2_) | (have H2_ := (Option.bind_some _ _).symm.trans H; with_reducible exact H2_) | with_reducible exact H | (rw [hy353]; exact H) | exact H
        have Ny353 := Aside0.mk hy353
        clear hy353
        obtain rfl := Option.some.inj H
        go_enter Try.func33, Try.ntmps33
        go_wp2_with (first | ((with_reducible refine gate_dst (N := 11) rfl ?_); refine Kd.R_lit (Kd.int .i64) _ 3 ?hg (N := 11) ?hd (xs := ([] : List Int)) (inner := []) (ok := fun _ => True) (okp := fun _ => True) ?hr ?hp (fun _ hk => hk) trivial (Below.refl _ _) (Nat.le_refl _) (by simp) ?_; (case hd => rfl); (case hg => rfl); (case hr => first | (go_simp; done) | (go_simp; rfl)); (case hp => exact (Reps.none _ _)); intro v339 w39 ho40 hb hg_ hnew_; clear hg_ hnew_; (first | rw [← Ny338.out] at ho40 | (simp only [Int.reduceToNat] at ho40; rw [← Ny338.out] at ho40)); have HO340 := Aside0.mk (Kd.R_lower ho40 (below_size (qb))); replace HB := qS HB hb; clear hb ho40) | ((with_reducible refine gate_builtin (b := .append) (xs := #[.tmp 11, .tmp 12]) rfl ?_); at_builtin; refine Kd.R_append_rows (Kd.int .i64) (w0 := w) w.heap.size rfl (.tmp 11) (.tmp 12) 27 3 (.int .i64 0) 8 rfl Try.underlying27 info3 rfl (by decide) (by omega) v339 y338 l0 _ _ _ (fun _ => True) (fun _ => False) rfl rfl ?aO ?aR (fun _ _ h => h) (fun _ h => h.elim) ?aF ?aB ?aS ?aL ?_; (case aR => exact qC (Kd.C_below HR0.out HB.out)); (case aB => exact (qb)); (case aF => exact (fun _ _ => trivial)); (case aO => exact (qr HO340.out)); (case aS => exact (below_size (qb))); (case aL => have := LMc5.out; omega); intro v342 w41 ho hb hg hat; rw [← Ny341.out] at ho; have n0_ := Aside0.mk (hb); have n1_ := Aside0.mk (ho); clear HB; clear HO340; have HB := n0_; have HO343 := n1_; clear n0_ n1_; clear ho hb hg hat; obtain ⟨Ao42, co42, eo42⟩ := Kd.R_slice HO343.out; subst eo42) | ((with_reducible refine gate_callee (f := 68) rfl ?_); refine goesL_ (some 22) rfl rfl Try.func68 qq rfl #[.int .i64 a3, .int .i64 (y341.length : Int)] rfl qa ?_; (with_reducible refine (dialtoneref27_pick.calls a3 (y341.length : Int) t347 _ A13.out).mono ?_); rintro e w' ⟨rfl, ⟨nd, rfl⟩⟩; refine ⟨_, rfl, ?_⟩; (try (rw [drewN_self w41]; generalize hq_ : World.drewN w41 _ = w41; have n0_ : Aside0 (Kd.R (Kd.int .i64) 3 w41 w.heap.size (fun _ => True) (.slice Ao42 y341.length co42) y341) := ⟨by rw [← hq_]; exact (qr HO343.out)⟩; have n1_ : Aside0 (Below w.heap.size w w41) := ⟨by rw [← hq_]; exact (qb)⟩; clear HO343 HB hq_; have HO343 := n0_; have HB := n1_; clear n0_ n1_))) | ((with_reducible refine gate_callee (f := 68) rfl ?_); refine goesL_ (some 24) rfl rfl Try.func68 qq rfl #[.int .i64 a1, .int .i64 4] rfl qa ?_; (with_reducible refine (dialtoneref27_pick.calls a1 4 t348 _ A14.out).mono ?_); rintro e w' ⟨rfl, ⟨nd, rfl⟩⟩; refine ⟨_, rfl, ?_⟩; (try (rw [drewN_self w41]; generalize hq_ : World.drewN w41 _ = w41; have n0_ : Aside0 (Kd.R (Kd.int .i64) 3 w41 w.heap.size (fun _ => True) (.slice Ao42 y341.length co42) y341) := ⟨by rw [← hq_]; exact (qr HO343.out)⟩; have n1_ : Aside0 (Below w.heap.size w w41) := ⟨by rw [← hq_]; exact (qb)⟩; clear HO343 HB hq_; have HO343 := n0_; have HB := n1_; clear n0_ n1_)); have p352 : 0 ≤ (t347 : Int) := of_decide_eq_true (by first | (with_reducible assumption) | assumption); have q352 : t347 < (y341.length : Int) := of_decide_eq_true (by first | (with_reducible assumption) | assumption); obtain ⟨ad352, e352, hx352_0⟩ := Kd.at_int (Kd.R_reads' HO343.out).2.2 t347 p352 q352; cases e352; replace p352 := eq_true p352; replace q352 := eq_true q352; have p38 : 0 ≤ (t347 : Int) := of_decide_eq_true (by first | (with_reducible assumption) | assumption); have q38 : (t347 : Int) < ((y341.length : Int) : Int) := of_decide_eq_true (by first | (with_reducible assumption) | assumption); obtain ⟨go38, co38, eo38, gb38, gl38, cl38, HG38⟩ := Kd.R_form HO343.out (by omega); (first | cases eo38 | (injection eo38 with ea_ en_ ec_; (first | subst ea_ | (injection ea_ with ea_; subst ea_)); subst ec_; clear en_)); have GB38 := Aside0.mk gb38; have GG38 := Aside0.mk HG38; clear gb38 gl38 HG38; (first | simp only [add_plain] at hx352_0 | skip); obtain ⟨hx38_0, hf38_0⟩ := Kd.R_celln 0 HO343.out (t347 : Int) p38 q38; replace p38 := eq_true p38; replace q38 := eq_true q38; obtain ⟨hy43_, hz43_⟩ := Kd.R_celln 0 HO343.out (t347 : Int) (of_decide_eq_true (by first | (with_reducible assumption) | assumption)) (of_decide_eq_true (by first | (with_reducible assumption) | assumption)); have HP43 := Kd.R_putg HO343.out (t347 : Int) (wrap64 ((rd y341 t347) - 1))) | ((with_reducible refine gate_store (t := 3) (p := 54) rfl ?_); refine store_event (t := 3) (p := 54) (v := ?vo_w44) (w1 := (w41.setCell ⟨go38, (t347 : Int).toNat, none⟩ (.int .i64 (wrap64 ((rd y341 t347) - 1))))) ?hg ?ho ?hn ?hr ?_; (case ho => rfl); (case hg => rfl); (case hn => rfl); (case hr => first | (go_simp; done) | (go_simp; rfl)); intro w44 hw; have hg : w41.grownBy w44 (some go38) := (by rw [hw]; exact HP43.2); have hp_ : Kd.R (Kd.int .i64) 3 w44 w.heap.size (fun _ => True) (.slice (some ⟨go38, 0, none⟩) y341.length co42) y353 := (by rw [hw, Ny353.out]; exact HP43.1); clear HP43; replace HO343 := Aside0.mk (hp_); replace HB := Aside0.mk ((by rw [hw]; exact below_set (HB.out) GB38.out : Below w.heap.size w w44)); clear hg hw hp_))
        go_ret
        exact ⟨_, qe, by (with_reducible repeat (first | apply Kd.R_alloc | apply Kd.R_drewN | apply Kd.R_drew)); exact HO343.out, qb⟩
       ·
        rw [if_neg c37] at H
        exact absurd H (by simp)
      ·
       rw [if_neg c36] at H
       exact absurd H (by simp)
     ·
      rw [if_neg c35] at H
      obtain ⟨c35b0, c35b1⟩ := qf c35
      by_cases c45 : y341.length < 17592186044416
      ·
       rw [if_pos c45] at H
       have LMc45 := Aside0.mk c45
       clear c45
       obtain ⟨y354, hy354⟩ : ∃ y_ : List Int, y_ = (y341 ++ [a2]) := ⟨_, rfl⟩
       replace H : (some y354) = some r := by first | (rw [hy354]; with_reducible exact H) | (have H2_ := (Option.bind_some _ _).symm.trans H; rw [hy354]; with_reducible exact H2_) | (have H2_ := (Option.bind_some _ _).symm.trans H; with_reducible exact H2_) | with_reducible exact H | (rw [hy354]; exact H) | exact H
       have Ny354 := Aside0.mk hy354
       clear hy354
       obtain rfl := Option.some.inj H
       go_enter Try.func33, Try.ntmps33
       go_wp2_with (first | ((with_reducible refine gate_dst (N := 11) rfl ?_); refine Kd.R_lit (Kd.int .i64) _ 3 ?hg (N := 11) ?hd (xs := ([] : List Int)) (inner := []) (ok := fun _ => True) (okp := fun _ => True) ?hr ?hp (fun _ hk => hk) trivial (Below.refl _ _) (Nat.le_refl _) (by simp) ?_; (case hd => rfl); (case hg => rfl); (case hr => first | (go_simp; done) | (go_simp; rfl)); (case hp => exact (Reps.none _ _)); intro v339 w46 ho47 hb hg_ hnew_; clear hg_ hnew_; (first | rw [← Ny338.out] at ho47 | (simp only [Int.reduceToNat] at ho47; rw [← Ny338.out] at ho47)); have HO340 := Aside0.mk (Kd.R_lower ho47 (below_size (qb))); replace HB := qS HB hb; clear hb ho47) | ((with_reducible refine gate_builtin (b := .append) (xs := #[.tmp 11, .tmp 12]) rfl ?_); at_builtin; refine Kd.R_append_rows (Kd.int .i64) (w0 := w) w.heap.size rfl (.tmp 11) (.tmp 12) 27 3 (.int .i64 0) 8 rfl Try.underlying27 info3 rfl (by decide) (by omega) v339 y338 l0 _ _ _ (fun _ => True) (fun _ => False) rfl rfl ?aO ?aR (fun _ _ h => h) (fun _ h => h.elim) ?aF ?aB ?aS ?aL ?_; (case aR => exact qC (Kd.C_below HR0.out HB.out)); (case aB => exact (qb)); (case aF => exact (fun _ _ => trivial)); (case aO => exact (qr HO340.out)); (case aS => exact (below_size (qb))); (case aL => have := LMc5.out; omega); intro v342 w48 ho hb hg hat; rw [← Ny341.out] at ho; have n0_ := Aside0.mk (hb); have n1_ := Aside0.mk (ho); clear HB; clear HO340; have HB := n0_; have HO343 := n1_; clear n0_ n1_; clear ho hb hg hat; obtain ⟨Ao49, co49, eo49⟩ := Kd.R_slice HO343.out; subst eo49) | ((with_reducible refine gate_callee (f := 68) rfl ?_); refine goesL_ (some 22) rfl rfl Try.func68 qq rfl #[.int .i64 a3, .int .i64 (y341.length : Int)] rfl qa ?_; (with_reducible refine (dialtoneref27_pick.calls a3 (y341.length : Int) t347 _ A13.out).mono ?_); rintro e w' ⟨rfl, ⟨nd, rfl⟩⟩; refine ⟨_, rfl, ?_⟩) | ((with_reducible refine gate_callee (f := 68) rfl ?_); refine goesL_ (some 24) rfl rfl Try.func68 qq rfl #[.int .i64 a1, .int .i64 4] rfl qa ?_; (with_reducible refine (dialtoneref27_pick.calls a1 4 t348 _ A14.out).mono ?_); rintro e w' ⟨rfl, ⟨nd, rfl⟩⟩; refine ⟨_, rfl, ?_⟩) | ((with_reducible refine gate_builtin (b := .append) (xs := #[.tmp 25, .tmp 27]) rfl ?_); at_builtin; refine Kd.R_append (Kd.int .i64) (w0 := w) w.heap.size rfl (.tmp 25) (.tmp 27) 27 3 (.int .i64 0) 8 rfl Try.underlying27 info3 rfl (by decide) (by omega) (.slice Ao49 y341.length co49) y341 a2 [.int .i64 a2] (fun _ => True) (fun _ => False) rfl rfl ?aP (fun _ hk => hk.elim) ?aF ?aO ?aB ?aS ?aL ?_; (case aP => exact rfl); (case aB => exact (qb)); (case aF => exact (fun _ _ => trivial)); (case aO => exact (qr HO343.out)); (case aS => exact (below_size (qb))); (case aL => have := LMc45.out; omega); intro v355 w50 ho hb hg hat; rw [← Ny354.out] at ho; have n0_ := Aside0.mk (hb); have n1_ := Aside0.mk (ho); clear HB; clear HO343; have HB := n0_; have HO356 := n1_; clear n0_ n1_; clear ho hb hg hat))
       go_ret
       exact ⟨_, qe, by (with_reducible repeat (first | apply Kd.R_alloc | apply Kd.R_drewN | apply Kd.R_drew)); exact HO356.out, qb⟩
      ·
       rw [if_neg c45] at H
       exact absurd H (by simp)
 ·
  rw [if_neg c5] at H
  exact absurd H (by simp)

end Go.Proofs.Ytkkakdpncogpkaa.D
end
section
namespace Go.Proofs.Ytkkakdpncogpkaa.D
open Go.RowKit Go.Proofs.YtkkakdpncogpkaaW.PrintWords Go.Proofs.YtkkakdpncogpkaaW.PrintLast Go.Proofs.YtkkakdpncogpkaaW.PrintMore
attribute [local go_sem] max2_int min2_int max_two min_two max_three min_three max_four min_four   -- for this text's walks alone
set_option linter.unusedVariables false
set_option linter.unusedSimpArgs false

/-! ### dialtonelaw27_FlowLeast: function 6 -/
mutual
def dialtonelaw27_FlowLeast.j0 : Nat → Int → Int → Int → Int → Int → Bool → Int → List (S72) → Option (Bool)
 | 0, _, _, _, _, _, _, _, _ => none
 | k + 1, x5, x14, x15, x16, x17, x77, x557000, x557001 => if x77 = true then (some false) else (if (x557001.length : Int) = 0 then (some (x16 == 0)) else ((dialtonelaw27_pick.f x5 (x557001.length : Int)).bind fun t565 => ((some (([] : List (S72)) : List (S72))).bind fun y566 => (if y566.length + x557001.length < 5864062014805 then ((some (y566 ++ x557001 : List (S72))).bind fun y569 => (if 0 ≤ t565 then (if t565 < (y569.length : Int) then ((dialtonelaw27_greatest.f k x557000 (y569.set (t565 : Int).toNat (⟨(rd_T72 y569 t565).f0, (rd_T72 y569 t565).f1, wrap64 (((rd_T72 y569 t565).f2) + 1)⟩ : S72)) x14 x15).bind fun bt575 => (if bt575.2.2 = true then (dialtonelaw27_FlowLeast.j1 k x16 x17 t565 bt575.1 bt575.2.2 x557000 x557001) else (none))) else (none)) else (none))) else (none)))))
def dialtonelaw27_FlowLeast.j1 : Nat → Int → Int → Int → Int → Bool → Int → List (S72) → Option (Bool)
 | 0, _, _, _, _, _, _, _ => none
 | k + 1, x16, x17, x22, x24, x26, x557000, x557001 => if 0 ≤ x22 then (if x22 < (x557001.length : Int) then (if 0 ≤ ((rd_T72 x557001 x22).f0) then (if (Int.tmod (shr .i64 x17 ((rd_T72 x557001 x22).f0)) 2) = 1 then (if 0 ≤ ((rd_T72 x557001 x22).f1) then (if x26 = true then (if x24 ≥ x16 then (if x24 ≤ (wrap64 (x16 + 1)) then (if (Int.tmod (shr .i64 x17 ((rd_T72 x557001 x22).f1)) 2) = 0 then (some true) else (some (x24 == x16))) else (some false)) else (some false)) else (some false)) else (none)) else (if x26 = true then (if x24 ≥ x16 then (if x24 ≤ (wrap64 (x16 + 1)) then (some (x24 == x16)) else (some false)) else (some false)) else (some false))) else (none)) else (none)) else (none)
end
def dialtonelaw27_FlowLeast.f (k : Nat) (a0 : Int) (l1 : List (S23)) (a2 : Int) (a3 : Int) (a4 : Int) (a5 : Int) : Option (Bool) := (dialtonelaw27_sane.f k).bind fun t551 => (if t551 = true then ((dialtoneref27_Made.f k a0 l1).bind fun bt552 => ((dialtonelaw27_ends.f bt552.1 bt552.2 a2 a3).bind fun bt557 => ((dialtonelaw27_greatest.f k bt552.1 bt552.2 bt557.1 bt557.2).bind fun bt559 => (if bt559.2.2 = true then (if 0 ≤ bt552.1 then ((dialtonelaw27_pick.f a4 (shl .i64 1 bt552.1)).bind fun t562 => ((flow_CheckCut.f k bt552.1 bt552.2 bt557.1 bt557.2 t562).bind fun bt563 => (if bt563.2 = true then (if bt563.1 = bt559.1 then (dialtonelaw27_FlowLeast.j0 k a5 bt557.1 bt557.2 bt559.1 bt559.2.1 ((Go.bits .and .i64 t562 bt559.2.1) != bt559.2.1) bt552.1 bt552.2) else (dialtonelaw27_FlowLeast.j0 k a5 bt557.1 bt557.2 bt559.1 bt559.2.1 false bt552.1 bt552.2)) else (dialtonelaw27_FlowLeast.j0 k a5 bt557.1 bt557.2 bt559.1 bt559.2.1 false bt552.1 bt552.2)))) else (none)) else (none))))) else (none))
def dialtonelaw27_FlowLeast.T13 : Bool × List (List Nat × List Nat) := (true, [([], []), ([0], [0]), ([], []), ([], []), ([3], [3]), ([2, 4], [2, 4]), ([1, 5], [1, 5]), ([], []), ([7, 6, 5, 0, 1, 2, 3, 4, 5, 6, 7], [6, 7])])
def dialtonelaw27_FlowLeast.B13 : List Nat := [0, 1, 0, 0, 8, 28, 63, 0, 255]
theorem dialtonelaw27_FlowLeast.tab13 : rtab .any (opsOf Try.f6 13) = dialtonelaw27_FlowLeast.T13 := by kernel_rfl
theorem dialtonelaw27_FlowLeast.bits13 : waitsOk dialtonelaw27_FlowLeast.T13.2 dialtonelaw27_FlowLeast.B13 = true := by kernel_rfl
set_option maxHeartbeats 8000000 in
set_option maxRecDepth 100000 in
theorem dialtonelaw27_FlowLeast.calls (k : Nat) (a0 : Int) (A1 : Option Addr) (c1 : Nat) (l1 : List (S23)) (a2 : Int) (a3 : Int) (a4 : Int) (a5 : Int) (r : Bool) (w : World) (hr1 : Kd.C k23 w A1 l1.length l1) (hc1 : l1.length ≤ c1) (h : dialtonelaw27_FlowLeast.f k a0 l1 a2 a3 a4 a5 = some r) :
  Calls Try.prog 6 #[.int .i64 a0, .slice A1 l1.length c1, .int .i64 a2, .int .i64 a3, .int .i64 a4, .int .i64 a5] w fun e w' => e = .returned (.bool r) ∧ Below w.heap.size w w' := by
 have hu26 := Try.underlying26
 have HR1 := Aside0.mk hr1
 have HC1 := Aside0.mk hc1
 clear hr1 hc1
 have HB := Aside0.mk (Below.refl w.heap.size w)
 have H : ((dialtonelaw27_sane.f k).bind fun t551 => (if t551 = true then ((dialtoneref27_Made.f k a0 l1).bind fun bt552 => ((dialtonelaw27_ends.f bt552.1 bt552.2 a2 a3).bind fun bt557 => ((dialtonelaw27_greatest.f k bt552.1 bt552.2 bt557.1 bt557.2).bind fun bt559 => (if bt559.2.2 = true then (if 0 ≤ bt552.1 then ((dialtonelaw27_pick.f a4 (shl .i64 1 bt552.1)).bind fun t562 => ((flow_CheckCut.f k bt552.1 bt552.2 bt557.1 bt557.2 t562).bind fun bt563 => (if bt563.2 = true then (if bt563.1 = bt559.1 then (dialtonelaw27_FlowLeast.j0 k a5 bt557.1 bt557.2 bt559.1 bt559.2.1 ((Go.bits .and .i64 t562 bt559.2.1) != bt559.2.1) bt552.1 bt552.2) else (dialtonelaw27_FlowLeast.j0 k a5 bt557.1 bt557.2 bt559.1 bt559.2.1 false bt552.1 bt552.2)) else (dialtonelaw27_FlowLeast.j0 k a5 bt557.1 bt557.2 bt559.1 bt559.2.1 false bt552.1 bt552.2)))) else (none)) else (none))))) else (none))) = some r := h
 clear h
 replace H := Option.bind_eq_some_iff.mp H
 obtain ⟨t551, A70, H⟩ := H
 (try dsimp only at H)
 have A7 := Aside0.mk A70
 clear A70
 by_cases c8 : t551 = true
 ·
  subst c8
  rw [if_pos rfl] at H
  replace H := Option.bind_eq_some_iff.mp H
  obtain ⟨⟨t552, t553⟩, A90, H⟩ := H
  (try dsimp only at H)
  have A9 := Aside0.mk A90
  clear A90
  replace H := Option.bind_eq_some_iff.mp H
  obtain ⟨⟨t557, t558⟩, A100, H⟩ := H
  (try dsimp only at H)
  have A10 := Aside0.mk A100
  clear A100
  replace H := Option.bind_eq_some_iff.mp H
  obtain ⟨⟨t559, t560, t561⟩, A110, H⟩ := H
  (try dsimp only at H)
  have A11 := Aside0.mk A110
  clear A110
  by_cases c12 : t561 = true
  ·
   subst c12
   rw [if_pos rfl] at H
   by_cases c13 : 0 ≤ t552
   ·
    rw [if_pos c13] at H
    have c13b0 := eq_true c13
    have c13b1 : decide (0 ≤ t552) = true := decide_eq_true c13
    clear c13
    obtain ⟨ji14, hji14⟩ : ∃ j_ : Int, (shl .i64 1 t552) = j_ := ⟨_, rfl⟩
    replace H : ((dialtonelaw27_pick.f a4 (ji14)).bind fun t562 => ((flow_CheckCut.f k t552 t553 t557 t558 t562).bind fun bt563 => (if bt563.2 = true then (if bt563.1 = t559 then (dialtonelaw27_FlowLeast.j0 k a5 t557 t558 t559 t560 ((Go.bits .and .i64 t562 t560) != t560) t552 t553) else (dialtonelaw27_FlowLeast.j0 k a5 t557 t558 t559 t560 false t552 t553)) else (dialtonelaw27_FlowLeast.j0 k a5 t557 t558 t559 t560 false t552 t553)))) = some r := by first | (rw [hji14] at H; exact H) | (simp only [hji14] at H ⊢; exact H)
    (try rw [hji14] at A7)
    (try rw [hji14] at A9)
    (try rw [hji14] at A10)
    (try rw [hji14] at A11)
    have hji14_ : (IntKind.i64.wrap (1 * 2 ^ min t552.toNat 64)) = ji14 := hji14
    have hji14z : t552 ≤ 64 → (IntKind.i64.wrap (1 * 2 ^ t552.toNat)) = ji14 := shl_small hji14
    have hji14u : (IntKind.i64.wrap (2 ^ min t552.toNat 64)) = ji14 := by have h_ := hji14_; rw [Int.one_mul] at h_; exact h_
    have hji14v : t552 ≤ 64 → (IntKind.i64.wrap (2 ^ t552.toNat)) = ji14 := fun hle_ => by have h_ := hji14z hle_; rw [Int.one_mul] at h_; exact h_
    have hji14y : (wrap64 (1 * 2 ^ min t552.toNat 64)) = ji14 := (i64_w _).symm.trans hji14_
    have hji14x : t552 ≤ 64 → (wrap64 (1 * 2 ^ t552.toNat)) = ji14 := fun h_ => (i64_w _).symm.trans (hji14z h_)
    replace H := Option.bind_eq_some_iff.mp H
    obtain ⟨t562, A150, H⟩ := H
    (try dsimp only at H)
    have A15 := Aside0.mk A150
    clear A150
    replace H := Option.bind_eq_some_iff.mp H
    obtain ⟨⟨t563, t564⟩, A160, H⟩ := H
    (try dsimp only at H)
    have A16 := Aside0.mk A160
    clear A160
    have HC17 := Aside0.mk H
    clear H
    go_enter Try.func6, Try.ntmps6
    go_upto_region 8 with (first | ((with_reducible refine gate_callee (f := 22) rfl ?_); refine goesL_ (some 28) rfl rfl Try.func22 qq rfl #[] rfl qa ?_; (with_reducible refine (dialtonelaw27_sane.calls k  true _ A7.out).mono ?_); rintro e w18 ⟨rfl, hb⟩; refine ⟨_, rfl, ?_⟩; replace HB := qS HB hb; (try clear hb); (try clear hb2); (try clear hk); (try clear hi)) | ((with_reducible refine gate_callee (f := 23) rfl ?_); refine goesL_ (some 32) rfl rfl Try.func23 qq rfl #[.int .i64 a0, .slice A1 l1.length c1] rfl qa ?_; (with_reducible refine (dialtoneref27_Made.calls k a0 _ _ l1 t552 t553 _ ?side1 ?side2 A9.out).mono ?_); (case side1 => exact qC (Kd.C_below HR1.out HB.out)); (case side2 => exact HC1.out); rintro e w19 ⟨v554, rfl, ho0, hb⟩; refine ⟨_, rfl, ?_⟩; have HO555 := qL HB ho0; replace HB := qS HB hb; (try clear hb); (try clear hb2); (try clear hk); (try clear hi); (try clear ho0)) | ((with_reducible refine gate_dst (N := 13) rfl ?_); refine box_event rfl (N := 13) rfl (cs := #[.int .i64 0, .slice none 0 0]) (t := 26) qh ?_; intro gb556 hg w20 hbox hb; replace HO555 := qR HO555 hb; have BK556 := Aside0.mk (hbox); have GW556 := qg HB hg; have GE556 := qg HB hg; replace HB := qS HB hb; clear hb hbox hg; obtain ⟨hcz21_0, hcz21_1, hfz21_0, hfz21_1⟩ := qc2 BK556.out; obtain ⟨Ao22, co22, eo22⟩ := Kd.R_slice HO555.out; subst eo22) | ((with_reducible refine gate_callee (f := 24) rfl ?_); refine goesL_ (some 37) rfl rfl Try.func24 qq rfl #[.agg #[.int .i64 t552, .slice Ao22 t553.length co22], .int .i64 a2, .int .i64 a3] rfl qa ?_; (with_reducible refine (dialtonelaw27_ends.calls t552 _ _ t553 a2 a3 t557 t558 _ ?side1 ?side2 A10.out).mono ?_); (case side1 => refine (Kd.R_reads' (e := 72) (base := w.heap.size) (ok := fun k_ => True) (n := t553.length) (c := co22) ?_).2.2; exact (qr (Kd.R_mono (Kd.R_far (p := ⟨gb556, 1, none⟩) (Kd.R_far (p := ⟨gb556, 0, none⟩) (Kd.R_types HO555.out BK556.out (by decide)) (fun _ hk => hk.2) (.int .i64 t552)) (fun _ hk => hk.2) (.slice Ao22 t553.length co22)) (fun _ h_ => h_.1)))); (case side2 => exact (Kd.R_reads' HO555.out).2.1); rintro e w23 ⟨rfl, hb⟩; refine ⟨_, rfl, ?_⟩; replace HO555 := Aside0.mk (Kd.R_below (qr (Kd.R_mono (Kd.R_far (p := ⟨gb556, 1, none⟩) (Kd.R_far (p := ⟨gb556, 0, none⟩) (Kd.R_types HO555.out BK556.out (by decide)) (fun _ hk => hk.2) (.int .i64 t552)) (fun _ hk => hk.2) (.slice Ao22 t553.length co22)) (fun _ h_ => h_.1))) hb); replace BK556 := Aside0.mk (blk_below (g := gb556) (o := .cells #[.int .i64 t552, .slice Ao22 t553.length co22] 26 (0, 0)) (by (with_reducible repeat (first | refine blk_drewN ?_ _ | refine blk_drew ?_ | refine blk_alloc ?_ _)); refine blk_put (cs := #[.int .i64 t552, .slice none 0 0]) ?_ 1 _ rfl; (with_reducible repeat (first | refine blk_drewN ?_ _ | refine blk_drew ?_ | refine blk_alloc ?_ _)); refine blk_put (cs := #[.int .i64 0, .slice none 0 0]) ?_ 0 _ rfl; (with_reducible repeat (first | refine blk_drewN ?_ _ | refine blk_drew ?_ | refine blk_alloc ?_ _)); exact BK556.out) hb); replace HB := qS HB hb; (try clear hb); (try clear hb2); (try clear hk); (try clear hi); obtain ⟨hcz24_0, hcz24_1, hfz24_0, hfz24_1⟩ := qc2 BK556.out) | ((with_reducible refine gate_callee (f := 51) rfl ?_); refine goesL_ (some 44) rfl rfl Try.func51 qq rfl #[.agg #[.int .i64 t552, .slice Ao22 t553.length co22], .int .i64 t557, .int .i64 t558] rfl qa ?_; (with_reducible refine (dialtonelaw27_greatest.calls k t552 _ _ t553 t557 t558 t559 t560 true _ ?side1 ?side2 A11.out).mono ?_); (case side1 => exact qC (Kd.R_reads' HO555.out).2.2); (case side2 => exact (Kd.R_reads' HO555.out).2.1); rintro e w25 ⟨rfl, hb⟩; refine ⟨_, rfl, ?_⟩; replace HO555 := qR HO555 hb; replace BK556 := qB BK556 hb; replace HB := qS HB hb; (try clear hb); (try clear hb2); (try clear hk); (try clear hi); obtain ⟨hcz26_0, hcz26_1, hfz26_0, hfz26_1⟩ := qc2 BK556.out) | ((with_reducible refine gate_callee (f := 35) rfl ?_); refine goesL_ (some 52) rfl rfl Try.func35 qq rfl #[.int .i64 a4, .int .i64 ji14] rfl (by (try simp only [List.map_toArray, List.map_cons, List.map_nil]); first | done | (simp only [hji14]; rfl) | rfl | (simp only [List.length_drop, List.length_take]; rfl)) ?_; (with_reducible refine (dialtonelaw27_pick.calls a4 ji14 t562 _ A15.out).mono ?_); rintro e w' ⟨rfl, ⟨nd, rfl⟩⟩; refine ⟨_, rfl, ?_⟩) | ((with_reducible refine gate_callee (f := 36) rfl ?_); refine goesL_ (some 58) rfl rfl Try.func36 qq rfl #[.agg #[.int .i64 t552, .slice Ao22 t553.length co22], .int .i64 t557, .int .i64 t558, .int .i64 t562] rfl qa ?_; (with_reducible refine (flow_CheckCut.calls k t552 _ _ t553 t557 t558 t562 t563 t564 _ ?side1 ?side2 A16.out).mono ?_); (case side1 => exact qC (Kd.R_reads' HO555.out).2.2); (case side2 => exact (Kd.R_reads' HO555.out).2.1); rintro e w27 ⟨rfl, hb⟩; refine ⟨_, rfl, ?_⟩; replace HO555 := qR HO555 hb; replace BK556 := qB BK556 hb; replace HB := qS HB hb; (try clear hb); (try clear hb2); (try clear hk); (try clear hi)))
    (try simp only [Act.put, List.setIfInBounds_toArray, List.set_cons_zero, List.set_cons_succ])
    go_cut [77] (fun v77 wc => ∃ (kq : Nat) (x77_16 : Bool), v77 = .bool x77_16 ∧ Aside0 (dialtonelaw27_FlowLeast.j0 kq a5 t557 t558 t559 t560 x77_16 t552 t553 = some r) ∧ Aside0 (kq ≤ k) ∧ Aside0 (Kd.R k72 72 wc w.heap.size (fun _ => True) (.slice Ao22 t553.length co22) t553) ∧ Aside0 (wc.heap[gb556]? = some (.cells #[.int .i64 t552, (.slice Ao22 t553.length co22)] 26 (0, 0))) ∧ Aside0 (Below w.heap.size w wc))
    case first =>
     have H := HC17.out
     clear HC17
     by_cases c28 : t564 = true
     ·
      subst c28
      rw [if_pos rfl] at H
      by_cases c29 : t563 = t559
      ·
       rw [if_pos c29] at H
       obtain ⟨c29b0, c29b1⟩ := qt c29
       clear c29
       (first | rw [c29b0] | (simp only [i64_w, i32_w]; rw [c29b0]) | skip)
       have H' := Aside0.mk H
       clear H
       go_wp2
       go_meet
       case rel => exact ⟨_, (((Go.bits .and .i64 t562 t560) != t560)), (by first | rfl | (simp; done) | (simp [*]; done)), H', ⟨by first | omega | exact Nat.le_refl _⟩, ⟨qr HO555.out⟩, ⟨qk BK556.out⟩, ⟨qb⟩⟩
      ·
       rw [if_neg c29] at H
       obtain ⟨c29b0, c29b1⟩ := qf c29
       (first | rw [c29b0] | (simp only [i64_w, i32_w]; rw [c29b0]) | skip)
       have H' := Aside0.mk H
       clear H
       go_wp2
       go_meet
       case rel => exact ⟨_, (false), (by first | rfl | (simp; done) | (simp [*]; done)), H', ⟨by first | omega | exact Nat.le_refl _⟩, ⟨qr HO555.out⟩, ⟨qk BK556.out⟩, ⟨qb⟩⟩
     ·
      replace c28 := Bool.eq_false_iff.mpr c28
      subst c28
      rw [if_neg (show ¬ (false = true) by decide)] at H
      have H' := Aside0.mk H
      clear H
      go_wp2
      go_meet
      case rel => exact ⟨_, (false), (by first | rfl | (simp; done) | (simp [*]; done)), H', ⟨by first | omega | exact Nat.le_refl _⟩, ⟨qr HO555.out⟩, ⟨qk BK556.out⟩, ⟨qb⟩⟩
    case rest =>
     clear HC17
     try clear c1
     try clear c2
     try clear p2
     try clear c3
     try clear c5
     try clear c6
     try clear p6
     try clear c8
     try clear c12
     try clear c13
     try clear c13b0
     try clear c13b1
     try clear c22
     try clear c23
     try clear c24
     try clear c28
     try clear c29
     try clear c29b0
     try clear c29b1
     try clear hcz21_0
     try clear hcz21_1
     try clear hcz24_0
     try clear hcz24_1
     try clear hcz26_0
     try clear hcz26_1
     try clear hfz21_0
     try clear hfz21_1
     try clear hfz24_0
     try clear hfz24_1
     try clear hfz26_0
     try clear hfz26_1
     obtain ⟨kq, x77_16, rfl, HA, HJ16, HO_557001, BK556, HB⟩ := hcut
     cases kq with
     | zero => exact absurd HA.out (by simp [dialtonelaw27_FlowLeast.j0])
     | succ kj16 =>
      have H := HA.out
      clear HA
      simp only [dialtonelaw27_FlowLeast.j0] at H
      by_cases c30 : x77_16 = true
      ·
       subst c30
       rw [if_pos rfl] at H
       obtain rfl := Option.some.inj H
       go_wp2
       go_ret
       exact ⟨by first | rfl | (simp [errW_none, errW_some] <;> rfl) | (simp only [← hji14]; first | rfl | (simp [errW_none, errW_some] <;> rfl)) | (simp [*, errW_none, errW_some] <;> rfl), qb⟩
      ·
       replace c30 := Bool.eq_false_iff.mpr c30
       subst c30
       rw [if_neg (show ¬ (false = true) by decide)] at H
       by_cases c31 : (t553.length : Int) = 0
       ·
        rw [if_pos c31] at H
        obtain ⟨c31b0, c31b1⟩ := qt c31
        clear c31
        obtain rfl := Option.some.inj H
        obtain ⟨hcz32_0, hcz32_1, hfz32_0, hfz32_1⟩ := qc2 BK556.out
        go_wp2
        go_ret
        exact ⟨by first | rfl | (simp [errW_none, errW_some] <;> rfl) | (simp only [← hji14]; first | rfl | (simp [errW_none, errW_some] <;> rfl)) | (simp [*, errW_none, errW_some] <;> rfl), qb⟩
       ·
        rw [if_neg c31] at H
        obtain ⟨c31b0, c31b1⟩ := qf c31
        have c31b2 : ¬ (t553 = []) := fun h_ => c31 (by rw [h_]; rfl)
        replace H := Option.bind_eq_some_iff.mp H
        obtain ⟨t565, A330, H⟩ := H
        (try dsimp only at H)
        have A33 := Aside0.mk A330
        clear A330
        obtain ⟨y566, hy566⟩ : ∃ y_ : List (S72), y_ = (([] : List (S72))) := ⟨_, rfl⟩
        replace H : (if y566.length + t553.length < 5864062014805 then ((some (y566 ++ t553 : List (S72))).bind fun y569 => (if 0 ≤ t565 then (if t565 < (y569.length : Int) then ((dialtonelaw27_greatest.f kj16 t552 (y569.set (t565 : Int).toNat (⟨(rd_T72 y569 t565).f0, (rd_T72 y569 t565).f1, wrap64 (((rd_T72 y569 t565).f2) + 1)⟩ : S72)) t557 t558).bind fun bt575 => (if bt575.2.2 = true then (dialtonelaw27_FlowLeast.j1 kj16 t559 t560 t565 bt575.1 bt575.2.2 t552 t553) else (none))) else (none)) else (none))) else (none)) = some r := by first | (rw [hy566]; with_reducible exact H) | (have H2_ := (Option.bind_some _ _).symm.trans H; rw [hy566]; with_reducible exact H2_) | (have H2_ := (Option.bind_some _ _).symm.trans H; with_reducible exact H2_) | with_reducible exact H | (rw [hy566]; exact H) | exact H
        have Ny566 := Aside0.mk hy566
        clear hy566
        by_cases c34 : y566.length + t553.length < 5864062014805
        ·
         rw [if_pos c34] at H
         have LMc34 := Aside0.mk c34
         clear c34
         obtain ⟨y569, hy569⟩ : ∃ y_ : List (S72), y_ = (y566 ++ t553) := ⟨_, rfl⟩
         replace H : (if 0 ≤ t565 then (if t565 < (y569.length : Int) then ((dialtonelaw27_greatest.f kj16 t552 (y569.set (t565 : Int).toNat (⟨(rd_T72 y569 t565).f0, (rd_T72 y569 t565).f1, wrap64 (((rd_T72 y569 t565).f2) + 1)⟩ : S72)) t557 t558).bind fun bt575 => (if bt575.2.2 = true then (dialtonelaw27_FlowLeast.j1 kj16 t559 t560 t565 bt575.1 bt575.2.2 t552 t553) else (none))) else (none)) else (none)) = some r := by first | (rw [hy569]; with_reducible exact H) | (have H2_ := (Option.bind_some _ _).symm.trans H; rw [hy569]; with_reducible exact H2_) | (have H2_ := (Option.bind_some _ _).symm.trans H; with_reducible exact H2_) | with_reducible exact H | (rw [hy569]; exact H) | exact H
         have Ny569 := Aside0.mk hy569
         clear hy569
         by_cases c35 : 0 ≤ t565
         ·
          rw [if_pos c35] at H
          have c35b0 : decide (0 ≤ t565) = true := decide_eq_true c35
          clear c35
          by_cases c36 : t565 < (y569.length : Int)
          ·
           rw [if_pos c36] at H
           have c36b0 : decide (t565 < (y569.length : Int)) = true := decide_eq_true c36
           clear c36
           obtain ⟨y574, hy574⟩ : ∃ y_ : List (S72), y_ = (y569.set (t565 : Int).toNat (⟨(rd_T72 y569 t565).f0, (rd_T72 y569 t565).f1, wrap64 (((rd_T72 y569 t565).f2) + 1)⟩ : S72)) := ⟨_, rfl⟩
           replace H : ((dialtonelaw27_greatest.f kj16 t552 y574 t557 t558).bind fun bt575 => (if bt575.2.2 = true then (dialtonelaw27_FlowLeast.j1 kj16 t559 t560 t565 bt575.1 bt575.2.2 t552 t553) else (none))) = some r := by first | (rw [hy574]; with_reducible exact H) | (have H2_ := (Option.bind_some _ _).symm.trans H; rw [hy574]; with_reducible exact H2_) | (have H2_ := (Option.bind_some _ _).symm.trans H; with_reducible exact H2_) | with_reducible exact H | (rw [hy574]; exact H) | exact H
           have Ny574 := Aside0.mk hy574
           clear hy574
           have HC38 := Aside0.mk H
           clear H
           obtain ⟨hcz39_0, hcz39_1, hfz39_0, hfz39_1⟩ := qc2 BK556.out
           try go_wp2_with (first | ((with_reducible refine gate_callee (f := 35) rfl ?_); refine goesL_ (some 88) rfl rfl Try.func35 qq rfl #[.int .i64 a5, .int .i64 (t553.length : Int)] rfl qa ?_; (with_reducible refine (dialtonelaw27_pick.calls a5 (t553.length : Int) t565 _ A33.out).mono ?_); rintro e w' ⟨rfl, ⟨nd, rfl⟩⟩; refine ⟨_, rfl, ?_⟩; (try (rw [drewN_self wc]; generalize hq_ : World.drewN wc _ = wc; have n0_ : Aside0 (Kd.R k72 72 wc w.heap.size (fun _ => True) (.slice Ao22 t553.length co22) t553) := ⟨by rw [← hq_]; exact (qr HO_557001.out)⟩; have n1_ : Aside0 (wc.heap[gb556]? = some (.cells #[.int .i64 t552, .slice Ao22 t553.length co22] 26 (0, 0))) := ⟨by rw [← hq_]; exact (qk BK556.out)⟩; have n2_ : Aside0 (Below w.heap.size w wc) := ⟨by rw [← hq_]; exact (qb)⟩; clear HO_557001 BK556 HB hq_; have HO_557001 := n0_; have BK556 := n1_; have HB := n2_; clear n0_ n1_ n2_; have hcz40_0 : wc.cell? ⟨gb556, 0, none⟩ = some (.int .i64 t552) := (blk_cell BK556.out 0).trans rfl; have hfz40_0 := blk_frozen BK556.out 0; have hcz40_1 : wc.cell? ⟨gb556, 1, none⟩ = some (.slice Ao22 t553.length co22) := (blk_cell BK556.out 1).trans rfl; have hfz40_1 := blk_frozen BK556.out 1))))
           replace HO_557001 := Aside0.mk (Kd.R_drew HO_557001.out)
           replace BK556 := Aside0.mk (blk_drew BK556.out)
           replace HB := Aside0.mk (below_drew1 HB.out)
           refine start_ (n := 9) (S := fun w' => w'.cell? ⟨gb556, 0, none⟩ = some (.int .i64 t552) ∧ w'.cell? ⟨gb556, 1, none⟩ = some (.slice Ao22 t553.length co22)) (ds := []) #[false, false, false, false, false, false, false, false, false] qq rfl rfl ⟨(blk_cell BK556.out 0).trans rfl, (blk_cell BK556.out 1).trans rfl⟩ (fun hHeld => ?_); refine with_tabW dialtonelaw27_FlowLeast.tab13 dialtonelaw27_FlowLeast.bits13 (fun HT_ HW_ => ?_)
           generalize wc.drew = w41 at HO_557001 BK556 HB hHeld ⊢
           refine pure_ (i := 0) (N := some 89) (v := ?_) (a' := ?_) #[true, false, false, false, false, false, false, false, false] rfl rfl (any_of HT_.out qq) (fun _ _ _ h => h) (Or.inl ⟨by rfl, ?_⟩) ?_ ?_
           rotate_left
           ·
            intro w'
            go_simp
            with_reducible rfl
           rotate_left
           ·
            simp only [Act.put, List.setIfInBounds_toArray, List.set_cons_zero, List.set_cons_succ, i64_w, i32_w]
            rfl
           refine pure_ (i := 3) (N := some 92) (v := ?_) (a' := ?_) #[true, false, false, true, false, false, false, false, false] rfl rfl (any_of HT_.out qq) (fun _ _ _ h => h) (Or.inl ⟨by rfl, ?_⟩) ?_ ?_
           rotate_left
           ·
            intro w'
            go_simp
            with_reducible rfl
           rotate_left
           ·
            simp only [Act.put, List.setIfInBounds_toArray, List.set_cons_zero, List.set_cons_succ, i64_w, i32_w]
            rfl
           refine take_ (i := 1) (N := some 90) (v := ?_) (a' := ?_) #[true, true, false, true, false, false, false, false, false] rfl rfl (take_ofW HT_.out HW_.out qq) (fun _ _ _ h => h) (Or.inl ⟨by rfl, ?_⟩) hHeld ?_ ?_
           rotate_left
           ·
            rintro w' ⟨s0, s1⟩
            go_simp
            with_reducible rfl
           rotate_left
           ·
            simp only [Act.put, List.setIfInBounds_toArray, List.set_cons_zero, List.set_cons_succ, i64_w, i32_w]
            rfl
           refine take_ (i := 4) (N := some 93) (v := ?_) (a' := ?_) #[true, true, false, true, true, false, false, false, false] rfl rfl (take_ofW HT_.out HW_.out qq) (fun _ _ _ h => h) (Or.inl ⟨by rfl, ?_⟩) hHeld ?_ ?_
           rotate_left
           ·
            rintro w' ⟨s0, s1⟩
            go_simp
            with_reducible rfl
           rotate_left
           ·
            simp only [Act.put, List.setIfInBounds_toArray, List.set_cons_zero, List.set_cons_succ, i64_w, i32_w]
            rfl
           refine join_ (σ := Value × Value × Nat) 1 #[true, true, true, true, true, true, true, true, false] (fun s_ => [(91, s_.1), (94, s_.2.1), (23, .pointer (some ⟨s_.2.2, 0, none⟩)), (95, .agg #[.int .i64 t552, s_.2.1])]) (fun s_ w' => (w'.cell? ⟨gb556, 0, none⟩ = some (.int .i64 t552) ∧ w'.cell? ⟨gb556, 1, none⟩ = some (.slice Ao22 t553.length co22)) ∧ (Kd.R k72 72 w' w.heap.size (fun k_ => some k_ ≠ (.slice Ao22 t553.length co22 : Value).ownBlock) s_.2.1 y569) ∧ (Kd.R k72 72 w' w.heap.size (fun k_ => some k_ ≠ (s_.2.1 : Value).ownBlock) (.slice Ao22 t553.length co22) t553) ∧ (w'.heap[gb556]? = some (.cells #[.int .i64 t552, .slice Ao22 t553.length co22] 26 (0, 0))) ∧ (w'.heap[s_.2.2]? = some (.cells #[.int .i64 0, .slice none 0 0] 26 (0, 0))) ∧ (w.heap.size ≤ s_.2.2) ∧ (w.heap.size ≤ s_.2.2) ∧ (gb556 ≠ s_.2.2) ∧ (s_.2.2 ≠ gb556) ∧ (Below w.heap.size w w')) ?_ ?_
           rotate_left
           ·
            intro hCont
            refine two_ (i := 2) (j := 7) (Ni := some 91) (Nj := some 23) #[true, true, true, true, true, false, false, false, false] #[true, true, false, true, true, false, false, true, false] rfl rfl rfl rfl (two_of HT_.out qq) (by decide) (by decide) (fun K hK => ?_) (fun K hK => ?_)
            ·
             skip
             refine Kd.R_lit_step k72 _ 72 ?hg (N := 91) ?hd (xs := ([] : List (S72))) (inner := []) (ok := fun _ => True) (okp := fun _ => True) ?hr ?hp (fun _ hk => hk) trivial (Below.refl _ _) (Nat.le_refl _) (by simp) ?_; (case hd => rfl); (case hg => rfl); (case hr => first | (go_simp; done) | (go_simp; rfl)); (case hp => exact (Reps.none _ _))
             intro v567 w42 ho43 hb hg_ hnew_
             clear hg_ hnew_
             (first | rw [← Ny566.out] at ho43 | (simp only [Int.reduceToNat] at ho43; rw [← Ny566.out] at ho43))
             have HO568 := Aside0.mk (Kd.R_lower (Kd.R_new' ho43 (Kd.R_lt (qr HO_557001.out))) (below_size (qb)))
             replace HO_557001 := Aside0.mk (Kd.R_elder' (qr HO_557001.out) (Kd.R_base ho43) hb)
             replace BK556 := qB BK556 hb
             replace HB := qS HB hb
             clear hb ho43
             refine hK.out _ _ ⟨(blk_cell BK556.out 0).trans rfl, (blk_cell BK556.out 1).trans rfl⟩ (fun hHeld => ?_)
             clear hK K
             refine norm_ (a' := ?_) ?_ ?_
             rotate_left
             ·
              show Act.put _ (some 91) _ = _
              simp only [Act.put, List.setIfInBounds_toArray, List.set_cons_zero, List.set_cons_succ, i64_w, i32_w]
              rfl
             refine two_ (i := 5) (j := 7) (Ni := some 94) (Nj := some 23) #[true, true, true, true, true, true, false, false, false] #[true, true, true, true, true, false, false, true, false] rfl rfl rfl rfl (two_of HT_.out qq) (by decide) (by decide) (fun K hK => ?_) (fun K hK => ?_)
             ·
              skip
              refine Kd.R_append_rows_step k72 (w0 := w) w.heap.size (by rfl) (.tmp 91) (.tmp 93) 24 72 (.agg #[(.int .i64 0), (.int .i64 0), (.int .i64 0)]) 24 rfl Try.underlying24 info72 rfl (by decide) (by omega) v567 y566 t553 _ _ _ (fun k_ => some k_ ≠ (.slice Ao22 t553.length co22 : Value).ownBlock) (fun _ => False) rfl rfl ?aO ?aR (fun _ _ h => h) (fun _ h => h.elim) ?aF ?aB ?aS ?aL ?_
              (case aR => exact qC (Kd.R_reads' HO_557001.out).2.2)
              (case aB => exact (qb))
              (case aF => exact (fun k_ hk => Kd.fresh' (Kd.R_lt (qr HO_557001.out)) k_ hk))
              (case aO => exact (qr (Kd.R_mono HO568.out (fun _ hk => hk.2))))
              (case aS => exact (below_size (qb)))
              (case aL => have := LMc34.out; omega)
              intro v570 w44 ho hb hg hat
              rw [← Ny569.out] at ho
              have n0_ := Aside0.mk (Kd.R_after (ok := (fun _ => True)) (qr HO_557001.out) hg hat)
              have n1_ := Aside0.mk (blk_grown (g := gb556) (o := .cells #[.int .i64 t552, .slice Ao22 t553.length co22] 26 (0, 0)) (qk BK556.out) hg (Kd.R_ne HO568.out BK556.out (by decide)))
              have n2_ := Aside0.mk (hb)
              have n3_ := Aside0.mk (ho)
              clear HO_557001
              clear BK556
              clear HB
              clear HO568
              have HO_557001 := n0_
              have BK556 := n1_
              have HB := n2_
              have HO571 := n3_
              clear n0_ n1_ n2_ n3_
              clear ho hb hg hat
              obtain ⟨Ao45, co45, eo45⟩ := Kd.R_slice HO571.out
              (first | subst eo45 | (injection eo45 with f1_ f2_ f3_; have f4_ := f1_.symm; have f5_ := f3_.symm; clear f1_ f2_ f3_; subst f4_; subst f5_))
              refine hK.out _ _ ⟨(blk_cell BK556.out 0).trans rfl, (blk_cell BK556.out 1).trans rfl⟩ (fun hHeld => ?_)
              clear hK K
              refine norm_ (a' := ?_) ?_ ?_
              rotate_left
              ·
               show Act.put _ (some 94) _ = _
               simp only [Act.put, List.setIfInBounds_toArray, List.set_cons_zero, List.set_cons_succ, i64_w, i32_w]
               rfl
              refine pure_ (i := 6) (N := some 95) (v := ?_) (a' := ?_) #[true, true, true, true, true, true, true, false, false] rfl rfl (any_of HT_.out qq) (fun _ _ _ h => h) (Or.inl ⟨by rfl, ?_⟩) ?_ ?_
              rotate_left
              ·
               intro w'
               go_simp
               with_reducible rfl
              rotate_left
              ·
               simp only [Act.put, List.setIfInBounds_toArray, List.set_cons_zero, List.set_cons_succ, i64_w, i32_w]
               rfl
              refine one_ (i := 7) (N := some 23) #[true, true, true, true, true, true, true, true, false] rfl rfl (one_of HT_.out qq) (by decide) (fun K hK => ?_)
              refine box_step ?hg (N := 23) ?hd (cs := #[.int .i64 0, .slice none 0 0]) (t := 26) ?hr ?_; (case hd => rfl); (case hg => rfl); (case hr => first | (go_simp; done) | (go_simp; rfl))
              intro gb572 hg w46 hbox hb
              replace HO_557001 := qR HO_557001 hb
              replace HO571 := qR HO571 hb
              have BK572 := Aside0.mk (hbox)
              have GW572 := qg HB hg
              have GE572 := qg HB hg
              replace HB := qS HB hb
              have NB556_572 := qn BK556 hg
              have NB572_556 := qm BK556 hg
              replace BK556 := qB BK556 hb
              clear hb hbox hg
              refine hK.out _ _ ⟨(blk_cell BK556.out 0).trans rfl, (blk_cell BK556.out 1).trans rfl⟩ (fun hHeld => ?_)
              clear hK K
              refine norm_ (a' := ?_) ?_ ?_
              rotate_left
              ·
               show Act.put _ (some 23) _ = _
               simp only [Act.put, List.setIfInBounds_toArray, List.set_cons_zero, List.set_cons_succ, i64_w, i32_w]
               rfl
              exact norm_ (by simp only [putAll, Act.put, List.setIfInBounds_toArray, List.set_cons_zero, List.set_cons_succ]) (hCont (v567, .slice Ao45 y569.length co45, gb572) _ ⟨hHeld, (qr HO571.out), (qr (Kd.R_mono HO_557001.out (fun _ hk => hk.2))), (qk BK556.out), (qk BK572.out), GW572.out, GE572.out, NB556_572.out, NB572_556.out, (qb)⟩)
             ·
              skip
              refine box_step ?hg (N := 23) ?hd (cs := #[.int .i64 0, .slice none 0 0]) (t := 26) ?hr ?_; (case hd => rfl); (case hg => rfl); (case hr => first | (go_simp; done) | (go_simp; rfl))
              intro gb572 hg w44 hbox hb
              replace HO_557001 := qR HO_557001 hb
              replace HO568 := qR HO568 hb
              have BK572 := Aside0.mk (hbox)
              have GW572 := qg HB hg
              have GE572 := qg HB hg
              replace HB := qS HB hb
              have NB556_572 := qn BK556 hg
              have NB572_556 := qm BK556 hg
              replace BK556 := qB BK556 hb
              clear hb hbox hg
              refine hK.out _ _ ⟨(blk_cell BK556.out 0).trans rfl, (blk_cell BK556.out 1).trans rfl⟩ (fun hHeld => ?_)
              clear hK K
              refine norm_ (a' := ?_) ?_ ?_
              rotate_left
              ·
               show Act.put _ (some 23) _ = _
               simp only [Act.put, List.setIfInBounds_toArray, List.set_cons_zero, List.set_cons_succ, i64_w, i32_w]
               rfl
              refine one_ (i := 5) (N := some 94) #[true, true, true, true, true, true, false, true, false] rfl rfl (one_of HT_.out qq) (by decide) (fun K hK => ?_)
              refine Kd.R_append_rows_step k72 (w0 := w) w.heap.size (by rfl) (.tmp 91) (.tmp 93) 24 72 (.agg #[(.int .i64 0), (.int .i64 0), (.int .i64 0)]) 24 rfl Try.underlying24 info72 rfl (by decide) (by omega) v567 y566 t553 _ _ _ (fun k_ => some k_ ≠ (.slice Ao22 t553.length co22 : Value).ownBlock) (fun _ => False) rfl rfl ?aO ?aR (fun _ _ h => h) (fun _ h => h.elim) ?aF ?aB ?aS ?aL ?_
              (case aR => exact qC (Kd.R_reads' HO_557001.out).2.2)
              (case aB => exact (qb))
              (case aF => exact (fun k_ hk => Kd.fresh' (Kd.R_lt (qr HO_557001.out)) k_ hk))
              (case aO => exact (qr (Kd.R_mono HO568.out (fun _ hk => hk.2))))
              (case aS => exact (below_size (qb)))
              (case aL => have := LMc34.out; omega)
              intro v570 w45 ho hb hg hat
              rw [← Ny569.out] at ho
              have n0_ := Aside0.mk (Kd.R_after (ok := (fun _ => True)) (qr HO_557001.out) hg hat)
              have n1_ := Aside0.mk (blk_grown (g := gb556) (o := .cells #[.int .i64 t552, .slice Ao22 t553.length co22] 26 (0, 0)) (qk BK556.out) hg (Kd.R_ne HO568.out BK556.out (by decide)))
              have n2_ := Aside0.mk (blk_grown (g := gb572) (o := .cells #[.int .i64 0, .slice none 0 0] 26 (0, 0)) (qk BK572.out) hg (Kd.R_ne HO568.out BK572.out (by decide)))
              have n3_ := Aside0.mk (hb)
              have n4_ := Aside0.mk (ho)
              clear HO_557001
              clear BK556
              clear BK572
              clear HB
              clear HO568
              have HO_557001 := n0_
              have BK556 := n1_
              have BK572 := n2_
              have HB := n3_
              have HO571 := n4_
              clear n0_ n1_ n2_ n3_ n4_
              clear ho hb hg hat
              obtain ⟨Ao46, co46, eo46⟩ := Kd.R_slice HO571.out
              (first | subst eo46 | (injection eo46 with f1_ f2_ f3_; have f4_ := f1_.symm; have f5_ := f3_.symm; clear f1_ f2_ f3_; subst f4_; subst f5_))
              refine hK.out _ _ ⟨(blk_cell BK556.out 0).trans rfl, (blk_cell BK556.out 1).trans rfl⟩ (fun hHeld => ?_)
              clear hK K
              refine norm_ (a' := ?_) ?_ ?_
              rotate_left
              ·
               show Act.put _ (some 94) _ = _
               simp only [Act.put, List.setIfInBounds_toArray, List.set_cons_zero, List.set_cons_succ, i64_w, i32_w]
               rfl
              refine pure_ (i := 6) (N := some 95) (v := ?_) (a' := ?_) #[true, true, true, true, true, true, true, true, false] rfl rfl (any_of HT_.out qq) (fun _ _ _ h => h) (Or.inl ⟨by rfl, ?_⟩) ?_ ?_
              rotate_left
              ·
               intro w'
               go_simp
               with_reducible rfl
              rotate_left
              ·
               simp only [Act.put, List.setIfInBounds_toArray, List.set_cons_zero, List.set_cons_succ, i64_w, i32_w]
               rfl
              exact norm_ (by simp only [putAll, Act.put, List.setIfInBounds_toArray, List.set_cons_zero, List.set_cons_succ]) (hCont (v567, .slice Ao46 y569.length co46, gb572) _ ⟨hHeld, (qr HO571.out), (qr (Kd.R_mono HO_557001.out (fun _ hk => hk.2))), (qk BK556.out), (qk BK572.out), GW572.out, GE572.out, NB556_572.out, NB572_556.out, (qb)⟩)
            ·
             skip
             refine box_step ?hg (N := 23) ?hd (cs := #[.int .i64 0, .slice none 0 0]) (t := 26) ?hr ?_; (case hd => rfl); (case hg => rfl); (case hr => first | (go_simp; done) | (go_simp; rfl))
             intro gb572 hg w42 hbox hb
             replace HO_557001 := qR HO_557001 hb
             have BK572 := Aside0.mk (hbox)
             have GW572 := qg HB hg
             have GE572 := qg HB hg
             replace HB := qS HB hb
             have NB556_572 := qn BK556 hg
             have NB572_556 := qm BK556 hg
             replace BK556 := qB BK556 hb
             clear hb hbox hg
             refine hK.out _ _ ⟨(blk_cell BK556.out 0).trans rfl, (blk_cell BK556.out 1).trans rfl⟩ (fun hHeld => ?_)
             clear hK K
             refine norm_ (a' := ?_) ?_ ?_
             rotate_left
             ·
              show Act.put _ (some 23) _ = _
              simp only [Act.put, List.setIfInBounds_toArray, List.set_cons_zero, List.set_cons_succ, i64_w, i32_w]
              rfl
             refine one_ (i := 2) (N := some 91) #[true, true, true, true, true, false, false, true, false] rfl rfl (one_of HT_.out qq) (by decide) (fun K hK => ?_)
             refine Kd.R_lit_step k72 _ 72 ?hg (N := 91) ?hd (xs := ([] : List (S72))) (inner := []) (ok := fun _ => True) (okp := fun _ => True) ?hr ?hp (fun _ hk => hk) trivial (Below.refl _ _) (Nat.le_refl _) (by simp) ?_; (case hd => rfl); (case hg => rfl); (case hr => first | (go_simp; done) | (go_simp; rfl)); (case hp => exact (Reps.none _ _))
             intro v567 w43 ho44 hb hg_ hnew_
             clear hg_ hnew_
             (first | rw [← Ny566.out] at ho44 | (simp only [Int.reduceToNat] at ho44; rw [← Ny566.out] at ho44))
             have HO568 := Aside0.mk (Kd.R_lower (Kd.R_new' ho44 (Kd.R_lt (qr HO_557001.out))) (below_size (qb)))
             replace HO_557001 := Aside0.mk (Kd.R_elder' (qr HO_557001.out) (Kd.R_base ho44) hb)
             replace BK556 := qB BK556 hb
             replace BK572 := qB BK572 hb
             replace HB := qS HB hb
             clear hb ho44
             refine hK.out _ _ ⟨(blk_cell BK556.out 0).trans rfl, (blk_cell BK556.out 1).trans rfl⟩ (fun hHeld => ?_)
             clear hK K
             refine norm_ (a' := ?_) ?_ ?_
             rotate_left
             ·
              show Act.put _ (some 91) _ = _
              simp only [Act.put, List.setIfInBounds_toArray, List.set_cons_zero, List.set_cons_succ, i64_w, i32_w]
              rfl
             refine one_ (i := 5) (N := some 94) #[true, true, true, true, true, true, false, true, false] rfl rfl (one_of HT_.out qq) (by decide) (fun K hK => ?_)
             refine Kd.R_append_rows_step k72 (w0 := w) w.heap.size (by rfl) (.tmp 91) (.tmp 93) 24 72 (.agg #[(.int .i64 0), (.int .i64 0), (.int .i64 0)]) 24 rfl Try.underlying24 info72 rfl (by decide) (by omega) v567 y566 t553 _ _ _ (fun k_ => some k_ ≠ (.slice Ao22 t553.length co22 : Value).ownBlock) (fun _ => False) rfl rfl ?aO ?aR (fun _ _ h => h) (fun _ h => h.elim) ?aF ?aB ?aS ?aL ?_
             (case aR => exact qC (Kd.R_reads' HO_557001.out).2.2)
             (case aB => exact (qb))
             (case aF => exact (fun k_ hk => Kd.fresh' (Kd.R_lt (qr HO_557001.out)) k_ hk))
             (case aO => exact (qr (Kd.R_mono HO568.out (fun _ hk => hk.2))))
             (case aS => exact (below_size (qb)))
             (case aL => have := LMc34.out; omega)
             intro v570 w45 ho hb hg hat
             rw [← Ny569.out] at ho
             have n0_ := Aside0.mk (Kd.R_after (ok := (fun _ => True)) (qr HO_557001.out) hg hat)
             have n1_ := Aside0.mk (blk_grown (g := gb556) (o := .cells #[.int .i64 t552, .slice Ao22 t553.length co22] 26 (0, 0)) (qk BK556.out) hg (Kd.R_ne HO568.out BK556.out (by decide)))
             have n2_ := Aside0.mk (blk_grown (g := gb572) (o := .cells #[.int .i64 0, .slice none 0 0] 26 (0, 0)) (qk BK572.out) hg (Kd.R_ne HO568.out BK572.out (by decide)))
             have n3_ := Aside0.mk (hb)
             have n4_ := Aside0.mk (ho)
             clear HO_557001
             clear BK556
             clear BK572
             clear HB
             clear HO568
             have HO_557001 := n0_
             have BK556 := n1_
             have BK572 := n2_
             have HB := n3_
             have HO571 := n4_
             clear n0_ n1_ n2_ n3_ n4_
             clear ho hb hg hat
             obtain ⟨Ao46, co46, eo46⟩ := Kd.R_slice HO571.out
             (first | subst eo46 | (injection eo46 with f1_ f2_ f3_; have f4_ := f1_.symm; have f5_ := f3_.symm; clear f1_ f2_ f3_; subst f4_; subst f5_))
             refine hK.out _ _ ⟨(blk_cell BK556.out 0).trans rfl, (blk_cell BK556.out 1).trans rfl⟩ (fun hHeld => ?_)
             clear hK K
             refine norm_ (a' := ?_) ?_ ?_
             rotate_left
             ·
              show Act.put _ (some 94) _ = _
              simp only [Act.put, List.setIfInBounds_toArray, List.set_cons_zero, List.set_cons_succ, i64_w, i32_w]
              rfl
             refine pure_ (i := 6) (N := some 95) (v := ?_) (a' := ?_) #[true, true, true, true, true, true, true, true, false] rfl rfl (any_of HT_.out qq) (fun _ _ _ h => h) (Or.inl ⟨by rfl, ?_⟩) ?_ ?_
             rotate_left
             ·
              intro w'
              go_simp
              with_reducible rfl
             rotate_left
             ·
              simp only [Act.put, List.setIfInBounds_toArray, List.set_cons_zero, List.set_cons_succ, i64_w, i32_w]
              rfl
             exact norm_ (by simp only [putAll, Act.put, List.setIfInBounds_toArray, List.set_cons_zero, List.set_cons_succ]) (hCont (v567, .slice Ao46 y569.length co46, gb572) _ ⟨hHeld, (qr HO571.out), (qr (Kd.R_mono HO_557001.out (fun _ hk => hk.2))), (qk BK556.out), (qk BK572.out), GW572.out, GE572.out, NB556_572.out, NB572_556.out, (qb)⟩)
           rintro ⟨v567, v570, gb572⟩ w47 ⟨hS_, h0_, h1_, h2_, h3_, h4_, h5_, h6_, h7_, h8_⟩
           have n0_ : Aside0 (Kd.R k72 72 w47 w.heap.size (fun k_ => some k_ ≠ (.slice Ao22 t553.length co22 : Value).ownBlock) v570 y569) := ⟨h0_⟩
           have n1_ : Aside0 (Kd.R k72 72 w47 w.heap.size (fun k_ => some k_ ≠ (v570 : Value).ownBlock) (.slice Ao22 t553.length co22) t553) := ⟨h1_⟩
           have n2_ : Aside0 (w47.heap[gb556]? = some (.cells #[.int .i64 t552, .slice Ao22 t553.length co22] 26 (0, 0))) := ⟨h2_⟩
           have n3_ : Aside0 (w47.heap[gb572]? = some (.cells #[.int .i64 0, .slice none 0 0] 26 (0, 0))) := ⟨h3_⟩
           have n4_ : Aside0 (w.heap.size ≤ gb572) := ⟨h4_⟩
           have n5_ : Aside0 (w.heap.size ≤ gb572) := ⟨h5_⟩
           have n6_ : Aside0 (gb556 ≠ gb572) := ⟨h6_⟩
           have n7_ : Aside0 (gb572 ≠ gb556) := ⟨h7_⟩
           have n8_ : Aside0 (Below w.heap.size w w47) := ⟨h8_⟩
           clear HO_557001
           clear BK556
           clear HB
           clear h0_ h1_ h2_ h3_ h4_ h5_ h6_ h7_ h8_
           have HO571 := n0_
           have HO_557001 := n1_
           have BK556 := n2_
           have BK572 := n3_
           have GW572 := n4_
           have GE572 := n5_
           have NB556_572 := n6_
           have NB572_556 := n7_
           have HB := n8_
           clear n0_ n1_ n2_ n3_ n4_ n5_ n6_ n7_ n8_
           have hHeld : w47.cell? ⟨gb556, 0, none⟩ = some (.int .i64 t552) ∧ w47.cell? ⟨gb556, 1, none⟩ = some (.slice Ao22 t553.length co22) := hS_
           obtain ⟨Ao48, co48, eo48⟩ := Kd.R_slice HO571.out
           (first | subst eo48 | (injection eo48 with f1_ f2_ f3_; have f4_ := f1_.symm; have f5_ := f3_.symm; clear f1_ f2_ f3_; subst f4_; subst f5_))
           refine norm_ (a' := ?_) ?_ ?_
           rotate_left
           ·
            simp only [putAll, Act.put, List.setIfInBounds_toArray, List.set_cons_zero, List.set_cons_succ]
            rfl
           refine one_ (i := 8) (N := none) #[true, true, true, true, true, true, true, true, true] rfl rfl (one_of HT_.out qq) (by decide) (fun K hK => ?_)
           have hs49 : w47.cell? ⟨gb572, 0, none⟩ = some (.int .i64 0) := (blk_cell BK572.out 0).trans rfl
           have hfs49 := blk_frozen BK572.out 0
           have hns49_0 := NB556_572.out
           have hms49_0 := NB572_556.out
           have hs50 : w47.cell? ⟨gb572, 1, none⟩ = some (.slice none 0 0) := (blk_cell BK572.out 1).trans rfl
           have hfs50 := blk_frozen BK572.out 1
           have hns50_0 := NB556_572.out
           have hms50_0 := NB572_556.out
           refine skip_ (w1 := ?_) (by rfl) rfl ?_ ?_
           rotate_left
           ·
            go_simp
            rfl
           refine hK.out _ _ ⟨((cell_far (p := ⟨gb572, _, none⟩) NB556_572.out _).trans (((cell_far (p := ⟨gb572, _, none⟩) NB556_572.out _).trans (hHeld.1)))), ((cell_far (p := ⟨gb572, _, none⟩) NB556_572.out _).trans (((cell_far (p := ⟨gb572, _, none⟩) NB556_572.out _).trans (hHeld.2))))⟩ (fun hHeld => ?_)
           clear hK K
           refine done_ (done_of HT_.out qq) ?_
           have n0_ : Aside0 (Kd.R k72 72 ((w47.setCell ⟨gb572, 0, none⟩ (.int .i64 t552)).setCell ⟨gb572, 1, none⟩ (.slice Ao48 y569.length co48)) w.heap.size (fun k_ => some k_ ≠ (.slice Ao48 y569.length co48 : Value).ownBlock) (.slice Ao22 t553.length co22) t553) := ⟨by (with_reducible repeat (first | apply Kd.R_alloc | apply Kd.R_drewN | apply Kd.R_drew)); exact Kd.R_mono (Kd.R_far (p := ⟨gb572, 1, none⟩) (Kd.R_far (p := ⟨gb572, 0, none⟩) (Kd.R_types HO_557001.out BK572.out (by decide)) (fun _ hk => hk.2) (.int .i64 t552)) (fun _ hk => hk.2) (.slice Ao48 y569.length co48)) (fun _ hk => hk.1)⟩
           have n1_ : Aside0 (Kd.R k72 72 ((w47.setCell ⟨gb572, 0, none⟩ (.int .i64 t552)).setCell ⟨gb572, 1, none⟩ (.slice Ao48 y569.length co48)) w.heap.size (fun k_ => some k_ ≠ (.slice Ao22 t553.length co22 : Value).ownBlock) (.slice Ao48 y569.length co48) y569) := ⟨by (with_reducible repeat (first | apply Kd.R_alloc | apply Kd.R_drewN | apply Kd.R_drew)); exact Kd.R_mono (Kd.R_far (p := ⟨gb572, 1, none⟩) (Kd.R_far (p := ⟨gb572, 0, none⟩) (Kd.R_types HO571.out BK572.out (by decide)) (fun _ hk => hk.2) (.int .i64 t552)) (fun _ hk => hk.2) (.slice Ao48 y569.length co48)) (fun _ hk => hk.1)⟩
           have n2_ : Aside0 (((w47.setCell ⟨gb572, 0, none⟩ (.int .i64 t552)).setCell ⟨gb572, 1, none⟩ (.slice Ao48 y569.length co48)).heap[gb556]? = some (.cells #[.int .i64 t552, .slice Ao22 t553.length co22] 26 (0, 0))) := ⟨by (with_reducible repeat (first | refine blk_drewN ?_ _ | refine blk_drew ?_ | refine blk_alloc ?_ _)); refine blk_far ?_ NB556_572.out _; (with_reducible repeat (first | refine blk_drewN ?_ _ | refine blk_drew ?_ | refine blk_alloc ?_ _)); refine blk_far ?_ NB556_572.out _; (with_reducible repeat (first | refine blk_drewN ?_ _ | refine blk_drew ?_ | refine blk_alloc ?_ _)); exact BK556.out⟩
           have n3_ : Aside0 (((w47.setCell ⟨gb572, 0, none⟩ (.int .i64 t552)).setCell ⟨gb572, 1, none⟩ (.slice Ao48 y569.length co48)).heap[gb572]? = some (.cells #[.int .i64 t552, .slice Ao48 y569.length co48] 26 (0, 0))) := ⟨by (with_reducible repeat (first | refine blk_drewN ?_ _ | refine blk_drew ?_ | refine blk_alloc ?_ _)); refine blk_put (cs := #[.int .i64 t552, .slice none 0 0]) ?_ 1 _ rfl; (with_reducible repeat (first | refine blk_drewN ?_ _ | refine blk_drew ?_ | refine blk_alloc ?_ _)); refine blk_put (cs := #[.int .i64 0, .slice none 0 0]) ?_ 0 _ rfl; (with_reducible repeat (first | refine blk_drewN ?_ _ | refine blk_drew ?_ | refine blk_alloc ?_ _)); exact BK572.out⟩
           have n4_ : Aside0 (Below w.heap.size w ((w47.setCell ⟨gb572, 0, none⟩ (.int .i64 t552)).setCell ⟨gb572, 1, none⟩ (.slice Ao48 y569.length co48))) := ⟨qb⟩
           (try clear HO_557001)
           (try clear HO571)
           (try clear BK556)
           (try clear BK572)
           (try clear HB)
           generalize ((w47.setCell ⟨gb572, 0, none⟩ (.int .i64 t552)).setCell ⟨gb572, 1, none⟩ (.slice Ao48 y569.length co48)) = w51 at n0_ n1_ n2_ n3_ n4_ ⊢
           have HO_557001 := n0_
           have HO571 := n1_
           have BK556 := n2_
           have BK572 := n3_
           have HB := n4_
           clear n0_ n1_ n2_ n3_ n4_
           have hnb52 := NB572_556.out
           have hnc52 := NB556_572.out
           obtain ⟨hcz53_0, hcz53_1, hfz53_0, hfz53_1⟩ := qc2 BK572.out
           have p573 : 0 ≤ (t565 : Int) := of_decide_eq_true (by first | (with_reducible assumption) | assumption)
           have q573 : t565 < (y569.length : Int) := of_decide_eq_true (by first | (with_reducible assumption) | assumption)
           obtain ⟨ad573, e573, hx573_0, hx573_1, hx573_2⟩ := at_T72 (Kd.R_reads' HO571.out).2.2 t565 p573 q573
           cases e573
           replace p573 := eq_true p573
           replace q573 := eq_true q573
           have p37 : 0 ≤ (t565 : Int) := of_decide_eq_true (by first | (with_reducible assumption) | assumption)
           have q37 : (t565 : Int) < ((y569.length : Int) : Int) := of_decide_eq_true (by first | (with_reducible assumption) | assumption)
           obtain ⟨go37, co37, eo37, gb37, gl37, cl37, HG37⟩ := Kd.R_form HO571.out (by omega)
           (first | cases eo37 | (injection eo37 with ea_ en_ ec_; (first | subst ea_ | (injection ea_ with ea_; subst ea_)); subst ec_; clear en_))
           have GB37 := Aside0.mk gb37
           have GG37 := Aside0.mk HG37
           clear gb37 gl37 HG37
           (first | simp only [add_plain] at hx573_0 | skip)
           (first | simp only [add_plain] at hx573_1 | skip)
           (first | simp only [add_plain] at hx573_2 | skip)
           obtain ⟨ce37, hcl37, hM37, hcc37, hfr37⟩ := Kd.R_elem HO571.out z72 (t565 : Int) p37 q37
           obtain rfl := k72_openM hM37
           have hx37_0 : w51.cell? ⟨go37, (t565 : Int).toNat * 3, none⟩ = some (.int .i64 ((rd_T72 y569 t565).f0)) := hcc37 0 _ rfl
           have hx37_1 : w51.cell? ⟨go37, (t565 : Int).toNat * 3 + 1, none⟩ = some (.int .i64 ((rd_T72 y569 t565).f1)) := hcc37 1 _ rfl
           have hx37_2 : w51.cell? ⟨go37, (t565 : Int).toNat * 3 + 2, none⟩ = some (.int .i64 ((rd_T72 y569 t565).f2)) := hcc37 2 _ rfl
           have hf37_0 : w51.frozen? ⟨go37, (t565 : Int).toNat * 3, none⟩ = false := hfr37 0
           have hf37_1 : w51.frozen? ⟨go37, (t565 : Int).toNat * 3 + 1, none⟩ = false := hfr37 1
           have hf37_2 : w51.frozen? ⟨go37, (t565 : Int).toNat * 3 + 2, none⟩ = false := hfr37 2
           clear hcl37 hcc37 hfr37 hM37
           replace p37 := eq_true p37
           replace q37 := eq_true q37
           have HX54 := Aside0.mk (show Kd.R k72 72 w51 w.heap.size (fun k_ => some k_ ≠ (.slice Ao22 t553.length co22 : Value).ownBlock) (.slice (some ⟨go37, 0, none⟩) y569.length co48) y569 from (qr HO571.out))
           obtain ⟨ce54, hcl54, hM54, hcc54, hfr54⟩ := Kd.R_elem HX54.out z72 (t565 : Int) (of_decide_eq_true (by first | (with_reducible assumption) | assumption)) (by have h_ : (t565 : Int) < ((y569.length : Int) : Int) := of_decide_eq_true (by first | (with_reducible assumption) | assumption); first | exact h_ | (have e_ := (Kd.R_reads' HO571.out).1; omega) | simpa using h_)
           obtain rfl := k72_openM hM54
           have HP54 := Kd.R_seg HX54.out (t565 : Int) (of_decide_eq_true (by first | (with_reducible assumption) | assumption)) (by have h_ : (t565 : Int) < ((y569.length : Int) : Int) := of_decide_eq_true (by first | (with_reducible assumption) | assumption); first | exact h_ | (have e_ := (Kd.R_reads' HO571.out).1; omega) | simpa using h_) (seg := [.int .i64 (wrap64 (((rd_T72 y569 t565).f2) + 1))]) (j := 2) hcl54 hcc54 (show 3 ≤ 3 from by decide) (x' := (⟨(rd_T72 y569 t565).f0, (rd_T72 y569 t565).f1, wrap64 (((rd_T72 y569 t565).f2) + 1)⟩ : S72)) (k72_mkM _ _ _ (⟨(rd_T72 y569 t565).f0, (rd_T72 y569 t565).f1, wrap64 (((rd_T72 y569 t565).f2) + 1)⟩ : S72) ) (fun _ hk => hk)
           have hx54_2 := hcc54 2 _ rfl
           (try simp only [show (k72).sz = 3 from rfl, Nat.mul_one, Nat.add_zero] at hx54_2)
           have hf54_2 := hfr54 2
           (try simp only [show (k72).sz = 3 from rfl, Nat.mul_one, Nat.add_zero] at hf54_2)
           clear hcl54 hcc54 hfr54 hM54
           go_upto_region 15 with (first | ((with_reducible refine gate_store (t := 3) (p := 104) rfl ?_); refine store_event (t := 3) (p := 104) (v := ?vo_w55) (w1 := (w51.setCell ⟨go37, (t565 : Int).toNat * 3 + 2, none⟩ (.int .i64 (wrap64 (((rd_T72 y569 t565).f2) + 1))))) ?hg ?ho ?hn ?hr ?_; (case ho => rfl); (case hg => rfl); (case hn => rfl); (case hr => first | (go_simp; done) | (go_simp; rfl)); intro w55 hw; have hg : w51.grownBy w55 (some go37) := (by rw [hw]; exact HP54.2); have hp_ : Kd.R k72 72 w55 w.heap.size (fun k_ => some k_ ≠ (.slice Ao22 t553.length co22 : Value).ownBlock) (.slice (some ⟨go37, 0, none⟩) y569.length co48) y574 := (by rw [hw, Ny574.out]; exact HP54.1); clear HP54; replace HO_557001 := Aside0.mk (Kd.R_after (v := (.slice (some ⟨go37, 0, none⟩) y569.length co48)) (v1 := (.slice (some ⟨go37, 0, none⟩) y569.length co48)) (ok := (fun _ => True)) (by (with_reducible repeat (first | apply Kd.R_alloc | apply Kd.R_drewN | apply Kd.R_drew)); exact Kd.R_mono HO_557001.out (fun _ hk => ⟨trivial, hk⟩)) hg (.inl rfl)); replace BK556 := Aside0.mk (blk_grown (g := gb556) (o := .cells #[.int .i64 t552, .slice Ao22 t553.length co22] 26 (0, 0)) (qk BK556.out) hg (Kd.R_ne HO571.out BK556.out (by decide))); replace BK572 := Aside0.mk (blk_grown (g := gb572) (o := .cells #[.int .i64 t552, .slice (some ⟨go37, 0, none⟩) y569.length co48] 26 (0, 0)) (qk BK572.out) hg (Kd.R_ne HO571.out BK572.out (by decide))); replace HO571 := Aside0.mk (hp_); replace HB := Aside0.mk ((by rw [hw]; exact below_set (HB.out) GB37.out : Below w.heap.size w w55)); clear hg hw hp_))
           (try simp only [Act.put, List.setIfInBounds_toArray, List.set_cons_zero, List.set_cons_succ])
           go_cut [24, 26] (fun v24 v26 wc => ∃ (kq : Nat) (x24_37 : Int) (x26_37 : Bool), v24 = .int .i64 x24_37 ∧ v26 = .bool x26_37 ∧ Aside0 (dialtonelaw27_FlowLeast.j1 kq t559 t560 t565 x24_37 x26_37 t552 t553 = some r) ∧ Aside0 (kq ≤ kj16) ∧ Aside0 (Kd.R k72 72 wc w.heap.size (fun k_ => some k_ ≠ ((.slice (some ⟨go37, 0, none⟩) y569.length co48) : Value).ownBlock) (.slice Ao22 t553.length co22) t553) ∧ Aside0 (Kd.R k72 72 wc w.heap.size (fun k_ => some k_ ≠ ((.slice Ao22 t553.length co22) : Value).ownBlock) (.slice (some ⟨go37, 0, none⟩) y569.length co48) y574) ∧ Aside0 (wc.heap[gb556]? = some (.cells #[.int .i64 t552, (.slice Ao22 t553.length co22)] 26 (0, 0))) ∧ Aside0 (wc.heap[gb572]? = some (.cells #[.int .i64 t552, (.slice (some ⟨go37, 0, none⟩) y569.length co48)] 26 (0, 0))) ∧ Aside0 (Below w.heap.size w wc))
           case first =>
            have H := HC38.out
            clear HC38
            replace H := Option.bind_eq_some_iff.mp H
            obtain ⟨⟨t575, t576, t577⟩, A560, H⟩ := H
            (try dsimp only at H)
            have A56 := Aside0.mk A560
            clear A560
            by_cases c57 : t577 = true
            ·
             subst c57
             rw [if_pos rfl] at H
             have H' := Aside0.mk H
             clear H
             have hnb58 := NB572_556.out
             have hnc58 := NB556_572.out
             obtain ⟨hcz59_0, hcz59_1, hfz59_0, hfz59_1⟩ := qc2 BK572.out
             go_wp2_with (first | ((with_reducible refine gate_callee (f := 51) rfl ?_); refine goesL_ (some 109) rfl rfl Try.func51 qq rfl #[.agg #[.int .i64 t552, .slice (some ⟨go37, 0, none⟩) y574.length co48], .int .i64 t557, .int .i64 t558] rfl (by (try simp only [List.map_toArray, List.map_cons, List.map_nil]); first | done | (rw [show y574.length = y569.length from (Kd.R_reads' HO571.out).1.symm] <;> rfl) | rfl | (simp only [List.length_drop, List.length_take]; rfl)) ?_; (with_reducible refine (dialtonelaw27_greatest.calls kj16 t552 _ _ y574 t557 t558 t575 t576 true _ ?side1 ?side2 A56.out).mono ?_); (case side1 => exact qC (Kd.R_reads' HO571.out).2.2); (case side2 => rw [show y574.length = y569.length from (Kd.R_reads' HO571.out).1.symm]; exact (Kd.R_reads' HO571.out).2.1); rintro e w60 ⟨rfl, hb⟩; refine ⟨_, rfl, ?_⟩; replace HO_557001 := qR HO_557001 hb; replace HO571 := qR HO571 hb; replace BK556 := qB BK556 hb; replace BK572 := qB BK572 hb; replace HB := qS HB hb; (try clear hb); (try clear hb2); (try clear hk); (try clear hi)))
             go_meet
             case rel => exact ⟨_, (t575), (true), (by first | rfl | (simp; done) | (simp [*]; done)), (by first | rfl | (simp; done) | (simp [*]; done)), H', ⟨by have := HJ16.out; first | omega | exact Nat.le_refl _⟩, ⟨by (with_reducible repeat (first | apply Kd.R_alloc | apply Kd.R_drewN | apply Kd.R_drew)); exact Kd.R_mono HO_557001.out (fun _ hk => hk.2)⟩, ⟨qr HO571.out⟩, ⟨qk BK556.out⟩, ⟨qk BK572.out⟩, ⟨qb⟩⟩
            ·
             replace c57 := Bool.eq_false_iff.mpr c57
             subst c57
             rw [if_neg (show ¬ (false = true) by decide)] at H
             exact absurd H (by simp)
           case rest =>
            clear HC38
            try clear c1
            try clear c2
            try clear p2
            try clear c3
            try clear p3
            try clear q3
            try clear hx3
            try clear c5
            try clear p5
            try clear q5
            try clear hx5
            try clear c6
            try clear p6
            try clear c8
            try clear c12
            try clear c13
            try clear c13b0
            try clear c13b1
            try clear c22
            try clear c23
            try clear c24
            try clear c28
            try clear c29
            try clear c29b0
            try clear c29b1
            try clear c30
            try clear c31
            try clear c31b0
            try clear c31b1
            try clear c31b2
            try clear c34
            try clear c35
            try clear c35b0
            try clear c36
            try clear c36b0
            try clear c37
            try clear p37
            try clear q37
            try clear hx37
            try clear hf37
            try clear c51
            try clear c52
            try clear c54
            try clear hx54
            try clear hf54
            try clear c57
            try clear p57
            try clear q57
            try clear hx57
            try clear c58
            try clear hcz21_0
            try clear hcz21_1
            try clear hcz24_0
            try clear hcz24_1
            try clear hcz26_0
            try clear hcz26_1
            try clear hcz32_0
            try clear hcz32_1
            try clear hcz39_0
            try clear hcz39_1
            try clear hcz40_0
            try clear hcz40_1
            try clear hcz53_0
            try clear hcz53_1
            try clear hcz59_0
            try clear hcz59_1
            try clear hfz21_0
            try clear hfz21_1
            try clear hfz24_0
            try clear hfz24_1
            try clear hfz26_0
            try clear hfz26_1
            try clear hfz32_0
            try clear hfz32_1
            try clear hfz39_0
            try clear hfz39_1
            try clear hfz40_0
            try clear hfz40_1
            try clear hfz53_0
            try clear hfz53_1
            try clear hfz59_0
            try clear hfz59_1
            try clear hx37_0
            try clear hx37_1
            try clear hx37_2
            try clear hx54_2
            try clear hx573_0
            try clear hx573_1
            try clear hx573_2
            try clear p2
            try clear p37
            try clear p573
            try clear p6
            try clear q37
            try clear q573
            obtain ⟨kq, x24_37, x26_37, rfl, rfl, HA, HJ37, HO_557001, HO_573001, BK556, BK572, HB⟩ := hcut
            have hl573001_37 := (Kd.R_reads' HO_573001.out).1
            rw [hl573001_37] at HO_573001
            (try simp only [hl573001_37])
            (try simp only [hl573001_37] at BK556)
            (try simp only [hl573001_37] at BK572)
            (try simp only [hl573001_37] at HO_557001)
            cases kq with
            | zero => exact absurd HA.out (by simp [dialtonelaw27_FlowLeast.j1])
            | succ kj37 =>
             have H := HA.out
             clear HA
             simp only [dialtonelaw27_FlowLeast.j1] at H
             by_cases c61 : 0 ≤ t565
             ·
              rw [if_pos c61] at H
              have c61b0 : decide (0 ≤ t565) = true := decide_eq_true c61
              clear c61
              by_cases c62 : t565 < (t553.length : Int)
              ·
               rw [if_pos c62] at H
               have c62b0 : decide (t565 < (t553.length : Int)) = true := decide_eq_true c62
               clear c62
               (try simp only [hl573001_37] at c62b0)
               by_cases c63 : 0 ≤ ((rd_T72 t553 t565).f0)
               ·
                rw [if_pos c63] at H
                have c63b0 := eq_true c63
                have c63b1 : decide (0 ≤ ((rd_T72 t553 t565).f0)) = true := decide_eq_true c63
                clear c63
                obtain ⟨ji64, hji64⟩ : ∃ j_ : Int, (shr .i64 t560 ((rd_T72 t553 t565).f0)) = j_ := ⟨_, rfl⟩
                replace H : (if (Int.tmod (ji64) 2) = 1 then (if 0 ≤ ((rd_T72 t553 t565).f1) then (if x26_37 = true then (if x24_37 ≥ t559 then (if x24_37 ≤ (wrap64 (t559 + 1)) then (if (Int.tmod (shr .i64 t560 ((rd_T72 t553 t565).f1)) 2) = 0 then (some true) else (some (x24_37 == t559))) else (some false)) else (some false)) else (some false)) else (none)) else (if x26_37 = true then (if x24_37 ≥ t559 then (if x24_37 ≤ (wrap64 (t559 + 1)) then (some (x24_37 == t559)) else (some false)) else (some false)) else (some false))) = some r := by first | (rw [hji64] at H; exact H) | (simp only [hji64] at H ⊢; exact H)
                have hji64_ : (t560 / 2 ^ min ((rd_T72 t553 t565).f0).toNat 64) = ji64 := hji64
                have hji64z : ((rd_T72 t553 t565).f0) ≤ 64 → (t560 / 2 ^ ((rd_T72 t553 t565).f0).toNat) = ji64 := shr_small hji64
                by_cases c65 : (Int.tmod (ji64) 2) = 1
                ·
                 rw [if_pos c65] at H
                 obtain ⟨c65b0, c65b1⟩ := qt c65
                 clear c65
                 by_cases c66 : 0 ≤ ((rd_T72 t553 t565).f1)
                 ·
                  rw [if_pos c66] at H
                  have c66b0 := eq_true c66
                  have c66b1 : decide (0 ≤ ((rd_T72 t553 t565).f1)) = true := decide_eq_true c66
                  clear c66
                  obtain ⟨ji67, hji67⟩ : ∃ j_ : Int, (shr .i64 t560 ((rd_T72 t553 t565).f1)) = j_ := ⟨_, rfl⟩
                  replace H : (if x26_37 = true then (if x24_37 ≥ t559 then (if x24_37 ≤ (wrap64 (t559 + 1)) then (if (Int.tmod (ji67) 2) = 0 then (some true) else (some (x24_37 == t559))) else (some false)) else (some false)) else (some false)) = some r := by first | (rw [hji67] at H; exact H) | (simp only [hji67] at H ⊢; exact H)
                  have hji67_ : (t560 / 2 ^ min ((rd_T72 t553 t565).f1).toNat 64) = ji67 := hji67
                  have hji67z : ((rd_T72 t553 t565).f1) ≤ 64 → (t560 / 2 ^ ((rd_T72 t553 t565).f1).toNat) = ji67 := shr_small hji67
                  by_cases c68 : x26_37 = true
                  ·
                   subst c68
                   rw [if_pos rfl] at H
                   by_cases c69 : x24_37 ≥ t559
                   ·
                    rw [if_pos c69] at H
                    have c69b0 : decide (t559 ≤ x24_37) = true := decide_eq_true c69
                    clear c69
                    by_cases c70 : x24_37 ≤ (wrap64 (t559 + 1))
                    ·
                     rw [if_pos c70] at H
                     have c70b0 : decide (x24_37 ≤ (wrap64 (t559 + 1))) = true := decide_eq_true c70
                     clear c70
                     by_cases c71 : (Int.tmod (ji67) 2) = 0
                     ·
                      rw [if_pos c71] at H
                      obtain ⟨c71b0, c71b1⟩ := qt c71
                      clear c71
                      obtain rfl := Option.some.inj H
                      have hnb72 := NB556_572.out
                      have hnc72 := NB572_556.out
                      obtain ⟨hcz73_0, hcz73_1, hfz73_0, hfz73_1⟩ := qc2 BK556.out
                      have p578 : 0 ≤ (t565 : Int) := of_decide_eq_true (by first | (with_reducible assumption) | assumption)
                      have q578 : t565 < (t553.length : Int) := of_decide_eq_true (by first | (with_reducible assumption) | assumption)
                      obtain ⟨ad578, e578, hx578_0, hx578_1, hx578_2⟩ := at_T72 (Kd.R_reads' HO_557001.out).2.2 t565 p578 q578
                      cases e578
                      replace p578 := eq_true p578
                      replace q578 := eq_true q578
                      have p579 : 0 ≤ (t565 : Int) := of_decide_eq_true (by first | (with_reducible assumption) | assumption)
                      have q579 : t565 < (t553.length : Int) := of_decide_eq_true (by first | (with_reducible assumption) | assumption)
                      obtain ⟨ad579, e579, hx579_0, hx579_1, hx579_2⟩ := at_T72 (Kd.R_reads' HO_557001.out).2.2 t565 p579 q579
                      obtain rfl : ad578 = ad579 := (by injection e579)
                      replace p579 := eq_true p579
                      replace q579 := eq_true q579
                      go_wp2
                      go_ret
                      exact ⟨by first | rfl | (simp [errW_none, errW_some] <;> rfl) | (simp only [← hji14, ← hji64, ← hji67]; first | rfl | (simp [errW_none, errW_some] <;> rfl)) | (simp [*, errW_none, errW_some] <;> rfl), qb⟩
                     ·
                      rw [if_neg c71] at H
                      obtain ⟨c71b0, c71b1⟩ := qf c71
                      obtain rfl := Option.some.inj H
                      have hnb74 := NB556_572.out
                      have hnc74 := NB572_556.out
                      obtain ⟨hcz75_0, hcz75_1, hfz75_0, hfz75_1⟩ := qc2 BK556.out
                      have p578 : 0 ≤ (t565 : Int) := of_decide_eq_true (by first | (with_reducible assumption) | assumption)
                      have q578 : t565 < (t553.length : Int) := of_decide_eq_true (by first | (with_reducible assumption) | assumption)
                      obtain ⟨ad578, e578, hx578_0, hx578_1, hx578_2⟩ := at_T72 (Kd.R_reads' HO_557001.out).2.2 t565 p578 q578
                      cases e578
                      replace p578 := eq_true p578
                      replace q578 := eq_true q578
                      have p579 : 0 ≤ (t565 : Int) := of_decide_eq_true (by first | (with_reducible assumption) | assumption)
                      have q579 : t565 < (t553.length : Int) := of_decide_eq_true (by first | (with_reducible assumption) | assumption)
                      obtain ⟨ad579, e579, hx579_0, hx579_1, hx579_2⟩ := at_T72 (Kd.R_reads' HO_557001.out).2.2 t565 p579 q579
                      obtain rfl : ad578 = ad579 := (by injection e579)
                      replace p579 := eq_true p579
                      replace q579 := eq_true q579
                      go_wp2
                      go_ret
                      exact ⟨by first | rfl | (simp [errW_none, errW_some] <;> rfl) | (simp only [← hji14, ← hji64, ← hji67]; first | rfl | (simp [errW_none, errW_some] <;> rfl)) | (simp [*, errW_none, errW_some] <;> rfl), qb⟩
                    ·
                     rw [if_neg c70] at H
                     have c70b0 : decide (x24_37 ≤ (wrap64 (t559 + 1))) = false := decide_eq_false c70
                     clear c70
                     obtain rfl := Option.some.inj H
                     have hnb76 := NB556_572.out
                     have hnc76 := NB572_556.out
                     obtain ⟨hcz77_0, hcz77_1, hfz77_0, hfz77_1⟩ := qc2 BK556.out
                     have p578 : 0 ≤ (t565 : Int) := of_decide_eq_true (by first | (with_reducible assumption) | assumption)
                     have q578 : t565 < (t553.length : Int) := of_decide_eq_true (by first | (with_reducible assumption) | assumption)
                     obtain ⟨ad578, e578, hx578_0, hx578_1, hx578_2⟩ := at_T72 (Kd.R_reads' HO_557001.out).2.2 t565 p578 q578
                     cases e578
                     replace p578 := eq_true p578
                     replace q578 := eq_true q578
                     have p579 : 0 ≤ (t565 : Int) := of_decide_eq_true (by first | (with_reducible assumption) | assumption)
                     have q579 : t565 < (t553.length : Int) := of_decide_eq_true (by first | (with_reducible assumption) | assumption)
                     obtain ⟨ad579, e579, hx579_0, hx579_1, hx579_2⟩ := at_T72 (Kd.R_reads' HO_557001.out).2.2 t565 p579 q579
                     obtain rfl : ad578 = ad579 := (by injection e579)
                     replace p579 := eq_true p579
                     replace q579 := eq_true q579
                     go_wp2
                     go_ret
                     exact ⟨by first | rfl | (simp [errW_none, errW_some] <;> rfl) | (simp only [← hji14, ← hji64, ← hji67]; first | rfl | (simp [errW_none, errW_some] <;> rfl)) | (simp [*, errW_none, errW_some] <;> rfl), qb⟩
                   ·
                    rw [if_neg c69] at H
                    have c69b0 : decide (t559 ≤ x24_37) = false := decide_eq_false c69
                    clear c69
                    obtain rfl := Option.some.inj H
                    have hnb78 := NB556_572.out
                    have hnc78 := NB572_556.out
                    obtain ⟨hcz79_0, hcz79_1, hfz79_0, hfz79_1⟩ := qc2 BK556.out
                    have p578 : 0 ≤ (t565 : Int) := of_decide_eq_true (by first | (with_reducible assumption) | assumption)
                    have q578 : t565 < (t553.length : Int) := of_decide_eq_true (by first | (with_reducible assumption) | assumption)
                    obtain ⟨ad578, e578, hx578_0, hx578_1, hx578_2⟩ := at_T72 (Kd.R_reads' HO_557001.out).2.2 t565 p578 q578
                    cases e578
                    replace p578 := eq_true p578
                    replace q578 := eq_true q578
                    have p579 : 0 ≤ (t565 : Int) := of_decide_eq_true (by first | (with_reducible assumption) | assumption)
                    have q579 : t565 < (t553.length : Int) := of_decide_eq_true (by first | (with_reducible assumption) | assumption)
                    obtain ⟨ad579, e579, hx579_0, hx579_1, hx579_2⟩ := at_T72 (Kd.R_reads' HO_557001.out).2.2 t565 p579 q579
                    obtain rfl : ad578 = ad579 := (by injection e579)
                    replace p579 := eq_true p579
                    replace q579 := eq_true q579
                    go_wp2
                    go_ret
                    exact ⟨by first | rfl | (simp [errW_none, errW_some] <;> rfl) | (simp only [← hji14, ← hji64, ← hji67]; first | rfl | (simp [errW_none, errW_some] <;> rfl)) | (simp [*, errW_none, errW_some] <;> rfl), qb⟩
                  ·
                   replace c68 := Bool.eq_false_iff.mpr c68
                   subst c68
                   rw [if_neg (show ¬ (false = true) by decide)] at H
                   obtain rfl := Option.some.inj H
                   have hnb80 := NB556_572.out
                   have hnc80 := NB572_556.out
                   obtain ⟨hcz81_0, hcz81_1, hfz81_0, hfz81_1⟩ := qc2 BK556.out
                   have p578 : 0 ≤ (t565 : Int) := of_decide_eq_true (by first | (with_reducible assumption) | assumption)
                   have q578 : t565 < (t553.length : Int) := of_decide_eq_true (by first | (with_reducible assumption) | assumption)
                   obtain ⟨ad578, e578, hx578_0, hx578_1, hx578_2⟩ := at_T72 (Kd.R_reads' HO_557001.out).2.2 t565 p578 q578
                   cases e578
                   replace p578 := eq_true p578
                   replace q578 := eq_true q578
                   have p579 : 0 ≤ (t565 : Int) := of_decide_eq_true (by first | (with_reducible assumption) | assumption)
                   have q579 : t565 < (t553.length : Int) := of_decide_eq_true (by first | (with_reducible assumption) | assumption)
                   obtain ⟨ad579, e579, hx579_0, hx579_1, hx579_2⟩ := at_T72 (Kd.R_reads' HO_557001.out).2.2 t565 p579 q579
                   obtain rfl : ad578 = ad579 := (by injection e579)
                   replace p579 := eq_true p579
                   replace q579 := eq_true q579
                   go_wp2
                   go_ret
                   exact ⟨by first | rfl | (simp [errW_none, errW_some] <;> rfl) | (simp only [← hji14, ← hji64, ← hji67]; first | rfl | (simp [errW_none, errW_some] <;> rfl)) | (simp [*, errW_none, errW_some] <;> rfl), qb⟩
                 ·
                  rw [if_neg c66] at H
                  exact absurd H (by simp)
                ·
                 rw [if_neg c65] at H
                 obtain ⟨c65b0, c65b1⟩ := qf c65
                 by_cases c82 : x26_37 = true
                 ·
                  subst c82
                  rw [if_pos rfl] at H
                  by_cases c83 : x24_37 ≥ t559
                  ·
                   rw [if_pos c83] at H
                   have c83b0 : decide (t559 ≤ x24_37) = true := decide_eq_true c83
                   clear c83
                   by_cases c84 : x24_37 ≤ (wrap64 (t559 + 1))
                   ·
                    rw [if_pos c84] at H
                    have c84b0 : decide (x24_37 ≤ (wrap64 (t559 + 1))) = true := decide_eq_true c84
                    clear c84
                    obtain rfl := Option.some.inj H
                    have hnb85 := NB556_572.out
                    have hnc85 := NB572_556.out
                    obtain ⟨hcz86_0, hcz86_1, hfz86_0, hfz86_1⟩ := qc2 BK556.out
                    have p578 : 0 ≤ (t565 : Int) := of_decide_eq_true (by first | (with_reducible assumption) | assumption)
                    have q578 : t565 < (t553.length : Int) := of_decide_eq_true (by first | (with_reducible assumption) | assumption)
                    obtain ⟨ad578, e578, hx578_0, hx578_1, hx578_2⟩ := at_T72 (Kd.R_reads' HO_557001.out).2.2 t565 p578 q578
                    cases e578
                    replace p578 := eq_true p578
                    replace q578 := eq_true q578
                    go_wp2
                    go_ret
                    exact ⟨by first | rfl | (simp [errW_none, errW_some] <;> rfl) | (simp only [← hji14, ← hji64]; first | rfl | (simp [errW_none, errW_some] <;> rfl)) | (simp [*, errW_none, errW_some] <;> rfl), qb⟩
                   ·
                    rw [if_neg c84] at H
                    have c84b0 : decide (x24_37 ≤ (wrap64 (t559 + 1))) = false := decide_eq_false c84
                    clear c84
                    obtain rfl := Option.some.inj H
                    have hnb87 := NB556_572.out
                    have hnc87 := NB572_556.out
                    obtain ⟨hcz88_0, hcz88_1, hfz88_0, hfz88_1⟩ := qc2 BK556.out
                    have p578 : 0 ≤ (t565 : Int) := of_decide_eq_true (by first | (with_reducible assumption) | assumption)
                    have q578 : t565 < (t553.length : Int) := of_decide_eq_true (by first | (with_reducible assumption) | assumption)
                    obtain ⟨ad578, e578, hx578_0, hx578_1, hx578_2⟩ := at_T72 (Kd.R_reads' HO_557001.out).2.2 t565 p578 q578
                    cases e578
                    replace p578 := eq_true p578
                    replace q578 := eq_true q578
                    go_wp2
                    go_ret
                    exact ⟨by first | rfl | (simp [errW_none, errW_some] <;> rfl) | (simp only [← hji14, ← hji64]; first | rfl | (simp [errW_none, errW_some] <;> rfl)) | (simp [*, errW_none, errW_some] <;> rfl), qb⟩
                  ·
                   rw [if_neg c83] at H
                   have c83b0 : decide (t559 ≤ x24_37) = false := decide_eq_false c83
                   clear c83
                   obtain rfl := Option.some.inj H
                   have hnb89 := NB556_572.out
                   have hnc89 := NB572_556.out
                   obtain ⟨hcz90_0, hcz90_1, hfz90_0, hfz90_1⟩ := qc2 BK556.out
                   have p578 : 0 ≤ (t565 : Int) := of_decide_eq_true (by first | (with_reducible assumption) | assumption)
                   have q578 : t565 < (t553.length : Int) := of_decide_eq_true (by first | (with_reducible assumption) | assumption)
                   obtain ⟨ad578, e578, hx578_0, hx578_1, hx578_2⟩ := at_T72 (Kd.R_reads' HO_557001.out).2.2 t565 p578 q578
                   cases e578
                   replace p578 := eq_true p578
                   replace q578 := eq_true q578
                   go_wp2
                   go_ret
                   exact ⟨by first | rfl | (simp [errW_none, errW_some] <;> rfl) | (simp only [← hji14, ← hji64]; first | rfl | (simp [errW_none, errW_some] <;> rfl)) | (simp [*, errW_none, errW_some] <;> rfl), qb⟩
                 ·
                  replace c82 := Bool.eq_false_iff.mpr c82
                  subst c82
                  rw [if_neg (show ¬ (false = true) by decide)] at H
                  obtain rfl := Option.some.inj H
                  have hnb91 := NB556_572.out
                  have hnc91 := NB572_556.out
                  obtain ⟨hcz92_0, hcz92_1, hfz92_0, hfz92_1⟩ := qc2 BK556.out
                  have p578 : 0 ≤ (t565 : Int) := of_decide_eq_true (by first | (with_reducible assumption) | assumption)
                  have q578 : t565 < (t553.length : Int) := of_decide_eq_true (by first | (with_reducible assumption) | assumption)
                  obtain ⟨ad578, e578, hx578_0, hx578_1, hx578_2⟩ := at_T72 (Kd.R_reads' HO_557001.out).2.2 t565 p578 q578
                  cases e578
                  replace p578 := eq_true p578
                  replace q578 := eq_true q578
                  go_wp2
                  go_ret
                  exact ⟨by first | rfl | (simp [errW_none, errW_some] <;> rfl) | (simp only [← hji14, ← hji64]; first | rfl | (simp [errW_none, errW_some] <;> rfl)) | (simp [*, errW_none, errW_some] <;> rfl), qb⟩
               ·
                rw [if_neg c63] at H
                exact absurd H (by simp)
              ·
               rw [if_neg c62] at H
               exact absurd H (by simp)
             ·
              rw [if_neg c61] at H
              exact absurd H (by simp)
          ·
           rw [if_neg c36] at H
           exact absurd H (by simp)
         ·
          rw [if_neg c35] at H
          exact absurd H (by simp)
        ·
         rw [if_neg c34] at H
         exact absurd H (by simp)
   ·
    rw [if_neg c13] at H
    exact absurd H (by simp)
  ·
   replace c12 := Bool.eq_false_iff.mpr c12
   subst c12
   rw [if_neg (show ¬ (false = true) by decide)] at H
   exact absurd H (by simp)
 ·
  replace c8 := Bool.eq_false_iff.mpr c8
  subst c8
  rw [if_neg (show ¬ (false = true) by decide)] at H
  exact absurd H (by simp)

end Go.Proofs.Ytkkakdpncogpkaa.D
end
