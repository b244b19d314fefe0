/- Parts of the proof of a law about flows (see the law's own text): HFlowWithout. Conditions: each theorem's own. -/
import Derived.Test.YtkkakdpncogpkaaBase19
import Derived.Test.YtkkakdpncogpkaaBase13
import Derived.Test.YtkkakdpncogpkaaBase17
section
/- The contract of flow.without, by the hand-written function of lists. Conditions: the contract's own. -/
namespace Go.Proofs.Ytkkakdpncogpkaa.D
open Go.RowKit Go.Proofs.YtkkakdpncogpkaaW.PrintWords Go.Proofs.YtkkakdpncogpkaaW.PrintLast Go.Proofs.YtkkakdpncogpkaaW.PrintMore
set_option linter.unusedVariables false
theorem shr_has (set : Int) (i : Nat) (h : 0 ≤ set) (h2 : set < 9223372036854775808) (hi : i ≤ 64) : (Go.bits .and .i64 (shr .i64 set (i : Int)) 1 = 1) ↔ hasN set i = true := by
  have := has_and set (i : Int) h h2
  have hb : IntKind.i64.bits = 64 := rfl
  unfold shr
  rw [hb, Int.toNat_natCast, show min i 64 = i by omega]
  rw [Int.toNat_natCast] at this
  rw [← this]
  simp
theorem withoutP_l0 (failed n : Int) (h : 0 ≤ failed) (h2 : failed < 9223372036854775808) : ∀ (r : List Ed) (pre : List Ed), pre.length + r.length ≤ 40 →
    flow_withoutP.l0 (r.length + 1) failed ((pre ++ r).length : Int) (pre.length : Int) n (pre ++ r) = some (n, pre ++ withoutL failed r pre.length)
  | [], pre, _ => by
    rw [flow_withoutP.l0, if_neg (by simp)]
    rfl
  | e :: r, pre, hl => by
    have hl' : pre.length + (r.length + 1) ≤ 40 := hl
    have e1 : pre ++ e :: r = (pre ++ [e]) ++ r := by simp
    have hrd : rd_T72 (pre ++ e :: r) (pre.length : Int) = e := by simp [rd_T72]
    have hw : wrap64 ((pre.length : Int) + 1) = ((pre.length + 1 : Nat) : Int) := by rw [wrap64_small (by omega) (by omega)]; omega
    rw [List.length_cons, flow_withoutP.l0, if_pos (by simp; omega), if_pos (by omega), withoutL, hw]
    by_cases hb : hasN failed pre.length = true
    · rw [if_pos ((shr_has failed pre.length h h2 (by omega)).mpr hb), if_pos (by simp; omega), if_pos hb, hrd]
      have e2 : (pre ++ e :: r).set ((pre.length : Int)).toNat (⟨e.f0, e.f1, 0⟩ : Ed) = (pre ++ [(⟨e.f0, e.f1, 0⟩ : Ed)]) ++ r := by
        rw [Int.toNat_natCast, List.set_append_right _ _ (Nat.le_refl _)]; simp
      have ih := withoutP_l0 failed n h h2 r (pre ++ [(⟨e.f0, e.f1, 0⟩ : Ed)]) (by simp; omega)
      rw [e2]
      have e3 : (pre ++ e :: r).length = ((pre ++ [(⟨e.f0, e.f1, 0⟩ : Ed)]) ++ r).length := by simp
      rw [e3]
      have e4 : (pre ++ [(⟨e.f0, e.f1, 0⟩ : Ed)]).length = pre.length + 1 := by simp
      rw [e4] at ih
      rw [ih]
      simp
    · rw [if_neg (fun hh => hb ((shr_has failed pre.length h h2 (by omega)).mp hh)), if_neg hb]
      have ih := withoutP_l0 failed n h h2 r (pre ++ [e]) (by simp; omega)
      have e4 : (pre ++ [e]).length = pre.length + 1 := by simp
      rw [e4] at ih
      rw [e1, ih]
      simp
theorem flow_without.calls (a0_0 : Int) (A0_1 : Option Addr) (c0_1 : Nat) (l0_1 : List (S72)) (a1 : Int) (r1 : Int) (r2 : List (S72)) (w : World) (hr0_1 : Kd.C k72 w A0_1 l0_1.length l0_1) (hc0_1 : l0_1.length ≤ c0_1) (h : flow_without.f a0_0 l0_1 a1 = some (r1, r2)) :
    Calls Try.prog 83 #[.agg #[.int .i64 a0_0, .slice A0_1 l0_1.length c0_1], .int .i64 a1] w fun e w' => ∃ v1_ : Value, e = .returned (.agg #[.int .i64 r1, v1_]) ∧ Kd.R k72 72 w' w.heap.size (fun _ => True) v1_ r2 ∧ Below w.heap.size w w' := by
  unfold flow_without.f at h
  split at h
  · rename_i hc
    simp only [Bool.and_eq_true, decide_eq_true_eq] at hc
    have hv := (validB_iff.mp hc.1).2.1
    refine flow_withoutP.calls (l0_1.length + 1) a0_0 A0_1 c0_1 l0_1 a1 r1 r2 w hr0_1 hc0_1 ?_
    rw [← h]
    unfold flow_withoutP.f api_Edge.f
    rw [if_pos hv, Option.bind_some]
    have := withoutP_l0 a1 a0_0 hc.2.1 hc.2.2 l0_1 [] (by simpa using hv)
    simpa using this
  · cases h
end Go.Proofs.Ytkkakdpncogpkaa.D
end
