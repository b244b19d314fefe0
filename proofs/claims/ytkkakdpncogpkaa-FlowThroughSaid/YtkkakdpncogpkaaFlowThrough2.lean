/- Parts of the proof of a law about flows (see the law's own text): PThrough. Conditions: each theorem's own. -/
import Derived.Test.YtkkakdpncogpkaaBase27
import Derived.Test.YtkkakdpncogpkaaFlowThrough1
section
/- FlowThrough: from a node to another one at least as much can flow as the lesser one of what can flow to a third one, and from it. Conditions: integers are of 64 bits. -/
namespace Go.Proofs.Ytkkakdpncogpkaa.D
open Go.RowKit Go.Proofs.YtkkakdpncogpkaaW.PrintWords Go.Proofs.YtkkakdpncogpkaaW.PrintLast Go.Proofs.YtkkakdpncogpkaaW.PrintMore
set_option linter.unusedVariables false
theorem FlowThrough_true (a0 : Int) (x : List S23) (a2 a3 a4 : Int) (h0 : I64 a0) (hx : AllI64 x) (h2 : I64 a2) (h3 : I64 a3) (h4 : I64 a4) : dialtonelaw27_FlowThrough.f 64 a0 x a2 a3 a4 = some true := by
  obtain ⟨n, es, e1, hM⟩ := made_f a0 x h0 hx 64 (by omega)
  have hlo := hM.lo
  have hhi := hM.hi
  obtain ⟨s, t, e2, hs, ht, hst⟩ := ends_f n es a2 a3 h2 h3 (by omega) (by omega)
  obtain ⟨m', e3, m0, m1⟩ := pick_f a4 n h4 (by omega)
  obtain ⟨m, rfl⟩ := Int.eq_ofNat_of_zero_le m0
  have hp := hM.pair hs ht hst
  obtain ⟨l, cut, v, f1, f2, f3⟩ := greatest_f n s t es hp 64 (by omega)
  unfold dialtonelaw27_FlowThrough.f
  rw [sane_64, Option.bind_some, if_pos rfl, e1, Option.bind_some]
  dsimp only
  rw [e2, Option.bind_some, e3, Option.bind_some, f3, Option.bind_some]
  dsimp only
  rw [if_pos rfl]
  have hj : dialtonelaw27_FlowThrough.j0 64 s t m v true true n es = some true := by rw [dialtonelaw27_FlowThrough.j0, if_pos rfl]
  by_cases c1 : (m : Int) = s
  · rw [if_pos c1, hj]
  · rw [if_neg c1]
    by_cases c2 : (m : Int) = t
    · rw [show ((m : Int) == (t : Int)) = true by simp [c2], hj]
    · rw [show ((m : Int) == (t : Int)) = false by simp [c2], dialtonelaw27_FlowThrough.j0, if_neg (by simp)]
      have n1 : s ≠ m := fun e => c1 (by rw [e])
      have n2 : m ≠ t := fun e => c2 (by rw [e])
      obtain ⟨l1, cut1, v1, g1, g2, g3⟩ := greatest_f n s m es (hM.pair hs m1 n1) 63 (by omega)
      obtain ⟨l2, cut2, v2, k1, k2, k3⟩ := greatest_f n m t es (hM.pair m1 ht n2) 63 (by omega)
      rw [g3, Option.bind_some]
      dsimp only
      rw [if_pos rfl, k3, Option.bind_some]
      dsimp only
      rw [if_pos rfl, if_pos rfl]
      have hmn : mn v1 v2 ≤ v := by
        obtain ⟨c0, c1', c2', c3⟩ := f2.isc
        cases hm : hasN cut (m : Int) with
        | true =>
          have := k2.le cut ⟨c0, c1', hm, c3⟩
          rw [f2.cap] at this
          unfold mn; split <;> omega
        | false =>
          have := g2.le cut ⟨c0, c1', c2', hm⟩
          rw [f2.cap] at this
          unfold mn; split <;> omega
      rw [decide_eq_true hmn]
end Go.Proofs.Ytkkakdpncogpkaa.D
end
