/- Parts of the proof of a law about flows (see the law's own text): R2. Conditions: each theorem's own. -/
import Derived.Test.YtkkakdpncogpkaaBase29
section
/- How further arguments of the laws are read: an array of three integers, a list of integers. Conditions: none. -/
namespace Go.Proofs.Ytkkakdpncogpkaa.D
open Go.ChangeShapes Go.WideShapes Go.ChangeAt Go.RowKit Go.Deep Go.Proofs.YtkkakdpncogpkaaW.PrintWords
set_option linter.unusedVariables false
section
variable {H : Type} {enc : TypeId × Value → H} {P : Program} {w : World} {base : Nat} {spare : Nat → Bool} {held : Bool}
theorem open_three {t q : TypeId} {fuel : Nat} {v : Value} {x : DataW H × List MemPlace} {r : Reach} {b0 : Nat} (ht : P.underlying t = some (.array 3 q)) (hq : P.underlying q = some (.int .i64)) (ce : P.cellsOf t = 3) (cq : P.cellsOf q = 1)
    (hv : Value.okWide P w r b0 t v) (h : DataW.trod enc P w base spare held fuel t v.cells.toList = some x) : ∃ x y z : Int, v = .agg #[.int .i64 x, .int .i64 y, .int .i64 z] ∧ I64 x ∧ I64 y ∧ I64 z := by
  unfold Value.okWide at hv
  rw [ht] at hv
  obtain ⟨cs, rfl, hsz, _⟩ := hv
  rw [ce] at hsz
  have hc : (Value.agg cs).cells.toList = cs.toList := rfl
  rw [hc] at h
  have hl : cs.toList.length = 3 := by simpa using hsz
  match hcs : cs.toList, hl with
  | [c0, c1, c2], _ =>
    rw [hcs] at h
    obtain ⟨y0, y1, y2, k, _, g0, g1, g2⟩ := trod_array3 ht cq h
    obtain ⟨n0, q0, _, w0⟩ := DataW.trod_int hq g0
    obtain ⟨n1, q1, _, w1⟩ := DataW.trod_int hq g1
    obtain ⟨n2, q2, _, w2⟩ := DataW.trod_int hq g2
    simp only [List.cons.injEq, and_true] at q0 q1 q2
    subst q0; subst q1; subst q2
    refine ⟨n0, n1, n2, ?_, wf_i64 w0, wf_i64 w1, wf_i64 w2⟩
    congr 1
    apply Array.toList_inj.mp
    rw [hcs]
theorem open_intlist {t e : TypeId} {fuel len cap : Nat} {A : Option Addr} {x : DataW H × List MemPlace} (ht : P.underlying t = some (.slice e)) (he : P.underlying e = some (.int .i64)) (ce : P.cellsOf e = 1)
    (h : DataW.trod enc P w base spare held fuel t [.slice A len cap] = some x) : ∃ zs : List Int, zs.length = len ∧ len ≤ cap ∧ Kd.C (Kd.int .i64) w A len zs ∧ ∀ x, x ∈ zs → I64 x := by
  rcases open_slice ht h with ⟨h0, _⟩ | ⟨a, len', cap', m, n, D, Pl, h0, hb, hl, hm, hmm, _, hx⟩
  · simp only [List.cons.injEq, Value.slice.injEq, and_true] at h0
    obtain ⟨rfl, rfl, rfl⟩ := h0
    exact ⟨[], rfl, Nat.le_refl _, ⟨rfl, by omega, fun h => by omega⟩, fun x hx => by simp at hx⟩
  · simp only [List.cons.injEq, Value.slice.injEq, and_true] at h0
    obtain ⟨rfl, rfl, rfl⟩ := h0
    have hlm : len ≤ m := by rw [hmm]; split <;> omega
    have each : ∀ i, i < len → ∃ z : Int, w.cell? (a.add (i * 1)) = some (.int .i64 z) ∧ I64 z := by
      intro i hi
      obtain ⟨cs', h1, h2⟩ := hx i (by omega)
      rw [ce] at h1
      obtain ⟨_, hlen, hcell⟩ := World.cells?_some h1
      obtain ⟨n0, q0, _, w0⟩ := DataW.trod_int he h2
      subst q0
      have e0 := hcell 0 (by omega)
      rw [Go.Deep.add_add] at e0
      exact ⟨n0, by simpa using e0, wf_i64 w0⟩
    obtain ⟨z, hz⟩ := choose_lt each
    refine ⟨(List.range len).map z, by simp, hl, ⟨by simp, by unfold maxLen at hm; omega, fun _ => ⟨a, rfl, fun j p hp => ?_⟩⟩, fun y hy => ?_⟩
    · rw [List.getElem?_map] at hp
      by_cases hj : j < len
      · rw [List.getElem?_range hj] at hp
        simp only [Option.map_some, Option.some.injEq] at hp
        subst hp
        refine ⟨[.int .i64 (z j)], rfl, rfl, fun i u hu => ?_⟩
        match i, hu with
        | 0, hu => simp only [List.getElem?_cons_zero, Option.some.injEq] at hu; subst hu; exact (hz j hj).1
        | i + 1, hu => simp at hu
      · rw [List.getElem?_eq_none (by simp; omega)] at hp; simp at hp
    · obtain ⟨j, hj, rfl⟩ := List.mem_map.mp hy
      exact (hz j (List.mem_range.mp hj)).2
end
end Go.Proofs.Ytkkakdpncogpkaa.D
end
