/- Parts of the proof of a law about flows (see the law's own text): A8, PCuts. Conditions: each theorem's own. -/
import Derived.Test.YtkkakdpncogpkaaBase29
import Derived.Test.YtkkakdpncogpkaaFlowCuts2
section
/- A net without some edges; lists with something changed. Conditions: integers are of 64 bits. -/
namespace Go.Proofs.Ytkkakdpncogpkaa.D
open Go.RowKit Go.Proofs.YtkkakdpncogpkaaW.PrintWords Go.Proofs.YtkkakdpncogpkaaW.PrintLast Go.Proofs.YtkkakdpncogpkaaW.PrintMore
set_option linter.unusedVariables false
theorem without_f (n : Nat) (es : List Ed) (failed : Int) (hv : validB n es = true) (h0 : 0 ≤ failed) (h1 : failed < 2 ^ es.length) : flow_Without.f n es failed = some ((n : Int), withoutL failed es 0, 0) := by
  have hl := (validB_iff.mp hv).2.1
  have hp := pow_bound hl
  have e40 : (2 : Int) ^ 40 = 1099511627776 := by decide
  have hpos := pow_pos2 es.length
  unfold flow_Without.f flow_Valid.f
  rw [hv, Option.bind_some, if_pos rfl, isIn_f, Option.bind_some, shl_one es.length (by omega), wrap64_small (by omega) (by omega)]
  rw [if_pos (by simp only [Bool.and_eq_true, decide_eq_true_eq]; omega)]
  unfold flow_without.f
  have hd : (validB n es && (decide (0 ≤ failed) && decide (failed < 9223372036854775808))) = true := by
    rw [hv]; simp only [Bool.true_and, Bool.and_eq_true, decide_eq_true_eq]; omega
  rw [if_pos hd, Option.bind_some]
theorem withoutL_length (failed : Int) : ∀ (es : List Ed) (i : Nat), (withoutL failed es i).length = es.length
  | [], _ => rfl
  | e :: r, i => by rw [withoutL, List.length_cons, List.length_cons, withoutL_length failed r]
theorem withoutL_made {n : Nat} (failed : Int) : ∀ (es : List Ed) (i : Nat), (∀ e, e ∈ es → (0 ≤ e.f0 ∧ e.f0 ≤ (n : Int) - 1) ∧ (0 ≤ e.f1 ∧ e.f1 ≤ (n : Int) - 1) ∧ e.f0 ≠ e.f1 ∧ (0 ≤ e.f2 ∧ e.f2 ≤ 19)) →
    ∀ e, e ∈ withoutL failed es i → (0 ≤ e.f0 ∧ e.f0 ≤ (n : Int) - 1) ∧ (0 ≤ e.f1 ∧ e.f1 ≤ (n : Int) - 1) ∧ e.f0 ≠ e.f1 ∧ (0 ≤ e.f2 ∧ e.f2 ≤ 19)
  | [], _, _, e, he => by simp [withoutL] at he
  | x :: r, i, h, e, he => by
    rw [withoutL] at he
    rcases List.mem_cons.mp he with he | he
    · obtain ⟨a, b, c, d⟩ := h x List.mem_cons_self
      subst he
      split
      · exact ⟨a, b, c, (by show (0 : Int) ≤ 0 ∧ (0 : Int) ≤ 19; omega)⟩
      · exact ⟨a, b, c, d⟩
    · exact withoutL_made failed r (i + 1) (fun y hy => h y (List.mem_cons_of_mem _ hy)) e he
theorem MadeIs.without {n : Nat} {es : List Ed} (h : MadeIs n es) (failed : Int) : MadeIs n (withoutL failed es 0) :=
  ⟨h.lo, h.hi, by rw [withoutL_length]; exact h.len, withoutL_made failed es 0 h.ok⟩
theorem fsum_without (w : Nat → Nat → Int) (failed : Int) : ∀ (es : List Ed) (l : List Int) (i : Nat), fsum w (withoutL failed es i) l = fsum w es l
  | [], l, _ => rfl
  | e :: r, [], i => by
    rw [withoutL, fsum, fsum] <;> (intros; simp_all)
  | e :: r, y :: l, i => by
    rw [withoutL, fsum, fsum, fsum_without w failed r l (i + 1)]
    split <;> rfl
theorem inCap_without (failed : Int) : ∀ (es : List Ed) (l : List Int) (i : Nat), (∀ e, e ∈ es → 0 ≤ e.f2) → inCap (withoutL failed es i) l = true → inCap es l = true
  | [], l, _, _, _ => by simp [inCap]
  | e :: r, [], i, _, _ => by simp [inCap]
  | e :: r, y :: l, i, hg, h => by
    rw [withoutL, inCap, Bool.and_eq_true, Bool.and_eq_true, decide_eq_true_eq, decide_eq_true_eq] at h
    have he := hg e List.mem_cons_self
    have ih := inCap_without failed r l (i + 1) (fun x hx => hg x (List.mem_cons_of_mem _ hx)) h.2
    have h1 : y ≤ e.f2 := by
      have := h.1.2
      split at this
      · have e0 : y ≤ 0 := this
        omega
      · exact this
    rw [inCap, ih, decide_eq_true h.1.1, decide_eq_true h1]; rfl
/-- A flow of what is left is one of the whole. -/
theorem isFlow_without {n s t : Nat} {es : List Ed} {l : List Int} (failed : Int) (hg : ∀ e, e ∈ es → 0 ≤ e.f2) (h : isFlow n s t (withoutL failed es 0) l = true) : isFlow n s t es l = true ∧ fsum (dlt s) es l = fsum (dlt s) (withoutL failed es 0) l := by
  refine ⟨?_, (fsum_without _ failed es l 0).symm⟩
  unfold isFlow isAm at h ⊢
  rw [Bool.and_eq_true, Bool.and_eq_true, Bool.and_eq_true, decide_eq_true_eq, decide_eq_true_eq, withoutL_length] at h
  obtain ⟨⟨⟨h1, h2⟩, h3⟩, h4⟩ := h
  rw [fsum_without] at h3
  rw [allF_congr s t n (fun x _ => fsum_without (dlt x) failed es l 0) n 0 (by omega)] at h4
  rw [decide_eq_true h1, inCap_without failed es l 0 hg h2, decide_eq_true h3, h4]; rfl
theorem bentList_f (l : List Int) (a b c : Int) (ha : I64 a) (hb : I64 b) (hc : I64 c) (hl : l.length ≤ 1000) : ∃ l', dialtoneref27_BentList.f l a b c = some l' := by
  unfold dialtoneref27_BentList.f
  rw [Option.bind_some, if_pos (by simp; omega), Option.bind_some, List.nil_append]
  by_cases h : (l.length : Int) = 0
  · rw [if_pos h]; exact ⟨_, rfl⟩
  · rw [if_neg h]
    obtain ⟨p, e1, p0, p1⟩ := pickr_f c (l.length : Int) hc (by omega)
    obtain ⟨q, e2, q0, q1⟩ := pickr_f a 4 ha (by omega)
    rw [e1, Option.bind_some, e2, Option.bind_some]
    by_cases h0 : q = 0
    · rw [if_pos h0, if_pos p0, if_pos p1]; exact ⟨_, rfl⟩
    · rw [if_neg h0]
      by_cases h1 : q = 1
      · rw [if_pos h1, if_pos p0, if_pos p1]; exact ⟨_, rfl⟩
      · rw [if_neg h1]
        by_cases h2 : q = 2
        · rw [if_pos h2, if_pos p0, if_pos p1]; exact ⟨_, rfl⟩
        · rw [if_neg h2, if_pos (by omega)]; exact ⟨_, rfl⟩
theorem shr_tmod (set : Int) (i : Nat) (h : 0 ≤ set) (hi : i ≤ 64) : (Int.tmod (shr .i64 set (i : Int)) 2 = 1) ↔ hasN set i = true := by
  have hb : IntKind.i64.bits = 64 := rfl
  unfold shr hasN
  rw [hb, Int.toNat_natCast, show min i 64 = i by omega, Int.tmod_eq_emod_of_nonneg (Int.ediv_nonneg h (Int.le_of_lt (pow_pos2 i))), decide_eq_true_eq]
theorem shr_tmod0 (set : Int) (i : Nat) (h : 0 ≤ set) (hi : i ≤ 64) : (Int.tmod (shr .i64 set (i : Int)) 2 = 0) ↔ hasN set i = false := by
  have hb : IntKind.i64.bits = 64 := rfl
  unfold shr hasN
  rw [hb, Int.toNat_natCast, show min i 64 = i by omega, Int.tmod_eq_emod_of_nonneg (Int.ediv_nonneg h (Int.le_of_lt (pow_pos2 i))), decide_eq_false_iff_not]
  omega
end Go.Proofs.Ytkkakdpncogpkaa.D
end
section
/- FlowCuts: the greatest flow is the least cut; no flow is greater than any cut. Conditions: integers are of 64 bits. -/
namespace Go.Proofs.Ytkkakdpncogpkaa.D
open Go.RowKit Go.Proofs.YtkkakdpncogpkaaW.PrintWords Go.Proofs.YtkkakdpncogpkaaW.PrintLast Go.Proofs.YtkkakdpncogpkaaW.PrintMore
set_option linter.unusedVariables false
theorem cuts_j0 (n s t : Nat) (cut : Int) (h : isCut n s t cut) (hs : s ≤ 64) (ht : t ≤ 64) : dialtonelaw27_FlowCuts.j0 64 s t cut false = some true := by
  rw [dialtonelaw27_FlowCuts.j0, if_neg (by simp), if_pos (by omega), if_pos ((shr_tmod cut s h.1 hs).mpr h.2.2.1), if_pos (by omega), (shr_tmod0 cut t h.1 ht).mpr h.2.2.2]
  rfl
theorem FlowCuts_true (a0 : Int) (x : List S23) (a2 a3 a4 a5 b0 b1 b2 : Int) (h0 : I64 a0) (hx : AllI64 x) (h2 : I64 a2) (h3 : I64 a3) (h4 : I64 a4) (h5 : I64 a5) (i0 : I64 b0) (i1 : I64 b1) (i2 : I64 b2) : dialtonelaw27_FlowCuts.f 64 a0 x a2 a3 a4 a5 b0 b1 b2 = some true := by
  obtain ⟨n, es, e1, hM⟩ := made_f a0 x h0 hx 64 (by omega)
  have hlo := hM.lo
  have hhi := hM.hi
  have h16 := hM.len
  obtain ⟨s, t, e2, hs, ht, hst⟩ := ends_f n es a2 a3 h2 h3 (by omega) (by omega)
  have hp := hM.pair hs ht hst
  obtain ⟨l, cut, v, f1, f2, f3⟩ := greatest_f n s t es hp 64 (by omega)
  obtain ⟨fl, e3, q0, q1⟩ := pick_f a4 (2 ^ es.length) h4 (pow_pos2 _)
  have hML := hM.without fl
  have hpL := hML.pair hs ht hst
  obtain ⟨l', cut', v', g1, g2⟩ := max_is n s t (withoutL fl es 0) hpL
  have hnn : ∀ e, e ∈ es → 0 ≤ e.f2 := fun e he => (hM.ok e he).2.2.2.1
  obtain ⟨w1, w2⟩ := isFlow_without fl hnn g2.flow
  have hsome : fsum (dlt s) es l' = v' := by rw [w2, g2.val]
  have hle1 : v' ≤ v := by
    have := flow_le_cut n s t es l' hp w1 cut f2.isc
    rw [f2.cap, hsome] at this; exact this
  have hll : l'.length ≤ 1000 := by
    have h := g2.flow
    unfold isFlow isAm at h
    rw [Bool.and_eq_true, Bool.and_eq_true, Bool.and_eq_true, decide_eq_true_eq, withoutL_length] at h
    omega
  obtain ⟨odd, e4⟩ := bentList_f l' b0 b1 b2 i0 i1 i2 hll
  obtain ⟨st, e5, r0, r1⟩ := pick_f a5 (2 ^ n) h5 (pow_pos2 _)
  have hj := cuts_j0 n s t cut f2.isc (by omega) (by omega)
  have hn0 : (0 : Int) ≤ n := by omega
  have hs0 : (0 : Int) ≤ s := by omega
  unfold dialtonelaw27_FlowCuts.f
  rw [sane_64, Option.bind_some, if_pos rfl, e1, Option.bind_some]
  dsimp only
  rw [e2, Option.bind_some]
  dsimp only
  rw [f3, Option.bind_some]
  dsimp only
  rw [if_pos rfl, shl_one es.length (by omega), e3, Option.bind_some, without_f n es fl hM.valid q0 q1, Option.bind_some]
  dsimp only
  rw [if_pos rfl, g1, Option.bind_some]
  dsimp only
  rw [if_pos rfl, checkFlow_f n s t es l' hp 64 (by omega), if_pos w1, Option.bind_some]
  dsimp only
  rw [if_pos rfl, e4, Option.bind_some, checkFlow_f n s t es odd hp 64 (by omega)]
  generalize hset : Go.bits .or .i64 st (shl .i64 1 (s : Int)) = set
  have hodd : ∃ w b, (if isFlow n s t es odd = true then some (fsum (dlt s) es odd, true) else some (0, false)) = some (w, b) ∧ (b = true → w ≤ v) := by
    by_cases h : isFlow n s t es odd = true
    · rw [if_pos h]
      refine ⟨_, _, rfl, fun _ => ?_⟩
      have := flow_le_cut n s t es odd hp h cut f2.isc
      rw [f2.cap] at this; exact this
    · rw [if_neg h]; exact ⟨_, _, rfl, fun h => by cases h⟩
  obtain ⟨w, b, hw, hwb⟩ := hodd
  rw [hw, Option.bind_some, if_pos hn0, shl_one n (by omega), e5, Option.bind_some, if_pos hs0, hset, checkCut_f n s t es set hp 64 (by omega)]
  have hcut : ∃ c d, (if isCut n s t set then some (capL es set, true) else some (0, false)) = some (c, d) ∧ (d = true → v ≤ c ∧ v' ≤ c) := by
    by_cases h : isCut n s t set
    · rw [if_pos h]
      have := f2.le set h
      exact ⟨_, _, rfl, fun _ => ⟨this, by omega⟩⟩
    · rw [if_neg h]; exact ⟨_, _, rfl, fun h => by cases h⟩
  obtain ⟨c, d, hc, hcd⟩ := hcut
  rw [hc, Option.bind_some, hsome]
  dsimp only
  rw [if_neg (show ¬ v' > v by omega)]
  have tail : (if d = true then (if c < v then dialtonelaw27_FlowCuts.j0 64 s t cut true else dialtonelaw27_FlowCuts.j0 64 s t cut (decide (c < v'))) else dialtonelaw27_FlowCuts.j0 64 s t cut false) = some true := by
    cases d with
    | false => rw [if_neg (by simp)]; exact hj
    | true =>
      obtain ⟨x1, x2⟩ := hcd rfl
      rw [if_pos rfl, if_neg (by omega), decide_eq_false (by omega)]; exact hj
  cases b with
  | false => rw [if_neg (by simp)]; exact tail
  | true =>
    have := hwb rfl
    rw [if_pos rfl, if_neg (by omega)]; exact tail
end Go.Proofs.Ytkkakdpncogpkaa.D
end
