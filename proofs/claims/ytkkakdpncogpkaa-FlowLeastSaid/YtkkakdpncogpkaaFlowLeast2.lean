/- Parts of the proof of a law about flows (see the law's own text): A8, A9, PLeast. Conditions: each theorem's own. -/
import Derived.Test.YtkkakdpncogpkaaBase29
import Derived.Test.YtkkakdpncogpkaaFlowLeast1
section
/- A net without some edges; lists with something changed. Conditions: integers are of 64 bits. -/
namespace Go.Proofs.Ytkkakdpncogpkaa.D
open Go.RowKit Go.Proofs.YtkkakdpncogpkaaW.PrintWords Go.Proofs.YtkkakdpncogpkaaW.PrintLast Go.Proofs.YtkkakdpncogpkaaW.PrintMore
set_option linter.unusedVariables false
theorem without_f (n : Nat) (es : List Ed) (failed : Int) (hv : validB n es = true) (h0 : 0 ≤ failed) (h1 : failed < 2 ^ es.length) : flow_Without.f n es failed = some ((n : Int), withoutL failed es 0, 0) := by
  have hl := (validB_iff.mp hv).2.1
  have hp := pow_bound hl
  have e40 : (2 : Int) ^ 40 = 1099511627776 := by decide
  have hpos := pow_pos2 es.length
  unfold flow_Without.f flow_Valid.f
  rw [hv, Option.bind_some, if_pos rfl, isIn_f, Option.bind_some, shl_one es.length (by omega), wrap64_small (by omega) (by omega)]
  rw [if_pos (by simp only [Bool.and_eq_true, decide_eq_true_eq]; omega)]
  unfold flow_without.f
  have hd : (validB n es && (decide (0 ≤ failed) && decide (failed < 9223372036854775808))) = true := by
    rw [hv]; simp only [Bool.true_and, Bool.and_eq_true, decide_eq_true_eq]; omega
  rw [if_pos hd, Option.bind_some]
theorem withoutL_length (failed : Int) : ∀ (es : List Ed) (i : Nat), (withoutL failed es i).length = es.length
  | [], _ => rfl
  | e :: r, i => by rw [withoutL, List.length_cons, List.length_cons, withoutL_length failed r]
theorem withoutL_made {n : Nat} (failed : Int) : ∀ (es : List Ed) (i : Nat), (∀ e, e ∈ es → (0 ≤ e.f0 ∧ e.f0 ≤ (n : Int) - 1) ∧ (0 ≤ e.f1 ∧ e.f1 ≤ (n : Int) - 1) ∧ e.f0 ≠ e.f1 ∧ (0 ≤ e.f2 ∧ e.f2 ≤ 19)) →
    ∀ e, e ∈ withoutL failed es i → (0 ≤ e.f0 ∧ e.f0 ≤ (n : Int) - 1) ∧ (0 ≤ e.f1 ∧ e.f1 ≤ (n : Int) - 1) ∧ e.f0 ≠ e.f1 ∧ (0 ≤ e.f2 ∧ e.f2 ≤ 19)
  | [], _, _, e, he => by simp [withoutL] at he
  | x :: r, i, h, e, he => by
    rw [withoutL] at he
    rcases List.mem_cons.mp he with he | he
    · obtain ⟨a, b, c, d⟩ := h x List.mem_cons_self
      subst he
      split
      · exact ⟨a, b, c, (by show (0 : Int) ≤ 0 ∧ (0 : Int) ≤ 19; omega)⟩
      · exact ⟨a, b, c, d⟩
    · exact withoutL_made failed r (i + 1) (fun y hy => h y (List.mem_cons_of_mem _ hy)) e he
theorem MadeIs.without {n : Nat} {es : List Ed} (h : MadeIs n es) (failed : Int) : MadeIs n (withoutL failed es 0) :=
  ⟨h.lo, h.hi, by rw [withoutL_length]; exact h.len, withoutL_made failed es 0 h.ok⟩
theorem fsum_without (w : Nat → Nat → Int) (failed : Int) : ∀ (es : List Ed) (l : List Int) (i : Nat), fsum w (withoutL failed es i) l = fsum w es l
  | [], l, _ => rfl
  | e :: r, [], i => by
    rw [withoutL, fsum, fsum] <;> (intros; simp_all)
  | e :: r, y :: l, i => by
    rw [withoutL, fsum, fsum, fsum_without w failed r l (i + 1)]
    split <;> rfl
theorem inCap_without (failed : Int) : ∀ (es : List Ed) (l : List Int) (i : Nat), (∀ e, e ∈ es → 0 ≤ e.f2) → inCap (withoutL failed es i) l = true → inCap es l = true
  | [], l, _, _, _ => by simp [inCap]
  | e :: r, [], i, _, _ => by simp [inCap]
  | e :: r, y :: l, i, hg, h => by
    rw [withoutL, inCap, Bool.and_eq_true, Bool.and_eq_true, decide_eq_true_eq, decide_eq_true_eq] at h
    have he := hg e List.mem_cons_self
    have ih := inCap_without failed r l (i + 1) (fun x hx => hg x (List.mem_cons_of_mem _ hx)) h.2
    have h1 : y ≤ e.f2 := by
      have := h.1.2
      split at this
      · have e0 : y ≤ 0 := this
        omega
      · exact this
    rw [inCap, ih, decide_eq_true h.1.1, decide_eq_true h1]; rfl
/-- A flow of what is left is one of the whole. -/
theorem isFlow_without {n s t : Nat} {es : List Ed} {l : List Int} (failed : Int) (hg : ∀ e, e ∈ es → 0 ≤ e.f2) (h : isFlow n s t (withoutL failed es 0) l = true) : isFlow n s t es l = true ∧ fsum (dlt s) es l = fsum (dlt s) (withoutL failed es 0) l := by
  refine ⟨?_, (fsum_without _ failed es l 0).symm⟩
  unfold isFlow isAm at h ⊢
  rw [Bool.and_eq_true, Bool.and_eq_true, Bool.and_eq_true, decide_eq_true_eq, decide_eq_true_eq, withoutL_length] at h
  obtain ⟨⟨⟨h1, h2⟩, h3⟩, h4⟩ := h
  rw [fsum_without] at h3
  rw [allF_congr s t n (fun x _ => fsum_without (dlt x) failed es l 0) n 0 (by omega)] at h4
  rw [decide_eq_true h1, inCap_without failed es l 0 hg h2, decide_eq_true h3, h4]; rfl
theorem bentList_f (l : List Int) (a b c : Int) (ha : I64 a) (hb : I64 b) (hc : I64 c) (hl : l.length ≤ 1000) : ∃ l', dialtoneref27_BentList.f l a b c = some l' := by
  unfold dialtoneref27_BentList.f
  rw [Option.bind_some, if_pos (by simp; omega), Option.bind_some, List.nil_append]
  by_cases h : (l.length : Int) = 0
  · rw [if_pos h]; exact ⟨_, rfl⟩
  · rw [if_neg h]
    obtain ⟨p, e1, p0, p1⟩ := pickr_f c (l.length : Int) hc (by omega)
    obtain ⟨q, e2, q0, q1⟩ := pickr_f a 4 ha (by omega)
    rw [e1, Option.bind_some, e2, Option.bind_some]
    by_cases h0 : q = 0
    · rw [if_pos h0, if_pos p0, if_pos p1]; exact ⟨_, rfl⟩
    · rw [if_neg h0]
      by_cases h1 : q = 1
      · rw [if_pos h1, if_pos p0, if_pos p1]; exact ⟨_, rfl⟩
      · rw [if_neg h1]
        by_cases h2 : q = 2
        · rw [if_pos h2, if_pos p0, if_pos p1]; exact ⟨_, rfl⟩
        · rw [if_neg h2, if_pos (by omega)]; exact ⟨_, rfl⟩
theorem shr_tmod (set : Int) (i : Nat) (h : 0 ≤ set) (hi : i ≤ 64) : (Int.tmod (shr .i64 set (i : Int)) 2 = 1) ↔ hasN set i = true := by
  have hb : IntKind.i64.bits = 64 := rfl
  unfold shr hasN
  rw [hb, Int.toNat_natCast, show min i 64 = i by omega, Int.tmod_eq_emod_of_nonneg (Int.ediv_nonneg h (Int.le_of_lt (pow_pos2 i))), decide_eq_true_eq]
theorem shr_tmod0 (set : Int) (i : Nat) (h : 0 ≤ set) (hi : i ≤ 64) : (Int.tmod (shr .i64 set (i : Int)) 2 = 0) ↔ hasN set i = false := by
  have hb : IntKind.i64.bits = 64 := rfl
  unfold shr hasN
  rw [hb, Int.toNat_natCast, show min i 64 = i by omega, Int.tmod_eq_emod_of_nonneg (Int.ediv_nonneg h (Int.le_of_lt (pow_pos2 i))), decide_eq_false_iff_not]
  omega
end Go.Proofs.Ytkkakdpncogpkaa.D
end
section
/- Sets of nodes as numbers, and nets with the same cuts. Conditions: none. -/
namespace Go.Proofs.Ytkkakdpncogpkaa.D
open Go.RowKit Go.Proofs.YtkkakdpncogpkaaW.PrintWords Go.Proofs.YtkkakdpncogpkaaW.PrintLast Go.Proofs.YtkkakdpncogpkaaW.PrintMore
set_option linter.unusedVariables false
theorem hasN_bit (N x : Nat) : hasN (N : Int) (x : Int) = N.testBit x := by
  unfold hasN
  rw [Int.toNat_natCast, Nat.testBit_eq_decide_div_mod_eq]
  have e : ((N : Int) / 2 ^ x % 2) = ((N / 2 ^ x % 2 : Nat) : Int) := by simp
  rw [e]
  by_cases h : N / 2 ^ x % 2 = 1
  · rw [h]; rfl
  · rw [decide_eq_false h]
    exact decide_eq_false (by omega)
/-- Two sets of n nodes with the same nodes are one. -/
theorem set_ext (n : Nat) (a b : Int) (ha : 0 ≤ a ∧ a ≤ 2 ^ n - 1) (hb : 0 ≤ b ∧ b ≤ 2 ^ n - 1) (h : ∀ x, x < n → hasN a (x : Int) = hasN b (x : Int)) : a = b := by
  obtain ⟨A, rfl⟩ := Int.eq_ofNat_of_zero_le ha.1
  obtain ⟨B, rfl⟩ := Int.eq_ofNat_of_zero_le hb.1
  have e : ((2 ^ n : Nat) : Int) = (2 : Int) ^ n := by simp
  have hA : A < 2 ^ n := by have h := ha.2; rw [← e] at h; omega
  have hB : B < 2 ^ n := by have h := hb.2; rw [← e] at h; omega
  congr 1
  refine Nat.eq_of_testBit_eq (fun i => ?_)
  by_cases hi : i < n
  · have := h i hi
    rwa [hasN_bit, hasN_bit] at this
  · rw [Nat.testBit_lt_two_pow (Nat.lt_of_lt_of_le hA (Nat.pow_le_pow_right (by decide) (by omega))), Nat.testBit_lt_two_pow (Nat.lt_of_lt_of_le hB (Nat.pow_le_pow_right (by decide) (by omega)))]
/-- Nets with the same cuts have the same value and the same least cut. -/
theorem MaxIs.same {n s t : Nat} {es es' : List Ed} {l l' : List Int} {cut cut' v v' : Int} (h : MaxIs n s t es l cut v) (h' : MaxIs n s t es' l' cut' v') (hc : ∀ set, isCut n s t set → capL es set = capL es' set) : v = v' ∧ cut = cut' := by
  have hv : v = v' := by
    have h1 := h.le cut' h'.isc
    have h2 := h'.le cut h.isc
    rw [hc cut' h'.isc, h'.cap] at h1
    rw [← hc cut h.isc, h.cap] at h2
    omega
  refine ⟨hv, set_ext n cut cut' ⟨h.isc.1, h.isc.2.1⟩ ⟨h'.isc.1, h'.isc.2.1⟩ (fun x hx => ?_)⟩
  cases e1 : hasN cut (x : Int) with
  | true =>
    have := h.least cut' h'.isc (by rw [hc cut' h'.isc, h'.cap, hv]) x hx e1
    rw [this]
  | false =>
    cases e2 : hasN cut' (x : Int) with
    | false => rfl
    | true =>
      have := h'.least cut h.isc (by rw [← hc cut h.isc, h.cap, hv]) x hx e2
      rw [e1] at this; cases this
/-- The nodes of a set that another one holds. -/
theorem and_sub (n : Nat) (hn : n ≤ 12) (a b : Int) (ha : 0 ≤ a ∧ a ≤ 2 ^ n - 1) (hb : 0 ≤ b ∧ b ≤ 2 ^ n - 1) (h : ∀ x, x < n → hasN b (x : Int) = true → hasN a (x : Int) = true) : Go.bits .and .i64 a b = b := by
  obtain ⟨A, rfl⟩ := Int.eq_ofNat_of_zero_le ha.1
  obtain ⟨B, rfl⟩ := Int.eq_ofNat_of_zero_le hb.1
  have e : ((2 ^ n : Nat) : Int) = (2 : Int) ^ n := by simp
  have h12 : 2 ^ n ≤ 2 ^ 12 := Nat.pow_le_pow_right (by decide) hn
  have hA : A < 2 ^ n := by have h := ha.2; rw [← e] at h; omega
  have hB : B < 2 ^ n := by have h := hb.2; rw [← e] at h; omega
  have k1 : (BitVec.ofInt 64 (A : Int)).toNat = A := by
    rw [BitVec.ofInt_natCast, BitVec.toNat_ofNat]; exact Nat.mod_eq_of_lt (by omega)
  have k2 : (BitVec.ofInt 64 (B : Int)).toNat = B := by
    rw [BitVec.ofInt_natCast, BitVec.toNat_ofNat]; exact Nat.mod_eq_of_lt (by omega)
  show IntKind.i64.wrap ((BitVec.ofInt 64 (A : Int) &&& BitVec.ofInt 64 (B : Int)).toNat : Int) = _
  rw [BitVec.toNat_and, k1, k2, i64_w]
  have hab : A &&& B = B := by
    refine Nat.eq_of_testBit_eq (fun i => ?_)
    rw [Nat.testBit_and]
    by_cases hi : i < n
    · have := h i hi
      rw [hasN_bit, hasN_bit] at this
      cases hb : B.testBit i with
      | false => simp
      | true => rw [this hb]; rfl
    · rw [Nat.testBit_lt_two_pow (x := B) (Nat.lt_of_lt_of_le hB (Nat.pow_le_pow_right (by decide) (by omega)))]; simp
  rw [hab]
  exact wrap64_small (by omega) (by omega)
theorem capL_append (a b : List Ed) (set : Int) : capL (a ++ b) set = capL a set + capL b set := by
  unfold capL; rw [List.filter_append, sumCap_append]
end Go.Proofs.Ytkkakdpncogpkaa.D
end
section
/- FlowLeast: the cut of Max is the least one; only edges that leave it let more flow. Conditions: integers are of 64 bits. -/
namespace Go.Proofs.Ytkkakdpncogpkaa.D
open Go.RowKit Go.Proofs.YtkkakdpncogpkaaW.PrintWords Go.Proofs.YtkkakdpncogpkaaW.PrintLast Go.Proofs.YtkkakdpncogpkaaW.PrintMore
set_option linter.unusedVariables false
theorem cap_set (set : Int) : ∀ (es : List Ed) (p : Nat) (hp : p < es.length), capL (es.set p ⟨es[p].f0, es[p].f1, es[p].f2 + 1⟩) set = capL es set + (if leavesE set es[p] = true then 1 else 0)
  | e :: r, 0, _ => by
    unfold capL
    simp only [List.set_cons_zero, List.getElem_cons_zero, List.filter_cons]
    have hl : leavesE set (⟨e.f0, e.f1, e.f2 + 1⟩ : Ed) = leavesE set e := rfl
    rw [hl]
    split
    · rw [sumCap, sumCap]
      show e.f2 + 1 + sumCap _ = e.f2 + sumCap _ + 1
      omega
    · omega
  | e :: r, p + 1, hp => by
    have ih := cap_set set r p (by simpa using hp)
    unfold capL at ih ⊢
    simp only [List.set_cons_succ, List.getElem_cons_succ, List.filter_cons]
    split
    · rw [sumCap, sumCap, ih]; omega
    · exact ih
theorem least_j1 (n : Nat) (es : List Ed) (v cut now : Int) (p : Nat) (hp : p < es.length) (hc : 0 ≤ cut) (hv : 0 ≤ v ∧ v ≤ 1000000) (hok : ∀ e, e ∈ es → (0 ≤ e.f0 ∧ e.f0 ≤ 11) ∧ (0 ≤ e.f1 ∧ e.f1 ≤ 11))
    (h1 : v ≤ now) (h2 : now ≤ v + (if leavesE cut es[p] = true then 1 else 0)) : dialtonelaw27_FlowLeast.j1 63 v cut (p : Int) now true n es = some true := by
  have hrd : rd_T72 es (p : Int) = es[p] := by simp [rd_T72, hp]
  obtain ⟨⟨a0, a1⟩, ⟨b0, b1⟩⟩ := hok es[p] (List.getElem_mem hp)
  generalize es[p] = e at *
  obtain ⟨i, hi⟩ := Int.eq_ofNat_of_zero_le a0
  obtain ⟨j, hj⟩ := Int.eq_ofNat_of_zero_le b0
  have hle : leavesE cut e = (hasN cut (i : Int) && !hasN cut (j : Int)) := by unfold leavesE; rw [hi, hj]
  rw [hle] at h2
  have hup : now ≤ wrap64 (v + 1) := by
    rw [wrap64_small (by omega) (by omega)]
    split at h2 <;> omega
  rw [dialtonelaw27_FlowLeast.j1, if_pos (by omega), if_pos (by omega), hrd, hi, hj, if_pos (by omega)]
  by_cases c1 : hasN cut (i : Int) = true
  · rw [if_pos ((shr_tmod cut i hc (by omega)).mpr c1), if_pos (by omega), if_pos rfl, if_pos h1, if_pos hup]
    by_cases c2 : hasN cut (j : Int) = false
    · rw [if_pos ((shr_tmod0 cut j hc (by omega)).mpr c2)]
    · rw [if_neg (fun h => c2 ((shr_tmod0 cut j hc (by omega)).mp h))]
      have c3 : hasN cut (j : Int) = true := by simpa using c2
      rw [c1, c3] at h2
      have : now = v := by simp at h2; omega
      rw [this]; simp
  · rw [if_neg (fun h => c1 ((shr_tmod cut i hc (by omega)).mp h)), if_pos rfl, if_pos h1, if_pos hup]
    have c3 : hasN cut (i : Int) = false := by simpa using c1
    rw [c3] at h2
    have : now = v := by simp at h2; omega
    rw [this]; simp
theorem FlowLeast_true (a0 : Int) (x : List S23) (a2 a3 a4 a5 : Int) (h0 : I64 a0) (hx : AllI64 x) (h2 : I64 a2) (h3 : I64 a3) (h4 : I64 a4) (h5 : I64 a5) : dialtonelaw27_FlowLeast.f 64 a0 x a2 a3 a4 a5 = some true := by
  obtain ⟨n, es, e1, hM⟩ := made_f a0 x h0 hx 64 (by omega)
  have hlo := hM.lo
  have hhi := hM.hi
  have h16 := hM.len
  obtain ⟨s, t, e2, hs, ht, hst⟩ := ends_f n es a2 a3 h2 h3 (by omega) (by omega)
  have hp := hM.pair hs ht hst
  obtain ⟨l, cut, v, f1, f2, f3⟩ := greatest_f n s t es hp 64 (by omega)
  obtain ⟨st, e5, r0, r1⟩ := pick_f a4 (2 ^ n) h4 (pow_pos2 _)
  have hcutb : v ≤ 1000000 := by
    have h := f2.le cut f2.isc
    have hg := goodL_of hM.valid
    have h1 := (esum_wS_le (setOf cut) es hg).2
    have h2 := (esum_le es hg).2
    rw [esum_cap cut es hg, f2.cap] at h1
    omega
  have hj : dialtonelaw27_FlowLeast.j0 64 a5 s t v cut false n es = some true := by
    rw [dialtonelaw27_FlowLeast.j0, if_neg (by simp)]
    by_cases hz : (es.length : Int) = 0
    · rw [if_pos hz]
      have e0 : es = [] := List.length_eq_zero_iff.mp (by omega)
      have hc := f2.cap
      rw [e0] at hc
      have : v = 0 := by rw [← hc]; rfl
      rw [this]; rfl
    · rw [if_neg hz]
      obtain ⟨q, e6, q0, q1⟩ := pick_f a5 (es.length : Int) h5 (by omega)
      obtain ⟨p, rfl⟩ := Int.eq_ofNat_of_zero_le q0
      have hpl : p < es.length := by omega
      have hrd : rd_T72 es (p : Int) = es[p] := by simp [rd_T72, hpl]
      have hep := hM.ok es[p] (List.getElem_mem hpl)
      rw [e6, Option.bind_some, Option.bind_some, if_pos (by simp; omega), Option.bind_some, List.nil_append, if_pos q0, if_pos q1, hrd, wrap64_small (x := es[p].f2 + 1) (by omega) (by omega), Int.toNat_natCast]
      have hpm : pairB n (es.set p ⟨es[p].f0, es[p].f1, es[p].f2 + 1⟩) s t = true := by
        rw [pairB_iff, validB_iff]
        refine ⟨⟨⟨by omega, by omega⟩, by rw [List.length_set]; omega, fun e he => ?_⟩, ⟨by omega, by omega⟩, ⟨by omega, by omega⟩, by omega⟩
        rcases List.mem_or_eq_of_mem_set he with he | he
        · obtain ⟨a, b, c, d⟩ := hM.ok e he
          exact ⟨a, b, c, by omega⟩
        · subst he
          exact ⟨hep.1, hep.2.1, hep.2.2.1, (by show (0 : Int) ≤ es[p].f2 + 1 ∧ es[p].f2 + 1 ≤ 10000; omega)⟩
      obtain ⟨l', cut', now, g1, g2, g3⟩ := greatest_f n s t _ hpm 63 (by omega)
      rw [g3, Option.bind_some]
      dsimp only
      rw [if_pos rfl]
      refine least_j1 n es v cut now p hpl f2.isc.1 ⟨f2.nn, hcutb⟩ (fun e he => by obtain ⟨a, b, _, _⟩ := hM.ok e he; omega) ?_ ?_
      · have h1 := g2.cap
        rw [cap_set cut' es p hpl] at h1
        have h2 := f2.le cut' g2.isc
        split at h1 <;> omega
      · have h1 := g2.le cut f2.isc
        rw [cap_set cut es p hpl, f2.cap] at h1
        exact h1
  unfold dialtonelaw27_FlowLeast.f
  rw [sane_64, Option.bind_some, if_pos rfl, e1, Option.bind_some]
  dsimp only
  rw [e2, Option.bind_some]
  dsimp only
  rw [f3, Option.bind_some]
  dsimp only
  rw [if_pos rfl, if_pos (by omega), shl_one n (by omega), e5, Option.bind_some, checkCut_f n s t es st hp 64 (by omega)]
  by_cases hc : isCut n s t st
  · rw [if_pos hc, Option.bind_some]
    dsimp only
    rw [if_pos rfl]
    by_cases hv : capL es st = v
    · rw [if_pos hv, and_sub n (by omega) st cut ⟨hc.1, hc.2.1⟩ ⟨f2.isc.1, f2.isc.2.1⟩ (f2.least st hc hv)]
      rw [show (cut != cut) = false by simp]
      exact hj
    · rw [if_neg hv]; exact hj
  · rw [if_neg hc, Option.bind_some]
    dsimp only
    rw [if_neg (by simp)]
    exact hj
end Go.Proofs.Ytkkakdpncogpkaa.D
end
