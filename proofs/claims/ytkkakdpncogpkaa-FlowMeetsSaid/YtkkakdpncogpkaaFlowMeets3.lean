/- Parts of the proof of a law about flows (see the law's own text): A8, A9, A10, A11, A13, PMeets. Conditions: each theorem's own. -/
import Derived.Test.YtkkakdpncogpkaaBase29
import Derived.Test.YtkkakdpncogpkaaFlowMeets2
import Derived.Test.YtkkakdpncogpkaaBase23
import Derived.Test.YtkkakdpncogpkaaBase16
section
/- A net without some edges; lists with something changed. Conditions: integers are of 64 bits. -/
namespace Go.Proofs.Ytkkakdpncogpkaa.D
open Go.RowKit Go.Proofs.YtkkakdpncogpkaaW.PrintWords Go.Proofs.YtkkakdpncogpkaaW.PrintLast Go.Proofs.YtkkakdpncogpkaaW.PrintMore
set_option linter.unusedVariables false
theorem without_f (n : Nat) (es : List Ed) (failed : Int) (hv : validB n es = true) (h0 : 0 ≤ failed) (h1 : failed < 2 ^ es.length) : flow_Without.f n es failed = some ((n : Int), withoutL failed es 0, 0) := by
  have hl := (validB_iff.mp hv).2.1
  have hp := pow_bound hl
  have e40 : (2 : Int) ^ 40 = 1099511627776 := by decide
  have hpos := pow_pos2 es.length
  unfold flow_Without.f flow_Valid.f
  rw [hv, Option.bind_some, if_pos rfl, isIn_f, Option.bind_some, shl_one es.length (by omega), wrap64_small (by omega) (by omega)]
  rw [if_pos (by simp only [Bool.and_eq_true, decide_eq_true_eq]; omega)]
  unfold flow_without.f
  have hd : (validB n es && (decide (0 ≤ failed) && decide (failed < 9223372036854775808))) = true := by
    rw [hv]; simp only [Bool.true_and, Bool.and_eq_true, decide_eq_true_eq]; omega
  rw [if_pos hd, Option.bind_some]
theorem withoutL_length (failed : Int) : ∀ (es : List Ed) (i : Nat), (withoutL failed es i).length = es.length
  | [], _ => rfl
  | e :: r, i => by rw [withoutL, List.length_cons, List.length_cons, withoutL_length failed r]
theorem withoutL_made {n : Nat} (failed : Int) : ∀ (es : List Ed) (i : Nat), (∀ e, e ∈ es → (0 ≤ e.f0 ∧ e.f0 ≤ (n : Int) - 1) ∧ (0 ≤ e.f1 ∧ e.f1 ≤ (n : Int) - 1) ∧ e.f0 ≠ e.f1 ∧ (0 ≤ e.f2 ∧ e.f2 ≤ 19)) →
    ∀ e, e ∈ withoutL failed es i → (0 ≤ e.f0 ∧ e.f0 ≤ (n : Int) - 1) ∧ (0 ≤ e.f1 ∧ e.f1 ≤ (n : Int) - 1) ∧ e.f0 ≠ e.f1 ∧ (0 ≤ e.f2 ∧ e.f2 ≤ 19)
  | [], _, _, e, he => by simp [withoutL] at he
  | x :: r, i, h, e, he => by
    rw [withoutL] at he
    rcases List.mem_cons.mp he with he | he
    · obtain ⟨a, b, c, d⟩ := h x List.mem_cons_self
      subst he
      split
      · exact ⟨a, b, c, (by show (0 : Int) ≤ 0 ∧ (0 : Int) ≤ 19; omega)⟩
      · exact ⟨a, b, c, d⟩
    · exact withoutL_made failed r (i + 1) (fun y hy => h y (List.mem_cons_of_mem _ hy)) e he
theorem MadeIs.without {n : Nat} {es : List Ed} (h : MadeIs n es) (failed : Int) : MadeIs n (withoutL failed es 0) :=
  ⟨h.lo, h.hi, by rw [withoutL_length]; exact h.len, withoutL_made failed es 0 h.ok⟩
theorem fsum_without (w : Nat → Nat → Int) (failed : Int) : ∀ (es : List Ed) (l : List Int) (i : Nat), fsum w (withoutL failed es i) l = fsum w es l
  | [], l, _ => rfl
  | e :: r, [], i => by
    rw [withoutL, fsum, fsum] <;> (intros; simp_all)
  | e :: r, y :: l, i => by
    rw [withoutL, fsum, fsum, fsum_without w failed r l (i + 1)]
    split <;> rfl
theorem inCap_without (failed : Int) : ∀ (es : List Ed) (l : List Int) (i : Nat), (∀ e, e ∈ es → 0 ≤ e.f2) → inCap (withoutL failed es i) l = true → inCap es l = true
  | [], l, _, _, _ => by simp [inCap]
  | e :: r, [], i, _, _ => by simp [inCap]
  | e :: r, y :: l, i, hg, h => by
    rw [withoutL, inCap, Bool.and_eq_true, Bool.and_eq_true, decide_eq_true_eq, decide_eq_true_eq] at h
    have he := hg e List.mem_cons_self
    have ih := inCap_without failed r l (i + 1) (fun x hx => hg x (List.mem_cons_of_mem _ hx)) h.2
    have h1 : y ≤ e.f2 := by
      have := h.1.2
      split at this
      · have e0 : y ≤ 0 := this
        omega
      · exact this
    rw [inCap, ih, decide_eq_true h.1.1, decide_eq_true h1]; rfl
/-- A flow of what is left is one of the whole. -/
theorem isFlow_without {n s t : Nat} {es : List Ed} {l : List Int} (failed : Int) (hg : ∀ e, e ∈ es → 0 ≤ e.f2) (h : isFlow n s t (withoutL failed es 0) l = true) : isFlow n s t es l = true ∧ fsum (dlt s) es l = fsum (dlt s) (withoutL failed es 0) l := by
  refine ⟨?_, (fsum_without _ failed es l 0).symm⟩
  unfold isFlow isAm at h ⊢
  rw [Bool.and_eq_true, Bool.and_eq_true, Bool.and_eq_true, decide_eq_true_eq, decide_eq_true_eq, withoutL_length] at h
  obtain ⟨⟨⟨h1, h2⟩, h3⟩, h4⟩ := h
  rw [fsum_without] at h3
  rw [allF_congr s t n (fun x _ => fsum_without (dlt x) failed es l 0) n 0 (by omega)] at h4
  rw [decide_eq_true h1, inCap_without failed es l 0 hg h2, decide_eq_true h3, h4]; rfl
theorem bentList_f (l : List Int) (a b c : Int) (ha : I64 a) (hb : I64 b) (hc : I64 c) (hl : l.length ≤ 1000) : ∃ l', dialtoneref27_BentList.f l a b c = some l' := by
  unfold dialtoneref27_BentList.f
  rw [Option.bind_some, if_pos (by simp; omega), Option.bind_some, List.nil_append]
  by_cases h : (l.length : Int) = 0
  · rw [if_pos h]; exact ⟨_, rfl⟩
  · rw [if_neg h]
    obtain ⟨p, e1, p0, p1⟩ := pickr_f c (l.length : Int) hc (by omega)
    obtain ⟨q, e2, q0, q1⟩ := pickr_f a 4 ha (by omega)
    rw [e1, Option.bind_some, e2, Option.bind_some]
    by_cases h0 : q = 0
    · rw [if_pos h0, if_pos p0, if_pos p1]; exact ⟨_, rfl⟩
    · rw [if_neg h0]
      by_cases h1 : q = 1
      · rw [if_pos h1, if_pos p0, if_pos p1]; exact ⟨_, rfl⟩
      · rw [if_neg h1]
        by_cases h2 : q = 2
        · rw [if_pos h2, if_pos p0, if_pos p1]; exact ⟨_, rfl⟩
        · rw [if_neg h2, if_pos (by omega)]; exact ⟨_, rfl⟩
theorem shr_tmod (set : Int) (i : Nat) (h : 0 ≤ set) (hi : i ≤ 64) : (Int.tmod (shr .i64 set (i : Int)) 2 = 1) ↔ hasN set i = true := by
  have hb : IntKind.i64.bits = 64 := rfl
  unfold shr hasN
  rw [hb, Int.toNat_natCast, show min i 64 = i by omega, Int.tmod_eq_emod_of_nonneg (Int.ediv_nonneg h (Int.le_of_lt (pow_pos2 i))), decide_eq_true_eq]
theorem shr_tmod0 (set : Int) (i : Nat) (h : 0 ≤ set) (hi : i ≤ 64) : (Int.tmod (shr .i64 set (i : Int)) 2 = 0) ↔ hasN set i = false := by
  have hb : IntKind.i64.bits = 64 := rfl
  unfold shr hasN
  rw [hb, Int.toNat_natCast, show min i 64 = i by omega, Int.tmod_eq_emod_of_nonneg (Int.ediv_nonneg h (Int.le_of_lt (pow_pos2 i))), decide_eq_false_iff_not]
  omega
end Go.Proofs.Ytkkakdpncogpkaa.D
end
section
/- Sets of nodes as numbers, and nets with the same cuts. Conditions: none. -/
namespace Go.Proofs.Ytkkakdpncogpkaa.D
open Go.RowKit Go.Proofs.YtkkakdpncogpkaaW.PrintWords Go.Proofs.YtkkakdpncogpkaaW.PrintLast Go.Proofs.YtkkakdpncogpkaaW.PrintMore
set_option linter.unusedVariables false
theorem hasN_bit (N x : Nat) : hasN (N : Int) (x : Int) = N.testBit x := by
  unfold hasN
  rw [Int.toNat_natCast, Nat.testBit_eq_decide_div_mod_eq]
  have e : ((N : Int) / 2 ^ x % 2) = ((N / 2 ^ x % 2 : Nat) : Int) := by simp
  rw [e]
  by_cases h : N / 2 ^ x % 2 = 1
  · rw [h]; rfl
  · rw [decide_eq_false h]
    exact decide_eq_false (by omega)
/-- Two sets of n nodes with the same nodes are one. -/
theorem set_ext (n : Nat) (a b : Int) (ha : 0 ≤ a ∧ a ≤ 2 ^ n - 1) (hb : 0 ≤ b ∧ b ≤ 2 ^ n - 1) (h : ∀ x, x < n → hasN a (x : Int) = hasN b (x : Int)) : a = b := by
  obtain ⟨A, rfl⟩ := Int.eq_ofNat_of_zero_le ha.1
  obtain ⟨B, rfl⟩ := Int.eq_ofNat_of_zero_le hb.1
  have e : ((2 ^ n : Nat) : Int) = (2 : Int) ^ n := by simp
  have hA : A < 2 ^ n := by have h := ha.2; rw [← e] at h; omega
  have hB : B < 2 ^ n := by have h := hb.2; rw [← e] at h; omega
  congr 1
  refine Nat.eq_of_testBit_eq (fun i => ?_)
  by_cases hi : i < n
  · have := h i hi
    rwa [hasN_bit, hasN_bit] at this
  · rw [Nat.testBit_lt_two_pow (Nat.lt_of_lt_of_le hA (Nat.pow_le_pow_right (by decide) (by omega))), Nat.testBit_lt_two_pow (Nat.lt_of_lt_of_le hB (Nat.pow_le_pow_right (by decide) (by omega)))]
/-- Nets with the same cuts have the same value and the same least cut. -/
theorem MaxIs.same {n s t : Nat} {es es' : List Ed} {l l' : List Int} {cut cut' v v' : Int} (h : MaxIs n s t es l cut v) (h' : MaxIs n s t es' l' cut' v') (hc : ∀ set, isCut n s t set → capL es set = capL es' set) : v = v' ∧ cut = cut' := by
  have hv : v = v' := by
    have h1 := h.le cut' h'.isc
    have h2 := h'.le cut h.isc
    rw [hc cut' h'.isc, h'.cap] at h1
    rw [← hc cut h.isc, h.cap] at h2
    omega
  refine ⟨hv, set_ext n cut cut' ⟨h.isc.1, h.isc.2.1⟩ ⟨h'.isc.1, h'.isc.2.1⟩ (fun x hx => ?_)⟩
  cases e1 : hasN cut (x : Int) with
  | true =>
    have := h.least cut' h'.isc (by rw [hc cut' h'.isc, h'.cap, hv]) x hx e1
    rw [this]
  | false =>
    cases e2 : hasN cut' (x : Int) with
    | false => rfl
    | true =>
      have := h'.least cut h.isc (by rw [← hc cut h.isc, h.cap, hv]) x hx e2
      rw [e1] at this; cases this
/-- The nodes of a set that another one holds. -/
theorem and_sub (n : Nat) (hn : n ≤ 12) (a b : Int) (ha : 0 ≤ a ∧ a ≤ 2 ^ n - 1) (hb : 0 ≤ b ∧ b ≤ 2 ^ n - 1) (h : ∀ x, x < n → hasN b (x : Int) = true → hasN a (x : Int) = true) : Go.bits .and .i64 a b = b := by
  obtain ⟨A, rfl⟩ := Int.eq_ofNat_of_zero_le ha.1
  obtain ⟨B, rfl⟩ := Int.eq_ofNat_of_zero_le hb.1
  have e : ((2 ^ n : Nat) : Int) = (2 : Int) ^ n := by simp
  have h12 : 2 ^ n ≤ 2 ^ 12 := Nat.pow_le_pow_right (by decide) hn
  have hA : A < 2 ^ n := by have h := ha.2; rw [← e] at h; omega
  have hB : B < 2 ^ n := by have h := hb.2; rw [← e] at h; omega
  have k1 : (BitVec.ofInt 64 (A : Int)).toNat = A := by
    rw [BitVec.ofInt_natCast, BitVec.toNat_ofNat]; exact Nat.mod_eq_of_lt (by omega)
  have k2 : (BitVec.ofInt 64 (B : Int)).toNat = B := by
    rw [BitVec.ofInt_natCast, BitVec.toNat_ofNat]; exact Nat.mod_eq_of_lt (by omega)
  show IntKind.i64.wrap ((BitVec.ofInt 64 (A : Int) &&& BitVec.ofInt 64 (B : Int)).toNat : Int) = _
  rw [BitVec.toNat_and, k1, k2, i64_w]
  have hab : A &&& B = B := by
    refine Nat.eq_of_testBit_eq (fun i => ?_)
    rw [Nat.testBit_and]
    by_cases hi : i < n
    · have := h i hi
      rw [hasN_bit, hasN_bit] at this
      cases hb : B.testBit i with
      | false => simp
      | true => rw [this hb]; rfl
    · rw [Nat.testBit_lt_two_pow (x := B) (Nat.lt_of_lt_of_le hB (Nat.pow_le_pow_right (by decide) (by omega)))]; simp
  rw [hab]
  exact wrap64_small (by omega) (by omega)
theorem capL_append (a b : List Ed) (set : Int) : capL (a ++ b) set = capL a set + capL b set := by
  unfold capL; rw [List.filter_append, sumCap_append]
theorem MaxIs.bound {n s t : Nat} {es : List Ed} {l : List Int} {cut v : Int} (hp : pairB n es s t = true) (h : MaxIs n s t es l cut v) : v ≤ 400000 := by
  have hq := pairB_iff.mp hp
  have hv := validB_iff.mp hq.1
  have hg := goodL_of hq.1
  have a := (esum_wS_le (setOf cut) es hg).2
  have b := (esum_le es hg).2
  have c := h.cap
  rw [← esum_cap _ _ hg] at c
  rw [c] at a
  omega
end Go.Proofs.Ytkkakdpncogpkaa.D
end
section
/- What flow.Meet returns: amounts that meet the supplies, or a set that refutes them. Conditions: none. -/
namespace Go.Proofs.Ytkkakdpncogpkaa.D
open Go.RowKit Go.Proofs.YtkkakdpncogpkaaW.PrintWords Go.Proofs.YtkkakdpncogpkaaW.PrintLast Go.Proofs.YtkkakdpncogpkaaW.PrintMore
set_option linter.unusedVariables false

/-- What the supplies add to a weighted sum of the matrix. -/
def supW (w : Nat → Nat → Int) : List Int → Nat → Int
  | [], _ => 0
  | x :: r, i => (if 0 < x then w 12 i * x else w i 13 * (-x)) + supW w r (i + 1)
theorem supM_wsum : ∀ (l : List Int) (i : Nat) (m : List Int), m.length = 196 → i + l.length ≤ 12 → (∀ j, i ≤ j → j < 12 → mN m 12 j = 0 ∧ mN m j 13 = 0) → ∀ w, wsum w (supM l i m) = wsum w m + supW w l i
  | [], i, m, _, _, _, w => by simp [supM, supW]
  | x :: r, i, m, hl, hi, hz, w => by
    have hi12 : i < 12 := by simp only [List.length_cons] at hi; omega
    obtain ⟨z1, z2⟩ := hz i (Nat.le_refl _) hi12
    have hr : i + 1 + r.length ≤ 12 := by simp only [List.length_cons] at hi; omega
    rw [supM, supW]
    by_cases hx : 0 < x
    · rw [if_pos hx, if_pos hx]
      have e12 : mSet m 12 (i : Int) x = mSet m ((12 : Nat) : Int) (i : Int) x := rfl
      rw [e12, supM_wsum r (i + 1) _ (by rw [mSet_length, hl]) hr (fun j hj hj12 => ?_) w, wsum_set w m hl 12 i x (by omega) (by omega), z1, Int.sub_zero]
      · omega
      · obtain ⟨a, b⟩ := hz j (by omega) hj12
        rw [mN_set m hl 12 i x (by omega) (by omega) 12 j (by omega), mN_set m hl 12 i x (by omega) (by omega) j 13 (by omega), if_neg (by omega), if_neg (by omega)]
        exact ⟨a, b⟩
    · rw [if_neg hx, if_neg hx]
      have e13 : mSet m (i : Int) 13 (-x) = mSet m (i : Int) ((13 : Nat) : Int) (-x) := rfl
      rw [e13, supM_wsum r (i + 1) _ (by rw [mSet_length, hl]) hr (fun j hj hj12 => ?_) w, wsum_set w m hl i 13 (-x) (by omega) (by omega), z2, Int.sub_zero]
      · omega
      · obtain ⟨a, b⟩ := hz j (by omega) hj12
        rw [mN_set m hl i 13 (-x) (by omega) (by omega) 12 j (by omega), mN_set m hl i 13 (-x) (by omega) (by omega) j 13 (by omega), if_neg (by omega), if_neg (by omega)]
        exact ⟨a, b⟩
/-- The sum of the supplies of a set. -/
def setSum (S : Nat → Bool) : List Int → Nat → Int
  | [], _ => 0
  | x :: r, i => (if S i = true then x else 0) + setSum S r (i + 1)
theorem setSum_all (S : Nat → Bool) : ∀ (l : List Int) (i : Nat), (∀ j, i ≤ j → j < i + l.length → S j = true) → setSum S l i = sumL l
  | [], _, _ => rfl
  | x :: r, i, h => by
    rw [setSum, sumL, if_pos (h i (Nat.le_refl _) (by simp)), setSum_all S r (i + 1) (fun j a b => h j (by omega) (by simp only [List.length_cons]; omega))]
theorem setSum_none (S : Nat → Bool) : ∀ (l : List Int) (i : Nat), (∀ j, i ≤ j → j < i + l.length → S j = false) → setSum S l i = 0
  | [], _, _ => rfl
  | x :: r, i, h => by
    rw [setSum, if_neg (by rw [h i (Nat.le_refl _) (by simp)]; simp), setSum_none S r (i + 1) (fun j a b => h j (by omega) (by simp only [List.length_cons]; omega))]; rfl
theorem setSum_congr (S T : Nat → Bool) : ∀ (l : List Int) (i : Nat), (∀ j, i ≤ j → j < i + l.length → S j = T j) → setSum S l i = setSum T l i
  | [], _, _ => rfl
  | x :: r, i, h => by
    rw [setSum, setSum, h i (Nat.le_refl _) (by simp), setSum_congr S T r (i + 1) (fun j a b => h j (by omega) (by simp only [List.length_cons]; omega))]
theorem supW_wS (S : Nat → Bool) (h12 : S 12 = true) (h13 : S 13 = false) : ∀ (l : List Int) (i : Nat), supW (wS S) l i = posSum l - setSum S l i
  | [], _ => rfl
  | x :: r, i => by
    have ih := supW_wS S h12 h13 r (i + 1)
    have e1 : wS S 12 i = if S i = true then 0 else 1 := by unfold wS; rw [if_pos h12]
    have e2 : wS S i 13 = if S i = true then 1 else 0 := by unfold wS; rw [h13]; simp
    rw [supW, posSum, setSum, ih, e1, e2]
    by_cases hx : 0 < x <;> by_cases hs : S i = true <;> simp only [hx, hs, if_true, if_false, Bool.false_eq_true] <;> omega
theorem supW_at (w : Nat → Nat → Int) (c : Int) (x : Nat) (h : ∀ i, i < 12 → w 12 i = (if i = x then c else 0) ∧ w i 13 = (if i = x then -c else 0)) : ∀ (l : List Int) (i : Nat), i + l.length ≤ 12 → supW w l i = c * (if i ≤ x then l.getD (x - i) 0 else 0)
  | [], i, _ => by simp [supW]
  | y :: r, i, hi => by
    have hi12 : i < 12 := by simp only [List.length_cons] at hi; omega
    obtain ⟨h1, h2⟩ := h i hi12
    rw [supW, h1, h2, supW_at w c x h r (i + 1) (by simp only [List.length_cons] at hi; omega)]
    by_cases e : i = x
    · subst e
      rw [if_pos rfl, if_pos rfl, if_neg (show ¬ i + 1 ≤ i by omega), if_pos (Nat.le_refl i), Nat.sub_self, List.getD_cons_zero]
      split <;> grind
    · rw [if_neg e, if_neg e]
      by_cases h3 : i ≤ x
      · rw [if_pos h3, if_pos (show i + 1 ≤ x by omega), show x - i = (x - (i + 1)) + 1 by omega, List.getD_cons_succ]
        split <;> simp
      · rw [if_neg h3, if_neg (show ¬ i + 1 ≤ x by omega)]
        split <;> simp
theorem supW_far (w : Nat → Nat → Int) : ∀ (l : List Int) (i : Nat), (∀ j, i ≤ j → j < i + l.length → w 12 j = 0 ∧ w j 13 = 0) → supW w l i = 0
  | [], _, _ => rfl
  | x :: r, i, h => by
    obtain ⟨h1, h2⟩ := h i (Nat.le_refl _) (by simp)
    rw [supW, h1, h2, supW_far w r (i + 1) (fun j a b => h j (by omega) (by simp only [List.length_cons]; omega))]
    split <;> simp
theorem supW_ind (a b : Nat) : ∀ (l : List Int) (i : Nat), i + l.length ≤ 12 → (∀ x, x ∈ l → -100000 ≤ x ∧ x ≤ 100000) → 0 ≤ supW (ind a b) l i ∧ supW (ind a b) l i ≤ 100000
  | [], _, _, _ => ⟨Int.le_refl _, by simp only [supW]; omega⟩
  | x :: r, i, hi, hx => by
    simp only [List.length_cons] at hi
    have hb := hx x List.mem_cons_self
    have ih := supW_ind a b r (i + 1) (by omega) (fun y hy => hx y (List.mem_cons_of_mem _ hy))
    rw [supW]
    by_cases h1 : (12 = a ∧ i = b) ∨ (i = a ∧ 13 = b)
    · rw [supW_far (ind a b) r (i + 1) (fun j hj hj2 => by unfold ind; rw [if_neg (by omega), if_neg (by omega)]; exact ⟨rfl, rfl⟩)]
      have e1 : ind a b 12 i = 0 ∨ ind a b 12 i = 1 := by unfold ind; split <;> simp
      have e2 : ind a b i 13 = 0 ∨ ind a b i 13 = 1 := by unfold ind; split <;> simp
      split <;> rcases e1 with e1 | e1 <;> rcases e2 with e2 | e2 <;> (try rw [e1]) <;> (try rw [e2]) <;> omega
    · have e1 : ind a b 12 i = 0 := by unfold ind; rw [if_neg (by omega)]
      have e2 : ind a b i 13 = 0 := by unfold ind; rw [if_neg (by omega)]
      rw [e1, e2]
      split <;> omega
theorem wsum_add (v w : Nat → Nat → Int) (m : List Int) : wsum (fun a b => v a b + w a b) m = wsum v m + wsum w m := by
  unfold wsum
  rw [← dsum_add]
  exact dsum_congr (fun a b _ _ => by grind)
theorem wsum_sub (v w : Nat → Nat → Int) (m : List Int) : wsum (fun a b => v a b - w a b) m = wsum v m - wsum w m := by
  unfold wsum
  rw [← dsum_sub]
  exact dsum_congr (fun a b _ _ => by grind)
/-- Used amounts, where opposite ones cancel out, as far as a weight sees. -/
theorem used_anti' (c m : List Int) (hc : c.length = 196) (hm : m.length = 196) (hcb : ∀ a b, a < 14 → b < 14 → 0 ≤ mN c a b ∧ mN c a b ≤ 1000000) (hmb : ∀ a b, a < 14 → b < 14 → 0 ≤ mN m a b ∧ mN m a b ≤ 1000000)
    (w : Nat → Nat → Int) (hw : ∀ a b, w b a = - w a b) (hpair : ∀ a b, a < 14 → b < 14 → w a b ≠ 0 → mN m a b + mN m b a = mN c a b + mN c b a) : 2 * wsum w (usedL c m) = wsum w c - wsum w m := by
  have e : ∀ a b, a < 14 → b < 14 → mN (usedL c m) a b = if mN c a b - mN m a b < 0 then 0 else mN c a b - mN m a b := fun a b ha hb => by
    have h1 := hcb a b ha hb
    have h2 := hmb a b ha hb
    rw [mN_used c m hc hm a b ha hb, wrap64_small (x := mN c a b - mN m a b) (by omega) (by omega)]
  have h1 : wsum w (usedL c m) = dsum (fun a b => w b a * mN (usedL c m) b a) := (dsum_swap (fun a b => w a b * mN (usedL c m) a b)).symm
  have h2 : wsum w (usedL c m) + wsum w (usedL c m) = dsum (fun a b => w a b * mN (usedL c m) a b + w b a * mN (usedL c m) b a) := by
    rw [dsum_add, ← h1]; rfl
  have h3 : dsum (fun a b => w a b * mN (usedL c m) a b + w b a * mN (usedL c m) b a) = dsum (fun a b => w a b * mN c a b - w a b * mN m a b) := dsum_congr (fun a b ha hb => by
    rw [hw a b, e a b ha hb, e b a hb ha]
    by_cases h0 : w a b = 0
    · rw [h0]; simp
    · have hp := hpair a b ha hb h0
      have : (if mN c a b - mN m a b < 0 then 0 else mN c a b - mN m a b) - (if mN c b a - mN m b a < 0 then 0 else mN c b a - mN m b a) = mN c a b - mN m a b := by
        split <;> split <;> omega
      grind)
  have h4 : dsum (fun a b => w a b * mN c a b - w a b * mN m a b) = wsum w c - wsum w m := dsum_sub _ _
  omega
theorem fsum_congr12 (v w : Nat → Nat → Int) (h : ∀ a b, a < 12 → b < 12 → v a b = w a b) : ∀ (es : List Ed) (l : List Int), goodL es → fsum v es l = fsum w es l
  | [], l, _ => rfl
  | e :: r, [], _ => rfl
  | e :: r, y :: l, hg => by
    obtain ⟨⟨x0, x1⟩, ⟨y0, y1⟩, _, _⟩ := hg e List.mem_cons_self
    rw [fsum, fsum, h _ _ (by omega) (by omega), fsum_congr12 v w h r l (fun x hx => hg x (List.mem_cons_of_mem _ hx))]
theorem esum_const0 (w : Nat → Nat → Int) (h : ∀ a b, a < 12 → b < 12 → w a b = 0) : ∀ (es : List Ed), goodL es → esum w es = 0
  | [], _ => rfl
  | e :: r, hg => by
    obtain ⟨⟨x0, x1⟩, ⟨y0, y1⟩, _, _⟩ := hg e List.mem_cons_self
    rw [esum, h _ _ (by omega) (by omega), esum_const0 w h r (fun x hx => hg x (List.mem_cons_of_mem _ hx))]; omega
/-- The weight of a node, without the two nodes that supply and need. -/
def dl2 (x a b : Nat) : Int := if a < 12 ∧ b < 12 then dlt x a b else 0
theorem dlt_split (x a b : Nat) (hx : x < 12) (ha : a < 14) (hb : b < 14) : dlt x a b = dl2 x a b + ((ind x 12 a b - ind 12 x a b) + (ind x 13 a b - ind 13 x a b)) := by
  unfold dl2 dlt ind
  grind
theorem wsum_dl2 (m : List Int) (x : Nat) (hx : x < 12) : wsum (dlt x) m = wsum (dl2 x) m + ((mN m x 12 - mN m 12 x) + (mN m x 13 - mN m 13 x)) := by
  rw [wsum_congr m (fun a b ha hb => dlt_split x a b hx ha hb), wsum_add, wsum_add, wsum_sub, wsum_sub, wsum_ind m x 12 (by omega) (by omega), wsum_ind m 12 x (by omega) (by omega), wsum_ind m x 13 (by omega) (by omega), wsum_ind m 13 x (by omega) (by omega)]
/-- Amounts meet supplies. -/
def meets (n : Nat) (es : List Ed) (l am : List Int) : Prop := isAm es am = true ∧ ∀ x, x < n → fsum (dlt x) es am = l.getD x 0
theorem hasN_mod (rr : Int) (h0 : 0 ≤ rr) (n x : Nat) (hx : x < n) : hasN (rr % 2 ^ n) (x : Int) = hasN rr (x : Int) := by
  obtain ⟨R, rfl⟩ := Int.eq_ofNat_of_zero_le h0
  have e : ((R : Int) % 2 ^ n) = ((R % 2 ^ n : Nat) : Int) := by simp
  rw [e, hasN_bit, hasN_bit, Nat.testBit_mod_two_pow, decide_eq_true hx, Bool.true_and]
theorem capL_congr (a b : Int) : ∀ (es : List Ed), (∀ e, e ∈ es → hasN a e.f0 = hasN b e.f0 ∧ hasN a e.f1 = hasN b e.f1) → capL es a = capL es b
  | [], _ => rfl
  | e :: r, h => by
    have ih := capL_congr a b r (fun x hx => h x (List.mem_cons_of_mem _ hx))
    obtain ⟨h1, h2⟩ := h e List.mem_cons_self
    unfold capL at ih ⊢
    rw [List.filter_cons, List.filter_cons]
    have hl : leavesE a e = leavesE b e := by unfold leavesE; rw [h1, h2]
    rw [hl]
    split
    · rw [sumCap, sumCap, ih]
    · exact ih
/-- No set refutes supplies that amounts meet. -/
theorem meets_le {n : Nat} {es : List Ed} {l am : List Int} (hv : validB n es = true) (hl : l.length = n) (h : meets n es l am) (set : Int) : setSum (setOf set) l 0 ≤ capL es set := by
  have hg := goodL_of hv
  have hq := validB_iff.mp hv
  have ham := h.1
  unfold isAm at ham
  rw [Bool.and_eq_true] at ham
  have h1 := fsum_sumN (chi (setOf set)) es am hg
  have h2 := fsum_wS_le (setOf set) es am hg ham.2
  rw [esum_cap set es hg, h1] at h2
  have h3 : ∀ (d i : Nat) (l' : List Int), i + d = 14 → l'.length + i = n → (∀ x, i ≤ x → x < n → l'.getD (x - i) 0 = l.getD x 0) → sumN (fun x => chi (setOf set) x * fsum (dlt x) es am) 14 = sumN (fun x => chi (setOf set) x * fsum (dlt x) es am) i + setSum (setOf set) l' i := by
    intro d
    induction d with
    | zero => intro i l' hi hl' _; omega
    | succ d ih =>
      intro i l' hi hl' hget
      cases l' with
      | nil =>
        have hin : i = n := by simpa using hl'
        have hz : ∀ (d j : Nat), i ≤ j → j + d = 14 → sumN (fun x => chi (setOf set) x * fsum (dlt x) es am) 14 = sumN (fun x => chi (setOf set) x * fsum (dlt x) es am) j := by
          intro d
          induction d with
          | zero => intro j _ hj; rw [show j = 14 by omega]
          | succ d ih2 =>
            intro j hij hj
            rw [ih2 (j + 1) (by omega) (by omega), sumN, fsum_out n j (by omega) es am (fun e he => by obtain ⟨a, b, _, _⟩ := hq.2.2 e he; exact ⟨a, b⟩)]
            omega
        rw [hz (d + 1) i (Nat.le_refl _) hi, setSum]; omega
      | cons y r =>
        simp only [List.length_cons] at hl'
        rw [ih (i + 1) r (by omega) (by omega) (fun x hx hxn => by
          have := hget x (by omega) hxn
          rw [show x - i = (x - (i + 1)) + 1 by omega, List.getD_cons_succ] at this
          exact this), sumN, setSum]
        have hy := hget i (Nat.le_refl _) (by omega)
        rw [Nat.sub_self, List.getD_cons_zero] at hy
        rw [h.2 i (by omega), ← hy]
        unfold chi
        split <;> omega
  have := h3 14 0 l rfl (by omega) (fun x _ _ => by simp)
  rw [this, sumN] at h2
  omega
theorem meet_is (n : Nat) (es : List Ed) (l : List Int) (hs : supplyB n es l = true) :
    (∃ am, flow_Meet.f n es l = some (true, am, 0, 0) ∧ meets n es l am) ∨ (∃ set, flow_Meet.f n es l = some (false, [], set, 0) ∧ 0 ≤ set ∧ set ≤ 2 ^ n - 1 ∧ capL es set < setSum (setOf set) l 0) := by
  obtain ⟨hv, hln, hlb, hsum⟩ := supply_at hs
  have hg := goodL_of hv
  have hq := validB_iff.mp hv
  have hn : n ≤ 12 := by omega
  have hlen : l.length = n := by omega
  obtain ⟨o1, o2, o3⟩ := open_facts es hg hq.2.1
  have hml := openM_length es
  have hCl : (supM l 0 (openM es)).length = 196 := by rw [supM_length, hml]
  have hC : ∀ w, wsum w (supM l 0 (openM es)) = wsum w (openM es) + supW w l 0 := fun w => supM_wsum l 0 (openM es) hml (by omega) (fun j _ hj => ⟨o3 12 j (by omega) (by omega) (.inl (by omega)), o3 j 13 (by omega) (by omega) (.inr (by omega))⟩) w
  generalize hCdef : supM l 0 (openM es) = C at hCl hC
  have hCat : ∀ a b, a < 14 → b < 14 → mN C a b = mN (openM es) a b + supW (ind a b) l 0 := fun a b ha hb => by rw [← wsum_ind C a b ha hb, hC, wsum_ind _ a b ha hb]
  have hCb : ∀ a b, a < 14 → b < 14 → 0 ≤ mN C a b ∧ mN C a b ≤ 500000 := fun a b ha hb => by
    rw [hCat a b ha hb]
    have h1 := o2 a b ha hb
    have h2 := supW_ind a b l 0 (by omega) hlb
    omega
  have hpos : 0 ≤ posSum l ∧ posSum l ≤ 1200000 := by
    have : ∀ r : List Int, (∀ x, x ∈ r → -100000 ≤ x ∧ x ≤ 100000) → 0 ≤ posSum r ∧ posSum r ≤ 100000 * r.length := by
      intro r
      induction r with
      | nil => intro _; simp [posSum]
      | cons y r ih =>
        intro h
        have h1 := ih (fun x hx => h x (List.mem_cons_of_mem _ hx))
        have h2 := h y List.mem_cons_self
        rw [posSum, List.length_cons]
        split <;> omega
    have := this l hlb
    omega
  have hcapS : ∀ S : Nat → Bool, S 12 = true → S 13 = false → wsum (wS S) C = esum (wS S) es + posSum l - setSum S l 0 := fun S h12 h13 => by
    rw [hC, o1, supW_wS S h12 h13]; omega
  have hsrc : wsum (wS (fun x => x == 12)) C = posSum l := by
    rw [hcapS _ rfl rfl, esum_const0 _ (fun a b ha hb => by unfold wS; rw [if_neg (by simp; omega)]) es hg, setSum_none _ l 0 (fun j _ hj => by simp; omega)]; omega
  have hsnk : wsum (wS (fun x => !(x == 13))) C = posSum l := by
    rw [hcapS _ rfl rfl, esum_const0 _ (fun a b ha hb => by unfold wS; rw [if_pos (by simp; omega), if_pos (by simp; omega)]) es hg, setSum_all _ l 0 (fun j _ hj => by simp; omega), hsum]; omega
  obtain ⟨rv, rr, rm, hf, hE⟩ := pushF_ok C 12 13 (by decide) (by decide) (by decide) (fun a b ha hb => by have := hCb a b ha hb; have := hCb b a hb ha; omega) (by omega) 1200001 C 0 (INV.start C 12 13 hCl (fun a b ha hb => (hCb a b ha hb).1)) (Int.le_refl _) (by omega)
  have hI := hE.inv
  obtain ⟨lf, rank, hB, hrr, hlt, hcl⟩ := hE.ends
  have hle := hI.le (fun x => x == 12) rfl rfl
  have hff : flow_Meet.f n es l = if rv < posSum l then some (false, [], rr % 2 ^ n, 0) else some (true, amountsL es rm, 0, 0) := by
    unfold flow_Meet.f
    have hf' : pushF 12 13 1200001 (supM l 0 (openM es)) 0 = some (rv, rr, rm) := by rw [hCdef]; exact hf
    rw [if_pos hs, hf', Option.bind_some]
    rfl
  by_cases hlt2 : rv < posSum l
  · refine .inr ⟨rr % 2 ^ n, ?_, ?_⟩
    · rw [hff, if_pos hlt2]
    · have hp2 := pow_pos2 n
      have hr0 : 0 ≤ rr := by
        obtain ⟨N, h1, _⟩ := reachedL_bits lf 0
        rw [hrr, h1]; exact Int.natCast_nonneg _
      have hhas : ∀ x : Nat, hasN rr (x : Int) = decide (0 < lf.getD x 0) := fun x => by rw [hrr]; exact reached_has lf x
      have h12 : setOf rr 12 = true := by
        unfold setOf
        rw [hhas 12, hB.src]; exact decide_eq_true (by omega)
      have h13 : setOf rr 13 = false := by
        unfold setOf
        rw [hhas 13]; exact decide_eq_false hlt
      have hshut : ∀ a b, a < 14 → b < 14 → setOf rr a = true → setOf rr b = false → mN rm a b = 0 := fun a b ha hb sa sb => by
        unfold setOf at sa sb
        rw [hhas a] at sa
        rw [hhas b] at sb
        exact Classical.byContradiction fun hne => (of_decide_eq_false sb) (hcl a ha (of_decide_eq_true sa) b hb hne)
      have h1 := hI.cut (setOf rr) h12 h13
      rw [wsum_shut hshut, hcapS _ h12 h13, esum_cap rr es hg] at h1
      have e1 : setSum (setOf (rr % 2 ^ n)) l 0 = setSum (setOf rr) l 0 := setSum_congr _ _ l 0 (fun j _ hj => hasN_mod rr hr0 n j (by omega))
      have e2 : capL es (rr % 2 ^ n) = capL es rr := capL_congr _ _ es (fun e he => by
        obtain ⟨⟨a0, a1⟩, ⟨b0, b1⟩, _, _⟩ := hq.2.2 e he
        obtain ⟨i, hi⟩ := Int.eq_ofNat_of_zero_le a0
        obtain ⟨j, hj⟩ := Int.eq_ofNat_of_zero_le b0
        rw [hi, hj]
        exact ⟨hasN_mod rr hr0 n i (by omega), hasN_mod rr hr0 n j (by omega)⟩)
      refine ⟨Int.emod_nonneg _ (by omega), by have := Int.emod_lt_of_pos rr hp2; omega, ?_⟩
      rw [e1, e2]; omega
  · refine .inl ⟨amountsL es rm, by rw [hff, if_neg hlt2], ?_⟩
    have hrv : rv = posSum l := by omega
    have hrmb : ∀ a b, a < 14 → b < 14 → 0 ≤ mN rm a b ∧ mN rm a b ≤ 1000000 := fun a b ha hb => by
      have := hI.pair a b ha hb
      have := hI.nn a b ha hb
      have := hI.nn b a hb ha
      have := hCb a b ha hb
      have := hCb b a hb ha
      omega
    obtain ⟨am1, am2⟩ := amounts_ok es rm 12 13 rv C hg hq.2.1 hI.len hrmb
    refine ⟨am1, fun x hx => ?_⟩
    have hx12 : x < 12 := by omega
    have hz1 : ∀ b, b < 12 → mN rm 12 b = 0 := fun b hb => shut_of hI.nn (S := fun x => x == 12) (by rw [hI.cut _ rfl rfl, hsrc]; omega) 12 b (by omega) (by omega) rfl (by simp; omega)
    have hz2 : ∀ a, a < 12 → mN rm a 13 = 0 := fun a ha => shut_of hI.nn (S := fun x => !(x == 13)) (by rw [hI.cut _ rfl rfl, hsnk]; omega) a 13 (by omega) (by omega) (by simp; omega) rfl
    have hD := hI.pot (dlt x) (fun a => 2 * (if a = x then 1 else 0)) (fun a b _ _ => by unfold dlt; omega)
    rw [if_neg (by omega), if_neg (by omega), hC, supW_at (dlt x) (-1) x (fun i hi => by unfold dlt; constructor <;> (split <;> split <;> omega)) l 0 (by omega), if_pos (Nat.zero_le _), Nat.sub_zero] at hD
    have hsp := wsum_dl2 rm x hx12
    rw [hz1 x hx12, hz2 x hx12] at hsp
    have hso := wsum_dl2 (openM es) x hx12
    rw [o3 x 12 (by omega) (by omega) (.inr (by omega)), o3 12 x (by omega) (by omega) (.inl (by omega)), o3 x 13 (by omega) (by omega) (.inr (by omega)), o3 13 x (by omega) (by omega) (.inl (by omega))] at hso
    have p1 := hI.pair x 12 (by omega) (by omega)
    have p2 := hI.pair x 13 (by omega) (by omega)
    rw [hCat x 12 (by omega) (by omega), hCat 12 x (by omega) (by omega), o3 x 12 (by omega) (by omega) (.inr (by omega)), o3 12 x (by omega) (by omega) (.inl (by omega)), hz1 x hx12] at p1
    rw [hCat x 13 (by omega) (by omega), hCat 13 x (by omega) (by omega), o3 x 13 (by omega) (by omega) (.inr (by omega)), o3 13 x (by omega) (by omega) (.inl (by omega)), hz2 x hx12] at p2
    have q0 : supW (ind x 12) l 0 = 0 := supW_far _ l 0 (fun j _ hj => by unfold ind; rw [if_neg (by omega), if_neg (by omega)]; exact ⟨rfl, rfl⟩)
    have q1 : supW (ind 13 x) l 0 = 0 := supW_far _ l 0 (fun j _ hj => by unfold ind; rw [if_neg (by omega), if_neg (by omega)]; exact ⟨rfl, rfl⟩)
    have q2 : supW (ind 12 x) l 0 - supW (ind x 13) l 0 = l.getD x 0 := by
      have : ∀ (r : List Int) (i : Nat), i + r.length ≤ 12 → supW (ind 12 x) r i - supW (ind x 13) r i = supW (fun a b => ind 12 x a b - ind x 13 a b) r i := by
        intro r
        induction r with
        | nil => intro i _; rfl
        | cons y r ih =>
          intro i hi
          simp only [List.length_cons] at hi
          rw [supW, supW, supW, ← ih (i + 1) (by omega)]
          split <;> grind
      rw [this l 0 (by omega), supW_at _ 1 x (fun i hi => by unfold ind; constructor <;> (split <;> split <;> omega)) l 0 (by omega), if_pos (Nat.zero_le _), Nat.sub_zero]
      omega
    rw [q0] at p1
    rw [q1] at p2
    have ha := used_anti' (openM es) rm hml hI.len (fun a b ha hb => by have := o2 a b ha hb; omega) hrmb (dl2 x) (fun a b => by unfold dl2 dlt; grind) (fun a b ha hb hw => by
      have hab : a < 12 ∧ b < 12 := by
        refine Classical.byContradiction fun h => hw ?_
        unfold dl2; rw [if_neg h]
      have hp := hI.pair a b ha hb
      rw [hCat a b ha hb, hCat b a hb ha, supW_far (ind a b) l 0 (fun j _ hj => by unfold ind; rw [if_neg (by omega), if_neg (by omega)]; exact ⟨rfl, rfl⟩), supW_far (ind b a) l 0 (fun j _ hj => by unfold ind; rw [if_neg (by omega), if_neg (by omega)]; exact ⟨rfl, rfl⟩)] at hp
      omega)
    rw [fsum_congr12 (dlt x) (dl2 x) (fun a b ha hb => by unfold dl2; rw [if_pos ⟨ha, hb⟩]) es _ hg, am2 (dl2 x)]
    omega
end Go.Proofs.Ytkkakdpncogpkaa.D
end
section
/- What flow.CheckMeet accepts. Conditions: none. -/
namespace Go.Proofs.Ytkkakdpncogpkaa.D
open Go.RowKit Go.Proofs.YtkkakdpncogpkaaW.PrintWords Go.Proofs.YtkkakdpncogpkaaW.PrintLast Go.Proofs.YtkkakdpncogpkaaW.PrintMore
set_option linter.unusedVariables false

theorem isSupply_k (n : Int) (es : List Ed) (l : List Int) (k : Nat) (hk : 14 ≤ k) : flow_isSupply.f k n es l = some (supplyB n es l) :=
  at_rounds (g := fun k => flow_isSupply.f k n es l) (fun k => flow_isSupply.mono _ _ _ k) hk (isSupply_f n es l)
theorem equal_l0 (a b : List Int) (hl : a.length = b.length) (hm : a.length ≤ 1000) : ∀ (d i k : Nat), i + d = a.length → d < k →
    ∃ r, slices_Equal_int_int.l0 k a b (a.length : Int) (i : Int) = some r ∧ (r = true ↔ ∀ x, i ≤ x → x < a.length → a.getD x 0 = b.getD x 0)
  | 0, i, k + 1, hi, hk => by
    rw [slices_Equal_int_int.l0, if_neg (by omega)]
    exact ⟨true, rfl, fun _ x h1 h2 => by omega, fun _ => rfl⟩
  | d + 1, i, k + 1, hi, hk => by
    rw [slices_Equal_int_int.l0, if_pos (by omega), if_pos (by omega), if_pos (by omega), if_pos (by omega), rd_nat0, rd_nat0]
    by_cases h : a.getD i 0 = b.getD i 0
    · rw [if_pos h, wrap64_small (x := (i : Int) + 1) (by omega) (by omega), show ((i : Int) + 1) = ((i + 1 : Nat) : Int) by omega]
      obtain ⟨r, e, hr⟩ := equal_l0 a b hl hm d (i + 1) k (by omega) (by omega)
      refine ⟨r, e, hr.trans ⟨fun H x hx hxl => ?_, fun H x hx hxl => H x (by omega) hxl⟩⟩
      by_cases e2 : x = i
      · rw [e2]; exact h
      · exact H x (by omega) hxl
    · rw [if_neg h]
      exact ⟨false, rfl, fun h2 => (by cases h2), fun H => absurd (H i (Nat.le_refl _) (by omega)) h⟩
theorem equal_f (a b : List Int) (hm : a.length ≤ 1000) (k : Nat) (hk : 1001 < k ∨ a.length < k) : ∃ r, slices_Equal_int_int.f k a b = some r ∧ (r = true ↔ a.length = b.length ∧ ∀ x, x < a.length → a.getD x 0 = b.getD x 0) := by
  unfold slices_Equal_int_int.f
  by_cases hl : a.length = b.length
  · rw [if_pos (by omega)]
    obtain ⟨r, e, hr⟩ := equal_l0 a b hl hm a.length 0 k (by omega) (by omega)
    exact ⟨r, e, hr.trans ⟨fun H => ⟨hl, fun x hx => H x (Nat.zero_le _) hx⟩, fun H x _ hx => H.2 x hx⟩⟩
  · rw [if_neg (by omega)]
    exact ⟨false, rfl, fun h2 => (by cases h2), fun H => absurd H.1 hl⟩
theorem meet_l0 (n : Nat) (es : List Ed) (l : List Int) (met : Bool) (am : List Int) (set : Int) (h0 : 0 ≤ set) (h1 : set < 9223372036854775808) (hv : validB n es = true) (hl : l.length ≤ 12) (hb : ∀ x, x ∈ l → -100000 ≤ x ∧ x ≤ 100000) :
    ∀ (d i k : Nat) (s : Int), i + d = l.length → d < k → -100000 * (i : Int) ≤ s ∧ s ≤ 100000 * (i : Int) →
      flow_CheckMeet.l0 k s l (l.length : Int) (i : Int) (n : Int) es met am set = some (decide (s + setSum (setOf set) (l.drop i) i > capL es set))
  | 0, i, k + 1, s, hi, hk, hs => by
    rw [flow_CheckMeet.l0, if_neg (by omega)]
    unfold flow_capacity.f
    rw [if_pos (by rw [hv]; simp [h0, h1]), Option.bind_some, List.drop_of_length_le (by omega), setSum, Int.add_zero]
  | d + 1, i, k + 1, s, hi, hk, hs => by
    have hlt : i < l.length := by omega
    have hd : l.drop i = l[i] :: l.drop (i + 1) := List.drop_eq_getElem_cons hlt
    have hr : rd l (i : Int) = l[i] := by rw [rd_nat0]; simp [List.getD, hlt]
    have hx := hb l[i] (List.getElem_mem hlt)
    rw [flow_CheckMeet.l0, if_pos (by omega), if_pos (by omega), if_pos (by omega), hr, hd, setSum]
    generalize l[i] = x at *
    rw [wrap64_small (x := (i : Int) + 1) (by omega) (by omega), show ((i : Int) + 1) = ((i + 1 : Nat) : Int) by omega]
    by_cases h : hasN set (i : Int) = true
    · rw [if_pos ((shr_has set i h0 h1 (by omega)).mpr h), wrap64_small (x := s + x) (by omega) (by omega), meet_l0 n es l met am set h0 h1 hv hl hb d (i + 1) k (s + x) (by omega) (by omega) (by constructor <;> omega), if_pos (show setOf set i = true from h), Int.add_assoc]
    · rw [if_neg (fun hh => h ((shr_has set i h0 h1 (by omega)).mp hh)), meet_l0 n es l met am set h0 h1 hv hl hb d (i + 1) k s (by omega) (by omega) (by constructor <;> omega), if_neg (show ¬ setOf set i = true from h), Int.zero_add]
/-- An answer about supplies is right. -/
def meetOK (n : Nat) (es : List Ed) (l : List Int) (met : Bool) (am : List Int) (set : Int) : Prop :=
  if met = true then set = 0 ∧ meets n es l am else am = [] ∧ 0 ≤ set ∧ set ≤ 2 ^ n - 1 ∧ capL es set < setSum (setOf set) l 0
theorem checkMeet_f (n : Nat) (es : List Ed) (l : List Int) (met : Bool) (am : List Int) (set : Int) (k : Nat) (hk : 50 ≤ k) :
    ∃ r, flow_CheckMeet.f k n es l met am set = some r ∧ (r = true ↔ supplyB n es l = true ∧ meetOK n es l met am set) := by
  obtain ⟨k, rfl⟩ : ∃ j, k = j + 1 := ⟨k - 1, by omega⟩
  unfold flow_CheckMeet.f
  rw [isSupply_k n es l (k + 1) (by omega), Option.bind_some]
  by_cases hs : supplyB n es l = true
  · rw [if_pos hs]
    obtain ⟨hv, hln, hlb, hsum⟩ := supply_at hs
    have hq := validB_iff.mp hv
    have hn : n ≤ 12 := by omega
    have hlen : l.length = n := by omega
    unfold meetOK
    cases met with
    | true =>
      rw [if_pos rfl, if_pos rfl]
      obtain ⟨g1, g2⟩ := given_f n es am hv (k + 1) (by omega)
      cases ha : isAm es am with
      | false =>
        rw [g2 ha, Option.bind_some, if_neg (by simp)]
        exact ⟨false, rfl, fun h => (by cases h), fun h => (by have := h.2.2.1; rw [ha] at this; cases this)⟩
      | true =>
        obtain ⟨res, e1, e2, e3⟩ := g1 ha
        rw [e1, Option.bind_some]
        dsimp only
        rw [if_pos rfl]
        by_cases h0 : set = 0
        · rw [if_pos h0]
          obtain ⟨r, e4, hr⟩ := equal_f res l (by omega) (k + 1) (by omega)
          rw [e4, Option.bind_some]
          refine ⟨r, rfl, hr.trans ⟨fun H => ⟨hs, h0, ha, fun x hx => ?_⟩, fun H => ⟨by omega, fun x hx => ?_⟩⟩⟩
          · rw [← e3 x hx]; exact H.2 x (by omega)
          · rw [e3 x (by omega)]; exact H.2.2.2 x (by omega)
        · rw [if_neg h0]
          exact ⟨false, rfl, fun h => (by cases h), fun h => absurd h.2.1 h0⟩
    | false =>
      rw [if_neg Bool.false_ne_true, if_neg Bool.false_ne_true]
      cases am with
      | cons y r =>
        rw [if_pos (show ((y :: r).length : Int) > 0 by simp only [List.length_cons]; omega), flow_CheckMeet.j0, if_pos rfl]
        exact ⟨false, rfl, fun h => (by cases h), fun h => by have := h.2.1; cases this⟩
      | nil =>
        have hp := pow_pos2 n
        have hpb := pow_bound hn
        have e12 : (2 : Int) ^ 12 = 4096 := rfl
        rw [if_neg (show ¬ ((([] : List Int).length : Int) > 0) by simp), if_pos (show (0 : Int) ≤ n by omega), isIn_f, Option.bind_some, shl_one n (by omega), wrap64_small (by omega) (by omega), flow_CheckMeet.j0]
        by_cases hr : 0 ≤ set ∧ set ≤ 2 ^ n - 1
        · have hd : (decide (0 ≤ set) && decide (set ≤ 2 ^ n - 1)) = true := by simp [hr.1, hr.2]
          rw [hd, if_neg (by simp)]
          have := meet_l0 n es l false [] set hr.1 (by omega) hv (by omega) hlb l.length 0 k 0 (by omega) (by omega) (by constructor <;> decide)
          rw [show (0 : Int) = ((0 : Nat) : Int) from rfl]
          refine ⟨_, this, ?_⟩
          rw [decide_eq_true_eq]
          rw [List.drop_zero]
          constructor
          · intro h; exact ⟨hs, rfl, hr.1, hr.2, by omega⟩
          · intro h; have := h.2.2.2.2; omega
        · have hd : (decide (0 ≤ set) && decide (set ≤ 2 ^ n - 1)) = false := by
            rw [Bool.eq_false_iff]; intro h; simp only [Bool.and_eq_true, decide_eq_true_eq] at h; exact hr h
          rw [hd, if_pos (show (!false) = true from rfl)]
          exact ⟨false, rfl, fun h => (by cases h), fun h => absurd ⟨h.2.2.1, h.2.2.2.1⟩ hr⟩
  · rw [if_neg hs]
    exact ⟨false, rfl, fun h => (by cases h), fun h => absurd h.1 hs⟩
end Go.Proofs.Ytkkakdpncogpkaa.D
end
section
/- Supplies that integers determine, and those of a flow. Conditions: integers are of 64 bits. -/
namespace Go.Proofs.Ytkkakdpncogpkaa.D
open Go.RowKit Go.Proofs.YtkkakdpncogpkaaW.PrintWords Go.Proofs.YtkkakdpncogpkaaW.PrintLast Go.Proofs.YtkkakdpncogpkaaW.PrintMore
set_option linter.unusedVariables false
theorem sane_k (k : Nat) (hk : 64 ≤ k) : dialtonelaw27_sane.f k = some true := at_rounds (g := fun k => dialtonelaw27_sane.f k) (fun k => dialtonelaw27_sane.mono k) hk sane_64
theorem sumL_append : ∀ (a b : List Int), sumL (a ++ b) = sumL a + sumL b
  | [], b => by rw [List.nil_append, sumL, Int.zero_add]
  | x :: r, b => by rw [List.cons_append, sumL, sumL, sumL_append r b]; omega
theorem sumL_one (x : Int) : sumL [x] = x := by rw [sumL, sumL]; omega
theorem sumL_bound (c : Int) : ∀ l : List Int, (∀ x, x ∈ l → -c ≤ x ∧ x ≤ c) → -(c * l.length) ≤ sumL l ∧ sumL l ≤ c * l.length
  | [], _ => by simp [sumL]
  | x :: r, h => by
    have ih := sumL_bound c r (fun y hy => h y (List.mem_cons_of_mem _ hy))
    have hx := h x List.mem_cons_self
    rw [sumL, List.length_cons]
    grind
theorem set_mid (pre : List Int) (d : Nat) (v : Int) (b : List Int) : ((pre ++ List.replicate (d + 1) 0) ++ b).set pre.length v = ((pre ++ [v]) ++ List.replicate d 0) ++ b := by
  rw [List.append_assoc, List.set_append_right _ _ (Nat.le_refl _), Nat.sub_self, List.replicate_succ, List.cons_append, List.set_cons_zero]
  simp
theorem get_mid (pre : List Int) (d : Nat) (b : List Int) : ((pre ++ List.replicate (d + 1) 0) ++ b).getD pre.length 0 = 0 := by
  rw [List.append_assoc]
  simp [List.getD, List.replicate_succ]
theorem get_at (pre : List Int) (v : Int) (b : List Int) : ((pre ++ [v]) ++ b).getD pre.length 0 = v := by
  rw [List.append_assoc]
  simp [List.getD]
theorem supplied_l0 (n : Nat) (es : List Ed) (raw : List Int) (hr : ∀ x, x ∈ raw → I64 x) (hn : 1 ≤ n) (hn2 : n ≤ 12) : ∀ (d k : Nat) (pre : List Int), pre.length + d + 1 = n → d < k → (∀ x, x ∈ pre → -12 ≤ x ∧ x ≤ 12) →
    ∃ pre', pre'.length + 1 = n ∧ (∀ x, x ∈ pre' → -12 ≤ x ∧ x ≤ 12) ∧ dialtoneref27_Supplied.l0 k raw (pre ++ List.replicate (d + 1) 0) (sumL pre) (pre.length : Int) (n : Int) es = some (pre' ++ [-(sumL pre')])
  | 0, k + 1, pre, hl, hk, hb => by
    have hs := sumL_bound 12 pre hb
    rw [dialtoneref27_Supplied.l0, wrap64_small (x := (pre.length : Int) + 1) (by omega) (by omega), if_neg (by omega), if_pos (by omega), wrap64_small (x := (n : Int) - 1) (by omega) (by omega), if_pos (by omega), if_pos (by simp; omega), wrap64_small (x := -(sumL pre)) (by omega) (by omega)]
    refine ⟨pre, hl, hb, ?_⟩
    have e : ((n : Int) - 1).toNat = pre.length := by omega
    have h := set_mid pre 0 (-(sumL pre)) []
    simp only [List.append_nil, List.replicate_zero] at h
    rw [e, h]
  | d + 1, k + 1, pre, hl, hk, hb => by
    have hs := sumL_bound 12 pre hb
    have hlen : (pre ++ List.replicate (d + 1 + 1) (0 : Int)).length = n := by simp; omega
    have key : ∀ v : Int, -12 ≤ v → v ≤ 12 → ∃ pre', pre'.length + 1 = n ∧ (∀ x, x ∈ pre' → -12 ≤ x ∧ x ≤ 12) ∧ dialtoneref27_Supplied.l0 k raw ((pre ++ [v]) ++ List.replicate (d + 1) 0) (sumL pre + v) ((pre.length : Int) + 1) (n : Int) es = some (pre' ++ [-(sumL pre')]) := fun v v0 v1 => by
      obtain ⟨p, a, b, c⟩ := supplied_l0 n es raw hr hn hn2 d k (pre ++ [v]) (by simp; omega) (by omega) (fun x hx => by
        rcases List.mem_append.mp hx with hx | hx
        · exact hb x hx
        · rw [List.mem_singleton.mp hx]; exact ⟨v0, v1⟩)
      rw [sumL_append, sumL_one] at c
      refine ⟨p, a, b, ?_⟩
      have e : (((pre ++ [v]).length : Nat) : Int) = (pre.length : Int) + 1 := by simp
      rw [e] at c
      exact c
    have hget := get_mid pre (d + 1) []
    rw [List.append_nil] at hget
    rw [dialtoneref27_Supplied.l0, wrap64_small (x := (pre.length : Int) + 1) (by omega) (by omega), if_pos (by omega)]
    by_cases h : (pre.length : Int) < (raw.length : Int)
    · have hlt : pre.length < raw.length := by omega
      have hrd : rd raw (pre.length : Int) = raw[pre.length] := by rw [rd_nat0]; simp [List.getD, hlt]
      obtain ⟨q, e, q0, q1⟩ := pickr_f raw[pre.length] 25 (hr _ (List.getElem_mem hlt)) (by omega)
      have hset := set_mid pre (d + 1) (q - 12) []
      rw [List.append_nil, List.append_nil] at hset
      rw [if_pos h, if_pos (by omega), hrd, e, Option.bind_some, if_pos (by omega), Option.bind_some, Int.toNat_natCast, wrap64_small (x := q - 12) (by omega) (by omega), hset, rd_nat0, get_at, wrap64_small (x := sumL pre + (q - 12)) (by omega) (by omega)]
      exact key (q - 12) (by omega) (by omega)
    · rw [if_neg h, if_pos (by omega), if_pos (by omega), rd_nat0, hget, wrap64_small (x := sumL pre + 0) (by omega) (by omega)]
      have h1 := key 0 (by omega) (by omega)
      have e : (pre ++ [0]) ++ List.replicate (d + 1) (0 : Int) = pre ++ List.replicate (d + 1 + 1) 0 := by rw [List.replicate_succ (n := d + 1)]; simp
      rw [e] at h1
      exact h1
theorem supplied_f (n : Nat) (es : List Ed) (hM : MadeIs n es) (raw : List Int) (hr : ∀ x, x ∈ raw → I64 x) (k : Nat) (hk : 13 ≤ k) : ∃ l, dialtoneref27_Supplied.f k (n : Int) es raw = some l ∧ supplyB n es l = true ∧ (∀ x, x ∈ l → -1000 ≤ x ∧ x ≤ 1000) := by
  have hlo := hM.lo
  have hhi := hM.hi
  obtain ⟨pre, a, b, c⟩ := supplied_l0 n es raw hr (by omega) (by omega) (n - 1) k [] (by simp; omega) (by omega) (fun x hx => by simp at hx)
  have hs := sumL_bound 12 pre b
  have hb : ∀ x, x ∈ pre ++ [-(sumL pre)] → -1000 ≤ x ∧ x ≤ 1000 := fun x hx => by
    rcases List.mem_append.mp hx with hx | hx
    · have := b x hx; omega
    · rw [List.mem_singleton.mp hx]; omega
  refine ⟨pre ++ [-(sumL pre)], ?_, ?_, hb⟩
  · unfold dialtoneref27_Supplied.f
    rw [if_pos (by omega), if_pos (by omega), Int.toNat_natCast]
    rw [show n - 1 + 1 = n by omega] at c
    exact c
  · unfold supplyB
    rw [hM.valid]
    simp only [Bool.true_and, Bool.and_eq_true, decide_eq_true_eq, List.all_eq_true]
    refine ⟨⟨by simp; omega, fun x hx => by have := hb x hx; omega⟩, ?_⟩
    rw [sumL_append, sumL_one]; omega
theorem sumL_set : ∀ (l : List Int) (p : Nat) (v : Int), p < l.length → sumL (l.set p v) = sumL l + (v - l.getD p 0)
  | x :: r, 0, v, _ => by rw [List.set_cons_zero, sumL, sumL, List.getD_cons_zero]; omega
  | x :: r, p + 1, v, h => by rw [List.set_cons_succ, sumL, sumL, sumL_set r p v (by simpa using h), List.getD_cons_succ]; omega
theorem setSum_set (S : Nat → Bool) : ∀ (l : List Int) (i p : Nat) (v : Int), p < l.length → setSum S (l.set p v) i = setSum S l i + (if S (i + p) = true then v - l.getD p 0 else 0)
  | x :: r, i, 0, v, _ => by
    rw [List.set_cons_zero, setSum, setSum, List.getD_cons_zero, show i + 0 = i from rfl]
    by_cases h : S i = true
    · rw [if_pos h, if_pos h, if_pos h]; omega
    · rw [if_neg h, if_neg h, if_neg h]; omega
  | x :: r, i, p + 1, v, h => by
    rw [List.set_cons_succ, setSum, setSum, setSum_set S r (i + 1) p v (by simpa using h), List.getD_cons_succ, show i + 1 + p = i + (p + 1) by omega]
    omega
theorem sumL_repl0 : ∀ n, sumL (List.replicate n 0) = 0
  | 0 => rfl
  | n + 1 => by rw [List.replicate_succ, sumL, sumL_repl0 n]; rfl
theorem setSum_repl0 (S : Nat → Bool) : ∀ n i, setSum S (List.replicate n 0) i = 0
  | 0, _ => rfl
  | n + 1, i => by rw [List.replicate_succ, setSum, setSum_repl0 S n (i + 1)]; split <;> rfl
/-- The supplies of a flow of a value. -/
def srcL (n s t : Nat) (v : Int) : List Int := ((List.replicate n 0).set s v).set t (-v)
theorem srcL_get (n s t : Nat) (v : Int) (hs : s < n) (ht : t < n) (hst : s ≠ t) (x : Nat) : (srcL n s t v).getD x 0 = if x = t then -v else if x = s then v else 0 := by
  unfold srcL
  rw [getD_set _ _ _ _ (by simp; exact ht), getD_set _ _ _ _ (by simp; exact hs), getD_repl0]
  by_cases h1 : x = t
  · rw [if_pos h1.symm, if_pos h1]
  · rw [if_neg (fun e => h1 e.symm), if_neg h1]
    by_cases h2 : x = s
    · rw [if_pos h2.symm, if_pos h2]
    · rw [if_neg (fun e => h2 e.symm), if_neg h2]
theorem srcL_len (n s t : Nat) (v : Int) : (srcL n s t v).length = n := by simp [srcL]
theorem srcL_sum (n s t : Nat) (v : Int) (hs : s < n) (ht : t < n) (hst : s ≠ t) : sumL (srcL n s t v) = 0 := by
  unfold srcL
  rw [sumL_set _ _ _ (by simp; exact ht), sumL_set _ _ _ (by simp; exact hs), sumL_repl0, getD_set _ _ _ _ (by simp; exact hs), if_neg hst, getD_repl0, getD_repl0]; omega
theorem srcL_set (n s t : Nat) (v : Int) (hs : s < n) (ht : t < n) (hst : s ≠ t) (S : Nat → Bool) : setSum S (srcL n s t v) 0 = (if S s = true then v else 0) - (if S t = true then v else 0) := by
  unfold srcL
  rw [setSum_set _ _ _ _ _ (by simp; exact ht), setSum_set _ _ _ _ _ (by simp; exact hs), setSum_repl0, getD_set _ _ _ _ (by simp; exact hs), if_neg hst, getD_repl0, getD_repl0, Nat.zero_add, Nat.zero_add]
  split <;> split <;> omega
theorem srcL_supply (n s t : Nat) (v : Int) (es : List Ed) (hv : validB n es = true) (hs : s < n) (ht : t < n) (hst : s ≠ t) (h0 : 0 ≤ v) (h1 : v ≤ 100000) : supplyB n es (srcL n s t v) = true := by
  unfold supplyB
  rw [hv, srcL_sum n s t v hs ht hst]
  simp only [Bool.true_and, Bool.and_eq_true, decide_eq_true_eq, List.all_eq_true]
  refine ⟨⟨by rw [srcL_len], fun x hx => ?_⟩, trivial⟩
  obtain ⟨i, hi, e⟩ := List.mem_iff_getElem.mp hx
  have h := srcL_get n s t v hs ht hst i
  rw [List.getD, List.getElem?_eq_getElem hi, Option.getD_some, e] at h
  rw [h]
  split
  · omega
  · split <;> omega
end Go.Proofs.Ytkkakdpncogpkaa.D
end
section
/- FlowMeets: supplies are met, or a set refutes them; never both. Conditions: integers are of 64 bits. -/
namespace Go.Proofs.Ytkkakdpncogpkaa.D
open Go.RowKit Go.Proofs.YtkkakdpncogpkaaW.PrintWords Go.Proofs.YtkkakdpncogpkaaW.PrintLast Go.Proofs.YtkkakdpncogpkaaW.PrintMore
set_option linter.unusedVariables false
/-- A refuted set of supplies is met by no amounts. -/
theorem refuted_f (n : Nat) (es : List Ed) (l am : List Int) (set : Int) (hs : supplyB n es l = true) (hr : capL es set < setSum (setOf set) l 0) (k : Nat) (hk : 50 ≤ k) : flow_CheckMeet.f k n es l true am 0 = some false := by
  obtain ⟨r, e, h⟩ := checkMeet_f n es l true am 0 k hk
  rw [e]
  cases r with
  | false => rfl
  | true =>
    obtain ⟨_, h2⟩ := h.mp rfl
    unfold meetOK at h2
    rw [if_pos rfl] at h2
    obtain ⟨hv, hln, _, _⟩ := supply_at hs
    have := meets_le hv (by omega) h2.2 set
    omega
theorem tdiv2 (x c : Int) (h : -c ≤ x ∧ x ≤ c) (hc : 0 ≤ c) : -c ≤ Int.tdiv x 2 ∧ Int.tdiv x 2 ≤ c := by
  by_cases h0 : 0 ≤ x
  · rw [Int.tdiv_eq_ediv_of_nonneg h0]; omega
  · have e : x = -(-x) := by omega
    rw [e, Int.neg_tdiv, Int.tdiv_eq_ediv_of_nonneg (show 0 ≤ -x by omega)]; omega
theorem half_l0 (n : Nat) (es : List Ed) (hM : MadeIs n es) (l : List Int) (hs : supplyB n es l = true) (hlb : ∀ x, x ∈ l → -1000 ≤ x ∧ x ≤ 1000) (set : Int) (hset : capL es set < setSum (setOf set) l 0) (b0 b1 b2 : Int) (hb0 : I64 b0) (hb1 : I64 b1) (hb2 : I64 b2) :
    ∀ (d k : Nat) (pre : List Int), pre.length + d + 1 = n → d + 51 ≤ k → (∀ x, x ∈ pre → -1000 ≤ x ∧ x ≤ 1000) →
      dialtonelaw27_FlowMeets.l0 k l ((pre ++ List.replicate d 0) ++ [-(sumL pre)]) (pre.length : Int) b0 b1 b2 n es = some true
  | 0, k + 1, pre, hl, hk, hb => by
    have hhi := hM.hi
    have hsb := sumL_bound 1000 pre hb
    rw [dialtonelaw27_FlowMeets.l0, wrap64_small (x := (pre.length : Int) + 1) (by omega) (by omega), if_neg (by omega), List.replicate_zero, List.append_nil]
    have hsup : supplyB n es (pre ++ [-(sumL pre)]) = true := by
      unfold supplyB
      rw [hM.valid]
      simp only [Bool.true_and, Bool.and_eq_true, decide_eq_true_eq, List.all_eq_true]
      refine ⟨⟨by simp; omega, fun x hx => ?_⟩, ?_⟩
      · rcases List.mem_append.mp hx with hx | hx
        · have := hb x hx; omega
        · rw [List.mem_singleton.mp hx]; omega
      · rw [sumL_append, sumL_one]; omega
    generalize pre ++ [-(sumL pre)] = half at hsup ⊢
    have hend : ∀ am : List Int, am.length ≤ 1000 → ((flow_CheckMeet.f k n es l true am 0).bind fun t1008 => if t1008 = true then (none : Option Bool) else ((dialtoneref27_BentList.f am b0 b1 b2).bind fun t1009 => ((flow_CheckMeet.f k n es l true t1009 0).bind fun t1012 => if t1012 = true then none else some (!t1012)))) = some true := fun am ham => by
      obtain ⟨l', hl'⟩ := bentList_f am b0 b1 b2 hb0 hb1 hb2 ham
      rw [refuted_f n es l am set hs hset k (by omega), Option.bind_some, if_neg (by simp), hl', Option.bind_some, refuted_f n es l l' set hs hset k (by omega), Option.bind_some, if_neg (by simp)]
      rfl
    rcases meet_is n es half hsup with ⟨am, e, hm⟩ | ⟨st, e, s0, s1, s2⟩
    · rw [e, Option.bind_some]
      dsimp only
      obtain ⟨r, e2, hr⟩ := checkMeet_f n es half true am 0 k (by omega)
      have hr1 : r = true := hr.mpr ⟨hsup, by unfold meetOK; rw [if_pos rfl]; exact ⟨rfl, hm⟩⟩
      rw [if_pos rfl, e2, Option.bind_some, hr1, if_pos rfl]
      have ham : am.length ≤ 1000 := by
        have h1 := hm.1
        unfold isAm at h1
        rw [Bool.and_eq_true, decide_eq_true_eq] at h1
        have := hM.len
        omega
      exact hend am ham
    · rw [e, Option.bind_some]
      dsimp only
      obtain ⟨r, e2, hr⟩ := checkMeet_f n es half false [] st k (by omega)
      have hr1 : r = true := hr.mpr ⟨hsup, by unfold meetOK; rw [if_neg Bool.false_ne_true]; exact ⟨rfl, s0, s1, s2⟩⟩
      rw [if_pos rfl, e2, Option.bind_some, hr1, if_pos rfl]
      exact hend [] (by simp)
  | d + 1, k + 1, pre, hl, hk, hb => by
    have hhi := hM.hi
    have hsb := sumL_bound 1000 pre hb
    obtain ⟨_, hln, _, _⟩ := supply_at hs
    have hlt : pre.length < l.length := by omega
    have hrd : rd l (pre.length : Int) = l[pre.length] := by rw [rd_nat0]; simp [List.getD, hlt]
    have hx := hlb l[pre.length] (List.getElem_mem hlt)
    obtain ⟨v, hv⟩ : ∃ v, v = Int.tdiv l[pre.length] 2 := ⟨_, rfl⟩
    have hvb : -1000 ≤ v ∧ v ≤ 1000 := by rw [hv]; exact tdiv2 _ 1000 hx (by omega)
    have hmid := set_mid pre d v [-(sumL pre)]
    have hlen : ((pre ++ List.replicate (d + 1) (0 : Int)) ++ [-(sumL pre)]).length = n := by simp; omega
    have hlen2 : (((pre ++ [v]) ++ List.replicate d (0 : Int)) ++ [-(sumL pre)]).length = n := by simp; omega
    have hn1 : ((n : Int) - 1).toNat = (pre ++ [v] ++ List.replicate d (0 : Int)).length := by simp; omega
    rw [dialtonelaw27_FlowMeets.l0, wrap64_small (x := (pre.length : Int) + 1) (by omega) (by omega), if_pos (by omega), if_pos (by omega), if_pos (by omega), if_pos (by omega), Option.bind_some, hrd, Int.toNat_natCast, ← hv, wrap64_small (x := v) (by omega) (by omega), hmid, wrap64_small (x := (n : Int) - 1) (by omega) (by omega), if_pos (by omega), if_pos (by omega)]
    have g1 : rd (((pre ++ [v]) ++ List.replicate d (0 : Int)) ++ [-(sumL pre)]) (pre.length : Int) = v := by
      rw [rd_nat0, List.append_assoc, get_at]
    have g2 : rd (((pre ++ [v]) ++ List.replicate d (0 : Int)) ++ [-(sumL pre)]) ((n : Int) - 1) = -(sumL pre) := by
      rw [show ((n : Int) - 1) = (((pre ++ [v] ++ List.replicate d (0 : Int)).length : Nat) : Int) by rw [← hn1]; omega, rd_nat0]
      simp [List.getD]
    rw [g1, g2, wrap64_small (x := -(sumL pre) - v) (by omega) (by omega), hn1, List.set_append_right _ _ (Nat.le_refl _), Nat.sub_self, List.set_cons_zero]
    have ih := half_l0 n es hM l hs hlb set hset b0 b1 b2 hb0 hb1 hb2 d k (pre ++ [v]) (by simp; omega) (by omega) (fun x hx => by
      rcases List.mem_append.mp hx with hx | hx
      · exact hb x hx
      · rw [List.mem_singleton.mp hx]; exact hvb)
    rw [sumL_append, sumL_one] at ih
    rw [show -(sumL pre) - v = -(sumL pre + v) by omega]
    have e : (((pre ++ [v]).length : Nat) : Int) = (pre.length : Int) + 1 := by simp
    rw [e] at ih
    exact ih
theorem FlowMeets_true (a0 : Int) (x : List S23) (raw : List Int) (a3 b0 b1 b2 : Int) (h0 : I64 a0) (hx : AllI64 x) (hr : ∀ x, x ∈ raw → I64 x) (h3 : I64 a3) (hb0 : I64 b0) (hb1 : I64 b1) (hb2 : I64 b2) : dialtonelaw27_FlowMeets.f 64 a0 x raw a3 b0 b1 b2 = some true := by
  obtain ⟨n, es, e1, hM⟩ := made_f a0 x h0 hx 64 (by omega)
  have hlo := hM.lo
  have hhi := hM.hi
  obtain ⟨l, e2, hs, hlb⟩ := supplied_f n es hM raw hr 64 (by omega)
  obtain ⟨st, e5, r0, r1⟩ := pick_f a3 (2 ^ n) h3 (pow_pos2 _)
  obtain ⟨hv, hln, _, _⟩ := supply_at hs
  unfold dialtonelaw27_FlowMeets.f
  rw [sane_k 64 (by omega), Option.bind_some, if_pos rfl, e1, Option.bind_some]
  dsimp only
  rw [e2, Option.bind_some]
  obtain ⟨rr, e6, hrr⟩ := checkMeet_f n es l false [] st 64 (by omega)
  rcases meet_is n es l hs with ⟨am, e, hm⟩ | ⟨set, e, s0, s1, s2⟩
  · rw [e, Option.bind_some]
    dsimp only
    obtain ⟨r, e3, hr⟩ := checkMeet_f n es l true am 0 64 (by omega)
    have hr1 : r = true := hr.mpr ⟨hs, by unfold meetOK; rw [if_pos rfl]; exact ⟨rfl, hm⟩⟩
    rw [if_pos rfl, e3, Option.bind_some, hr1, if_pos rfl, if_pos (by omega), shl_one n (by omega), e5, Option.bind_some, e6, Option.bind_some, if_pos rfl]
    have : rr = false := by
      rw [Bool.eq_false_iff]
      intro h
      obtain ⟨_, h2⟩ := hrr.mp h
      unfold meetOK at h2
      rw [if_neg Bool.false_ne_true] at h2
      have := meets_le hv (by omega) hm st
      omega
    rw [this]; rfl
  · rw [e, Option.bind_some]
    dsimp only
    obtain ⟨r, e3, hr⟩ := checkMeet_f n es l false [] set 64 (by omega)
    have hr1 : r = true := hr.mpr ⟨hs, by unfold meetOK; rw [if_neg Bool.false_ne_true]; exact ⟨rfl, s0, s1, s2⟩⟩
    rw [if_pos rfl, e3, Option.bind_some, hr1, if_pos rfl, if_pos (by omega), shl_one n (by omega), e5, Option.bind_some, e6, Option.bind_some, if_neg Bool.false_ne_true, if_pos (by omega)]
    have h := half_l0 n es hM l hs hlb set s2 b0 b1 b2 hb0 hb1 hb2 (n - 1) 64 [] (by simp; omega) (by omega) (fun x hx => by simp at hx)
    have e7 : ([] ++ List.replicate (n - 1) (0 : Int)) ++ [-(sumL [])] = List.replicate n 0 := by
      rw [List.nil_append, sumL, Int.neg_zero, ← List.replicate_succ', show n - 1 + 1 = n by omega]
    rw [e7] at h
    exact h
end Go.Proofs.Ytkkakdpncogpkaa.D
end
