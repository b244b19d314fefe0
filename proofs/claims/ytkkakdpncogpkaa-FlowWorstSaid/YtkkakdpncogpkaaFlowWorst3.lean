/- Parts of the proof of a law about flows (see the law's own text): A8, A9, A12, A14, PWorst. Conditions: each theorem's own. -/
import Derived.Test.YtkkakdpncogpkaaBase29
import Derived.Test.YtkkakdpncogpkaaFlowWorst2
import Derived.Test.YtkkakdpncogpkaaBase26
import Derived.Test.YtkkakdpncogpkaaBase22
import Derived.Test.YtkkakdpncogpkaaBase27
section
/- A net without some edges; lists with something changed. Conditions: integers are of 64 bits. -/
namespace Go.Proofs.Ytkkakdpncogpkaa.D
open Go.RowKit Go.Proofs.YtkkakdpncogpkaaW.PrintWords Go.Proofs.YtkkakdpncogpkaaW.PrintLast Go.Proofs.YtkkakdpncogpkaaW.PrintMore
set_option linter.unusedVariables false
theorem without_f (n : Nat) (es : List Ed) (failed : Int) (hv : validB n es = true) (h0 : 0 ≤ failed) (h1 : failed < 2 ^ es.length) : flow_Without.f n es failed = some ((n : Int), withoutL failed es 0, 0) := by
  have hl := (validB_iff.mp hv).2.1
  have hp := pow_bound hl
  have e40 : (2 : Int) ^ 40 = 1099511627776 := by decide
  have hpos := pow_pos2 es.length
  unfold flow_Without.f flow_Valid.f
  rw [hv, Option.bind_some, if_pos rfl, isIn_f, Option.bind_some, shl_one es.length (by omega), wrap64_small (by omega) (by omega)]
  rw [if_pos (by simp only [Bool.and_eq_true, decide_eq_true_eq]; omega)]
  unfold flow_without.f
  have hd : (validB n es && (decide (0 ≤ failed) && decide (failed < 9223372036854775808))) = true := by
    rw [hv]; simp only [Bool.true_and, Bool.and_eq_true, decide_eq_true_eq]; omega
  rw [if_pos hd, Option.bind_some]
theorem withoutL_length (failed : Int) : ∀ (es : List Ed) (i : Nat), (withoutL failed es i).length = es.length
  | [], _ => rfl
  | e :: r, i => by rw [withoutL, List.length_cons, List.length_cons, withoutL_length failed r]
theorem withoutL_made {n : Nat} (failed : Int) : ∀ (es : List Ed) (i : Nat), (∀ e, e ∈ es → (0 ≤ e.f0 ∧ e.f0 ≤ (n : Int) - 1) ∧ (0 ≤ e.f1 ∧ e.f1 ≤ (n : Int) - 1) ∧ e.f0 ≠ e.f1 ∧ (0 ≤ e.f2 ∧ e.f2 ≤ 19)) →
    ∀ e, e ∈ withoutL failed es i → (0 ≤ e.f0 ∧ e.f0 ≤ (n : Int) - 1) ∧ (0 ≤ e.f1 ∧ e.f1 ≤ (n : Int) - 1) ∧ e.f0 ≠ e.f1 ∧ (0 ≤ e.f2 ∧ e.f2 ≤ 19)
  | [], _, _, e, he => by simp [withoutL] at he
  | x :: r, i, h, e, he => by
    rw [withoutL] at he
    rcases List.mem_cons.mp he with he | he
    · obtain ⟨a, b, c, d⟩ := h x List.mem_cons_self
      subst he
      split
      · exact ⟨a, b, c, (by show (0 : Int) ≤ 0 ∧ (0 : Int) ≤ 19; omega)⟩
      · exact ⟨a, b, c, d⟩
    · exact withoutL_made failed r (i + 1) (fun y hy => h y (List.mem_cons_of_mem _ hy)) e he
theorem MadeIs.without {n : Nat} {es : List Ed} (h : MadeIs n es) (failed : Int) : MadeIs n (withoutL failed es 0) :=
  ⟨h.lo, h.hi, by rw [withoutL_length]; exact h.len, withoutL_made failed es 0 h.ok⟩
theorem fsum_without (w : Nat → Nat → Int) (failed : Int) : ∀ (es : List Ed) (l : List Int) (i : Nat), fsum w (withoutL failed es i) l = fsum w es l
  | [], l, _ => rfl
  | e :: r, [], i => by
    rw [withoutL, fsum, fsum] <;> (intros; simp_all)
  | e :: r, y :: l, i => by
    rw [withoutL, fsum, fsum, fsum_without w failed r l (i + 1)]
    split <;> rfl
theorem inCap_without (failed : Int) : ∀ (es : List Ed) (l : List Int) (i : Nat), (∀ e, e ∈ es → 0 ≤ e.f2) → inCap (withoutL failed es i) l = true → inCap es l = true
  | [], l, _, _, _ => by simp [inCap]
  | e :: r, [], i, _, _ => by simp [inCap]
  | e :: r, y :: l, i, hg, h => by
    rw [withoutL, inCap, Bool.and_eq_true, Bool.and_eq_true, decide_eq_true_eq, decide_eq_true_eq] at h
    have he := hg e List.mem_cons_self
    have ih := inCap_without failed r l (i + 1) (fun x hx => hg x (List.mem_cons_of_mem _ hx)) h.2
    have h1 : y ≤ e.f2 := by
      have := h.1.2
      split at this
      · have e0 : y ≤ 0 := this
        omega
      · exact this
    rw [inCap, ih, decide_eq_true h.1.1, decide_eq_true h1]; rfl
/-- A flow of what is left is one of the whole. -/
theorem isFlow_without {n s t : Nat} {es : List Ed} {l : List Int} (failed : Int) (hg : ∀ e, e ∈ es → 0 ≤ e.f2) (h : isFlow n s t (withoutL failed es 0) l = true) : isFlow n s t es l = true ∧ fsum (dlt s) es l = fsum (dlt s) (withoutL failed es 0) l := by
  refine ⟨?_, (fsum_without _ failed es l 0).symm⟩
  unfold isFlow isAm at h ⊢
  rw [Bool.and_eq_true, Bool.and_eq_true, Bool.and_eq_true, decide_eq_true_eq, decide_eq_true_eq, withoutL_length] at h
  obtain ⟨⟨⟨h1, h2⟩, h3⟩, h4⟩ := h
  rw [fsum_without] at h3
  rw [allF_congr s t n (fun x _ => fsum_without (dlt x) failed es l 0) n 0 (by omega)] at h4
  rw [decide_eq_true h1, inCap_without failed es l 0 hg h2, decide_eq_true h3, h4]; rfl
theorem bentList_f (l : List Int) (a b c : Int) (ha : I64 a) (hb : I64 b) (hc : I64 c) (hl : l.length ≤ 1000) : ∃ l', dialtoneref27_BentList.f l a b c = some l' := by
  unfold dialtoneref27_BentList.f
  rw [Option.bind_some, if_pos (by simp; omega), Option.bind_some, List.nil_append]
  by_cases h : (l.length : Int) = 0
  · rw [if_pos h]; exact ⟨_, rfl⟩
  · rw [if_neg h]
    obtain ⟨p, e1, p0, p1⟩ := pickr_f c (l.length : Int) hc (by omega)
    obtain ⟨q, e2, q0, q1⟩ := pickr_f a 4 ha (by omega)
    rw [e1, Option.bind_some, e2, Option.bind_some]
    by_cases h0 : q = 0
    · rw [if_pos h0, if_pos p0, if_pos p1]; exact ⟨_, rfl⟩
    · rw [if_neg h0]
      by_cases h1 : q = 1
      · rw [if_pos h1, if_pos p0, if_pos p1]; exact ⟨_, rfl⟩
      · rw [if_neg h1]
        by_cases h2 : q = 2
        · rw [if_pos h2, if_pos p0, if_pos p1]; exact ⟨_, rfl⟩
        · rw [if_neg h2, if_pos (by omega)]; exact ⟨_, rfl⟩
theorem shr_tmod (set : Int) (i : Nat) (h : 0 ≤ set) (hi : i ≤ 64) : (Int.tmod (shr .i64 set (i : Int)) 2 = 1) ↔ hasN set i = true := by
  have hb : IntKind.i64.bits = 64 := rfl
  unfold shr hasN
  rw [hb, Int.toNat_natCast, show min i 64 = i by omega, Int.tmod_eq_emod_of_nonneg (Int.ediv_nonneg h (Int.le_of_lt (pow_pos2 i))), decide_eq_true_eq]
theorem shr_tmod0 (set : Int) (i : Nat) (h : 0 ≤ set) (hi : i ≤ 64) : (Int.tmod (shr .i64 set (i : Int)) 2 = 0) ↔ hasN set i = false := by
  have hb : IntKind.i64.bits = 64 := rfl
  unfold shr hasN
  rw [hb, Int.toNat_natCast, show min i 64 = i by omega, Int.tmod_eq_emod_of_nonneg (Int.ediv_nonneg h (Int.le_of_lt (pow_pos2 i))), decide_eq_false_iff_not]
  omega
end Go.Proofs.Ytkkakdpncogpkaa.D
end
section
/- Sets of nodes as numbers, and nets with the same cuts. Conditions: none. -/
namespace Go.Proofs.Ytkkakdpncogpkaa.D
open Go.RowKit Go.Proofs.YtkkakdpncogpkaaW.PrintWords Go.Proofs.YtkkakdpncogpkaaW.PrintLast Go.Proofs.YtkkakdpncogpkaaW.PrintMore
set_option linter.unusedVariables false
theorem hasN_bit (N x : Nat) : hasN (N : Int) (x : Int) = N.testBit x := by
  unfold hasN
  rw [Int.toNat_natCast, Nat.testBit_eq_decide_div_mod_eq]
  have e : ((N : Int) / 2 ^ x % 2) = ((N / 2 ^ x % 2 : Nat) : Int) := by simp
  rw [e]
  by_cases h : N / 2 ^ x % 2 = 1
  · rw [h]; rfl
  · rw [decide_eq_false h]
    exact decide_eq_false (by omega)
/-- Two sets of n nodes with the same nodes are one. -/
theorem set_ext (n : Nat) (a b : Int) (ha : 0 ≤ a ∧ a ≤ 2 ^ n - 1) (hb : 0 ≤ b ∧ b ≤ 2 ^ n - 1) (h : ∀ x, x < n → hasN a (x : Int) = hasN b (x : Int)) : a = b := by
  obtain ⟨A, rfl⟩ := Int.eq_ofNat_of_zero_le ha.1
  obtain ⟨B, rfl⟩ := Int.eq_ofNat_of_zero_le hb.1
  have e : ((2 ^ n : Nat) : Int) = (2 : Int) ^ n := by simp
  have hA : A < 2 ^ n := by have h := ha.2; rw [← e] at h; omega
  have hB : B < 2 ^ n := by have h := hb.2; rw [← e] at h; omega
  congr 1
  refine Nat.eq_of_testBit_eq (fun i => ?_)
  by_cases hi : i < n
  · have := h i hi
    rwa [hasN_bit, hasN_bit] at this
  · rw [Nat.testBit_lt_two_pow (Nat.lt_of_lt_of_le hA (Nat.pow_le_pow_right (by decide) (by omega))), Nat.testBit_lt_two_pow (Nat.lt_of_lt_of_le hB (Nat.pow_le_pow_right (by decide) (by omega)))]
/-- Nets with the same cuts have the same value and the same least cut. -/
theorem MaxIs.same {n s t : Nat} {es es' : List Ed} {l l' : List Int} {cut cut' v v' : Int} (h : MaxIs n s t es l cut v) (h' : MaxIs n s t es' l' cut' v') (hc : ∀ set, isCut n s t set → capL es set = capL es' set) : v = v' ∧ cut = cut' := by
  have hv : v = v' := by
    have h1 := h.le cut' h'.isc
    have h2 := h'.le cut h.isc
    rw [hc cut' h'.isc, h'.cap] at h1
    rw [← hc cut h.isc, h.cap] at h2
    omega
  refine ⟨hv, set_ext n cut cut' ⟨h.isc.1, h.isc.2.1⟩ ⟨h'.isc.1, h'.isc.2.1⟩ (fun x hx => ?_)⟩
  cases e1 : hasN cut (x : Int) with
  | true =>
    have := h.least cut' h'.isc (by rw [hc cut' h'.isc, h'.cap, hv]) x hx e1
    rw [this]
  | false =>
    cases e2 : hasN cut' (x : Int) with
    | false => rfl
    | true =>
      have := h'.least cut h.isc (by rw [← hc cut h.isc, h.cap, hv]) x hx e2
      rw [e1] at this; cases this
/-- The nodes of a set that another one holds. -/
theorem and_sub (n : Nat) (hn : n ≤ 12) (a b : Int) (ha : 0 ≤ a ∧ a ≤ 2 ^ n - 1) (hb : 0 ≤ b ∧ b ≤ 2 ^ n - 1) (h : ∀ x, x < n → hasN b (x : Int) = true → hasN a (x : Int) = true) : Go.bits .and .i64 a b = b := by
  obtain ⟨A, rfl⟩ := Int.eq_ofNat_of_zero_le ha.1
  obtain ⟨B, rfl⟩ := Int.eq_ofNat_of_zero_le hb.1
  have e : ((2 ^ n : Nat) : Int) = (2 : Int) ^ n := by simp
  have h12 : 2 ^ n ≤ 2 ^ 12 := Nat.pow_le_pow_right (by decide) hn
  have hA : A < 2 ^ n := by have h := ha.2; rw [← e] at h; omega
  have hB : B < 2 ^ n := by have h := hb.2; rw [← e] at h; omega
  have k1 : (BitVec.ofInt 64 (A : Int)).toNat = A := by
    rw [BitVec.ofInt_natCast, BitVec.toNat_ofNat]; exact Nat.mod_eq_of_lt (by omega)
  have k2 : (BitVec.ofInt 64 (B : Int)).toNat = B := by
    rw [BitVec.ofInt_natCast, BitVec.toNat_ofNat]; exact Nat.mod_eq_of_lt (by omega)
  show IntKind.i64.wrap ((BitVec.ofInt 64 (A : Int) &&& BitVec.ofInt 64 (B : Int)).toNat : Int) = _
  rw [BitVec.toNat_and, k1, k2, i64_w]
  have hab : A &&& B = B := by
    refine Nat.eq_of_testBit_eq (fun i => ?_)
    rw [Nat.testBit_and]
    by_cases hi : i < n
    · have := h i hi
      rw [hasN_bit, hasN_bit] at this
      cases hb : B.testBit i with
      | false => simp
      | true => rw [this hb]; rfl
    · rw [Nat.testBit_lt_two_pow (x := B) (Nat.lt_of_lt_of_le hB (Nat.pow_le_pow_right (by decide) (by omega)))]; simp
  rw [hab]
  exact wrap64_small (by omega) (by omega)
theorem capL_append (a b : List Ed) (set : Int) : capL (a ++ b) set = capL a set + capL b set := by
  unfold capL; rw [List.filter_append, sumCap_append]
theorem MaxIs.bound {n s t : Nat} {es : List Ed} {l : List Int} {cut v : Int} (hp : pairB n es s t = true) (h : MaxIs n s t es l cut v) : v ≤ 400000 := by
  have hq := pairB_iff.mp hp
  have hv := validB_iff.mp hq.1
  have hg := goodL_of hq.1
  have a := (esum_wS_le (setOf cut) es hg).2
  have b := (esum_le es hg).2
  have c := h.cap
  rw [← esum_cap _ _ hg] at c
  rw [c] at a
  omega
end Go.Proofs.Ytkkakdpncogpkaa.D
end
section
/- The worst failures: what flow.Worst returns. Conditions: none. -/
namespace Go.Proofs.Ytkkakdpncogpkaa.D
open Go.RowKit Go.Proofs.YtkkakdpncogpkaaW.PrintWords Go.Proofs.YtkkakdpncogpkaaW.PrintLast Go.Proofs.YtkkakdpncogpkaaW.PrintMore
set_option linter.unusedVariables false

def capI (es : List Ed) (i : Fin es.length) : Int := (rd_T72 es (i.val : Int)).f2
theorem sumF_cons (es : List Ed) (i : Fin es.length) (r : List (Fin es.length)) : sumF es (i :: r) = capI es i + sumF es r := rfl
theorem sumF_perm (es : List Ed) {a b : List (Fin es.length)} (h : a.Perm b) : sumF es a = sumF es b := by
  induction h with
  | nil => rfl
  | cons x _ ih => rw [sumF_cons, sumF_cons, ih]
  | swap x y l => rw [sumF_cons, sumF_cons, sumF_cons, sumF_cons]; omega
  | trans _ _ h1 h2 => rw [h1, h2]
theorem sortedF_desc (l : List Ed) : ∀ (LF : List (Fin l.length)), (sortedF l LF).Pairwise (fun i j => capI l j ≤ capI l i)
  | [] => by unfold sortedF; exact List.Pairwise.nil
  | i :: r => by
    letI : Inhabited (Fin l.length) := ⟨i⟩
    have hps := Go.Sort.pdq_sorts (Go.Proofs.ltOf (cfF l)) (swoF l) (i :: r).toArray 0 (i :: r).toArray.size (Lib.bitLen (i :: r).toArray.size) true true (Nat.zero_le _) (Nat.le_refl _) (Or.inl rfl)
    have e1 : sortedF l (i :: r) = (Go.Sort.pdq (Go.Proofs.ltOf (cfF l)) (i :: r).toArray 0 (i :: r).toArray.size (Lib.bitLen (i :: r).toArray.size) true true).toList := by unfold sortedF; rfl
    rw [e1]
    have hz := hps.1.1
    have hs := hps.2
    generalize Go.Sort.pdq (Go.Proofs.ltOf (cfF l)) (i :: r).toArray 0 (i :: r).toArray.size (Lib.bitLen (i :: r).toArray.size) true true = X at hz hs ⊢
    rw [List.pairwise_iff_getElem]
    intro a b ha hb hab
    have ha' : a < X.size := by simpa using ha
    have hb' : b < X.size := by simpa using hb
    have h := hs a b (Nat.zero_le _) hab (by rw [← hz]; exact hb')
    rw [getElem!_pos X a ha', getElem!_pos X b hb'] at h
    have h2 : decide (cfF l X[b] X[a] < 0) = false := h
    have h3 := of_decide_eq_false h2
    unfold cfF at h3
    show capI l X[b] ≤ capI l X[a]
    unfold capI
    omega
theorem sumF_filter_le (es : List Ed) (hc : ∀ i : Fin es.length, 0 ≤ capI es i) (p : Fin es.length → Bool) : ∀ (L : List (Fin es.length)) (k : Nat), L.Pairwise (fun i j => capI es j ≤ capI es i) → (L.filter p).length ≤ k → sumF es (L.drop k) ≤ sumF es (L.filter (fun i => !p i))
  | [], k, _, _ => by simp [sumF]
  | x :: r, k, hp, hk => by
    cases hp with
    | cons hx hr =>
      cases hpx : p x with
      | true =>
        rw [List.filter_cons, hpx, if_pos rfl, List.length_cons] at hk
        obtain ⟨j, rfl⟩ : ∃ j, k = j + 1 := ⟨k - 1, by omega⟩
        rw [List.drop_succ_cons, List.filter_cons, hpx, if_neg (by simp)]
        exact sumF_filter_le es hc p r j hr (by omega)
      | false =>
        rw [List.filter_cons, hpx, if_neg (by simp)] at hk
        rw [List.filter_cons, hpx, if_pos (show (!false) = true from rfl), sumF_cons]
        have ih := sumF_filter_le es hc p r k hr hk
        cases k with
        | zero =>
          rw [List.drop_zero] at ih ⊢
          rw [sumF_cons]; omega
        | succ j =>
          rw [List.drop_succ_cons]
          by_cases hj : j < r.length
          · rw [List.drop_eq_getElem_cons hj, sumF_cons]
            have := hx r[j] (List.getElem_mem hj)
            omega
          · rw [List.drop_of_length_le (by omega)]
            rw [List.drop_of_length_le (by omega)] at ih
            have := hc x
            simp only [sumF] at ih ⊢
            omega
theorem withoutL_get (F : Int) : ∀ (es : List Ed) (i k : Nat) (h : k < es.length) (h' : k < (withoutL F es i).length), (withoutL F es i)[k] = if hasN F ((i + k : Nat) : Int) = true then ⟨es[k].f0, es[k].f1, 0⟩ else es[k]
  | e :: r, i, 0, h, h' => by simp only [withoutL, List.getElem_cons_zero, Nat.add_zero]
  | e :: r, i, k + 1, h, h' => by
    simp only [withoutL, List.getElem_cons_succ]
    rw [withoutL_get F r (i + 1) k (by simpa using h)]
    rw [show i + 1 + k = i + (k + 1) by omega]
theorem withoutL_len (F : Int) : ∀ (es : List Ed) (i : Nat), (withoutL F es i).length = es.length
  | [], _ => rfl
  | e :: r, i => by rw [withoutL, List.length_cons, List.length_cons, withoutL_len F r]
theorem capL_one (e : Ed) (set : Int) : capL [e] set = if leavesE set e = true then e.f2 else 0 := by
  unfold capL
  rw [List.filter_cons]
  split <;> simp [sumCap]
theorem capL_without (F : Int) (es : List Ed) (c : Int) : ∀ k, k ≤ es.length → sumF es ((leavF c es k).filter (fun i => !hasN F (i.val : Int))) = capL ((withoutL F es 0).take k) c
  | 0, _ => by simp [leavF, sumF, capL, sumCap]
  | k + 1, hk => by
    have ih := capL_without F es c k (by omega)
    have hlt : k < es.length := by omega
    have hlt' : k < (withoutL F es 0).length := by rw [withoutL_len]; exact hlt
    rw [List.take_succ_eq_append_getElem hlt', capL_append, ← ih, withoutL_get F es 0 k hlt hlt', Nat.zero_add, capL_one]
    by_cases hl : leavesE c es[k] = true
    · rw [leavF_take hlt hl, List.filter_append]
      by_cases hF : hasN F (k : Int) = true
      · rw [if_pos hF]
        have : List.filter (fun i : Fin es.length => !hasN F (i.val : Int)) [⟨k, hlt⟩] = [] := by simp [hF]
        rw [this, List.append_nil]
        split <;> simp
      · rw [if_neg hF, if_pos hl]
        have : List.filter (fun i : Fin es.length => !hasN F (i.val : Int)) [⟨k, hlt⟩] = [⟨k, hlt⟩] := by simp [hF]
        rw [this, sumF_snoc, rd_mem es k hlt]
    · have hl' : leavesE c es[k] = false := by simpa using hl
      rw [leavF_skip hlt hl']
      by_cases hF : hasN F (k : Int) = true
      · have : leavesE c (⟨es[k].f0, es[k].f1, 0⟩ : Ed) = false := hl'
        rw [if_pos hF, if_neg (by rw [this]; simp)]; omega
      · rw [if_neg hF, if_neg hl]; omega
theorem leavF_lt (c : Int) (es : List Ed) : ∀ k, ∀ i, i ∈ leavF c es k → i.val < k
  | 0, i, h => by simp [leavF] at h
  | k + 1, i, h => by
    by_cases hk : k < es.length
    · by_cases hl : leavesE c es[k] = true
      · rw [leavF_take hk hl] at h
        rcases List.mem_append.mp h with h | h
        · have := leavF_lt c es k i h; omega
        · rw [List.mem_singleton.mp h]; exact Nat.lt_succ_self k
      · rw [leavF_skip hk (by simpa using hl)] at h
        have := leavF_lt c es k i h; omega
    · have := i.isLt; omega
theorem leavF_nodup (c : Int) (es : List Ed) : ∀ k, (leavF c es k).Nodup
  | 0 => by simp [leavF]
  | k + 1 => by
    by_cases hk : k < es.length
    · by_cases hl : leavesE c es[k] = true
      · rw [leavF_take hk hl, List.nodup_append]
        refine ⟨leavF_nodup c es k, by simp, fun a ha b hb e => ?_⟩
        have h1 := leavF_lt c es k a ha
        rw [List.mem_singleton.mp hb] at e
        rw [e] at h1
        exact absurd h1 (Nat.lt_irrefl k)
      · rw [leavF_skip hk (by simpa using hl)]; exact leavF_nodup c es k
    · unfold leavF; rw [dif_neg hk]; exact leavF_nodup c es k
theorem nodup_le {α : Type} [DecidableEq α] : ∀ (L ps : List α), L.Nodup → (∀ x, x ∈ L → x ∈ ps) → L.length ≤ ps.length
  | [], _, _, _ => Nat.zero_le _
  | x :: r, ps, hn, h => by
    obtain ⟨h1, h2⟩ := List.nodup_cons.mp hn
    have hx := h x List.mem_cons_self
    have ih := nodup_le r (ps.erase x) h2 (fun y hy => (List.mem_erase_of_ne (fun e => h1 (by rw [← e]; exact hy))).mpr (h y (List.mem_cons_of_mem _ hy)))
    rw [List.length_erase_of_mem hx] at ih
    have : 0 < ps.length := List.length_pos_of_mem hx
    rw [List.length_cons]; omega
/-- What a cut loses at least, after at most k failures. -/
def worstV (es : List Ed) (k : Nat) (c : Int) : Int := sumF es ((sortedF es (leavF c es es.length)).drop k)
theorem goodCap {es : List Ed} (hg : goodL es) (i : Fin es.length) : 0 ≤ capI es i ∧ capI es i ≤ 10000 := by
  unfold capI
  rw [rd_mem es i.val i.isLt]
  exact (hg es[i.val] (List.getElem_mem i.isLt)).2.2.2
theorem worst_lower (es : List Ed) (hg : goodL es) (k : Nat) (c F : Int) (hF : ((leavF c es es.length).filter (fun i => hasN F (i.val : Int))).length ≤ k) : worstV es k c ≤ capL (withoutL F es 0) c := by
  have h1 := capL_without F es c es.length (Nat.le_refl _)
  rw [List.take_of_length_le (by rw [withoutL_len]; exact Nat.le_refl _)] at h1
  have hp := sortedF_perm es (leavF c es es.length)
  have h2 := sumF_perm es (hp.filter (fun i => !hasN F (i.val : Int)))
  rw [← h1, ← h2]
  refine sumF_filter_le es (fun i => (goodCap hg i).1) (fun i => hasN F (i.val : Int)) _ k (sortedF_desc es _) ?_
  rw [(hp.filter (fun i => hasN F (i.val : Int))).length_eq]
  exact hF
theorem failedN_has {m : Nat} (l : List (Fin m)) (x : Nat) : hasN (failedN l : Int) (x : Int) = true ↔ ∃ i, i ∈ l ∧ i.val = x := by
  rw [hasN_bit]
  suffices h : ∀ (l : List (Fin m)) (a : Nat), (l.foldl (fun a i => a ||| 2 ^ i.val) a).testBit x = true ↔ a.testBit x = true ∨ ∃ i, i ∈ l ∧ i.val = x by
    have := h l 0
    unfold failedN
    rw [this]
    simp
  intro l
  induction l with
  | nil => intro a; simp
  | cons y r ih =>
    intro a
    rw [List.foldl_cons, ih, Nat.testBit_or, Nat.testBit_two_pow]
    simp only [Bool.or_eq_true, decide_eq_true_eq, List.mem_cons]
    constructor
    · rintro ((h | h) | ⟨i, h1, h2⟩)
      · exact .inl h
      · exact .inr ⟨y, .inl rfl, h⟩
      · exact .inr ⟨i, .inr h1, h2⟩
    · rintro (h | ⟨i, h1 | h1, h2⟩)
      · exact .inl (.inl h)
      · subst h1; exact .inl (.inr h2)
      · exact .inr ⟨i, h1, h2⟩
theorem take_filter {α : Type} (l : List α) (k : Nat) (p : α → Bool) (h1 : ∀ x, x ∈ l.take k → p x = true) (h2 : ∀ x, x ∈ l.drop k → p x = false) : l.filter (fun x => !p x) = l.drop k ∧ l.filter p = l.take k := by
  have e := List.take_append_drop k l
  have a1 : (l.take k).filter (fun x => !p x) = [] := List.filter_eq_nil_iff.mpr (fun x hx => by rw [h1 x hx]; simp)
  have a2 : (l.drop k).filter (fun x => !p x) = l.drop k := List.filter_eq_self.mpr (fun x hx => by rw [h2 x hx]; rfl)
  have a3 : (l.take k).filter p = l.take k := List.filter_eq_self.mpr h1
  have a4 : (l.drop k).filter p = [] := List.filter_eq_nil_iff.mpr (fun x hx => by rw [h2 x hx]; simp)
  refine ⟨?_, ?_⟩
  · have : (l.take k ++ l.drop k).filter (fun x => !p x) = l.drop k := by rw [List.filter_append, a1, a2, List.nil_append]
    rwa [e] at this
  · have : (l.take k ++ l.drop k).filter p = l.take k := by rw [List.filter_append, a3, a4, List.append_nil]
    rwa [e] at this
/-- The failures that Worst names leave of their cut what it says; they are at most k. -/
theorem worst_exact (es : List Ed) (k : Nat) (c : Int) : capL (withoutL (failedN ((sortedF es (leavF c es es.length)).take k) : Int) es 0) c = worstV es k c := by
  have hp := sortedF_perm es (leavF c es es.length)
  have hn : (sortedF es (leavF c es es.length)).Nodup := hp.nodup_iff.mpr (leavF_nodup c es _)
  have h1 := capL_without (failedN ((sortedF es (leavF c es es.length)).take k) : Int) es c es.length (Nat.le_refl _)
  have he : ∀ F, (withoutL F es 0).take es.length = withoutL F es 0 := fun F => List.take_of_length_le (by rw [withoutL_len]; exact Nat.le_refl _)
  rw [he] at h1
  have h2 := sumF_perm es (hp.filter (fun i => !hasN (failedN ((sortedF es (leavF c es es.length)).take k) : Int) (i.val : Int)))
  rw [← h1, ← h2]
  unfold worstV
  generalize sortedF es (leavF c es es.length) = S at *
  rw [(take_filter S k (fun i => hasN (failedN (S.take k) : Int) (i.val : Int)) (fun x hx => (failedN_has _ _).mpr ⟨x, hx, rfl⟩) (fun x hx => ?_)).1]
  cases hh : hasN (failedN (S.take k) : Int) (x.val : Int) with
  | false => rfl
  | true =>
    obtain ⟨i, hi, he⟩ := (failedN_has _ _).mp hh
    have hix : i = x := Fin.ext he
    rw [← List.take_append_drop k S, List.nodup_append] at hn
    exact absurd hix (hn.2.2 i hi x hx)
theorem failed_count {m : Nat} (l : List (Fin m)) (L : List (Fin m)) (hn : L.Nodup) : (L.filter (fun i => hasN (failedN l : Int) (i.val : Int))).length ≤ l.length := by
  refine nodup_le _ l (hn.filter _) (fun x hx => ?_)
  obtain ⟨i, hi, he⟩ := (failedN_has _ _).mp (List.mem_filter.mp hx).2
  rwa [Fin.ext he.symm]
theorem failedN_lt' {m : Nat} (l : List (Fin m)) : failedN l < 2 ^ m := by
  suffices h : ∀ (l : List (Fin m)) (a : Nat), a < 2 ^ m → l.foldl (fun a i => a ||| 2 ^ i.val) a < 2 ^ m by
    exact h l 0 (Nat.two_pow_pos m)
  intro l
  induction l with
  | nil => intro a h; exact h
  | cons x r ih =>
    intro a h
    exact ih _ (Nat.or_lt_two_pow h (Nat.pow_lt_pow_right (by decide) x.isLt))
theorem onesN_nn : ∀ d x, 0 ≤ onesN d x
  | 0, _ => Int.le_refl _
  | d + 1, x => by have := onesN_nn d (x / 2); rw [onesN]; omega
theorem onesN_zero : ∀ d, onesN d 0 = 0
  | 0 => rfl
  | d + 1 => by rw [onesN, Nat.zero_mod, Nat.zero_div, onesN_zero d]; rfl
theorem onesN_or : ∀ (d a i : Nat), onesN d (a ||| 2 ^ i) ≤ onesN d a + 1
  | 0, a, i => by rw [onesN, onesN]; omega
  | d + 1, a, 0 => by
    rw [onesN, onesN, Nat.pow_zero]
    have e1 : (a ||| 1) / 2 = a / 2 := by rw [Nat.or_div_two]; simp
    have e2 : (a ||| 1) % 2 ≤ 1 := by omega
    rw [e1]; omega
  | d + 1, a, i + 1 => by
    rw [onesN, onesN]
    have ih := onesN_or d (a / 2) i
    have e1 : (a ||| 2 ^ (i + 1)) / 2 = a / 2 ||| 2 ^ i := by
      rw [Nat.or_div_two]
      congr 1
      rw [Nat.pow_succ]; omega
    have e2 : (a ||| 2 ^ (i + 1)) % 2 = a % 2 := by
      have h := Nat.testBit_or a (2 ^ (i + 1)) 0
      have h0 : (2 ^ (i + 1)).testBit 0 = false := by rw [Nat.testBit_two_pow]; simp
      rw [h0, Bool.or_false, Nat.testBit_zero, Nat.testBit_zero] at h
      have := decide_eq_decide.mp h
      omega
    rw [e1, e2]; omega
theorem failed_ones {m : Nat} (d : Nat) (l : List (Fin m)) : onesN d (failedN l) ≤ l.length := by
  suffices h : ∀ (l : List (Fin m)) (a : Nat), onesN d (l.foldl (fun a i => a ||| 2 ^ i.val) a) ≤ onesN d a + l.length by
    have := h l 0
    rw [onesN_zero] at this
    unfold failedN
    omega
  intro l
  induction l with
  | nil => intro a; simp
  | cons x r ih =>
    intro a
    have h1 := ih (a ||| 2 ^ x.val)
    have h2 := onesN_or d a x.val
    rw [List.foldl_cons, List.length_cons]
    omega
theorem best_ok (es : List Ed) (hg : goodL es) (s t : Int) (k : Nat) : ∀ (d c : Nat) (b : Int × Int × Int),
    ((b.2.1 < 0 ∧ ∀ x : Nat, x < c → ¬ (hasN x s && !hasN x t) = true) ∨ (∃ x : Nat, x < c ∧ (hasN x s && !hasN x t) = true ∧ b = worstAt es k x ∧ ∀ y : Nat, y < c → (hasN y s && !hasN y t) = true → b.2.1 ≤ worstV es k y)) →
    (((bestF es s t k d c b).2.1 < 0 ∧ ∀ x : Nat, x < c + d → ¬ (hasN x s && !hasN x t) = true) ∨ (∃ x : Nat, x < c + d ∧ (hasN x s && !hasN x t) = true ∧ bestF es s t k d c b = worstAt es k x ∧ ∀ y : Nat, y < c + d → (hasN y s && !hasN y t) = true → (bestF es s t k d c b).2.1 ≤ worstV es k y))
  | 0, c, b, h => h
  | d + 1, c, b, h => by
    rw [bestF, show c + (d + 1) = c + 1 + d by omega]
    refine best_ok es hg s t k d (c + 1) _ ?_
    have hw0 : ∀ x : Int, 0 ≤ worstV es k x := fun x => (sumF_bound es (fun k hk => by have := goodCap hg ⟨k, hk⟩; exact this) _).1
    have hwv : ∀ x : Nat, (worstAt es k x).2.1 = worstV es k x := fun x => rfl
    by_cases hc : (hasN c s && !hasN c t) = true
    · rw [if_pos hc]
      by_cases hb : betterB b (worstAt es k c) = true
      · rw [if_pos hb]
        refine .inr ⟨c, by omega, hc, rfl, fun y hy hyc => ?_⟩
        rw [hwv]
        by_cases e : y = c
        · rw [e]; exact Int.le_refl _
        · rcases h with ⟨_, h2⟩ | ⟨x, _, _, h3, h4⟩
          · exact absurd hyc (h2 y (by omega))
          · have h5 := h4 y (by omega) hyc
            unfold betterB at hb
            rw [hwv, Bool.or_eq_true, decide_eq_true_eq, decide_eq_true_eq] at hb
            have h6 : b.2.1 = worstV es k x := by rw [h3, hwv]
            have := hw0 x
            omega
      · rw [if_neg hb]
        unfold betterB at hb
        rw [hwv, Bool.or_eq_true, decide_eq_true_eq, decide_eq_true_eq] at hb
        rcases h with ⟨h1, _⟩ | ⟨x, h1, h2, h3, h4⟩
        · exact absurd (.inl h1) hb
        · refine .inr ⟨x, by omega, h2, h3, fun y hy hyc => ?_⟩
          by_cases e : y = c
          · rw [e]; omega
          · exact h4 y (by omega) hyc
    · rw [if_neg hc]
      rcases h with ⟨h1, h2⟩ | ⟨x, h1, h2, h3, h4⟩
      · refine .inl ⟨h1, fun x hx => ?_⟩
        by_cases e : x = c
        · rw [e]; exact hc
        · exact h2 x (by omega)
      · refine .inr ⟨x, by omega, h2, h3, fun y hy hyc => ?_⟩
        by_cases e : y = c
        · rw [e] at hyc; exact absurd hyc hc
        · exact h4 y (by omega) hyc
theorem isCut_nat (n s t : Nat) (c : Nat) (hc : c < 2 ^ n) : isCut n s t (c : Int) ↔ (hasN c s && !hasN c t) = true := by
  have e : ((2 ^ n : Nat) : Int) = (2 : Int) ^ n := by simp
  unfold isCut
  rw [Bool.and_eq_true, Bool.not_eq_true']
  constructor
  · intro h; exact ⟨h.2.2.1, h.2.2.2⟩
  · intro h; exact ⟨Int.natCast_nonneg _, by rw [← e]; omega, h.1, h.2⟩
/-- What flow.Worst returns: a cut, and failures of it; no cut can lose more. -/
theorem worst_is (n s t : Nat) (es : List Ed) (k : Nat) (hp : pairB n es s t = true) (hk : k ≤ 3) :
    ∃ (c : Nat) (fl : List (Fin es.length)), fl.length ≤ k ∧ isCut n s t (c : Int) ∧ flow_Worst.f n es s t k = some ((failedN fl : Int), worstV es k c, (c : Int), 0) ∧
      capL (withoutL (failedN fl : Int) es 0) c = worstV es k c ∧ (∀ set, isCut n s t set → worstV es k c ≤ worstV es k set) ∧ 0 ≤ worstV es k c ∧ worstV es k c ≤ 400000 := by
  have hq := pairB_iff.mp hp
  have hg := goodL_of hq.1
  have hv := validB_iff.mp hq.1
  have hn : n ≤ 12 := by omega
  have hs : s < n := by omega
  have hst : s ≠ t := fun e => hq.2.2.2 (by rw [e])
  have e2 : ((2 ^ n : Nat) : Int) = (2 : Int) ^ n := by simp
  have hb := best_ok es hg s t k (2 ^ n) 0 (0, -1, 0) (.inl ⟨by decide, fun x hx => by omega⟩)
  rw [Nat.zero_add] at hb
  rcases hb with ⟨_, h⟩ | ⟨c, hc, hcut, he, hle⟩
  · refine absurd ?_ (h (2 ^ s) (Nat.pow_lt_pow_right (by decide) hs))
    rw [hasN_bit, hasN_bit, Nat.testBit_two_pow, Nat.testBit_two_pow]
    simp [hst]
  · refine ⟨c, (sortedF es (leavF c es es.length)).take k, by rw [List.length_take]; exact Nat.min_le_left _ _, (isCut_nat n s t c hc).mpr hcut, ?_, worst_exact es k c, fun set hset => ?_, ?_⟩
    · unfold flow_Worst.f
      rw [if_pos (by rw [hp, Bool.true_and, Bool.and_eq_true, decide_eq_true_eq, decide_eq_true_eq]; omega), Int.toNat_natCast, Int.toNat_natCast, he]
      rfl
    · obtain ⟨x, rfl⟩ := Int.eq_ofNat_of_zero_le hset.1
      have hx : x < 2 ^ n := by have := hset.2.1; rw [← e2] at this; omega
      have := hle x hx ((isCut_nat n s t x hx).mp hset)
      rw [he] at this
      exact this
    · have hbd := sumF_bound es (fun k hk => by have := goodCap hg ⟨k, hk⟩; exact this) ((sortedF es (leavF c es es.length)).drop k)
      have h1 : ((sortedF es (leavF (c : Int) es es.length)).drop k).length ≤ 40 := by
        rw [List.length_drop, sortedF_length]
        have := leavF_length (c : Int) es es.length
        omega
      unfold worstV
      omega
end Go.Proofs.Ytkkakdpncogpkaa.D
end
section
/- What flow.CheckWorst accepts of flow.Worst; failures of made nets. Conditions: none. -/
namespace Go.Proofs.Ytkkakdpncogpkaa.D
open Go.RowKit Go.Proofs.YtkkakdpncogpkaaW.PrintWords Go.Proofs.YtkkakdpncogpkaaW.PrintLast Go.Proofs.YtkkakdpncogpkaaW.PrintMore
set_option linter.unusedVariables false
theorem failed_range {es : List Ed} (fl : List (Fin es.length)) : 0 ≤ (failedN fl : Int) ∧ (failedN fl : Int) < 2 ^ es.length := by
  have h := failedN_lt' fl
  have e : ((2 ^ es.length : Nat) : Int) = (2 : Int) ^ es.length := by simp
  exact ⟨Int.natCast_nonneg _, by rw [← e]; omega⟩
theorem pair_without {n s t : Nat} {es : List Ed} (F : Int) (h : pairB n es s t = true) : pairB n (withoutL F es 0) s t = true := by
  have hq := pairB_iff.mp h
  have hv := validB_iff.mp hq.1
  rw [pairB_iff, validB_iff]
  refine ⟨⟨hv.1, by rw [withoutL_len]; exact hv.2.1, fun e he => ?_⟩, hq.2⟩
  obtain ⟨i, hi, rfl⟩ := List.mem_iff_getElem.mp he
  have hi' : i < es.length := by rw [withoutL_len] at hi; exact hi
  obtain ⟨a, b, c, d⟩ := hv.2.2 es[i] (List.getElem_mem hi')
  rw [withoutL_get F es 0 i hi' hi]
  split
  · exact ⟨a, b, c, by show (0 : Int) ≤ 0 ∧ (0 : Int) ≤ 10000; omega⟩
  · exact ⟨a, b, c, d⟩
theorem worst_checked (n s t : Nat) (es : List Ed) (k : Nat) (hp : pairB n es s t = true) (hk : k ≤ 3) (c : Nat) (fl : List (Fin es.length)) (hfl : fl.length ≤ k) (hc : isCut n s t (c : Int)) (v : Int) (hv : capL (withoutL (failedN fl : Int) es 0) c = v) (K : Nat) (hK : 41 ≤ K) :
    flow_CheckWorst.f K n es s t k (failedN fl : Int) v (c : Int) = some true := by
  have hq := pairB_iff.mp hp
  have hlen := (validB_iff.mp hq.1).2.1
  obtain ⟨f0, f1⟩ := failed_range fl
  obtain ⟨K, rfl⟩ : ∃ j, K = j + 1 := ⟨K - 1, by omega⟩
  have h40 := failedN_lt hlen fl
  have h1 := failed_ones 40 fl
  unfold flow_CheckWorst.f
  rw [without_f n es _ hq.1 f0 f1, Option.bind_some]
  dsimp only
  rw [if_pos rfl, isIn_f, Option.bind_some, if_pos (by simp; omega), wrap_u64 _ (by omega)]
  unfold bits_OnesCount.f
  rw [if_pos (by simp only [Bool.and_eq_true, decide_eq_true_eq]; omega), Option.bind_some, Int.toNat_natCast, flow_CheckWorst.j0, decide_eq_false (by omega), if_neg Bool.false_ne_true, checkCut_f n s t _ c (pair_without _ hp) K (by omega), if_pos hc, Option.bind_some]
  dsimp only
  rw [if_pos rfl, hv]
  simp
/-- The greatest flow after failures is at least what Worst says. -/
theorem after_ge {n s t : Nat} {es : List Ed} {k : Nat} {w : Int} (hp : pairB n es s t = true) (hw : ∀ set, isCut n s t set → w ≤ worstV es k set) (fl : List (Fin es.length)) (hfl : fl.length ≤ k) (set : Int) (hs : isCut n s t set) : w ≤ capL (withoutL (failedN fl : Int) es 0) set := by
  have hg := goodL_of (pairB_iff.mp hp).1
  have h1 := worst_lower es hg k set (failedN fl : Int) (Nat.le_trans (failed_count fl _ (leavF_nodup set es _)) hfl)
  exact Int.le_trans (hw set hs) h1
theorem worstV_zero (es : List Ed) (c : Int) : worstV es 0 c = capL es c := by
  unfold worstV
  rw [List.drop_zero, sumF_perm es (sortedF_perm es _), sumF_leav c es es.length (Nat.le_refl _), List.take_length]
theorem worstV_mono (es : List Ed) (hg : goodL es) (k : Nat) (c : Int) : worstV es (k + 1) c ≤ worstV es k c := by
  unfold worstV
  generalize sortedF es (leavF c es es.length) = L
  by_cases h : k < L.length
  · rw [List.drop_eq_getElem_cons h, sumF_cons]
    have := (goodCap hg L[k]).1
    omega
  · rw [List.drop_of_length_le (by omega), List.drop_of_length_le (by omega)]; exact Int.le_refl _
theorem hasN_pow (q j : Nat) : hasN ((2 : Int) ^ q) (j : Int) = decide (q = j) := by
  have e : (2 : Int) ^ q = ((2 ^ q : Nat) : Int) := by simp
  rw [e, hasN_bit, Nat.testBit_two_pow]
theorem cap_without_one (set : Int) (q : Nat) : ∀ (es : List Ed) (i : Nat), (∀ e, e ∈ es → 0 ≤ e.f2) → capL (withoutL ((2 : Int) ^ q) es i) set ≤ capL es set ∧ capL es set ≤ capL (withoutL ((2 : Int) ^ q) es i) set + (if i ≤ q then (es.getD (q - i) ⟨0, 0, 0⟩).f2 else 0)
  | [], i, _ => by
    refine ⟨Int.le_refl _, ?_⟩
    split <;> simp [withoutL, capL, sumCap]
  | e :: r, i, h => by
    have he := h e List.mem_cons_self
    obtain ⟨h1, h2⟩ := cap_without_one set q r (i + 1) (fun x hx => h x (List.mem_cons_of_mem _ hx))
    unfold capL at h1 h2 ⊢
    rw [withoutL, hasN_pow, List.filter_cons, List.filter_cons]
    by_cases hqi : q = i
    · subst hqi
      rw [if_neg (by omega)] at h2
      rw [decide_eq_true rfl, if_pos rfl, if_pos (Nat.le_refl _), Nat.sub_self, List.getD_cons_zero]
      have hl : leavesE set (⟨e.f0, e.f1, 0⟩ : Ed) = leavesE set e := rfl
      rw [hl]
      split
      · rw [sumCap, sumCap]; show 0 + _ ≤ _ ∧ _ ≤ 0 + _ + _; omega
      · omega
    · rw [decide_eq_false hqi, if_neg Bool.false_ne_true]
      have hb : (if i + 1 ≤ q then (r.getD (q - (i + 1)) ⟨0, 0, 0⟩).f2 else 0) = (if i ≤ q then ((e :: r).getD (q - i) (⟨0, 0, 0⟩ : Ed)).f2 else 0) := by
        by_cases h3 : i ≤ q
        · rw [if_pos (by omega), if_pos h3, show q - i = (q - (i + 1)) + 1 by omega, List.getD_cons_succ]
        · rw [if_neg (by omega), if_neg h3]
      rw [← hb]
      split
      · rw [sumCap, sumCap]; omega
      · exact ⟨h1, h2⟩
end Go.Proofs.Ytkkakdpncogpkaa.D
end
section
/- FlowWorst: no failures leave less than Worst says. Conditions: integers are of 64 bits. -/
namespace Go.Proofs.Ytkkakdpncogpkaa.D
open Go.RowKit Go.Proofs.YtkkakdpncogpkaaW.PrintWords Go.Proofs.YtkkakdpncogpkaaW.PrintLast Go.Proofs.YtkkakdpncogpkaaW.PrintMore
set_option linter.unusedVariables false
theorem worst_j1 (n s t : Nat) (es : List Ed) (hM : MadeIs n es) (hp : pairB n es s t = true) (m : Nat) (c : Nat) (f0 : List (Fin es.length)) (w : Int) (hf0 : f0.length ≤ m) (hc : isCut n s t (c : Int)) (hex : capL (withoutL (failedN f0 : Int) es 0) c = w) (hmin : ∀ set, isCut n s t set → w ≤ worstV es m set)
    (fl : List (Fin es.length)) (hfl : fl.length ≤ m) (a6 : Int) (h6 : I64 a6) (K : Nat) (hK : 42 ≤ K) :
    dialtonelaw27_FlowWorst.j1 K a6 s t (failedN fl : Int) n es (failedN f0 : Int) w (c : Int) = some true := by
  obtain ⟨K, rfl⟩ : ∃ j, K = j + 1 := ⟨K - 1, by omega⟩
  have hq := pairB_iff.mp hp
  have hhi := hM.hi
  obtain ⟨x0, x1⟩ := failed_range fl
  obtain ⟨y0, y1⟩ := failed_range f0
  obtain ⟨l1, cut1, v1, p1, p2, p3⟩ := greatest_f n s t _ (pair_without (failedN fl : Int) hp) K (by omega)
  obtain ⟨l2, cut2, v2, q1, q2, q3⟩ := greatest_f n s t _ (pair_without (failedN f0 : Int) hp) K (by omega)
  obtain ⟨st, e6, r0, r1⟩ := pick_f a6 (2 ^ n) h6 (pow_pos2 _)
  have hv1 : w ≤ v1 := by
    have := after_ge hp hmin fl hfl cut1 p2.isc
    rw [p2.cap] at this
    exact this
  have hv2 : v2 = w := by
    have h1 := after_ge hp hmin f0 hf0 cut2 q2.isc
    rw [q2.cap] at h1
    have h2 := q2.le c hc
    omega
  rw [dialtonelaw27_FlowWorst.j1, without_f n es _ hq.1 x0 x1, Option.bind_some]
  dsimp only
  rw [if_pos rfl, p3, Option.bind_some]
  dsimp only
  rw [if_pos rfl, if_neg (by omega), without_f n es _ hq.1 y0 y1, Option.bind_some]
  dsimp only
  rw [if_pos rfl, q3, Option.bind_some]
  dsimp only
  rw [if_pos rfl, if_pos hv2, if_pos (by omega), shl_one n (by omega), e6, Option.bind_some, checkCut_f n s t _ st (pair_without _ hp) K (by omega)]
  by_cases hcut : isCut n s t st
  · rw [if_pos hcut, Option.bind_some]
    dsimp only
    rw [if_pos rfl, decide_eq_true (after_ge hp hmin fl hfl st hcut)]
  · rw [if_neg hcut, Option.bind_some]
    dsimp only
    rw [if_neg Bool.false_ne_true]
theorem or_powW (F e : Nat) (hF : F < 1099511627776) (he : e < 40) : Go.bits .or .i64 (F : Int) (2 ^ e) = ((F ||| 2 ^ e : Nat) : Int) := by
  have h := or_two F e hF he
  have h2 := pow_bound (show e ≤ 40 by omega)
  have h3 := pow_pos2 e
  have h4 : (2 : Int) ^ 40 = 1099511627776 := by decide
  rw [wrap64_small (by omega) (by omega)] at h
  exact h
theorem worst_l0 (n s t : Nat) (es : List Ed) (hM : MadeIs n es) (hp : pairB n es s t = true) (m : Nat) (hm : m ≤ 3) (c : Nat) (f0 : List (Fin es.length)) (w : Int) (hf0 : f0.length ≤ m) (hc : isCut n s t (c : Int)) (hex : capL (withoutL (failedN f0 : Int) es 0) c = w) (hmin : ∀ set, isCut n s t set → w ≤ worstV es m set)
    (b0 b1 b2 a6 : Int) (hb0 : I64 b0) (hb1 : I64 b1) (hb2 : I64 b2) (h6 : I64 a6) :
    ∀ (d i k : Nat) (fl : List (Fin es.length)), i + d = m → d + 43 ≤ k → fl.length ≤ i → dialtonelaw27_FlowWorst.l0 k a6 s t m (failedN fl : Int) (i : Int) b0 b1 b2 n es (failedN f0 : Int) w (c : Int) = some true
  | d, i, k + 1, fl, hi, hk, hfl => by
    rw [dialtonelaw27_FlowWorst.l0]
    have h16 := hM.len
    by_cases hlt : (i : Int) < (m : Int)
    · rw [if_pos hlt]
      by_cases hz : (es.length : Int) > 0
      · have hrd : I64 (rd [b0, b1, b2] (i : Int)) := by
          have : i = 0 ∨ i = 1 ∨ i = 2 := by omega
          rcases this with rfl | rfl | rfl
          · exact hb0
          · exact hb1
          · exact hb2
        obtain ⟨q, e, q0, q1⟩ := pick_f _ (es.length : Int) hrd (by omega)
        obtain ⟨p, rfl⟩ := Int.eq_ofNat_of_zero_le q0
        have hpl : p < es.length := by omega
        have h40 := failedN_lt (m := es.length) (by omega) fl
        rw [if_pos hz, if_pos (by omega), if_pos (by omega), e, Option.bind_some, if_pos q0, shl_one p (by omega), or_powW _ p h40 (by omega), wrap64_small (x := (i : Int) + 1) (by omega) (by omega), show ((i : Int) + 1) = ((i + 1 : Nat) : Int) by omega]
        have hsn := failedN_snoc fl ⟨p, hpl⟩
        rw [← hsn]
        match d, hi, hk with
        | d + 1, hi, hk => exact worst_l0 n s t es hM hp m hm c f0 w hf0 hc hex hmin b0 b1 b2 a6 hb0 hb1 hb2 h6 d (i + 1) k _ (by omega) (by omega) (by simp; omega)
        | 0, hi, hk => omega
      · rw [if_neg hz]
        exact worst_j1 n s t es hM hp m c f0 w hf0 hc hex hmin fl (by omega) a6 h6 k (by omega)
    · rw [if_neg hlt]
      exact worst_j1 n s t es hM hp m c f0 w hf0 hc hex hmin fl (by omega) a6 h6 k (by omega)
theorem FlowWorst_true (a0 : Int) (x : List S23) (a2 a3 a4 b0 b1 b2 a6 : Int) (h0 : I64 a0) (hx : AllI64 x) (h2 : I64 a2) (h3 : I64 a3) (h4 : I64 a4) (hb0 : I64 b0) (hb1 : I64 b1) (hb2 : I64 b2) (h6 : I64 a6) : dialtonelaw27_FlowWorst.f 64 a0 x a2 a3 a4 b0 b1 b2 a6 = some true := by
  obtain ⟨n, es, e1, hM⟩ := made_f a0 x h0 hx 64 (by omega)
  have hlo := hM.lo
  have hhi := hM.hi
  obtain ⟨s, t, e2, hs, ht, hst⟩ := ends_f n es a2 a3 h2 h3 (by omega) (by omega)
  have hp := hM.pair hs ht hst
  obtain ⟨q, e5, q0, q1⟩ := pick_f a4 4 h4 (by omega)
  obtain ⟨m, rfl⟩ := Int.eq_ofNat_of_zero_le q0
  obtain ⟨c, f0, hf0, hc, e3, hex, hmin, _, _⟩ := worst_is n s t es m hp (by omega)
  unfold dialtonelaw27_FlowWorst.f
  rw [sane_64, Option.bind_some, if_pos rfl, e1, Option.bind_some]
  dsimp only
  rw [e2, Option.bind_some, e5, Option.bind_some]
  dsimp only
  rw [e3, Option.bind_some]
  dsimp only
  rw [if_pos rfl, worst_checked n s t es m hp (by omega) c f0 hf0 hc _ hex 64 (by omega), Option.bind_some, if_pos rfl]
  exact worst_l0 n s t es hM hp m (by omega) c f0 _ hf0 hc hex hmin b0 b1 b2 a6 hb0 hb1 hb2 h6 m 0 64 [] (by omega) (by omega) (by simp)
end Go.Proofs.Ytkkakdpncogpkaa.D
end
