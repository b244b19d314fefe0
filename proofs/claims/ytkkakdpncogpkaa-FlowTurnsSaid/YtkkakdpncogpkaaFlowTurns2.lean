/- Parts of the proof of a law about flows (see the law's own text): A9, PTurns. Conditions: each theorem's own. -/
import Derived.Test.YtkkakdpncogpkaaBase29
import Derived.Test.YtkkakdpncogpkaaFlowTurns1
section
/- Sets of nodes as numbers, and nets with the same cuts. Conditions: none. -/
namespace Go.Proofs.Ytkkakdpncogpkaa.D
open Go.RowKit Go.Proofs.YtkkakdpncogpkaaW.PrintWords Go.Proofs.YtkkakdpncogpkaaW.PrintLast Go.Proofs.YtkkakdpncogpkaaW.PrintMore
set_option linter.unusedVariables false
theorem hasN_bit (N x : Nat) : hasN (N : Int) (x : Int) = N.testBit x := by
  unfold hasN
  rw [Int.toNat_natCast, Nat.testBit_eq_decide_div_mod_eq]
  have e : ((N : Int) / 2 ^ x % 2) = ((N / 2 ^ x % 2 : Nat) : Int) := by simp
  rw [e]
  by_cases h : N / 2 ^ x % 2 = 1
  · rw [h]; rfl
  · rw [decide_eq_false h]
    exact decide_eq_false (by omega)
/-- Two sets of n nodes with the same nodes are one. -/
theorem set_ext (n : Nat) (a b : Int) (ha : 0 ≤ a ∧ a ≤ 2 ^ n - 1) (hb : 0 ≤ b ∧ b ≤ 2 ^ n - 1) (h : ∀ x, x < n → hasN a (x : Int) = hasN b (x : Int)) : a = b := by
  obtain ⟨A, rfl⟩ := Int.eq_ofNat_of_zero_le ha.1
  obtain ⟨B, rfl⟩ := Int.eq_ofNat_of_zero_le hb.1
  have e : ((2 ^ n : Nat) : Int) = (2 : Int) ^ n := by simp
  have hA : A < 2 ^ n := by have h := ha.2; rw [← e] at h; omega
  have hB : B < 2 ^ n := by have h := hb.2; rw [← e] at h; omega
  congr 1
  refine Nat.eq_of_testBit_eq (fun i => ?_)
  by_cases hi : i < n
  · have := h i hi
    rwa [hasN_bit, hasN_bit] at this
  · rw [Nat.testBit_lt_two_pow (Nat.lt_of_lt_of_le hA (Nat.pow_le_pow_right (by decide) (by omega))), Nat.testBit_lt_two_pow (Nat.lt_of_lt_of_le hB (Nat.pow_le_pow_right (by decide) (by omega)))]
/-- Nets with the same cuts have the same value and the same least cut. -/
theorem MaxIs.same {n s t : Nat} {es es' : List Ed} {l l' : List Int} {cut cut' v v' : Int} (h : MaxIs n s t es l cut v) (h' : MaxIs n s t es' l' cut' v') (hc : ∀ set, isCut n s t set → capL es set = capL es' set) : v = v' ∧ cut = cut' := by
  have hv : v = v' := by
    have h1 := h.le cut' h'.isc
    have h2 := h'.le cut h.isc
    rw [hc cut' h'.isc, h'.cap] at h1
    rw [← hc cut h.isc, h.cap] at h2
    omega
  refine ⟨hv, set_ext n cut cut' ⟨h.isc.1, h.isc.2.1⟩ ⟨h'.isc.1, h'.isc.2.1⟩ (fun x hx => ?_)⟩
  cases e1 : hasN cut (x : Int) with
  | true =>
    have := h.least cut' h'.isc (by rw [hc cut' h'.isc, h'.cap, hv]) x hx e1
    rw [this]
  | false =>
    cases e2 : hasN cut' (x : Int) with
    | false => rfl
    | true =>
      have := h'.least cut h.isc (by rw [← hc cut h.isc, h.cap, hv]) x hx e2
      rw [e1] at this; cases this
/-- The nodes of a set that another one holds. -/
theorem and_sub (n : Nat) (hn : n ≤ 12) (a b : Int) (ha : 0 ≤ a ∧ a ≤ 2 ^ n - 1) (hb : 0 ≤ b ∧ b ≤ 2 ^ n - 1) (h : ∀ x, x < n → hasN b (x : Int) = true → hasN a (x : Int) = true) : Go.bits .and .i64 a b = b := by
  obtain ⟨A, rfl⟩ := Int.eq_ofNat_of_zero_le ha.1
  obtain ⟨B, rfl⟩ := Int.eq_ofNat_of_zero_le hb.1
  have e : ((2 ^ n : Nat) : Int) = (2 : Int) ^ n := by simp
  have h12 : 2 ^ n ≤ 2 ^ 12 := Nat.pow_le_pow_right (by decide) hn
  have hA : A < 2 ^ n := by have h := ha.2; rw [← e] at h; omega
  have hB : B < 2 ^ n := by have h := hb.2; rw [← e] at h; omega
  have k1 : (BitVec.ofInt 64 (A : Int)).toNat = A := by
    rw [BitVec.ofInt_natCast, BitVec.toNat_ofNat]; exact Nat.mod_eq_of_lt (by omega)
  have k2 : (BitVec.ofInt 64 (B : Int)).toNat = B := by
    rw [BitVec.ofInt_natCast, BitVec.toNat_ofNat]; exact Nat.mod_eq_of_lt (by omega)
  show IntKind.i64.wrap ((BitVec.ofInt 64 (A : Int) &&& BitVec.ofInt 64 (B : Int)).toNat : Int) = _
  rw [BitVec.toNat_and, k1, k2, i64_w]
  have hab : A &&& B = B := by
    refine Nat.eq_of_testBit_eq (fun i => ?_)
    rw [Nat.testBit_and]
    by_cases hi : i < n
    · have := h i hi
      rw [hasN_bit, hasN_bit] at this
      cases hb : B.testBit i with
      | false => simp
      | true => rw [this hb]; rfl
    · rw [Nat.testBit_lt_two_pow (x := B) (Nat.lt_of_lt_of_le hB (Nat.pow_le_pow_right (by decide) (by omega)))]; simp
  rw [hab]
  exact wrap64_small (by omega) (by omega)
theorem capL_append (a b : List Ed) (set : Int) : capL (a ++ b) set = capL a set + capL b set := by
  unfold capL; rw [List.filter_append, sumCap_append]
end Go.Proofs.Ytkkakdpncogpkaa.D
end
section
/- FlowTurns: with all edges turned around as much flows the other way; in another order the same, over the same cut. Conditions: integers are of 64 bits. -/
namespace Go.Proofs.Ytkkakdpncogpkaa.D
open Go.RowKit Go.Proofs.YtkkakdpncogpkaaW.PrintWords Go.Proofs.YtkkakdpncogpkaaW.PrintLast Go.Proofs.YtkkakdpncogpkaaW.PrintMore
set_option linter.unusedVariables false
/-- The other nodes. -/
theorem compl_has (n : Nat) (set : Int) (h : 0 ≤ set ∧ set ≤ 2 ^ n - 1) : (0 ≤ 2 ^ n - 1 - set ∧ 2 ^ n - 1 - set ≤ 2 ^ n - 1) ∧ ∀ x : Nat, x < n → hasN (2 ^ n - 1 - set) (x : Int) = !hasN set (x : Int) := by
  obtain ⟨A, rfl⟩ := Int.eq_ofNat_of_zero_le h.1
  have e : ((2 ^ n : Nat) : Int) = (2 : Int) ^ n := by simp
  have hA : A < 2 ^ n := by have h := h.2; rw [← e] at h; omega
  have e2 : ((2 : Int) ^ n - 1 - (A : Int)) = ((2 ^ n - (A + 1) : Nat) : Int) := by rw [← e]; omega
  refine ⟨by rw [← e]; omega, fun x hx => ?_⟩
  rw [e2, hasN_bit, hasN_bit, Nat.testBit_two_pow_sub_succ hA, decide_eq_true hx, Bool.true_and]
def backE (e : Ed) : Ed := ⟨e.f1, e.f0, e.f2⟩
theorem cap_back (n : Nat) (set : Int) (h : 0 ≤ set ∧ set ≤ 2 ^ n - 1) : ∀ es : List Ed, (∀ e, e ∈ es → (0 ≤ e.f0 ∧ e.f0 ≤ (n : Int) - 1) ∧ (0 ≤ e.f1 ∧ e.f1 ≤ (n : Int) - 1)) → capL (es.map backE) set = capL es (2 ^ n - 1 - set)
  | [], _ => rfl
  | e :: r, hg => by
    have ih := cap_back n set h r (fun x hx => hg x (List.mem_cons_of_mem _ hx))
    obtain ⟨⟨a0, a1⟩, ⟨b0, b1⟩⟩ := hg e List.mem_cons_self
    have hc := (compl_has n set h).2
    have ea : ((e.f0.toNat : Nat) : Int) = e.f0 := Int.toNat_of_nonneg a0
    have eb : ((e.f1.toNat : Nat) : Int) = e.f1 := Int.toNat_of_nonneg b0
    have h1 := hc e.f0.toNat (by omega)
    have h2 := hc e.f1.toNat (by omega)
    rw [ea] at h1
    rw [eb] at h2
    unfold capL at ih ⊢
    rw [List.map_cons, List.filter_cons, List.filter_cons]
    have hl : leavesE set (backE e) = leavesE (2 ^ n - 1 - set) e := by
      unfold leavesE backE
      rw [h1, h2]
      cases hasN set e.f0 <;> cases hasN set e.f1 <;> rfl
    rw [hl]
    split
    · rw [sumCap, sumCap, ih]; rfl
    · exact ih
/-- The edges from a place on, around. -/
def turnAt (es : List Ed) (p i : Nat) : Ed := es.getD ((i + p) % es.length) ⟨0, 0, 0⟩
theorem turns_eq (es : List Ed) (p : Nat) (hp : p < es.length) : (List.range es.length).map (turnAt es p) = es.drop p ++ es.take p := by
  apply List.ext_getElem
  · simp; omega
  · intro i h1 h2
    have hi : i < es.length := by simpa using h1
    simp only [List.getElem_map, List.getElem_range, turnAt]
    by_cases h : i + p < es.length
    · rw [Nat.mod_eq_of_lt h, List.getElem_append_left (by simp; omega), List.getElem_drop]
      simp only [List.getD, Nat.add_comm i p]
      rw [List.getElem?_eq_getElem (by omega)]; rfl
    · have e : (i + p) % es.length = i + p - es.length := by rw [Nat.mod_eq_sub_mod (by omega), Nat.mod_eq_of_lt (by omega)]
      rw [e, List.getElem_append_right (by simp; omega)]
      simp only [List.length_drop, List.getElem_take, List.getD]
      rw [List.getElem?_eq_getElem (by omega), Option.getD_some]
      congr 1
      omega
theorem validB_of {n : Nat} {es es' : List Ed} (hM : MadeIs n es) (hl : es'.length = es.length) (h : ∀ e, e ∈ es' → (0 ≤ e.f0 ∧ e.f0 ≤ (n : Int) - 1) ∧ (0 ≤ e.f1 ∧ e.f1 ≤ (n : Int) - 1) ∧ e.f0 ≠ e.f1 ∧ (0 ≤ e.f2 ∧ e.f2 ≤ 19)) : MadeIs n es' :=
  ⟨hM.lo, hM.hi, by rw [hl]; exact hM.len, h⟩
theorem turns_l0 (n s t : Nat) (es : List Ed) (by_ : Int) (hb : I64 by_) (hM : MadeIs n es) (p : Nat) (hp : es.length = 0 ∨ (p < es.length ∧ dialtonelaw27_pick.f by_ (es.length : Int) = some (p : Int))) :
    ∀ (d i k : Nat), i + d = es.length →
      dialtonelaw27_FlowTurns.l0 (k + d) by_ s t (i : Int) n es n ((es.take i).map backE) n ((List.range i).map (turnAt es p)) = dialtonelaw27_FlowTurns.l0 k by_ s t (es.length : Int) n es n (es.map backE) n ((List.range es.length).map (turnAt es p))
  | 0, i, k, hi => by
    have e : i = es.length := by omega
    subst e
    rw [List.take_length]; rfl
  | d + 1, i, k, hi => by
    have hlt : i < es.length := by omega
    have h16 := hM.len
    obtain ⟨hp1, hp2⟩ : p < es.length ∧ dialtonelaw27_pick.f by_ (es.length : Int) = some (p : Int) := by
      rcases hp with h | h
      · omega
      · exact h
    have hm : Int.tmod (wrap64 ((i : Int) + (p : Int))) (es.length : Int) = (((i + p) % es.length : Nat) : Int) := by
      rw [wrap64_small (by omega) (by omega), Int.tmod_eq_emod_of_nonneg (by omega)]
      simp
    have hmlt : (i + p) % es.length < es.length := Nat.mod_lt _ (by omega)
    have hrd : rd_T72 es (i : Int) = es[i] := by simp [rd_T72, hlt]
    have hrt : rd_T72 es (((i + p) % es.length : Nat) : Int) = turnAt es p i := rfl
    rw [show k + (d + 1) = (k + d) + 1 by omega, dialtonelaw27_FlowTurns.l0, if_pos (by omega), if_pos (by omega), if_pos (by simp; omega), hp2, Option.bind_some, if_neg (by omega), hm, if_pos (by omega), if_pos (by omega), if_pos (by simp; omega), hrt, hrd, wrap64_small (x := (i : Int) + 1) (by omega) (by omega), show ((i : Int) + 1) = ((i + 1 : Nat) : Int) by omega]
    have ih := turns_l0 n s t es by_ hb hM p hp d (i + 1) k (by omega)
    rw [List.take_succ_eq_append_getElem hlt, List.map_append, List.range_succ, List.map_append] at ih
    exact ih
theorem FlowTurns_true (a0 : Int) (x : List S23) (a2 a3 a4 : Int) (h0 : I64 a0) (hx : AllI64 x) (h2 : I64 a2) (h3 : I64 a3) (h4 : I64 a4) : dialtonelaw27_FlowTurns.f 64 a0 x a2 a3 a4 = some true := by
  obtain ⟨n, es, e1, hM⟩ := made_f a0 x h0 hx 64 (by omega)
  have hlo := hM.lo
  have hhi := hM.hi
  have h16 := hM.len
  obtain ⟨s, t, e2, hs, ht, hst⟩ := ends_f n es a2 a3 h2 h3 (by omega) (by omega)
  obtain ⟨p, hp⟩ : ∃ p : Nat, es.length = 0 ∨ (p < es.length ∧ dialtonelaw27_pick.f a4 (es.length : Int) = some (p : Int)) := by
    by_cases h : es.length = 0
    · exact ⟨0, .inl h⟩
    · obtain ⟨q, e, q0, q1⟩ := pick_f a4 (es.length : Int) h4 (by omega)
      obtain ⟨p, rfl⟩ := Int.eq_ofNat_of_zero_le q0
      exact ⟨p, .inr ⟨by omega, e⟩⟩
  unfold dialtonelaw27_FlowTurns.f
  rw [sane_64, Option.bind_some, if_pos rfl, e1, Option.bind_some]
  dsimp only
  rw [e2, Option.bind_some]
  have hl := turns_l0 n s t es a4 h4 hM p hp es.length 0 (64 - es.length) (by omega)
  rw [show 64 - es.length + es.length = 64 by omega] at hl
  simp only [List.take_zero, List.map_nil, List.range_zero] at hl
  have hl' : dialtonelaw27_FlowTurns.l0 64 a4 s t 0 n es n [] n [] = _ := hl
  dsimp only
  rw [hl']
  have hMb : MadeIs n (es.map backE) := validB_of hM (by simp) (fun e he => by
    obtain ⟨e', he', rfl⟩ := List.mem_map.mp he
    obtain ⟨a, b, c, d⟩ := hM.ok e' he'
    exact ⟨b, a, fun h => c h.symm, d⟩)
  have hturn : ∃ et, (List.range es.length).map (turnAt es p) = et ∧ MadeIs n et ∧ ∀ set, capL es set = capL et set := by
    refine ⟨_, rfl, ?_⟩
    rcases hp with h | ⟨h, _⟩
    · have e0 : es = [] := List.length_eq_zero_iff.mp h
      subst e0
      exact ⟨hM, fun _ => rfl⟩
    · rw [turns_eq es p h]
      refine ⟨validB_of hM (by simp; omega) (fun e he => ?_), fun set => ?_⟩
      · rcases List.mem_append.mp he with he | he
        · exact hM.ok e (List.mem_of_mem_drop he)
        · exact hM.ok e (List.mem_of_mem_take he)
      · have := capL_append (es.take p) (es.drop p) set
        rw [List.take_append_drop] at this
        rw [capL_append, this]; omega
  obtain ⟨et, het, hMt, hct⟩ := hturn
  rw [het]
  obtain ⟨j, hj⟩ : ∃ j, 64 - es.length = j + 1 := ⟨63 - es.length, by omega⟩
  have hj41 : 41 ≤ j := by omega
  rw [hj, dialtonelaw27_FlowTurns.l0, if_neg (by omega)]
  obtain ⟨l, cut, v, f1, f2, f3⟩ := greatest_f n s t es (hM.pair hs ht hst) j hj41
  obtain ⟨l', cut', v', g1, g2, g3⟩ := greatest_f n t s (es.map backE) (hMb.pair ht hs (fun e => hst e.symm)) j hj41
  obtain ⟨l'', cut'', v'', k1, k2, k3⟩ := greatest_f n s t et (hMt.pair hs ht hst) j hj41
  rw [f3, Option.bind_some]
  dsimp only
  rw [if_pos rfl, g3, Option.bind_some]
  dsimp only
  rw [if_pos rfl, k3, Option.bind_some]
  dsimp only
  rw [if_pos rfl]
  have hsame := f2.same k2 (fun set _ => hct set)
  have hrange : ∀ e, e ∈ es → (0 ≤ e.f0 ∧ e.f0 ≤ (n : Int) - 1) ∧ (0 ≤ e.f1 ∧ e.f1 ≤ (n : Int) - 1) := fun e he => by obtain ⟨a, b, _, _⟩ := hM.ok e he; exact ⟨a, b⟩
  have hback : v = v' := by
    have hflip : ∀ (a b : Nat), a < n → b < n → ∀ set, isCut n a b set → isCut n b a (2 ^ n - 1 - set) := fun a b ha hb set h => by
      obtain ⟨c1, c2⟩ := compl_has n set ⟨h.1, h.2.1⟩
      refine ⟨c1.1, c1.2, ?_, ?_⟩
      · rw [c2 b hb, h.2.2.2]; rfl
      · rw [c2 a ha, h.2.2.1]; rfl
    have hs' : s < n := by omega
    have ht' : t < n := by omega
    have i1 := g2.le _ (hflip s t hs' ht' cut f2.isc)
    have c1 := compl_has n cut ⟨f2.isc.1, f2.isc.2.1⟩
    rw [cap_back n _ c1.1 es hrange, show (2 : Int) ^ n - 1 - (2 ^ n - 1 - cut) = cut by omega, f2.cap] at i1
    have i2 := f2.le _ (hflip t s ht' hs' cut' g2.isc)
    rw [← cap_back n cut' ⟨g2.isc.1, g2.isc.2.1⟩ es hrange, g2.cap] at i2
    omega
  rw [if_pos hback, if_pos hsame.1, hsame.2]
  simp
end Go.Proofs.Ytkkakdpncogpkaa.D
end
