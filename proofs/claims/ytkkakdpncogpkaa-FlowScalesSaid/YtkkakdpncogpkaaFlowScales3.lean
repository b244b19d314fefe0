/- Parts of the proof of a law about flows (see the law's own text): A9, PScales. Conditions: each theorem's own. -/
import Derived.Test.YtkkakdpncogpkaaBase29
import Derived.Test.YtkkakdpncogpkaaFlowScales2
section
/- Sets of nodes as numbers, and nets with the same cuts. Conditions: none. -/
namespace Go.Proofs.Ytkkakdpncogpkaa.D
open Go.RowKit Go.Proofs.YtkkakdpncogpkaaW.PrintWords Go.Proofs.YtkkakdpncogpkaaW.PrintLast Go.Proofs.YtkkakdpncogpkaaW.PrintMore
set_option linter.unusedVariables false
theorem hasN_bit (N x : Nat) : hasN (N : Int) (x : Int) = N.testBit x := by
  unfold hasN
  rw [Int.toNat_natCast, Nat.testBit_eq_decide_div_mod_eq]
  have e : ((N : Int) / 2 ^ x % 2) = ((N / 2 ^ x % 2 : Nat) : Int) := by simp
  rw [e]
  by_cases h : N / 2 ^ x % 2 = 1
  · rw [h]; rfl
  · rw [decide_eq_false h]
    exact decide_eq_false (by omega)
/-- Two sets of n nodes with the same nodes are one. -/
theorem set_ext (n : Nat) (a b : Int) (ha : 0 ≤ a ∧ a ≤ 2 ^ n - 1) (hb : 0 ≤ b ∧ b ≤ 2 ^ n - 1) (h : ∀ x, x < n → hasN a (x : Int) = hasN b (x : Int)) : a = b := by
  obtain ⟨A, rfl⟩ := Int.eq_ofNat_of_zero_le ha.1
  obtain ⟨B, rfl⟩ := Int.eq_ofNat_of_zero_le hb.1
  have e : ((2 ^ n : Nat) : Int) = (2 : Int) ^ n := by simp
  have hA : A < 2 ^ n := by have h := ha.2; rw [← e] at h; omega
  have hB : B < 2 ^ n := by have h := hb.2; rw [← e] at h; omega
  congr 1
  refine Nat.eq_of_testBit_eq (fun i => ?_)
  by_cases hi : i < n
  · have := h i hi
    rwa [hasN_bit, hasN_bit] at this
  · rw [Nat.testBit_lt_two_pow (Nat.lt_of_lt_of_le hA (Nat.pow_le_pow_right (by decide) (by omega))), Nat.testBit_lt_two_pow (Nat.lt_of_lt_of_le hB (Nat.pow_le_pow_right (by decide) (by omega)))]
/-- Nets with the same cuts have the same value and the same least cut. -/
theorem MaxIs.same {n s t : Nat} {es es' : List Ed} {l l' : List Int} {cut cut' v v' : Int} (h : MaxIs n s t es l cut v) (h' : MaxIs n s t es' l' cut' v') (hc : ∀ set, isCut n s t set → capL es set = capL es' set) : v = v' ∧ cut = cut' := by
  have hv : v = v' := by
    have h1 := h.le cut' h'.isc
    have h2 := h'.le cut h.isc
    rw [hc cut' h'.isc, h'.cap] at h1
    rw [← hc cut h.isc, h.cap] at h2
    omega
  refine ⟨hv, set_ext n cut cut' ⟨h.isc.1, h.isc.2.1⟩ ⟨h'.isc.1, h'.isc.2.1⟩ (fun x hx => ?_)⟩
  cases e1 : hasN cut (x : Int) with
  | true =>
    have := h.least cut' h'.isc (by rw [hc cut' h'.isc, h'.cap, hv]) x hx e1
    rw [this]
  | false =>
    cases e2 : hasN cut' (x : Int) with
    | false => rfl
    | true =>
      have := h'.least cut h.isc (by rw [← hc cut h.isc, h.cap, hv]) x hx e2
      rw [e1] at this; cases this
/-- The nodes of a set that another one holds. -/
theorem and_sub (n : Nat) (hn : n ≤ 12) (a b : Int) (ha : 0 ≤ a ∧ a ≤ 2 ^ n - 1) (hb : 0 ≤ b ∧ b ≤ 2 ^ n - 1) (h : ∀ x, x < n → hasN b (x : Int) = true → hasN a (x : Int) = true) : Go.bits .and .i64 a b = b := by
  obtain ⟨A, rfl⟩ := Int.eq_ofNat_of_zero_le ha.1
  obtain ⟨B, rfl⟩ := Int.eq_ofNat_of_zero_le hb.1
  have e : ((2 ^ n : Nat) : Int) = (2 : Int) ^ n := by simp
  have h12 : 2 ^ n ≤ 2 ^ 12 := Nat.pow_le_pow_right (by decide) hn
  have hA : A < 2 ^ n := by have h := ha.2; rw [← e] at h; omega
  have hB : B < 2 ^ n := by have h := hb.2; rw [← e] at h; omega
  have k1 : (BitVec.ofInt 64 (A : Int)).toNat = A := by
    rw [BitVec.ofInt_natCast, BitVec.toNat_ofNat]; exact Nat.mod_eq_of_lt (by omega)
  have k2 : (BitVec.ofInt 64 (B : Int)).toNat = B := by
    rw [BitVec.ofInt_natCast, BitVec.toNat_ofNat]; exact Nat.mod_eq_of_lt (by omega)
  show IntKind.i64.wrap ((BitVec.ofInt 64 (A : Int) &&& BitVec.ofInt 64 (B : Int)).toNat : Int) = _
  rw [BitVec.toNat_and, k1, k2, i64_w]
  have hab : A &&& B = B := by
    refine Nat.eq_of_testBit_eq (fun i => ?_)
    rw [Nat.testBit_and]
    by_cases hi : i < n
    · have := h i hi
      rw [hasN_bit, hasN_bit] at this
      cases hb : B.testBit i with
      | false => simp
      | true => rw [this hb]; rfl
    · rw [Nat.testBit_lt_two_pow (x := B) (Nat.lt_of_lt_of_le hB (Nat.pow_le_pow_right (by decide) (by omega)))]; simp
  rw [hab]
  exact wrap64_small (by omega) (by omega)
theorem capL_append (a b : List Ed) (set : Int) : capL (a ++ b) set = capL a set + capL b set := by
  unfold capL; rw [List.filter_append, sumCap_append]
theorem MaxIs.bound {n s t : Nat} {es : List Ed} {l : List Int} {cut v : Int} (hp : pairB n es s t = true) (h : MaxIs n s t es l cut v) : v ≤ 400000 := by
  have hq := pairB_iff.mp hp
  have hv := validB_iff.mp hq.1
  have hg := goodL_of hq.1
  have a := (esum_wS_le (setOf cut) es hg).2
  have b := (esum_le es hg).2
  have c := h.cap
  rw [← esum_cap _ _ hg] at c
  rw [c] at a
  omega
end Go.Proofs.Ytkkakdpncogpkaa.D
end
section
/- FlowScales: with all capacities multiplied, so is the value, over the same cut; the values of two nets are at most that of the net of the sums. Conditions: integers are of 64 bits. -/
namespace Go.Proofs.Ytkkakdpncogpkaa.D
open Go.RowKit Go.Proofs.YtkkakdpncogpkaaW.PrintWords Go.Proofs.YtkkakdpncogpkaaW.PrintLast Go.Proofs.YtkkakdpncogpkaaW.PrintMore
set_option linter.unusedVariables false
def scaleE (m : Int) (e : Ed) : Ed := ⟨e.f0, e.f1, e.f2 * m⟩
/-- The edges of a second net, with the same ends. -/
def secOK : List Ed → List Ed → Prop
  | [], [] => True
  | e :: r, x :: s => (x.f0 = e.f0 ∧ x.f1 = e.f1 ∧ 0 ≤ x.f2 ∧ x.f2 ≤ 19) ∧ secOK r s
  | _, _ => False
def sumE : List Ed → List Ed → List Ed
  | e :: r, x :: s => ⟨e.f0, e.f1, e.f2 + x.f2⟩ :: sumE r s
  | _, _ => []
theorem secOK_append : ∀ (a b : List Ed) (e x : Ed), secOK a b → (x.f0 = e.f0 ∧ x.f1 = e.f1 ∧ 0 ≤ x.f2 ∧ x.f2 ≤ 19) → secOK (a ++ [e]) (b ++ [x]) ∧ sumE (a ++ [e]) (b ++ [x]) = sumE a b ++ [⟨e.f0, e.f1, e.f2 + x.f2⟩]
  | [], [], e, x, _, h => ⟨⟨h, trivial⟩, rfl⟩
  | a :: r, b :: s, e, x, h, hx => by
    obtain ⟨h1, h2⟩ := secOK_append r s e x h.2 hx
    refine ⟨⟨h.1, h1⟩, ?_⟩
    simp only [List.cons_append, sumE]
    rw [h2]
  | [], b :: s, e, x, h, _ => h.elim
  | a :: r, [], e, x, h, _ => h.elim
theorem secOK_facts (n : Int) : ∀ (a b : List Ed), secOK a b → (∀ e, e ∈ a → (0 ≤ e.f0 ∧ e.f0 ≤ n - 1) ∧ (0 ≤ e.f1 ∧ e.f1 ≤ n - 1) ∧ e.f0 ≠ e.f1 ∧ (0 ≤ e.f2 ∧ e.f2 ≤ 19)) →
    b.length = a.length ∧ (sumE a b).length = a.length ∧ (∀ e, e ∈ b → (0 ≤ e.f0 ∧ e.f0 ≤ n - 1) ∧ (0 ≤ e.f1 ∧ e.f1 ≤ n - 1) ∧ e.f0 ≠ e.f1 ∧ (0 ≤ e.f2 ∧ e.f2 ≤ 10000)) ∧
      (∀ e, e ∈ sumE a b → (0 ≤ e.f0 ∧ e.f0 ≤ n - 1) ∧ (0 ≤ e.f1 ∧ e.f1 ≤ n - 1) ∧ e.f0 ≠ e.f1 ∧ (0 ≤ e.f2 ∧ e.f2 ≤ 10000)) ∧ ∀ set, capL (sumE a b) set = capL a set + capL b set
  | [], [], _, _ => ⟨rfl, rfl, fun e he => by simp at he, fun e he => by simp [sumE] at he, fun set => rfl⟩
  | a :: r, b :: s, h, hg => by
    obtain ⟨i1, i2, i3, i4, i5⟩ := secOK_facts n r s h.2 (fun e he => hg e (List.mem_cons_of_mem _ he))
    obtain ⟨x1, x2, x3, x4⟩ := hg a List.mem_cons_self
    obtain ⟨y0, y1, y2, y3⟩ := h.1
    refine ⟨by simp [i1], by simp [sumE, i2], fun e he => ?_, fun e he => ?_, fun set => ?_⟩
    · rcases List.mem_cons.mp he with rfl | he
      · rw [y0, y1]; exact ⟨x1, x2, x3, by omega⟩
      · exact i3 e he
    · rw [sumE] at he
      rcases List.mem_cons.mp he with rfl | he
      · exact ⟨x1, x2, x3, by show 0 ≤ a.f2 + b.f2 ∧ a.f2 + b.f2 ≤ 10000; omega⟩
      · exact i4 e he
    · have i6 := i5 set
      unfold capL at i6 ⊢
      rw [sumE, List.filter_cons, List.filter_cons, List.filter_cons]
      have l1 : leavesE set (⟨a.f0, a.f1, a.f2 + b.f2⟩ : Ed) = leavesE set a := rfl
      have l2 : leavesE set b = leavesE set a := by unfold leavesE; rw [y0, y1]
      rw [l1, l2]
      split
      · rw [sumCap, sumCap, sumCap, i6]
        show a.f2 + b.f2 + _ = _
        omega
      · exact i6
  | [], b :: s, h, _ => h.elim
  | a :: r, [], h, _ => h.elim
theorem cap_scale (m set : Int) : ∀ es : List Ed, capL (es.map (scaleE m)) set = capL es set * m
  | [] => by simp [capL, sumCap]
  | e :: r => by
    have ih := cap_scale m set r
    unfold capL at ih ⊢
    rw [List.map_cons, List.filter_cons, List.filter_cons]
    have hl : leavesE set (scaleE m e) = leavesE set e := rfl
    rw [hl]
    split
    · rw [sumCap, sumCap, ih]
      show e.f2 * m + _ = _
      grind
    · exact ih
theorem scales_l0 (n s t : Nat) (es : List Ed) (other : List Int) (ho : ∀ x, x ∈ other → I64 x) (m : Int) (hm : 1 ≤ m ∧ m ≤ 50) (hM : MadeIs n es) :
    ∀ (d i k : Nat) (S U : List Ed), i + d = es.length → secOK (es.take i) S → U = sumE (es.take i) S →
      ∃ S', secOK es S' ∧ dialtonelaw27_FlowScales.l0 (k + 3 * d) other s t m (i : Int) n es n ((es.take i).map (scaleE m)) n S n U = dialtonelaw27_FlowScales.l0 k other s t m (es.length : Int) n es n (es.map (scaleE m)) n S' n (sumE es S')
  | 0, i, k, S, U, hi, hS, hU => by
    have e : i = es.length := by omega
    subst e
    rw [List.take_length] at hS hU ⊢
    exact ⟨S, hS, by rw [hU]; rfl⟩
  | d + 1, i, k, S, U, hi, hS, hU => by
    have hlt : i < es.length := by omega
    have h16 := hM.len
    have hrd : rd_T72 es (i : Int) = es[i] := by simp [rd_T72, hlt]
    obtain ⟨x1, x2, x3, x4⟩ := hM.ok es[i] (List.getElem_mem hlt)
    have hf := secOK_facts n (es.take i) S hS (fun e he => hM.ok e (List.mem_of_mem_take he))
    have hlS : S.length ≤ 16 := by rw [hf.1, List.length_take]; omega
    have hlU : U.length ≤ 16 := by rw [hU, hf.2.1, List.length_take]; omega
    have htk : es.take (i + 1) = es.take i ++ [es[i]] := List.take_succ_eq_append_getElem hlt
    have hj2 : ∀ c : Int, 0 ≤ c → c ≤ 19 → ∀ K, dialtonelaw27_FlowScales.j2 (K + 1) other s t m (i : Int) n es n ((es.take i).map (scaleE m)) n S n U es[i].f0 es[i].f1 es[i].f2 es[i].f0 es[i].f1 c =
        dialtonelaw27_FlowScales.l0 K other s t m ((i + 1 : Nat) : Int) n es n ((es.take (i + 1)).map (scaleE m)) n (S ++ [⟨es[i].f0, es[i].f1, c⟩]) n (U ++ [⟨es[i].f0, es[i].f1, es[i].f2 + c⟩]) := fun c c0 c1 K => by
      have hmul : 0 ≤ es[i].f2 * m ∧ es[i].f2 * m ≤ 19 * 50 := ⟨Int.mul_nonneg x4.1 (by omega), Int.mul_le_mul x4.2 hm.2 (by omega) (by omega)⟩
      rw [dialtonelaw27_FlowScales.j2, if_pos (by simp; omega), if_pos (by omega), if_pos (by omega), wrap64_small (x := (i : Int) + 1) (by omega) (by omega), show ((i : Int) + 1) = ((i + 1 : Nat) : Int) by omega, wrap64_small (x := es[i].f2 * m) (by omega) (by omega), wrap64_small (x := es[i].f2 + c) (by omega) (by omega), htk, List.map_append]
      rfl
    have hstep : ∃ c : Int, 0 ≤ c ∧ c ≤ 19 ∧ dialtonelaw27_FlowScales.l0 (k + 3 * (d + 1)) other s t m (i : Int) n es n ((es.take i).map (scaleE m)) n S n U =
        dialtonelaw27_FlowScales.l0 (k + 3 * d) other s t m ((i + 1 : Nat) : Int) n es n ((es.take (i + 1)).map (scaleE m)) n (S ++ [⟨es[i].f0, es[i].f1, c⟩]) n (U ++ [⟨es[i].f0, es[i].f1, es[i].f2 + c⟩]) := by
      rw [show k + 3 * (d + 1) = k + 3 * d + 2 + 1 by omega, dialtonelaw27_FlowScales.l0, if_pos (by omega), if_pos (by omega), hrd, show k + 3 * d + 2 = k + 3 * d + 1 + 1 by omega, dialtonelaw27_FlowScales.j1]
      by_cases hio : (i : Int) < (other.length : Int)
      · have hlo : i < other.length := by omega
        have hro : rd other (i : Int) = other[i] := by rw [rd_nat0]; simp [List.getD, hlo]
        obtain ⟨c, e, c0, c1⟩ := pick_f other[i] 20 (ho _ (List.getElem_mem hlo)) (by omega)
        refine ⟨c, c0, by omega, ?_⟩
        rw [if_pos hio, if_pos (by omega), hro, e, Option.bind_some, hj2 c c0 (by omega)]
      · exact ⟨0, Int.le_refl _, by decide, by rw [if_neg hio, hj2 0 (Int.le_refl _) (by decide)]⟩
    obtain ⟨c, c0, c1, hc⟩ := hstep
    obtain ⟨a1, a2⟩ := secOK_append (es.take i) S es[i] ⟨es[i].f0, es[i].f1, c⟩ hS ⟨rfl, rfl, c0, c1⟩
    rw [← htk] at a1 a2
    obtain ⟨S', h1, h2⟩ := scales_l0 n s t es other ho m hm hM d (i + 1) k (S ++ [⟨es[i].f0, es[i].f1, c⟩]) (U ++ [⟨es[i].f0, es[i].f1, es[i].f2 + c⟩]) (by omega) a1 (by rw [a2, hU])
    exact ⟨S', h1, hc.trans h2⟩
theorem MaxIs.scale {n s t : Nat} {es : List Ed} {l l' : List Int} {cut cut' v v' m : Int} (hm : 1 ≤ m) (h : MaxIs n s t es l cut v) (h' : MaxIs n s t (es.map (scaleE m)) l' cut' v') : v' = m * v ∧ cut' = cut := by
  have h1 := h'.le cut h.isc
  have h2 := h.le cut' h'.isc
  have h3 := h'.cap
  rw [cap_scale, h.cap] at h1
  rw [cap_scale] at h3
  have h4 : v * m ≤ capL es cut' * m := Int.mul_le_mul_of_nonneg_right h2 (by omega)
  have hv : v' = v * m := by omega
  have hc : capL es cut' = v := by
    have : capL es cut' * m = v * m := by omega
    exact Int.eq_of_mul_eq_mul_right (by omega) this
  refine ⟨by rw [hv, Int.mul_comm], set_ext n cut' cut ⟨h'.isc.1, h'.isc.2.1⟩ ⟨h.isc.1, h.isc.2.1⟩ (fun x hx => ?_)⟩
  cases e1 : hasN cut' (x : Int) with
  | true => rw [h'.least cut h.isc (by rw [cap_scale, h.cap, hv]) x hx e1]
  | false =>
    cases e2 : hasN cut (x : Int) with
    | false => rfl
    | true =>
      have := h.least cut' h'.isc hc x hx e2
      rw [e1] at this; cases this
theorem FlowScales_true (a0 : Int) (x : List S23) (a2 a3 a4 : Int) (other : List Int) (h0 : I64 a0) (hx : AllI64 x) (h2 : I64 a2) (h3 : I64 a3) (h4 : I64 a4) (ho : ∀ x, x ∈ other → I64 x) : dialtonelaw27_FlowScales.f 128 a0 x a2 a3 a4 other = some true := by
  obtain ⟨n, es, e1, hM⟩ := made_f a0 x h0 hx 128 (by omega)
  have hlo := hM.lo
  have hhi := hM.hi
  have h16 := hM.len
  obtain ⟨s, t, e2, hs, ht, hst⟩ := ends_f n es a2 a3 h2 h3 (by omega) (by omega)
  obtain ⟨q, e5, q0, q1⟩ := pick_f a4 50 h4 (by omega)
  unfold dialtonelaw27_FlowScales.f
  rw [show dialtonelaw27_sane.f 128 = some true from at_rounds (g := fun k => dialtonelaw27_sane.f k) (fun k => dialtonelaw27_sane.mono k) (show 64 ≤ 128 by omega) sane_64, Option.bind_some, if_pos rfl, e1, Option.bind_some]
  dsimp only
  rw [e2, Option.bind_some, e5, Option.bind_some, wrap64_small (x := 1 + q) (by omega) (by omega)]
  obtain ⟨m, hm⟩ : ∃ m, m = 1 + q := ⟨_, rfl⟩
  rw [← hm]
  have hmb : 1 ≤ m ∧ m ≤ 50 := by omega
  obtain ⟨S, hS, hl⟩ := scales_l0 n s t es other ho m hmb hM es.length 0 (128 - 3 * es.length) [] [] (by omega) trivial rfl
  rw [show 128 - 3 * es.length + 3 * es.length = 128 by omega] at hl
  simp only [List.take_zero, List.map_nil] at hl
  dsimp only
  have hl' : dialtonelaw27_FlowScales.l0 128 other s t m 0 n es n [] n [] n [] = _ := hl
  rw [hl']
  obtain ⟨j, hj⟩ : ∃ j, 128 - 3 * es.length = j + 1 := ⟨127 - 3 * es.length, by omega⟩
  have hj41 : 41 ≤ j := by omega
  obtain ⟨f1, f2, f3, f4, f5⟩ := secOK_facts n es S hS hM.ok
  have hp := hM.pair hs ht hst
  have hpT : pairB n (es.map (scaleE m)) s t = true := by
    rw [pairB_iff, validB_iff]
    refine ⟨⟨⟨by omega, by omega⟩, by rw [List.length_map]; omega, fun e he => ?_⟩, ⟨by omega, by omega⟩, ⟨by omega, by omega⟩, by omega⟩
    obtain ⟨e', he', rfl⟩ := List.mem_map.mp he
    obtain ⟨a, b, c, d⟩ := hM.ok e' he'
    have hmul : 0 ≤ e'.f2 * m ∧ e'.f2 * m ≤ 19 * 50 := ⟨Int.mul_nonneg d.1 (by omega), Int.mul_le_mul d.2 hmb.2 (by omega) (by omega)⟩
    exact ⟨a, b, c, by show 0 ≤ e'.f2 * m ∧ e'.f2 * m ≤ 10000; omega⟩
  have hpS : pairB n S s t = true := by
    rw [pairB_iff, validB_iff]
    exact ⟨⟨⟨by omega, by omega⟩, by omega, f3⟩, ⟨by omega, by omega⟩, ⟨by omega, by omega⟩, by omega⟩
  have hpU : pairB n (sumE es S) s t = true := by
    rw [pairB_iff, validB_iff]
    exact ⟨⟨⟨by omega, by omega⟩, by omega, f4⟩, ⟨by omega, by omega⟩, ⟨by omega, by omega⟩, by omega⟩
  obtain ⟨l1, cut1, v1, g1, g2, g3⟩ := greatest_f n s t es hp j hj41
  obtain ⟨l2, cut2, v2, k1, k2, k3⟩ := greatest_f n s t _ hpT j hj41
  obtain ⟨l3, cut3, v3, m1, m2, m3⟩ := greatest_f n s t S hpS j hj41
  obtain ⟨l4, cut4, v4, n1, n2, n3⟩ := greatest_f n s t _ hpU j hj41
  rw [hj, dialtonelaw27_FlowScales.l0, if_neg (by omega), g3, Option.bind_some]
  dsimp only
  rw [if_pos rfl, k3, Option.bind_some]
  dsimp only
  rw [if_pos rfl, m3, Option.bind_some]
  dsimp only
  rw [if_pos rfl, n3, Option.bind_some]
  dsimp only
  obtain ⟨s1, s2⟩ := g2.scale hmb.1 k2
  have hv1 := g2.bound hp
  have hv3 := m2.bound hpS
  have hmv : 0 ≤ m * v1 ∧ m * v1 ≤ 50 * 1000000 := ⟨Int.mul_nonneg (by omega) g2.nn, Int.mul_le_mul hmb.2 (Int.le_trans hv1 (by decide)) g2.nn (by omega)⟩
  have hle : v1 + v3 ≤ v4 := by
    have h1 := g2.le cut4 n2.isc
    have h2 := m2.le cut4 n2.isc
    have h3 := n2.cap
    rw [f5] at h3
    omega
  have h0v := g2.nn
  have h0v3 := m2.nn
  rw [if_pos rfl, wrap64_small (x := m * v1) (by omega) (by omega), if_pos s1, if_pos s2, wrap64_small (x := v1 + v3) (by omega) (by omega), decide_eq_true hle]
end Go.Proofs.Ytkkakdpncogpkaa.D
end
