/- Parts of the proof of a law about flows (see the law's own text): A4, A5, A6, A7, R0. Conditions: each theorem's own. -/
import Derived.Test.YtkkakdpncogpkaaBase17
import Derived.Test.YtkkakdpncogpkaaBase20
import Derived.Test.YtkkakdpncogpkaaBase16
import Derived.Test.YtkkakdpncogpkaaBase27
import Derived.Test.YtkkakdpncogpkaaBase28
import Derived.Test.YtkkakdpncogpkaaBase6
import Derived.KernelRfl
import Derived.Deep.SlicePairs
import Derived.Laws.IdiomArrays
import Derived.WalkKit
import Derived.ProofKit
import Derived.OpenShut
import Derived.Below
section
/- What the printed functions of flow say, in plain words: cuts and flows. Conditions: none. -/
namespace Go.Proofs.Ytkkakdpncogpkaa.D
open Go.RowKit Go.Proofs.YtkkakdpncogpkaaW.PrintWords Go.Proofs.YtkkakdpncogpkaaW.PrintLast Go.Proofs.YtkkakdpncogpkaaW.PrintMore
set_option linter.unusedVariables false

theorem shr_has0 (set : Int) (i : Nat) (h : 0 ≤ set) (h2 : set < 9223372036854775808) (hi : i ≤ 64) : (Go.bits .and .i64 (shr .i64 set (i : Int)) 1 = 0) ↔ hasN set i = false := by
  have := has_and0 set (i : Int) h h2
  have hb : IntKind.i64.bits = 64 := rfl
  unfold shr
  rw [hb, Int.toNat_natCast, show min i 64 = i by omega]
  rw [Int.toNat_natCast] at this
  cases hh : hasN set (i : Int) <;> rw [hh] at this <;> simp at this <;> simp [this]
/-- A set of nodes is a cut. -/
def isCut (n s t : Nat) (set : Int) : Prop := 0 ≤ set ∧ set ≤ 2 ^ n - 1 ∧ hasN set s = true ∧ hasN set t = false
instance (n s t : Nat) (set : Int) : Decidable (isCut n s t set) := by unfold isCut; infer_instance
theorem checkCut_f (n s t : Nat) (es : List Ed) (set : Int) (hp : pairB n es s t = true) (k : Nat) (hk : 1 ≤ k) :
    flow_CheckCut.f k n es s t set = if isCut n s t set then some (capL es set, true) else some (0, false) := by
  obtain ⟨k, rfl⟩ : ∃ j, k = j + 1 := ⟨k - 1, by omega⟩
  have hq := pairB_iff.mp hp
  have hv := validB_iff.mp hq.1
  have hn : n ≤ 12 := by omega
  have h12 := pow_bound hn
  have e12 : (2 : Int) ^ 12 = 4096 := rfl
  have hpos := pow_pos2 n
  unfold flow_CheckCut.f
  rw [isPair_f, hp, Option.bind_some, if_pos rfl, if_pos (by omega), isIn_f, Option.bind_some, shl_one n (by omega), wrap64_small (by omega) (by omega)]
  by_cases hr : 0 ≤ set ∧ set ≤ 2 ^ n - 1
  · rw [if_pos (by simp [hr.1, hr.2]), if_pos (by omega)]
    have hs2 : set < 9223372036854775808 := by omega
    by_cases h1 : hasN set s = true
    · rw [if_neg (fun h => by rw [(shr_has0 set s hr.1 hs2 (by omega)).mp h] at h1; cases h1), if_pos (by omega)]
      rw [flow_CheckCut.j0]
      by_cases h2 : hasN set t = true
      · have := (shr_has set t hr.1 hs2 (by omega)).mpr h2
        rw [if_pos (by rw [this]; rfl), if_neg (fun h => by rw [h.2.2.2] at h2; cases h2)]
      · have hb : ¬ (Go.bits .and .i64 (shr .i64 set (t : Int)) 1 = 1) := fun h => h2 ((shr_has set t hr.1 hs2 (by omega)).mp h)
        rw [if_neg (by simpa using hb)]
        unfold flow_capacity.f
        rw [hq.1]
        have h0 : (decide (0 ≤ set) && decide (set < 9223372036854775808)) = true := by simp [hr.1, hs2]
        rw [h0]
        rw [if_pos (show (true && true) = true from rfl), Option.bind_some, if_pos ⟨hr.1, hr.2, h1, by simpa using h2⟩]
    · have h1' : hasN set s = false := by simpa using h1
      rw [if_pos ((shr_has0 set s hr.1 hs2 (by omega)).mpr h1'), flow_CheckCut.j0, if_pos rfl, if_neg (fun h => by rw [h.2.2.1] at h1'; cases h1')]
  · rw [if_neg (by simp only [Bool.and_eq_true, decide_eq_true_eq]; exact hr), flow_CheckCut.j0, if_pos rfl, if_neg (fun h => hr ⟨h.1, h.2.1⟩)]
/-- Amounts, each with the weight of its edge. -/
def fsum (w : Nat → Nat → Int) : List Ed → List Int → Int
  | e :: r, x :: l => w e.f0.toNat e.f1.toNat * x + fsum w r l
  | _, _ => 0
def dlt (x a b : Nat) : Int := (if a = x then 1 else 0) - (if b = x then 1 else 0)
def inCap : List Ed → List Int → Bool
  | e :: r, x :: l => (decide (0 ≤ x) && decide (x ≤ e.f2)) && inCap r l
  | _, _ => true
theorem given_l0 (n : Nat) (hn : n ≤ 12) (es : List Ed) (l : List Int) (hes : es.length ≤ 40) (hll : l.length = es.length) (hg : ∀ e, e ∈ es → (0 ≤ e.f0 ∧ e.f0 ≤ (n : Int) - 1) ∧ (0 ≤ e.f1 ∧ e.f1 ≤ (n : Int) - 1) ∧ e.f0 ≠ e.f1 ∧ (0 ≤ e.f2 ∧ e.f2 ≤ 10000)) :
    ∀ (d i k : Nat) (out : List Int), i + d = es.length → d < k → out.length = n → (∀ x, x < n → -10000 * (i : Int) ≤ out.getD x 0 ∧ out.getD x 0 ≤ 10000 * (i : Int)) →
      (inCap (es.drop i) (l.drop i) = true → ∃ res, flow_given.l0 k l out es (es.length : Int) (i : Int) = some (res, true) ∧ res.length = n ∧ ∀ x, x < n → res.getD x 0 = out.getD x 0 + fsum (dlt x) (es.drop i) (l.drop i)) ∧
      (inCap (es.drop i) (l.drop i) = false → flow_given.l0 k l out es (es.length : Int) (i : Int) = some ([], false))
  | 0, i, k + 1, out, hi, hk, ho, hb => by
    have e : i = es.length := by omega
    subst e
    rw [flow_given.l0, if_neg (by omega), List.drop_length]
    exact ⟨fun _ => ⟨out, rfl, ho, fun x _ => by simp [fsum]⟩, fun h => by simp [inCap] at h⟩
  | d + 1, i, k + 1, out, hi, hk, ho, hb => by
    have hlt : i < es.length := by omega
    have hdE : es.drop i = es[i] :: es.drop (i + 1) := List.drop_eq_getElem_cons hlt
    have hdL : l.drop i = l[i] :: l.drop (i + 1) := List.drop_eq_getElem_cons (by omega)
    have hrE : rd_T72 es (i : Int) = es[i] := by simp [rd_T72, hlt]
    have hrL : rd l (i : Int) = l[i] := by rw [rd_nat0]; simp [List.getD, show i < l.length by omega]
    obtain ⟨⟨p0, p1⟩, ⟨q0, q1⟩, hne, ⟨c0, c1⟩⟩ := hg es[i] (List.getElem_mem hlt)
    rw [flow_given.l0, if_pos (by omega), if_pos (by omega), if_pos (by omega), if_pos (by omega), hrE, hrL, isIn_f, Option.bind_some, hdE, hdL]
    generalize es[i] = e at *
    generalize l[i] = xi at *
    obtain ⟨p, hp⟩ := Int.eq_ofNat_of_zero_le p0
    obtain ⟨q, hq⟩ := Int.eq_ofNat_of_zero_le q0
    have hpn : p < n := by omega
    have hqn : q < n := by omega
    have hpq : p ≠ q := fun h => hne (by rw [hp, hq, h])
    by_cases hin : (decide (0 ≤ xi) && decide (xi ≤ e.f2)) = true
    · have hin' : 0 ≤ xi ∧ xi ≤ e.f2 := by simpa using hin
      rw [if_pos hin, hp, hq, if_pos (by omega), if_pos (by omega), Option.bind_some, if_pos (by omega), if_pos (by first | omega | (rw [List.length_set]; omega))]
      simp only [Int.toNat_natCast, rd_nat0]
      have hbp := hb p hpn
      have hbq := hb q hqn
      have g1 : ∀ x, (out.set p (wrap64 (out.getD p 0 + xi))).getD x 0 = if p = x then out.getD p 0 + xi else out.getD x 0 := fun x => by
        rw [getD_set _ _ _ _ (by omega), wrap64_small (x := out.getD p 0 + xi) (by omega) (by omega)]
      have g1q : (out.set p (wrap64 (out.getD p 0 + xi))).getD q 0 = out.getD q 0 := by rw [g1 q, if_neg hpq]
      rw [g1q]
      have g2 : ∀ x, ((out.set p (wrap64 (out.getD p 0 + xi))).set q (wrap64 (out.getD q 0 - xi))).getD x 0 = if q = x then out.getD q 0 - xi else if p = x then out.getD p 0 + xi else out.getD x 0 := fun x => by
        rw [getD_set _ _ _ _ (by rw [List.length_set]; omega), wrap64_small (x := out.getD q 0 - xi) (by omega) (by omega), g1 x]
      have hlen : ((out.set p (wrap64 (out.getD p 0 + xi))).set q (wrap64 (out.getD q 0 - xi))).length = n := by simp [ho]
      generalize (out.set p (wrap64 (out.getD p 0 + xi))).set q (wrap64 (out.getD q 0 - xi)) = out2 at g2 hlen ⊢
      clear g1 g1q
      rw [wrap64_small (x := (i : Int) + 1) (by omega) (by omega), show ((i : Int) + 1) = ((i + 1 : Nat) : Int) by omega]
      obtain ⟨r1, r2⟩ := given_l0 n hn es l hes hll hg d (i + 1) k out2 (by omega) (by omega) hlen (fun x hx => by
        have := hb x hx
        rw [g2 x]
        split
        · constructor <;> omega
        · split <;> constructor <;> omega)
      refine ⟨fun h => ?_, fun h => ?_⟩
      · rw [inCap, hin, Bool.true_and] at h
        obtain ⟨res, e1, e2, e3⟩ := r1 h
        refine ⟨res, e1, e2, fun x hx => ?_⟩
        rw [e3 x hx, g2 x, fsum, hp, hq]
        simp only [Int.toNat_natCast, dlt]
        by_cases a : q = x
        · subst a
          rw [if_pos rfl, if_neg hpq, if_pos rfl]; omega
        · rw [if_neg a, if_neg a]
          by_cases b : p = x
          · subst b; rw [if_pos rfl, if_pos rfl]; omega
          · rw [if_neg b, if_neg b]; omega
      · rw [inCap, hin, Bool.true_and] at h
        exact r2 h
    · rw [if_neg hin]
      have hin' : (decide (0 ≤ xi) && decide (xi ≤ e.f2)) = false := by simpa using hin
      refine ⟨fun h => ?_, fun h => rfl⟩
      rw [inCap, hin', Bool.false_and] at h; cases h
theorem getD_repl0 (n x : Nat) : (List.replicate n (0 : Int)).getD x 0 = 0 := by
  simp only [List.getD]; rw [List.getElem?_replicate]; split <;> rfl
/-- Amounts are amounts of a net. -/
def isAm (es : List Ed) (l : List Int) : Bool := decide (l.length = es.length) && inCap es l
theorem given_f (n : Nat) (es : List Ed) (l : List Int) (hv : validB n es = true) (k : Nat) (hk : 41 ≤ k) :
    (isAm es l = true → ∃ res, flow_given.f k n es l = some (res, true) ∧ res.length = n ∧ ∀ x, x < n → res.getD x 0 = fsum (dlt x) es l) ∧
    (isAm es l = false → flow_given.f k n es l = some ([], false)) := by
  obtain ⟨h1, h2, h3⟩ := validB_iff.mp hv
  unfold flow_given.f isAm
  by_cases hl : l.length = es.length
  · rw [if_pos (by omega), if_pos (by omega), if_pos (by omega), Int.toNat_natCast]
    have h := given_l0 n (by omega) es l h2 hl h3 es.length 0 k (List.replicate n 0) (by omega) (by omega) (by simp) (fun x _ => by rw [getD_repl0]; omega)
    simp only [List.drop_zero] at h
    simp only [hl, decide_true, Bool.true_and]
    refine ⟨fun hin => ?_, fun hin => h.2 hin⟩
    obtain ⟨res, e1, e2, e3⟩ := h.1 hin
    exact ⟨res, e1, e2, fun x hx => by rw [e3 x hx, getD_repl0]; omega⟩
  · rw [if_neg (by omega)]
    simp [hl]
end Go.Proofs.Ytkkakdpncogpkaa.D
end
section
/- What flow.Max finds: a flow and the least cut, of one value. Conditions: none. -/
namespace Go.Proofs.Ytkkakdpncogpkaa.D
open Go.RowKit Go.Proofs.YtkkakdpncogpkaaW.PrintWords Go.Proofs.YtkkakdpncogpkaaW.PrintLast Go.Proofs.YtkkakdpncogpkaaW.PrintMore
set_option linter.unusedVariables false

def okF (g : Nat → Int) (s t x : Nat) : Bool := decide (g x = 0) || (x == s) || (x == t)
def allF (g : Nat → Int) (s t : Nat) : Nat → Nat → Bool
  | 0, _ => true
  | d + 1, i => okF g s t i && allF g s t d (i + 1)
theorem allF_iff (g : Nat → Int) (s t : Nat) : ∀ d i, allF g s t d i = true ↔ ∀ x, i ≤ x → x < i + d → g x = 0 ∨ x = s ∨ x = t
  | 0, i => by simp [allF]; intro x h1 h2; omega
  | d + 1, i => by
    have ih := allF_iff g s t d (i + 1)
    rw [allF, Bool.and_eq_true, ih]
    simp only [okF, Bool.or_eq_true, decide_eq_true_eq, beq_iff_eq]
    constructor
    · rintro ⟨h1, h2⟩ x hx1 hx2
      by_cases e : x = i
      · subst e; rcases h1 with (h | h) | h
        · exact .inl h
        · exact .inr (.inl h)
        · exact .inr (.inr h)
      · exact h2 x (by omega) (by omega)
    · intro h
      refine ⟨?_, fun x h1 h2 => h x (by omega) (by omega)⟩
      rcases h i (Nat.le_refl _) (by omega) with h | h | h
      · exact .inl (.inl h)
      · exact .inl (.inr h)
      · exact .inr h
theorem checkFlow_l0 (s t n : Nat) (res : List Int) (hr : res.length = n) (hs : s < n) (hn : n ≤ 12) : ∀ (d i k : Nat), i + d = n → 2 * d < k →
    flow_CheckFlow.l0 k s t res res (n : Int) (i : Int) = if allF (fun x => res.getD x 0) s t d i = true then some (res.getD s 0, true) else some (0, false)
  | 0, i, k + 1, hi, hk => by
    rw [flow_CheckFlow.l0, if_neg (by omega), if_pos (by omega), if_pos (by omega), rd_nat0, allF, if_pos rfl]
  | d + 1, i, k + 2, hi, hk => by
    rw [flow_CheckFlow.l0, if_pos (by omega), if_pos (by omega), if_pos (by omega), rd_nat0]
    have ih := checkFlow_l0 s t n res hr hs hn d (i + 1) k (by omega) (by omega)
    have hj : flow_CheckFlow.j2 (k + 1) s t res res (n : Int) (i : Int) false = if allF (fun x => res.getD x 0) s t d (i + 1) = true then some (res.getD s 0, true) else some (0, false) := by
      rw [flow_CheckFlow.j2, if_neg (by simp), wrap64_small (x := (i : Int) + 1) (by omega) (by omega), show ((i : Int) + 1) = ((i + 1 : Nat) : Int) by omega, ih]
    have hj1 : flow_CheckFlow.j2 (k + 1) s t res res (n : Int) (i : Int) true = some (0, false) := by rw [flow_CheckFlow.j2, if_pos rfl]
    rw [allF]
    by_cases h0 : res.getD i 0 = 0
    · rw [if_pos h0, hj, show okF (fun x => res.getD x 0) s t i = true by (simp only [okF, Bool.or_eq_true, decide_eq_true_eq, beq_iff_eq]; exact .inl (.inl h0)), Bool.true_and]
    · rw [if_neg h0]
      by_cases h1 : (i : Int) = s
      · rw [if_pos h1, hj, show okF (fun x => res.getD x 0) s t i = true by (simp only [okF, Bool.or_eq_true, decide_eq_true_eq, beq_iff_eq]; omega), Bool.true_and]
      · rw [if_neg h1]
        by_cases h2 : (i : Int) = t
        · have e : ((i : Int) != (t : Int)) = false := by simp [h2]
          rw [e, hj, show okF (fun x => res.getD x 0) s t i = true by (simp only [okF, Bool.or_eq_true, decide_eq_true_eq, beq_iff_eq]; omega), Bool.true_and]
        · have e : ((i : Int) != (t : Int)) = true := by simp [h2]
          have e2 : okF (fun x => res.getD x 0) s t i = false := by
            have a : i ≠ s := by omega
            have b : i ≠ t := by omega
            simp only [okF, Bool.or_eq_false_iff, decide_eq_false_iff_not, beq_eq_false_iff_ne]
            exact ⟨⟨h0, a⟩, b⟩
          rw [e, hj1, e2, Bool.false_and, if_neg (by simp)]
def isFlow (n s t : Nat) (es : List Ed) (l : List Int) : Bool := isAm es l && decide (0 ≤ fsum (dlt s) es l) && allF (fun x => fsum (dlt x) es l) s t n 0
theorem allF_congr {g g' : Nat → Int} (s t n : Nat) (h : ∀ x, x < n → g x = g' x) : ∀ d i, i + d ≤ n → allF g s t d i = allF g' s t d i
  | 0, _, _ => rfl
  | d + 1, i, hi => by rw [allF, allF, allF_congr s t n h d (i + 1) (by omega)]; unfold okF; rw [h i (by omega)]
theorem checkFlow_f (n s t : Nat) (es : List Ed) (l : List Int) (hp : pairB n es s t = true) (k : Nat) (hk : 41 ≤ k) :
    flow_CheckFlow.f k n es s t l = if isFlow n s t es l = true then some (fsum (dlt s) es l, true) else some (0, false) := by
  obtain ⟨j, rfl⟩ : ∃ j, k = j + 1 := ⟨k - 1, by omega⟩
  have hq := pairB_iff.mp hp
  have hv := validB_iff.mp hq.1
  unfold flow_CheckFlow.f
  rw [isPair_f, hp, Option.bind_some, if_pos rfl]
  obtain ⟨g1, g2⟩ := given_f n es l hq.1 (j + 1) hk
  cases ha : isAm es l with
  | false =>
    rw [g2 ha, Option.bind_some, if_neg (by simp), flow_CheckFlow.j0, if_pos rfl, isFlow, ha, Bool.false_and, Bool.false_and, if_neg (by simp)]
  | true =>
    obtain ⟨res, e1, e2, e3⟩ := g1 ha
    have hs : s < n := by omega
    rw [e1, Option.bind_some]
    dsimp only
    rw [if_pos rfl, if_pos (by omega), if_pos (by omega), flow_CheckFlow.j0, rd_nat0, e3 s hs, isFlow, ha, Bool.true_and]
    by_cases h0 : 0 ≤ fsum (dlt s) es l
    · rw [if_neg (by simp; omega), decide_eq_true h0, Bool.true_and]
      simp only [e2]
      rw [show (0 : Int) = ((0 : Nat) : Int) from rfl, checkFlow_l0 s t n res e2 hs (by omega) n 0 j (by omega) (by omega), e3 s hs, allF_congr s t n (fun x hx => e3 x hx) n 0 (by omega)]
      rfl
    · rw [if_pos (by simp; omega), decide_eq_false h0, Bool.false_and, if_neg (by simp)]

/-! The amounts. -/
def ind (i j a b : Nat) : Int := if a = i ∧ b = j then 1 else 0
theorem wsum_ind (m : List Int) (i j : Nat) (hi : i < 14) (hj : j < 14) : wsum (ind i j) m = mN m i j := by
  unfold wsum
  rw [dsum_update (f := fun _ _ => 0) i j hi hj (fun a b _ _ hn => by show ind i j a b * _ = 0; rw [ind, if_neg hn]; simp), dsum_zero]
  simp [ind]
theorem mN_used (c m : List Int) (hc : c.length = 196) (hm : m.length = 196) (a b : Nat) (ha : a < 14) (hb : b < 14) : mN (usedL c m) a b = if wrap64 (mN c a b - mN m a b) < 0 then 0 else wrap64 (mN c a b - mN m a b) := by
  unfold mN usedL
  have h1 : a * 14 + b < c.length := by omega
  have h2 : a * 14 + b < m.length := by omega
  simp only [List.getD, List.getElem?_zipWith, List.getElem?_eq_getElem h1, List.getElem?_eq_getElem h2, Option.getD_some]
theorem esum_ind (i j : Nat) : ∀ (es : List Ed), goodL es → 0 ≤ esum (ind i j) es ∧ esum (ind i j) es ≤ esum (fun _ _ => 1) es
  | [], _ => ⟨Int.le_refl _, Int.le_refl _⟩
  | e :: r, hg => by
    have ih := esum_ind i j r (fun x hx => hg x (List.mem_cons_of_mem _ hx))
    have h2 := (hg e List.mem_cons_self).2.2.2
    simp only [esum]
    rcases (show ind i j e.f0.toNat e.f1.toNat = 0 ∨ ind i j e.f0.toNat e.f1.toNat = 1 by unfold ind; split <;> simp) with h | h <;> rw [h] <;> omega
theorem take_ok : ∀ (es : List Ed) (u : List Int), goodL es → u.length = 196 → es.length ≤ 40 → (∀ a b, a < 14 → b < 14 → 0 ≤ mN u a b ∧ mN u a b ≤ esum (ind a b) es) →
    inCap es (takeL es u) = true ∧ (takeL es u).length = es.length ∧ ∀ w, fsum w es (takeL es u) = wsum w u
  | [], u, _, hl, _, hu => ⟨rfl, rfl, fun w => by
    have h : wsum w u = dsum (fun _ _ => 0) := dsum_congr (fun a b ha hb => by
      have := hu a b ha hb
      simp only [esum] at this
      have e : mN u a b = 0 := by omega
      rw [e]; simp)
    rw [h, dsum_zero]; rfl⟩
  | e :: r, u, hg, hl, h40, hu => by
    obtain ⟨⟨x0, x1⟩, ⟨y0, y1⟩, hne, ⟨z0, z1⟩⟩ := hg e List.mem_cons_self
    have hgr : goodL r := fun x hx => hg x (List.mem_cons_of_mem _ hx)
    have her := esum_le r hgr
    obtain ⟨i, hi⟩ := Int.eq_ofNat_of_zero_le x0
    obtain ⟨j, hj⟩ := Int.eq_ofNat_of_zero_le y0
    have hi14 : i < 14 := by omega
    have hj14 : j < 14 := by omega
    have hij := hu i j hi14 hj14
    have hei : esum (ind i j) (e :: r) = e.f2 + esum (ind i j) r := by
      rw [esum, hi, hj]; simp [ind]
    have hbr := (esum_ind i j r hgr).2
    obtain ⟨kk, hk⟩ : ∃ kk, kk = (if mAt u e.f0 e.f1 < e.f2 then mAt u e.f0 e.f1 else e.f2) := ⟨_, rfl⟩
    have hkk : kk = if mN u i j < e.f2 then mN u i j else e.f2 := by rw [hk, hi, hj, mAt_nat]
    have hk0 : 0 ≤ kk ∧ kk ≤ e.f2 ∧ kk ≤ mN u i j := by rw [hkk]; split <;> omega
    rw [takeL, ← hk]
    have hw : wrap64 (mAt u e.f0 e.f1 - kk) = mN u i j - kk := by
      rw [hi, hj, mAt_nat]
      simp only [List.length_cons] at h40
      exact wrap64_small (by omega) (by omega)
    rw [hw, hi, hj]
    obtain ⟨r1, r2, r3⟩ := take_ok r (mSet u (i : Int) (j : Int) (mN u i j - kk)) hgr (by rw [mSet_length, hl]) (by simp only [List.length_cons] at h40; omega) (fun a b ha hb => by
      have h := hu a b ha hb
      rw [mN_set u hl i j _ hi14 hj14 a b hb]
      split
      · rename_i he
        obtain ⟨rfl, rfl⟩ := he
        rw [hei] at h
        refine ⟨by omega, ?_⟩
        rw [hkk]
        have hge := (esum_ind a b r hgr).1
        split <;> omega
      · rename_i he
        refine ⟨h.1, ?_⟩
        have h2 := h.2
        rw [esum, hi, hj] at h2
        have e0 : ind a b i j = 0 := by unfold ind; rw [if_neg (fun hh => he ⟨hh.1.symm, hh.2.symm⟩)]
        simp only [Int.toNat_natCast, e0] at h2
        omega)
    refine ⟨?_, by simp [r2], fun w => ?_⟩
    · rw [inCap, r1, decide_eq_true hk0.1, decide_eq_true hk0.2.1]; rfl
    · rw [fsum, r3 w, wsum_set w u hl i j _ hi14 hj14, hi, hj]
      simp only [Int.toNat_natCast]
      grind
theorem amounts_ok (es : List Ed) (m : List Int) (s t : Nat) (v : Int) (C : List Int) (hg : goodL es) (hl : es.length ≤ 40) (hm : m.length = 196) (hn : ∀ a b, a < 14 → b < 14 → 0 ≤ mN m a b ∧ mN m a b ≤ 1000000) :
    isAm es (amountsL es m) = true ∧ ∀ w, fsum w es (amountsL es m) = wsum w (usedL (openM es) m) := by
  obtain ⟨o1, o2, o3⟩ := open_facts es hg hl
  have hcl : (openM es).length = 196 := openM_length es
  have hul : (usedL (openM es) m).length = 196 := by simp [usedL, hcl, hm]
  have hu : ∀ a b, a < 14 → b < 14 → 0 ≤ mN (usedL (openM es) m) a b ∧ mN (usedL (openM es) m) a b ≤ esum (ind a b) es := by
    intro a b ha hb
    have h1 := o2 a b ha hb
    have h2 := hn a b ha hb
    rw [← o1 (ind a b), wsum_ind _ a b ha hb, mN_used _ _ hcl hm a b ha hb, wrap64_small (x := mN (openM es) a b - mN m a b) (by omega) (by omega)]
    split <;> omega
  obtain ⟨t1, t2, t3⟩ := take_ok es (usedL (openM es) m) hg hul hl hu
  refine ⟨?_, fun w => t3 w⟩
  unfold isAm amountsL
  rw [t1, t2]; simp
/-- Used amounts, where opposite ones cancel out. -/
theorem used_anti (c m : List Int) (hc : c.length = 196) (hm : m.length = 196) (hcb : ∀ a b, a < 14 → b < 14 → 0 ≤ mN c a b ∧ mN c a b ≤ 1000000) (hmb : ∀ a b, a < 14 → b < 14 → 0 ≤ mN m a b ∧ mN m a b ≤ 1000000)
    (w : Nat → Nat → Int) (hw : ∀ a b, w b a = - w a b) (hpair : ∀ a b, a < 14 → b < 14 → mN m a b + mN m b a = mN c a b + mN c b a) : 2 * wsum w (usedL c m) = wsum w c - wsum w m := by
  have e : ∀ a b, a < 14 → b < 14 → mN (usedL c m) a b = if mN c a b - mN m a b < 0 then 0 else mN c a b - mN m a b := fun a b ha hb => by
    have h1 := hcb a b ha hb
    have h2 := hmb a b ha hb
    rw [mN_used c m hc hm a b ha hb, wrap64_small (x := mN c a b - mN m a b) (by omega) (by omega)]
  have h1 : wsum w (usedL c m) = dsum (fun a b => w b a * mN (usedL c m) b a) := (dsum_swap (fun a b => w a b * mN (usedL c m) a b)).symm
  have h2 : wsum w (usedL c m) + wsum w (usedL c m) = dsum (fun a b => w a b * mN (usedL c m) a b + w b a * mN (usedL c m) b a) := by
    rw [dsum_add, ← h1]; rfl
  have h3 : dsum (fun a b => w a b * mN (usedL c m) a b + w b a * mN (usedL c m) b a) = dsum (fun a b => w a b * mN c a b - w a b * mN m a b) := dsum_congr (fun a b ha hb => by
    have hp := hpair a b ha hb
    rw [hw a b, e a b ha hb, e b a hb ha]
    have : (if mN c a b - mN m a b < 0 then 0 else mN c a b - mN m a b) - (if mN c b a - mN m b a < 0 then 0 else mN c b a - mN m b a) = mN c a b - mN m a b := by
      split <;> split <;> omega
    grind)
  have h4 : dsum (fun a b => w a b * mN c a b - w a b * mN m a b) = wsum w c - wsum w m := dsum_sub _ _
  omega
end Go.Proofs.Ytkkakdpncogpkaa.D
end
section
/- The greatest flow is the least cut. Conditions: none. -/
namespace Go.Proofs.Ytkkakdpncogpkaa.D
open Go.RowKit Go.Proofs.YtkkakdpncogpkaaW.PrintWords Go.Proofs.YtkkakdpncogpkaaW.PrintLast Go.Proofs.YtkkakdpncogpkaaW.PrintMore
set_option linter.unusedVariables false

def setOf (set : Int) (x : Nat) : Bool := hasN set (x : Int)
theorem esum_cap (set : Int) : ∀ (es : List Ed), goodL es → esum (wS (setOf set)) es = capL es set
  | [], _ => rfl
  | e :: r, hg => by
    have ih := esum_cap set r (fun x hx => hg x (List.mem_cons_of_mem _ hx))
    obtain ⟨⟨x0, _⟩, ⟨y0, _⟩, _, _⟩ := hg e List.mem_cons_self
    unfold capL at ih ⊢
    rw [esum, ih]
    have a0 : ((e.f0.toNat : Nat) : Int) = e.f0 := Int.toNat_of_nonneg x0
    have b0 : ((e.f1.toNat : Nat) : Int) = e.f1 := Int.toNat_of_nonneg y0
    unfold wS setOf
    rw [a0, b0, List.filter_cons]
    unfold leavesE
    cases hasN set e.f0 <;> cases hasN set e.f1 <;> simp [sumCap]
theorem sumN_zero_of {f : Nat → Int} : ∀ n, (∀ x, x < n → 0 ≤ f x) → sumN f n = 0 → ∀ x, x < n → f x = 0
  | 0, _, _, x, hx => by omega
  | n + 1, h, e, x, hx => by
    have h0 : 0 ≤ sumN f n := by
      have := sumN_le (f := fun _ => 0) (g := f) n (fun y hy => h y (by omega))
      rwa [sumN_zero] at this
    have hn := h n (by omega)
    rw [sumN] at e
    by_cases hx' : x = n
    · subst hx'; omega
    · exact sumN_zero_of n (fun y hy => h y (by omega)) (by omega) x (by omega)
theorem dsum_zero_of {f : Nat → Nat → Int} (h : ∀ a b, a < 14 → b < 14 → 0 ≤ f a b) (e : dsum f = 0) (a b : Nat) (ha : a < 14) (hb : b < 14) : f a b = 0 := by
  have h1 := sumN_zero_of (f := fun a => sumN (fun b => f a b) 14) 14 (fun x hx => by
    have := sumN_le (f := fun _ => 0) (g := fun b => f x b) 14 (fun y hy => h x y hx hy)
    rwa [sumN_zero] at this) e a ha
  exact sumN_zero_of 14 (fun y hy => h a y ha hy) h1 b hb
theorem wS_one {S : Nat → Bool} {a b : Nat} (ha : S a = true) (hb : S b = false) : wS S a b = 1 := by
  unfold wS; rw [if_pos ha, hb]; simp
/-- Nothing leaves a set whose residual is 0. -/
theorem shut_of {m : List Int} {S : Nat → Bool} (hn : ∀ a b, a < 14 → b < 14 → 0 ≤ mN m a b) (h : wsum (wS S) m = 0) (a b : Nat) (ha : a < 14) (hb : b < 14) (sa : S a = true) (sb : S b = false) : mN m a b = 0 := by
  have := dsum_zero_of (f := fun a b => wS S a b * mN m a b) (fun x y hx hy => Int.mul_nonneg (wS_nn S x y) (hn x y hx hy)) h a b ha hb
  rw [wS_one sa sb] at this
  omega
theorem wsum_shut {m : List Int} {S : Nat → Bool} (h : ∀ a b, a < 14 → b < 14 → S a = true → S b = false → mN m a b = 0) : wsum (wS S) m = 0 := by
  unfold wsum
  rw [dsum_congr (g := fun _ _ => 0) (fun a b ha hb => ?_), dsum_zero]
  unfold wS
  cases ea : S a with
  | false => simp
  | true =>
    cases eb : S b with
    | true => simp
    | false => simp [h a b ha hb ea eb]
/-- What was reached is reached in any shut set. -/
theorem reach_in {m : List Int} {s : Nat} {lf : List Int} {rank : Nat → Nat} (hB : BI m s lf rank) {S : Nat → Bool} (hs : S s = true) (h : ∀ a b, a < 14 → b < 14 → S a = true → S b = false → mN m a b = 0) :
    ∀ (k x : Nat), rank x ≤ k → x < 14 → 0 < lf.getD x 0 → S x = true
  | k, x, hk, hx, hv => by
    by_cases e : x = s
    · rw [e]; exact hs
    · obtain ⟨p, hp, _, h2, h3, h4⟩ := hB.pre x hx hv e
      match k with
      | 0 => omega
      | k + 1 =>
        have sp := reach_in hB hs h k p (by omega) hp h2
        cases hsx : S x with
        | true => rfl
        | false => exact absurd (h p x hp hx sp hsx) h4
theorem reachedL_lt (lf : List Int) (n : Nat) (h : ∀ x, n ≤ x → ¬ 0 < lf.getD x 0) : 0 ≤ reachedL lf 0 ∧ reachedL lf 0 ≤ 2 ^ n - 1 := by
  obtain ⟨N, h1, h2⟩ := reachedL_bits lf 0
  rw [h1]
  have hN : N < 2 ^ n := by
    refine Nat.lt_pow_two_of_testBit N (fun i hi => ?_)
    rw [Nat.testBit_eq_decide_div_mod_eq, h2 i, if_neg (h i hi)]; rfl
  have e : ((2 ^ n : Nat) : Int) = (2 : Int) ^ n := by simp
  have hN2 : (N : Int) < ((2 ^ n : Nat) : Int) := by exact_mod_cast hN
  rw [e] at hN2
  simp only [Nat.pow_zero, Nat.one_mul]
  omega
/-- A flow of a value, and a cut of it, which is the least one. -/
structure MaxIs (n s t : Nat) (es : List Ed) (l : List Int) (cut v : Int) : Prop where
  flow : isFlow n s t es l = true
  val : fsum (dlt s) es l = v
  isc : isCut n s t cut
  cap : capL es cut = v
  le : ∀ set, isCut n s t set → v ≤ capL es set
  least : ∀ set, isCut n s t set → capL es set = v → ∀ x, x < n → hasN cut (x : Int) = true → hasN set (x : Int) = true
  nn : 0 ≤ v
theorem esum_ind0 (n : Nat) (i j : Nat) : ∀ (es : List Ed), (∀ e, e ∈ es → (0 ≤ e.f0 ∧ e.f0 ≤ (n : Int) - 1) ∧ (0 ≤ e.f1 ∧ e.f1 ≤ (n : Int) - 1)) → n ≤ i ∨ n ≤ j → esum (ind i j) es = 0
  | [], _, _ => rfl
  | e :: r, h, hij => by
    have h1 := h e List.mem_cons_self
    have e0 : ind i j e.f0.toNat e.f1.toNat = 0 := by unfold ind; rw [if_neg (by omega)]
    rw [esum, e0, esum_ind0 n i j r (fun x hx => h x (List.mem_cons_of_mem _ hx)) hij]; omega
theorem esum_wS_le (S : Nat → Bool) : ∀ (es : List Ed), goodL es → 0 ≤ esum (wS S) es ∧ esum (wS S) es ≤ esum (fun _ _ => 1) es
  | [], _ => ⟨Int.le_refl _, Int.le_refl _⟩
  | e :: r, hg => by
    have ih := esum_wS_le S r (fun x hx => hg x (List.mem_cons_of_mem _ hx))
    have h2 := (hg e List.mem_cons_self).2.2.2
    simp only [esum]
    rcases (show wS S e.f0.toNat e.f1.toNat = 0 ∨ wS S e.f0.toNat e.f1.toNat = 1 by unfold wS; split <;> (try split) <;> simp) with h | h <;> rw [h] <;> omega
theorem max_is (n s t : Nat) (es : List Ed) (hp : pairB n es s t = true) : ∃ l cut v, flow_Max.f n es s t = some (l, cut, 0) ∧ MaxIs n s t es l cut v := by
  have hq := pairB_iff.mp hp
  have hv := validB_iff.mp hq.1
  have hg := goodL_of hq.1
  have hs : s < n := by omega
  have ht : t < n := by omega
  have hst : s ≠ t := fun e => hq.2.2.2 (by rw [e])
  have hn : n ≤ 12 := by omega
  obtain ⟨o1, o2, o3⟩ := open_facts es hg hv.2.1
  have hl := openM_length es
  have hle := esum_le es hg
  have hcapS : wsum (wS (fun x => x == s)) (openM es) ≤ 400000 := by
    rw [o1]; have := (esum_wS_le (fun x => x == s) es hg).2; have := hv.2.1; omega
  obtain ⟨rv, rr, rm, hf, hE⟩ := pushF_ok (openM es) s t (by omega) (by omega) hst (fun a b ha hb => by have := o2 a b ha hb; have := o2 b a hb ha; omega) (by omega) 400001 (openM es) 0 (INV.start _ s t hl (fun a b ha hb => (o2 a b ha hb).1)) (Int.le_refl _) (by omega)
  obtain ⟨lf, rank, hB, hrr, hlt, hcl⟩ := hE.ends
  have hI := hE.inv
  -- nodes beyond the net have no edges
  have hout : ∀ a b, a < 14 → b < 14 → n ≤ a ∨ n ≤ b → mN rm a b = 0 := fun a b ha hb hab => by
    have e1 : mN (openM es) a b = 0 := by rw [← wsum_ind _ a b ha hb, o1, esum_ind0 n a b es (fun e he => by obtain ⟨x, y, _, _⟩ := hv.2.2 e he; exact ⟨x, y⟩) hab]
    have e2 : mN (openM es) b a = 0 := by rw [← wsum_ind _ b a hb ha, o1, esum_ind0 n b a es (fun e he => by obtain ⟨x, y, _, _⟩ := hv.2.2 e he; exact ⟨x, y⟩) (by omega)]
    have hp := hI.pair a b ha hb
    have := hI.nn a b ha hb
    have := hI.nn b a hb ha
    omega
  have hvis : ∀ x, n ≤ x → ¬ 0 < lf.getD x 0 := fun x hx hvx => by
    by_cases h14 : x < 14
    · obtain ⟨p, hp14, _, _, _, h4⟩ := hB.pre x h14 hvx (by omega)
      exact h4 (hout p x hp14 h14 (.inr hx))
    · have : lf.getD x 0 = 0 := by
        simp only [List.getD]
        rw [List.getElem?_eq_none (by rw [hB.len]; omega)]; rfl
      omega
  have hrange := reachedL_lt lf n hvis
  rw [← hrr] at hrange
  have hhas : ∀ x : Nat, hasN rr (x : Int) = decide (0 < lf.getD x 0) := fun x => by rw [hrr]; exact reached_has lf x
  have hcs : hasN rr (s : Int) = true := by rw [hhas s, hB.src]; exact decide_eq_true (by omega)
  have hct : hasN rr (t : Int) = false := by rw [hhas t]; exact decide_eq_false hlt
  have hshut : ∀ a b, a < 14 → b < 14 → setOf rr a = true → setOf rr b = false → mN rm a b = 0 := fun a b ha hb sa sb => by
    unfold setOf at sa sb
    rw [hhas a] at sa
    rw [hhas b] at sb
    exact Classical.byContradiction fun hne => (of_decide_eq_false sb) (hcl a ha (of_decide_eq_true sa) b hb hne)
  have hval : capL es rr = rv := by
    have h1 := hI.cut (setOf rr) hcs hct
    rw [wsum_shut hshut, o1, esum_cap rr es hg] at h1
    omega
  have hrmb : ∀ a b, a < 14 → b < 14 → 0 ≤ mN rm a b ∧ mN rm a b ≤ 1000000 := fun a b ha hb => by
    have := hI.pair a b ha hb
    have := hI.nn a b ha hb
    have := hI.nn b a hb ha
    have := o2 a b ha hb
    have := o2 b a hb ha
    omega
  obtain ⟨am1, am2⟩ := amounts_ok es rm s t rv (openM es) hg hv.2.1 hI.len hrmb
  have hnet : ∀ x : Nat, fsum (dlt x) es (amountsL es rm) = rv * ((if s = x then 1 else 0) - (if t = x then 1 else 0)) := fun x => by
    have h1 := used_anti (openM es) rm hl hI.len (fun a b ha hb => by have := o2 a b ha hb; omega) hrmb (dlt x) (fun a b => by unfold dlt; omega) hI.pair
    have h2 := hI.pot (dlt x) (fun a => 2 * (if a = x then 1 else 0)) (fun a b _ _ => by unfold dlt; omega)
    rw [am2 (dlt x)]
    grind
  refine ⟨amountsL es rm, rr, rv, ?_, ?_, ?_, ⟨hrange.1, hrange.2, hcs, hct⟩, hval, fun set hset => ?_, fun set hset he x hx hx1 => ?_, hE.pos⟩
  · unfold flow_Max.f
    rw [if_pos hp, hf]; rfl
  · unfold isFlow
    rw [am1, Bool.true_and, Bool.and_eq_true, allF_iff]
    refine ⟨decide_eq_true ?_, fun x _ _ => ?_⟩
    · rw [hnet s, if_pos rfl, if_neg (fun e => hst e.symm)]; have := hE.pos; omega
    · by_cases e1 : x = s
      · exact .inr (.inl e1)
      · by_cases e2 : x = t
        · exact .inr (.inr e2)
        · exact .inl (by show fsum (dlt x) es (amountsL es rm) = 0; rw [hnet x, if_neg (fun e => e1 e.symm), if_neg (fun e => e2 e.symm)]; omega)
  · rw [hnet s, if_pos rfl, if_neg (fun e => hst e.symm)]; omega
  · have := hI.le (setOf set) hset.2.2.1 hset.2.2.2
    rw [o1, esum_cap set es hg] at this
    exact this
  · have h1 := hI.cut (setOf set) hset.2.2.1 hset.2.2.2
    rw [o1, esum_cap set es hg, he, Int.sub_self] at h1
    have hx2 : 0 < lf.getD x 0 := by rw [hhas x] at hx1; exact of_decide_eq_true hx1
    exact reach_in hB (S := setOf set) hset.2.2.1 (fun a b ha hb sa sb => shut_of hI.nn h1 a b ha hb sa sb) (rank x) x (Nat.le_refl _) (by omega) hx2
theorem greatest_f (n s t : Nat) (es : List Ed) (hp : pairB n es s t = true) (k : Nat) (hk : 41 ≤ k) : ∃ l cut v, flow_Max.f n es s t = some (l, cut, 0) ∧ MaxIs n s t es l cut v ∧ dialtonelaw27_greatest.f k n es s t = some (v, cut, true) := by
  obtain ⟨l, cut, v, h1, h2⟩ := max_is n s t es hp
  refine ⟨l, cut, v, h1, h2, ?_⟩
  unfold dialtonelaw27_greatest.f
  rw [h1, Option.bind_some]
  dsimp only
  rw [checkFlow_f n s t es l hp k hk, if_pos h2.flow, Option.bind_some, checkCut_f n s t es cut hp k (by omega), if_pos h2.isc, Option.bind_some]
  dsimp only
  rw [if_pos rfl, if_pos rfl, if_pos rfl, h2.val, h2.cap]
  simp
theorem sumN_pick (f : Nat → Int) (a : Nat) (ha : a < 14) : sumN (fun x => f x * (if a = x then 1 else 0)) 14 = f a := by
  rw [sumN_update (f := fun _ => 0) a 14 (fun x hx hn => by show f x * _ = 0; rw [if_neg (fun e => hn e.symm)]; omega), sumN_zero, if_pos ha, if_pos rfl]; omega
theorem fsum_sumN (χ : Nat → Int) : ∀ (es : List Ed) (l : List Int), goodL es → fsum (fun a b => χ a - χ b) es l = sumN (fun x => χ x * fsum (dlt x) es l) 14
  | [], l, _ => by
    have e : ∀ x, χ x * fsum (dlt x) [] l = 0 := fun x => by simp [fsum]
    rw [sumN_congr 14 (fun x _ => e x), sumN_zero]; rfl
  | e :: r, [], _ => by
    have e2 : ∀ x, χ x * fsum (dlt x) (e :: r) [] = 0 := fun x => by simp [fsum]
    rw [sumN_congr 14 (fun x _ => e2 x), sumN_zero]; rfl
  | e :: r, y :: l, hg => by
    obtain ⟨⟨x0, x1⟩, ⟨y0, y1⟩, _, _⟩ := hg e List.mem_cons_self
    have ih := fsum_sumN χ r l (fun x hx => hg x (List.mem_cons_of_mem _ hx))
    rw [fsum, ih]
    have h : ∀ x, x < 14 → χ x * fsum (dlt x) (e :: r) (y :: l) = y * (χ x * (if e.f0.toNat = x then 1 else 0)) - y * (χ x * (if e.f1.toNat = x then 1 else 0)) + χ x * fsum (dlt x) r l := fun x _ => by
      rw [fsum]; unfold dlt; grind
    rw [sumN_congr 14 h, sumN_add, sumN_sub, sumN_mul, sumN_mul, sumN_pick χ _ (by omega), sumN_pick χ _ (by omega)]
    grind
theorem fsum_wS_le (S : Nat → Bool) : ∀ (es : List Ed) (l : List Int), goodL es → inCap es l = true → fsum (fun a b => chi S a - chi S b) es l ≤ esum (wS S) es
  | [], l, _, _ => by simp [fsum, esum]
  | e :: r, [], hg, _ => by
    rw [fsum]
    · exact (esum_wS_le S (e :: r) hg).1
    · intros; simp_all
  | e :: r, y :: l, hg, hi => by
    rw [inCap, Bool.and_eq_true, Bool.and_eq_true, decide_eq_true_eq, decide_eq_true_eq] at hi
    have ih := fsum_wS_le S r l (fun x hx => hg x (List.mem_cons_of_mem _ hx)) hi.2
    rw [fsum, esum, ← wS_chi]
    have h1 : wS S e.f0.toNat e.f1.toNat = 0 ∨ wS S e.f0.toNat e.f1.toNat = 1 := by unfold wS; split <;> (try split) <;> simp
    have h2 : wS S e.f1.toNat e.f0.toNat = 0 ∨ wS S e.f1.toNat e.f0.toNat = 1 := by unfold wS; split <;> (try split) <;> simp
    rcases h1 with h1 | h1 <;> rcases h2 with h2 | h2 <;> rw [h1, h2] <;> omega
theorem fsum_out (n x : Nat) (hx : n ≤ x) : ∀ (es : List Ed) (l : List Int), (∀ e, e ∈ es → (0 ≤ e.f0 ∧ e.f0 ≤ (n : Int) - 1) ∧ (0 ≤ e.f1 ∧ e.f1 ≤ (n : Int) - 1)) → fsum (dlt x) es l = 0
  | [], l, _ => by rw [fsum]; intros; simp_all
  | e :: r, [], _ => by rw [fsum]; intros; simp_all
  | e :: r, y :: l, h => by
    have h1 := h e List.mem_cons_self
    have e0 : dlt x e.f0.toNat e.f1.toNat = 0 := by unfold dlt; rw [if_neg (by omega), if_neg (by omega)]; rfl
    rw [fsum, e0, fsum_out n x hx r l (fun e he => h e (List.mem_cons_of_mem _ he))]; omega
/-- No flow is greater than any cut. -/
theorem flow_le_cut (n s t : Nat) (es : List Ed) (l : List Int) (hp : pairB n es s t = true) (hf : isFlow n s t es l = true) (set : Int) (hc : isCut n s t set) : fsum (dlt s) es l ≤ capL es set := by
  have hq := pairB_iff.mp hp
  have hv := validB_iff.mp hq.1
  have hg := goodL_of hq.1
  have hst : s ≠ t := fun e => hq.2.2.2 (by rw [e])
  unfold isFlow at hf
  rw [Bool.and_eq_true, Bool.and_eq_true, allF_iff] at hf
  have ham := hf.1.1
  unfold isAm at ham
  rw [Bool.and_eq_true] at ham
  have h1 := fsum_sumN (chi (setOf set)) es l hg
  have h2 := fsum_wS_le (setOf set) es l hg ham.2
  rw [esum_cap set es hg, h1] at h2
  have h3 : sumN (fun x => chi (setOf set) x * fsum (dlt x) es l) 14 = fsum (dlt s) es l := by
    rw [sumN_update (f := fun _ => 0) s 14 (fun x hx hn => ?_), sumN_zero, if_pos (by omega)]
    · have e1 : chi (setOf set) s = 1 := by unfold chi setOf; rw [if_pos hc.2.2.1]
      rw [e1]; omega
    · show chi (setOf set) x * fsum (dlt x) es l = 0
      by_cases hxn : x < n
      · rcases hf.2 x (Nat.zero_le _) (by omega) with h | h | h
        · rw [h]; omega
        · exact absurd h hn
        · have e1 : chi (setOf set) x = 0 := by unfold chi setOf; rw [h, hc.2.2.2]; rfl
          rw [e1]; omega
      · rw [fsum_out n x (by omega) es l (fun e he => by obtain ⟨a, b, _, _⟩ := hv.2.2 e he; exact ⟨a, b⟩)]; omega
  omega
end Go.Proofs.Ytkkakdpncogpkaa.D
end
section
/- The inputs that the laws make: nodes, ends and nets; the chapter's examples. Conditions: integers are of 64 bits. -/
namespace Go.Proofs.Ytkkakdpncogpkaa.D
open Go.RowKit Go.Proofs.YtkkakdpncogpkaaW.PrintWords Go.Proofs.YtkkakdpncogpkaaW.PrintLast Go.Proofs.YtkkakdpncogpkaaW.PrintMore
set_option linter.unusedVariables false

theorem sane_64 : dialtonelaw27_sane.f 64 = some true := by kernel_rfl
/-- An integer of 64 bits. -/
def I64 (a : Int) : Prop := -9223372036854775808 ≤ a ∧ a < 9223372036854775808
theorem pick_core (a m : Int) (ha : I64 a) (hm : 0 < m) : ∃ r : Int, (if a < 0 then (if m = 0 then (none : Option Int) else (some (Int.tmod (wrap64 (-(wrap64 (a + 1)))) m))) else (if m = 0 then (none) else (some (Int.tmod a m)))) = some r ∧ 0 ≤ r ∧ r < m := by
  obtain ⟨h0, h1⟩ := ha
  by_cases h : a < 0
  · rw [if_pos h, if_neg (by omega), wrap64_small (x := a + 1) (by omega) (by omega), wrap64_small (x := -(a + 1)) (by omega) (by omega), Int.tmod_eq_emod_of_nonneg (by omega)]
    exact ⟨_, rfl, Int.emod_nonneg _ (by omega), Int.emod_lt_of_pos _ hm⟩
  · rw [if_neg h, if_neg (by omega), Int.tmod_eq_emod_of_nonneg (by omega)]
    exact ⟨_, rfl, Int.emod_nonneg _ (by omega), Int.emod_lt_of_pos _ hm⟩
theorem pick_f (a m : Int) (ha : I64 a) (hm : 0 < m) : ∃ r : Int, dialtonelaw27_pick.f a m = some r ∧ 0 ≤ r ∧ r < m := pick_core a m ha hm
theorem pickr_f (a m : Int) (ha : I64 a) (hm : 0 < m) : ∃ r : Int, dialtoneref27_pick.f a m = some r ∧ 0 ≤ r ∧ r < m := pick_core a m ha hm
/-- The node after another one. -/
theorem turn_f (n p q : Int) (hn : 2 ≤ n) (hn2 : n ≤ 12) (hp : 0 ≤ p) (hp2 : p < n) (hq : 0 ≤ q) (hq2 : q < n - 1) : ∃ r : Int, Int.tmod (wrap64 ((wrap64 (p + 1)) + q)) n = r ∧ 0 ≤ r ∧ r < n ∧ r ≠ p := by
  rw [wrap64_small (x := p + 1) (by omega) (by omega), wrap64_small (x := p + 1 + q) (by omega) (by omega), Int.tmod_eq_emod_of_nonneg (by omega)]
  refine ⟨_, rfl, Int.emod_nonneg _ (by omega), Int.emod_lt_of_pos _ (by omega), fun e => ?_⟩
  have h1 := Int.emod_add_mul_ediv (p + 1 + q) n
  rw [e] at h1
  have h2 : n * ((p + 1 + q) / n) = 1 + q := by omega
  have h3 : 0 < (p + 1 + q) / n := by
    rcases Int.lt_trichotomy ((p + 1 + q) / n) 0 with h | h | h
    · have := Int.mul_neg_of_pos_of_neg (show 0 < n by omega) h; omega
    · rw [h] at h2; omega
    · exact h
  have h4 : n * 1 ≤ n * ((p + 1 + q) / n) := Int.mul_le_mul_of_nonneg_left (by omega) (by omega)
  omega
theorem ends_f (n : Int) (es : List Ed) (a b : Int) (ha : I64 a) (hb : I64 b) (hn : 2 ≤ n) (hn2 : n ≤ 12) : ∃ s t : Nat, dialtonelaw27_ends.f n es a b = some ((s : Int), (t : Int)) ∧ (s : Int) < n ∧ (t : Int) < n ∧ s ≠ t := by
  obtain ⟨p, e1, p0, p1⟩ := pick_f a n ha (by omega)
  obtain ⟨q, e2, q0, q1⟩ := pick_f b (n - 1) hb (by omega)
  obtain ⟨r, e3, r0, r1, r2⟩ := turn_f n p q hn hn2 p0 p1 q0 q1
  obtain ⟨s, rfl⟩ := Int.eq_ofNat_of_zero_le p0
  obtain ⟨t, rfl⟩ := Int.eq_ofNat_of_zero_le r0
  refine ⟨s, t, ?_, p1, r1, fun e => r2 (by rw [e])⟩
  unfold dialtonelaw27_ends.f
  rw [e1, Option.bind_some, wrap64_small (x := n - 1) (by omega) (by omega), e2, Option.bind_some, if_neg (by omega), e3]
/-- A made net. -/
structure MadeIs (n : Nat) (es : List Ed) : Prop where
  lo : 2 ≤ n
  hi : n ≤ 7
  len : es.length ≤ 16
  ok : ∀ e, e ∈ es → (0 ≤ e.f0 ∧ e.f0 ≤ (n : Int) - 1) ∧ (0 ≤ e.f1 ∧ e.f1 ≤ (n : Int) - 1) ∧ e.f0 ≠ e.f1 ∧ (0 ≤ e.f2 ∧ e.f2 ≤ 19)
theorem MadeIs.valid {n : Nat} {es : List Ed} (h : MadeIs n es) : validB n es = true := by
  rw [validB_iff]
  have := h.hi
  have := h.len
  exact ⟨⟨by omega, by omega⟩, by omega, fun e he => by obtain ⟨a, b, c, d⟩ := h.ok e he; exact ⟨a, b, c, by omega⟩⟩
theorem MadeIs.pair {n s t : Nat} {es : List Ed} (h : MadeIs n es) (hs : (s : Int) < n) (ht : (t : Int) < n) (hne : s ≠ t) : pairB n es s t = true := by
  rw [pairB_iff]
  exact ⟨h.valid, ⟨by omega, by omega⟩, ⟨by omega, by omega⟩, by omega⟩
def AllI64 (l : List S23) : Prop := ∀ x, x ∈ l → I64 x.f0 ∧ I64 x.f1 ∧ I64 x.f2
theorem made_l0 (n : Nat) (hn : 2 ≤ n) (hn2 : n ≤ 7) (x : List S23) (hx : AllI64 x) : ∀ (d i k : Nat) (es : List Ed), i + d = 16 → 2 * d + 1 < k → es.length = i → MadeIs n es →
    ∃ es', dialtoneref27_Made.l0 k x (i : Int) (n : Int) es = some ((n : Int), es') ∧ MadeIs n es'
  | d, i, k + 2, es, hi, hk, hl, hM => by
    rw [dialtoneref27_Made.l0]
    by_cases h1 : (i : Int) < (x.length : Int)
    · rw [if_pos h1]
      by_cases h2 : i < 16
      · rw [dialtoneref27_Made.j1, if_pos (by simp; omega), if_pos (by omega), if_pos h1]
        have hlt : i < x.length := by omega
        have hrd : rd_T23 x (i : Int) = x[i] := by simp [rd_T23, hlt]
        obtain ⟨a0, a1, a2⟩ := hx x[i] (List.getElem_mem hlt)
        obtain ⟨p, e1, p0, p1⟩ := pickr_f x[i].f0 n a0 (by omega)
        obtain ⟨q, e2, q0, q1⟩ := pickr_f x[i].f1 ((n : Int) - 1) a1 (by omega)
        obtain ⟨c, e3, c0, c1⟩ := pickr_f x[i].f2 20 a2 (by omega)
        obtain ⟨r, e4, r0, r1, r2⟩ := turn_f n p q (by omega) (by omega) p0 p1 q0 q1
        rw [hrd, e1, Option.bind_some, wrap64_small (x := (n : Int) - 1) (by omega) (by omega), e2, Option.bind_some, if_neg (by omega), e3, Option.bind_some, if_pos (by omega), e4, wrap64_small (x := (i : Int) + 1) (by omega) (by omega), show ((i : Int) + 1) = ((i + 1 : Nat) : Int) by omega]
        match d, hi, hk with
        | d + 1, hi, hk =>
          refine made_l0 n hn hn2 x hx d (i + 1) k _ (by omega) (by omega) (by simp [hl]) ⟨hM.lo, hM.hi, by simp; omega, fun e he => ?_⟩
          rcases List.mem_append.mp he with he | he
          · exact hM.ok e he
          · rw [List.mem_singleton.mp he]
            exact ⟨⟨p0, by show p ≤ _; omega⟩, ⟨r0, by show r ≤ _; omega⟩, fun e => r2 e.symm, c0, by show c ≤ _; omega⟩
        | 0, hi, hk => omega
      · rw [dialtoneref27_Made.j1, if_neg (by simp; omega)]
        exact ⟨es, rfl, hM⟩
    · rw [if_neg h1, dialtoneref27_Made.j1, if_neg (by simp)]
      exact ⟨es, rfl, hM⟩
theorem made_f (a : Int) (x : List S23) (ha : I64 a) (hx : AllI64 x) (k : Nat) (hk : 35 ≤ k) : ∃ (n : Nat) (es : List Ed), dialtoneref27_Made.f k a x = some ((n : Int), es) ∧ MadeIs n es := by
  obtain ⟨p, e1, p0, p1⟩ := pickr_f a 6 ha (by omega)
  obtain ⟨q, rfl⟩ := Int.eq_ofNat_of_zero_le p0
  have hM : MadeIs (2 + q) [] := ⟨by omega, by omega, by simp, fun e he => by simp at he⟩
  obtain ⟨es, e2, h2⟩ := made_l0 (2 + q) (by omega) (by omega) x hx 16 0 k [] (by omega) (by omega) rfl hM
  refine ⟨2 + q, es, ?_, h2⟩
  unfold dialtoneref27_Made.f
  rw [e1, Option.bind_some, wrap64_small (x := 2 + (q : Int)) (by omega) (by omega), show (2 + (q : Int)) = ((2 + q : Nat) : Int) by omega]
  exact e2
end Go.Proofs.Ytkkakdpncogpkaa.D
end
section
/- How the arguments of the laws are read: a list of three integers each. Conditions: none. -/
namespace Go.Proofs.Ytkkakdpncogpkaa.D
open Go.ChangeShapes Go.WideShapes Go.ChangeAt Go.RowKit Go.Deep Go.Proofs.YtkkakdpncogpkaaW.PrintWords
set_option linter.unusedVariables false
theorem wf_i64 {a : Int} (h : (Lit.int .i64 a).wf = true) : I64 a := by
  unfold I64
  simp [Lit.wf, IntKind.min, IntKind.max, IntKind.bits, IntKind.signed] at h
  omega
section
variable {H : Type} {enc : TypeId × Value → H} {P : Program} {w : World} {base : Nat} {spare : Nat → Bool} {held : Bool}
theorem open_threes {t e q : TypeId} {fuel len cap : Nat} {A : Option Addr} {x : DataW H × List MemPlace} (ht : P.underlying t = some (.slice e)) (he : P.underlying e = some (.array 3 q)) (hq : P.underlying q = some (.int .i64)) (ce : P.cellsOf e = 3) (cq : P.cellsOf q = 1)
    (h : DataW.trod enc P w base spare held fuel t [.slice A len cap] = some x) : ∃ zs : List S23, zs.length = len ∧ len ≤ cap ∧ Kd.C k23 w A len zs ∧ AllI64 zs := by
  rcases open_slice ht h with ⟨h0, _⟩ | ⟨a, len', cap', m, n, D, Pl, h0, hb, hl, hm, hmm, _, hx⟩
  · simp only [List.cons.injEq, Value.slice.injEq, and_true] at h0
    obtain ⟨rfl, rfl, rfl⟩ := h0
    exact ⟨[], rfl, Nat.le_refl _, ⟨rfl, by omega, fun h => by omega⟩, fun x hx => by simp at hx⟩
  · simp only [List.cons.injEq, Value.slice.injEq, and_true] at h0
    obtain ⟨rfl, rfl, rfl⟩ := h0
    have hlm : len ≤ m := by rw [hmm]; split <;> omega
    have each : ∀ i, i < len → ∃ z : S23, (w.cell? (a.add (i * 3)) = some (.int .i64 z.f0) ∧ w.cell? (a.add (i * 3 + 1)) = some (.int .i64 z.f1) ∧ w.cell? (a.add (i * 3 + 2)) = some (.int .i64 z.f2)) ∧ I64 z.f0 ∧ I64 z.f1 ∧ I64 z.f2 := by
      intro i hi
      obtain ⟨cs', h1, h2⟩ := hx i (by omega)
      rw [ce] at h1
      obtain ⟨_, hlen, hcell⟩ := World.cells?_some h1
      match cs', hlen, h2, hcell with
      | [c0, c1, c2], _, h2, hcell =>
        obtain ⟨y0, y1, y2, k, _, g0, g1, g2⟩ := trod_array3 he cq h2
        obtain ⟨n0, q0, _, w0⟩ := DataW.trod_int hq g0
        obtain ⟨n1, q1, _, w1⟩ := DataW.trod_int hq g1
        obtain ⟨n2, q2, _, w2⟩ := DataW.trod_int hq g2
        simp only [List.cons.injEq, and_true] at q0 q1 q2
        subst q0; subst q1; subst q2
        have e0 := hcell 0 (by omega)
        have e1 := hcell 1 (by omega)
        have e2 := hcell 2 (by omega)
        rw [Go.Deep.add_add] at e0 e1 e2
        exact ⟨⟨n0, n1, n2⟩, ⟨by simpa using e0, by simpa using e1, by simpa using e2⟩, wf_i64 w0, wf_i64 w1, wf_i64 w2⟩
    haveI : Inhabited S23 := ⟨z23⟩
    obtain ⟨z, hz⟩ := choose_lt each
    refine ⟨(List.range len).map z, by simp, hl, ⟨by simp, by unfold maxLen at hm; omega, fun _ => ⟨a, rfl, fun j p hp => ?_⟩⟩, fun y hy => ?_⟩
    · rw [List.getElem?_map] at hp
      by_cases hj : j < len
      · rw [List.getElem?_range hj] at hp
        simp only [Option.map_some, Option.some.injEq] at hp
        subst hp
        obtain ⟨⟨c0, c1, c2⟩, _⟩ := hz j hj
        refine ⟨_, rfl, k23_mk w (z j), fun i u hu => ?_⟩
        match i, hu with
        | 0, hu => simp only [List.getElem?_cons_zero, Option.some.injEq] at hu; subst hu; exact c0
        | 1, hu => simp only [List.getElem?_cons_succ, List.getElem?_cons_zero, Option.some.injEq] at hu; subst hu; exact c1
        | 2, hu => simp only [List.getElem?_cons_succ, List.getElem?_cons_zero, Option.some.injEq] at hu; subst hu; exact c2
        | i + 3, hu => simp at hu
      · rw [List.getElem?_eq_none (by simp; omega)] at hp; simp at hp
    · obtain ⟨j, hj, rfl⟩ := List.mem_map.mp hy
      exact (hz j (List.mem_range.mp hj)).2
end
end Go.Proofs.Ytkkakdpncogpkaa.D
end
