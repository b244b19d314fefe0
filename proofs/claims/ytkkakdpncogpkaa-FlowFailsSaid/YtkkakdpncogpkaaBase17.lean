/- Parts of the proof of a law about flows (see the law's own text): P1, A1, A2, A3, P2, HWorstDef. Conditions: each theorem's own. -/
import Derived.Test.YtkkakdpncogpkaaBase16
import Derived.Test.YtkkakdpncogpkaaBase12
import Derived.Test.YtkkakdpncogpkaaBase13
section
/- Plain facts of the hand-written functions of flow: validity, lengths. Conditions: none. -/
namespace Go.Proofs.Ytkkakdpncogpkaa.D
open Go.RowKit Go.Proofs.YtkkakdpncogpkaaW.PrintWords
set_option linter.unusedVariables false

theorem validB_iff {n : Int} {es : List Ed} : validB n es = true ↔ (0 ≤ n ∧ n ≤ 12) ∧ es.length ≤ 40 ∧ ∀ e, e ∈ es → (0 ≤ e.f0 ∧ e.f0 ≤ n - 1) ∧ (0 ≤ e.f1 ∧ e.f1 ≤ n - 1) ∧ e.f0 ≠ e.f1 ∧ (0 ≤ e.f2 ∧ e.f2 ≤ 10000) := by
  simp only [validB, goodE, Bool.and_eq_true, decide_eq_true_eq, List.all_eq_true]
  constructor
  · rintro ⟨⟨h1, h2⟩, h3⟩
    exact ⟨h1, h2, fun e he => by have := h3 e he; exact ⟨this.1.1.1, this.1.1.2, this.1.2, this.2⟩⟩
  · rintro ⟨h1, h2, h3⟩
    exact ⟨⟨h1, h2⟩, fun e he => by have := h3 e he; exact ⟨⟨⟨this.1, this.2.1⟩, this.2.2.1⟩, this.2.2.2⟩⟩
theorem pairB_iff {n : Int} {es : List Ed} {s t : Int} : pairB n es s t = true ↔ validB n es = true ∧ (0 ≤ s ∧ s ≤ n - 1) ∧ (0 ≤ t ∧ t ≤ n - 1) ∧ s ≠ t := by
  simp only [pairB, Bool.and_eq_true, decide_eq_true_eq]
  constructor
  · rintro ⟨⟨⟨h1, h2⟩, h3⟩, h4⟩; exact ⟨h1, h2, h3, h4⟩
  · rintro ⟨h1, h2, h3, h4⟩; exact ⟨⟨⟨h1, h2⟩, h3⟩, h4⟩
theorem valid_at {n : Int} {es : List Ed} (h : validB n es = true) (k : Nat) (hk : k < es.length) : 0 ≤ (rd_T72 es k).f0 ∧ (rd_T72 es k).f0 ≤ n - 1 ∧ 0 ≤ (rd_T72 es k).f1 ∧ (rd_T72 es k).f1 ≤ n - 1 := by
  have e : rd_T72 es k = es[k] := by simp [rd_T72, hk]
  have := (validB_iff.mp h).2.2 es[k] (List.getElem_mem hk)
  rw [e]; exact ⟨this.1.1, this.1.2, this.2.1.1, this.2.1.2⟩
theorem wrap64_small {x : Int} (h0 : -9223372036854775808 ≤ x) (h1 : x < 9223372036854775808) : wrap64 x = x := by
  unfold wrap64; omega
theorem isIn_f (a b c : Int) : flow_isIn.f a b c = some (decide (b ≤ a) && decide (a ≤ c)) := by
  unfold flow_isIn.f
  split <;> simp [*]
theorem isPair_f (n : Int) (es : List Ed) (s t : Int) : flow_isPair.f n es s t = some (pairB n es s t) := by
  unfold flow_isPair.f flow_Valid.f pairB
  simp only [isIn_f, Option.bind_some]
  by_cases hv : validB n es = true
  · have h := (validB_iff.mp hv).1
    rw [wrap64_small (x := n - 1) (by omega) (by omega), if_pos hv, hv]
    cases hs : (decide (0 ≤ s) && decide (s ≤ n - 1)) <;> cases ht : (decide (0 ≤ t) && decide (t ≤ n - 1)) <;> simp
    by_cases h : s = t <;> simp [h]
  · simp [hv]

theorem mSet_length (m : List Int) (a b v : Int) : (mSet m a b v).length = m.length := by simp [mSet]
theorem openL_length : ∀ (es : List Ed) (m : List Int), (openL es m).length = m.length
  | [], _ => rfl
  | e :: r, m => by rw [openL, openL_length r, mSet_length]
theorem openM_length (es : List Ed) : (openM es).length = 196 := by rw [openM, openL_length]; rfl
theorem pushL_length' (room : Int) : ∀ (l : List (Int × Int)) (m : List Int), (pushL room l m).length = m.length
  | [], _ => rfl
  | (a, b) :: l, m => by rw [pushL, pushL_length' room l, mSet_length, mSet_length]
theorem pushF_length (s t : Int) : ∀ (k : Nat) (m : List Int) (v : Int) (rv rr : Int) (rm : List Int), pushF s t k m v = some (rv, rr, rm) → rm.length = m.length
  | 0, _, _, _, _, _, h => by simp [pushF] at h
  | k + 1, m, v, rv, rr, rm, h => by
    rw [pushF] at h
    obtain ⟨last, _, h⟩ := Option.bind_eq_some_iff.mp h
    split at h
    · simp only [Option.some.injEq, Prod.mk.injEq] at h; rw [← h.2.2]
    · obtain ⟨l, _, h⟩ := Option.bind_eq_some_iff.mp h
      rw [pushF_length s t k _ _ _ _ _ h, pushL_length']
theorem supM_length : ∀ (l : List Int) (i : Nat) (m : List Int), (supM l i m).length = m.length
  | [], _, _ => rfl
  | x :: r, i, m => by rw [supM, supM_length r]; split <;> exact mSet_length _ _ _ _

theorem isSupply_l0 (l : List Int) (hl : l.length ≤ 12) : ∀ (d i : Nat) (s : Int), i + d = l.length → -100000 * (i : Int) ≤ s → s ≤ 100000 * i →
    flow_isSupply.l0 (d + 1) s l (l.length : Int) i = some ((l.drop i).all (fun x => decide (-100000 ≤ x) && decide (x ≤ 100000)) && decide (s + sumL (l.drop i) = 0)) := by
  intro d
  induction d with
  | zero =>
    intro i s hi h0 h1
    rw [flow_isSupply.l0, if_neg (by omega)]
    have : i = l.length := by omega
    rw [this, List.drop_length]
    simp [sumL]
    by_cases h : s = 0 <;> simp [h]
  | succ d ih =>
    intro i s hi h0 h1
    have hlt : i < l.length := by omega
    rw [flow_isSupply.l0, if_pos (by omega), if_pos (by omega), if_pos (by omega), isIn_f]
    have hd : l.drop i = l[i] :: l.drop (i + 1) := List.drop_eq_getElem_cons hlt
    have hr : rd l (i : Int) = l[i] := by simp [rd, hlt]
    rw [hd, hr]
    simp only [Option.bind_some, List.all_cons, sumL]
    by_cases hx : (decide (-100000 ≤ l[i]) && decide (l[i] ≤ 100000)) = true
    · rw [if_pos hx, hx]
      simp only [Bool.and_eq_true, decide_eq_true_eq] at hx
      rw [wrap64_small (x := s + l[i]) (by omega) (by omega), wrap64_small (x := (i : Int) + 1) (by omega) (by omega)]
      have := ih (i + 1) (s + l[i]) (by omega) (by omega) (by omega)
      rw [show ((i : Int) + 1) = ((i + 1 : Nat) : Int) by omega, this]
      have e := Int.add_assoc s l[i] (sumL (l.drop (i + 1)))
      rw [Bool.true_and]
      refine congrArg some (congrArg (_ && ·) ?_)
      exact decide_eq_decide.mpr (by rw [e])
    · rw [if_neg hx]
      simp only [Bool.not_eq_true] at hx
      rw [hx]; simp
theorem isSupply_f (n : Int) (es : List Ed) (l : List Int) : flow_isSupply.f 14 n es l = some (supplyB n es l) := by
  unfold flow_isSupply.f flow_Valid.f supplyB
  simp only [Option.bind_some]
  by_cases hv : validB n es = true
  · have h := (validB_iff.mp hv).1
    rw [if_pos hv, hv]
    rw [flow_isSupply.j0]
    by_cases hn : (l.length : Int) = n
    · rw [if_neg (by simp [hn])]
      have hl : l.length ≤ 12 := by omega
      have := isSupply_l0 l hl l.length 0 0 (by omega) (by omega) (by omega)
      have mono : ∀ j, flow_isSupply.l0 (l.length + 1 + j) 0 l (l.length : Int) 0 = flow_isSupply.l0 (l.length + 1) 0 l (l.length : Int) 0 := by
        intro j
        induction j with
        | zero => rfl
        | succ j ih =>
          rw [← ih]
          have hm := (flow_isSupply.mono_l (l.length + 1 + j)).2 0 l (l.length : Int) 0
          rw [ih]
          exact (hm _ (ih.trans this)).trans this.symm
      have e := mono (12 - l.length)
      rw [show l.length + 1 + (12 - l.length) = 13 by omega] at e
      rw [e, show ((0 : Int)) = ((0 : Nat) : Int) from rfl]
      have t := this
      simp only [Int.ofNat_zero, List.drop_zero, Int.zero_add] at t ⊢
      rw [t]
      simp [hn]
    · rw [if_pos (by simp [hn])]
      simp [hn]
  · rw [if_neg hv, flow_isSupply.j0]
    simp [hv]
end Go.Proofs.Ytkkakdpncogpkaa.D
end
section
/- Sums over nodes and over pairs of nodes; the matrix as a function; edges and supplies as matrices. Conditions: none. -/
namespace Go.Proofs.Ytkkakdpncogpkaa.D
open Go.RowKit Go.Proofs.YtkkakdpncogpkaaW.PrintWords
set_option linter.unusedVariables false

def sumN (f : Nat → Int) : Nat → Int
  | 0 => 0
  | n + 1 => sumN f n + f n
theorem sumN_congr {f g : Nat → Int} : ∀ n, (∀ x, x < n → f x = g x) → sumN f n = sumN g n
  | 0, _ => rfl
  | n + 1, h => by rw [sumN, sumN, sumN_congr n (fun x hx => h x (by omega)), h n (by omega)]
theorem sumN_add (f g : Nat → Int) : ∀ n, sumN (fun x => f x + g x) n = sumN f n + sumN g n
  | 0 => rfl
  | n + 1 => by rw [sumN, sumN, sumN, sumN_add f g n]; omega
theorem sumN_sub (f g : Nat → Int) : ∀ n, sumN (fun x => f x - g x) n = sumN f n - sumN g n
  | 0 => rfl
  | n + 1 => by rw [sumN, sumN, sumN, sumN_sub f g n]; omega
theorem sumN_zero : ∀ n, sumN (fun _ => 0) n = 0
  | 0 => rfl
  | n + 1 => by rw [sumN, sumN_zero n]; rfl
theorem sumN_mul (a : Int) (f : Nat → Int) : ∀ n, sumN (fun x => a * f x) n = a * sumN f n
  | 0 => by simp [sumN]
  | n + 1 => by rw [sumN, sumN, sumN_mul a f n, Int.mul_add]
theorem sumN_le {f g : Nat → Int} : ∀ n, (∀ x, x < n → f x ≤ g x) → sumN f n ≤ sumN g n
  | 0, _ => Int.le_refl _
  | n + 1, h => by have := sumN_le n (fun x hx => h x (by omega)); have := h n (by omega); rw [sumN, sumN]; omega
theorem sumN_update {f g : Nat → Int} (i : Nat) : ∀ n, (∀ x, x < n → x ≠ i → g x = f x) → sumN g n = sumN f n + (if i < n then g i - f i else 0)
  | 0, _ => by simp [sumN]
  | n + 1, h => by
    have ih := sumN_update i n (fun x hx hn => h x (by omega) hn)
    rw [sumN, sumN, ih]
    by_cases e : n = i
    · subst e; rw [if_neg (Nat.lt_irrefl _), if_pos (Nat.lt_succ_self _)]; omega
    · rw [h n (by omega) e]
      by_cases hi : i < n
      · rw [if_pos hi, if_pos (by omega)]; omega
      · rw [if_neg hi, if_neg (by omega)]; omega
theorem sumN_swap (f : Nat → Nat → Int) (m : Nat) : ∀ n, sumN (fun a => sumN (fun b => f a b) m) n = sumN (fun b => sumN (fun a => f a b) n) m
  | 0 => by
    show (0 : Int) = sumN (fun _ => 0) m
    rw [sumN_zero]
  | n + 1 => by
    rw [sumN, sumN_swap f m n, ← sumN_add]
    exact sumN_congr m (fun x _ => rfl)
def dsum (f : Nat → Nat → Int) : Int := sumN (fun a => sumN (fun b => f a b) 14) 14
theorem dsum_congr {f g : Nat → Nat → Int} (h : ∀ a b, a < 14 → b < 14 → f a b = g a b) : dsum f = dsum g :=
  sumN_congr 14 (fun a ha => sumN_congr 14 (fun b hb => h a b ha hb))
theorem dsum_le {f g : Nat → Nat → Int} (h : ∀ a b, a < 14 → b < 14 → f a b ≤ g a b) : dsum f ≤ dsum g :=
  sumN_le 14 (fun a ha => sumN_le 14 (fun b hb => h a b ha hb))
theorem dsum_add (f g : Nat → Nat → Int) : dsum (fun a b => f a b + g a b) = dsum f + dsum g := by
  unfold dsum
  rw [← sumN_add]
  exact sumN_congr 14 (fun a _ => sumN_add _ _ 14)
theorem dsum_sub (f g : Nat → Nat → Int) : dsum (fun a b => f a b - g a b) = dsum f - dsum g := by
  unfold dsum
  rw [← sumN_sub]
  exact sumN_congr 14 (fun a _ => sumN_sub _ _ 14)
theorem dsum_zero : dsum (fun _ _ => 0) = 0 := by
  unfold dsum
  rw [sumN_congr 14 (g := fun _ => 0) (fun a _ => sumN_zero 14), sumN_zero]
theorem dsum_swap (f : Nat → Nat → Int) : dsum (fun a b => f b a) = dsum f := (sumN_swap f 14 14).symm
theorem dsum_update {f g : Nat → Nat → Int} (i j : Nat) (hi : i < 14) (hj : j < 14) (h : ∀ a b, a < 14 → b < 14 → ¬ (a = i ∧ b = j) → g a b = f a b) : dsum g = dsum f + (g i j - f i j) := by
  unfold dsum
  rw [sumN_update (f := fun a => sumN (fun b => f a b) 14) (g := fun a => sumN (fun b => g a b) 14) i 14 (fun x hx hn => sumN_congr 14 (fun b hb => h x b hx hb (fun e => hn e.1))), if_pos hi]
  have := sumN_update (f := fun b => f i b) (g := fun b => g i b) j 14 (fun x hx hn => h i x hi hx (fun e => hn e.2))
  rw [if_pos hj] at this
  rw [this]; omega

/-! The matrix as a function of two nodes. -/
def mN (m : List Int) (a b : Nat) : Int := m.getD (a * 14 + b) 0
theorem mAt_nat (m : List Int) (a b : Nat) : mAt m (a : Int) (b : Int) = mN m a b := by
  have e : ((a : Int) * 14 + (b : Int)).toNat = a * 14 + b := by omega
  simp [mAt, rd, mN, e]
theorem mN_set (m : List Int) (hm : m.length = 196) (i j : Nat) (v : Int) (hi : i < 14) (hj : j < 14) (a b : Nat) (hb : b < 14) : mN (mSet m (i : Int) (j : Int) v) a b = if a = i ∧ b = j then v else mN m a b := by
  have e : ((i : Int) * 14 + (j : Int)).toNat = i * 14 + j := by omega
  unfold mN mSet
  rw [e]
  simp only [List.getD]
  rw [List.getElem?_set]
  by_cases h : i * 14 + j = a * 14 + b
  · have h1 : a = i ∧ b = j := by omega
    rw [if_pos h, if_pos h1, if_pos (by omega)]; rfl
  · have h1 : ¬ (a = i ∧ b = j) := by omega
    rw [if_neg h, if_neg h1]
def wsum (w : Nat → Nat → Int) (m : List Int) : Int := dsum (fun a b => w a b * mN m a b)
theorem wsum_set (w : Nat → Nat → Int) (m : List Int) (hm : m.length = 196) (i j : Nat) (v : Int) (hi : i < 14) (hj : j < 14) : wsum w (mSet m (i : Int) (j : Int) v) = wsum w m + w i j * (v - mN m i j) := by
  unfold wsum
  rw [dsum_update (f := fun a b => w a b * mN m a b) i j hi hj (fun a b ha hb hn => by
    show w a b * mN (mSet m (i : Int) (j : Int) v) a b = w a b * mN m a b
    rw [mN_set m hm i j v hi hj a b hb, if_neg hn])]
  rw [mN_set m hm i j v hi hj i j hj, if_pos ⟨rfl, rfl⟩]
  grind
theorem wsum_congr {w w' : Nat → Nat → Int} (m : List Int) (h : ∀ a b, a < 14 → b < 14 → w a b = w' a b) : wsum w m = wsum w' m :=
  dsum_congr (fun a b ha hb => by rw [h a b ha hb])
theorem zeros_mN (a b : Nat) : mN zeros196 a b = 0 := by
  unfold mN zeros196
  simp only [List.getD]
  rw [List.getElem?_replicate]
  split <;> rfl
theorem wsum_zeros (w : Nat → Nat → Int) : wsum w zeros196 = 0 := by
  unfold wsum
  rw [dsum_congr (g := fun _ _ => 0) (fun a b _ _ => by rw [zeros_mN]; simp), dsum_zero]
/-- Edges between nodes below 12, with capacities from 0 to 10000. -/
def goodL (es : List Ed) : Prop := ∀ e, e ∈ es → (0 ≤ e.f0 ∧ e.f0 ≤ 11) ∧ (0 ≤ e.f1 ∧ e.f1 ≤ 11) ∧ e.f0 ≠ e.f1 ∧ (0 ≤ e.f2 ∧ e.f2 ≤ 10000)
theorem goodL_of {n : Int} {es : List Ed} (h : validB n es = true) : goodL es := fun e he => by
  obtain ⟨h1, _, h3⟩ := validB_iff.mp h
  obtain ⟨a, b, c, d⟩ := h3 e he
  exact ⟨by omega, by omega, c, d⟩
/-- Edges, each with a weight. -/
def esum (w : Nat → Nat → Int) : List Ed → Int
  | [] => 0
  | e :: r => w e.f0.toNat e.f1.toNat * e.f2 + esum w r
theorem esum_le (es : List Ed) (h : goodL es) : 0 ≤ esum (fun _ _ => 1) es ∧ esum (fun _ _ => 1) es ≤ 10000 * es.length := by
  induction es with
  | nil => simp [esum]
  | cons e r ih =>
    have := ih (fun x hx => h x (List.mem_cons_of_mem _ hx))
    have h1 := (h e List.mem_cons_self).2.2.2
    simp only [esum, List.length_cons]
    omega
theorem openL_facts : ∀ (es : List Ed) (m : List Int), goodL es → m.length = 196 → (∀ a b, a < 14 → b < 14 → 0 ≤ mN m a b ∧ mN m a b + esum (fun _ _ => 1) es ≤ 1000000) →
    (∀ w, wsum w (openL es m) = wsum w m + esum w es) ∧ (∀ a b, a < 14 → b < 14 → mN m a b ≤ mN (openL es m) a b ∧ mN (openL es m) a b ≤ mN m a b + esum (fun _ _ => 1) es) ∧ (∀ a b, a < 14 → b < 14 → 12 ≤ a ∨ 12 ≤ b → mN (openL es m) a b = mN m a b)
  | [], m, _, _, _ => ⟨fun w => by simp [openL, esum], fun a b _ _ => by simp [openL, esum], fun a b _ _ _ => rfl⟩
  | e :: r, m, hg, hl, hb => by
    obtain ⟨⟨x0, x1⟩, ⟨y0, y1⟩, hne, ⟨z0, z1⟩⟩ := hg e List.mem_cons_self
    have hgr : goodL r := fun x hx => hg x (List.mem_cons_of_mem _ hx)
    have her := esum_le r hgr
    obtain ⟨i, hi⟩ := Int.eq_ofNat_of_zero_le x0
    obtain ⟨j, hj⟩ := Int.eq_ofNat_of_zero_le y0
    have hi14 : i < 14 := by omega
    have hj14 : j < 14 := by omega
    have hbij := hb i j hi14 hj14
    simp only [esum] at hb hbij
    have hw : wrap64 (mAt m e.f0 e.f1 + e.f2) = mN m i j + e.f2 := by
      rw [hi, hj, mAt_nat]
      exact wrap64_small (by omega) (by omega)
    have hset : ∀ a b, b < 14 → mN (mSet m e.f0 e.f1 (wrap64 (mAt m e.f0 e.f1 + e.f2))) a b = if a = i ∧ b = j then mN m i j + e.f2 else mN m a b := by
      intro a b hb14
      rw [hw, hi, hj]
      exact mN_set m hl i j _ hi14 hj14 a b hb14
    obtain ⟨f1, f2, f3⟩ := openL_facts r (mSet m e.f0 e.f1 (wrap64 (mAt m e.f0 e.f1 + e.f2))) hgr (by rw [mSet_length, hl]) (fun a b ha hb14 => by
      have := hb a b ha hb14
      rw [hset a b hb14]
      split
      · rename_i h; obtain ⟨rfl, rfl⟩ := h; constructor <;> omega
      · constructor <;> omega)
    refine ⟨fun w => ?_, fun a b ha hb14 => ?_, fun a b ha hb14 h12 => ?_⟩
    · rw [openL, f1 w, esum, hw, hi, hj, wsum_set w m hl i j _ hi14 hj14]
      simp only [Int.toNat_natCast]
      grind
    · have h1 := f2 a b ha hb14
      rw [openL]
      rw [hset a b hb14] at h1
      simp only [esum]
      split at h1
      · rename_i h; obtain ⟨rfl, rfl⟩ := h; omega
      · omega
    · rw [openL, f3 a b ha hb14 h12, hset a b hb14, if_neg (by omega)]
theorem open_facts (es : List Ed) (hg : goodL es) (hl : es.length ≤ 40) :
    (∀ w, wsum w (openM es) = esum w es) ∧ (∀ a b, a < 14 → b < 14 → 0 ≤ mN (openM es) a b ∧ mN (openM es) a b ≤ 400000) ∧ (∀ a b, a < 14 → b < 14 → 12 ≤ a ∨ 12 ≤ b → mN (openM es) a b = 0) := by
  have he := esum_le es hg
  have h := openL_facts es zeros196 hg List.length_replicate (fun a b _ _ => by rw [zeros_mN]; omega)
  refine ⟨fun w => by rw [openM, h.1 w, wsum_zeros]; omega, fun a b ha hb => ?_, fun a b ha hb h12 => by rw [openM, h.2.2 a b ha hb h12, zeros_mN]⟩
  have := h.2.1 a b ha hb
  rw [zeros_mN] at this
  rw [openM]
  omega
end Go.Proofs.Ytkkakdpncogpkaa.D
end
section
/- The search: what it ends with. Conditions: none. -/
namespace Go.Proofs.Ytkkakdpncogpkaa.D
open Go.RowKit Go.Proofs.YtkkakdpncogpkaaW.PrintWords
set_option linter.unusedVariables false

theorem rd_nat0 (l : List Int) (x : Nat) : rd l (x : Int) = l.getD x 0 := by simp [rd]
theorem rd_row (m : List Int) (a x : Nat) : rd m ((a : Int) * 14 + (x : Int)) = mN m a x := mAt_nat m a x
def unv (last : List Int) : Nat → Nat
  | 0 => 0
  | n + 1 => unv last n + (if 0 < last.getD n 0 then 0 else 1)
theorem getD_set (l : List Int) (i j : Nat) (v : Int) (hi : i < l.length) : (l.set i v).getD j 0 = if i = j then v else l.getD j 0 := by
  simp only [List.getD]
  rw [List.getElem?_set]
  by_cases h : i = j
  · subst h; rw [if_pos rfl, if_pos rfl, if_pos hi]; rfl
  · rw [if_neg h, if_neg h]
theorem unv_set (last : List Int) (hl : last.length = 14) (x : Nat) (v : Int) (hx : x < 14) (hu : ¬ 0 < last.getD x 0) (hv : 0 < v) : ∀ n, n ≤ 14 → unv (last.set x v) n + (if x < n then 1 else 0) = unv last n
  | 0, _ => rfl
  | n + 1, hn => by
    have ih := unv_set last hl x v hx hu hv n (by omega)
    rw [unv, unv, getD_set _ _ _ _ (by omega)]
    by_cases h : x = n
    · subst h
      rw [if_pos rfl, if_pos hv, if_neg hu, if_pos (Nat.lt_succ_self _)]
      rw [if_neg (Nat.lt_irrefl _)] at ih
      omega
    · rw [if_neg h]
      by_cases h2 : x < n
      · rw [if_pos h2] at ih; rw [if_pos (show x < n + 1 by omega)]; omega
      · rw [if_neg h2] at ih; rw [if_neg (show ¬ x < n + 1 by omega)]; omega
/-- What the search keeps: who was reached, and from where. -/
structure BI (m : List Int) (s : Nat) (last : List Int) (rank : Nat → Nat) : Prop where
  len : last.length = 14
  rng : ∀ x, x < 14 → 0 ≤ last.getD x 0 ∧ last.getD x 0 ≤ 14
  src : last.getD s 0 = (s : Int) + 1
  rs : rank s = 0
  pre : ∀ x, x < 14 → 0 < last.getD x 0 → x ≠ s → ∃ p : Nat, p < 14 ∧ last.getD x 0 = (p : Int) + 1 ∧ 0 < last.getD p 0 ∧ rank p < rank x ∧ mN m p x ≠ 0
  rk : ∀ x, x < 14 → 0 < last.getD x 0 → rank x + unv last 14 < 14
theorem BI.add {m : List Int} {s : Nat} {last : List Int} {rank : Nat → Nat} (h : BI m s last rank) (a x : Nat) (ha : a < 14) (hx : x < 14) (hva : 0 < last.getD a 0) (hu : ¬ 0 < last.getD x 0) (hm : mN m a x ≠ 0) (hs : s < 14) :
    BI m s (last.set x ((a : Int) + 1)) (fun y => if y = x then 14 - unv last 14 else rank y) := by
  have hxs : x ≠ s := fun e => hu (by rw [e, h.src]; omega)
  have hax : a ≠ x := fun e => hu (by rw [← e]; exact hva)
  have hU := unv_set last h.len x ((a : Int) + 1) hx hu (by omega) 14 (Nat.le_refl _)
  rw [if_pos hx] at hU
  have hg : ∀ y, (last.set x ((a : Int) + 1)).getD y 0 = if x = y then (a : Int) + 1 else last.getD y 0 := fun y => getD_set _ _ _ _ (by rw [h.len]; exact hx)
  have hra := h.rk a ha hva
  refine ⟨by rw [List.length_set]; exact h.len, fun y hy => ?_, ?_, ?_, fun y hy hv hys => ?_, fun y hy hv => ?_⟩
  · rw [hg y]; split
    · omega
    · exact h.rng y hy
  · rw [hg s, if_neg hxs]; exact h.src
  · show (if s = x then _ else rank s) = 0
    rw [if_neg (fun e => hxs e.symm)]; exact h.rs
  · rw [hg y] at hv ⊢
    by_cases e : x = y
    · subst e
      rw [if_pos rfl]
      refine ⟨a, ha, rfl, by rw [hg a, if_neg (fun e => hax e.symm)]; exact hva, ?_, hm⟩
      show (if a = x then _ else rank a) < (if x = x then _ else _)
      rw [if_neg hax, if_pos rfl]; omega
    · rw [if_neg e] at hv ⊢
      obtain ⟨p, hp, h1, h2, h3, h4⟩ := h.pre y hy hv hys
      refine ⟨p, hp, h1, ?_, ?_, h4⟩
      · rw [hg p]; split
        · omega
        · exact h2
      · show (if p = x then _ else rank p) < (if y = x then _ else rank y)
        have hpx : p ≠ x := fun e => hu (by rw [← e]; exact h2)
        rw [if_neg hpx, if_neg (fun e' => e e'.symm)]; exact h3
  · rw [hg y] at hv
    show (if y = x then 14 - unv last 14 else rank y) + _ < 14
    by_cases e : y = x
    · rw [if_pos e]; omega
    · rw [if_neg e]
      rw [if_neg (fun e' => e e'.symm)] at hv
      have := h.rk y hy hv
      omega
theorem scan_ok (m : List Int) (s t a : Nat) (hs : s < 14) (ha : a < 14) : ∀ (r : List Nat) (last q : List Int) (rank : Nat → Nat), (∀ x, x ∈ r → x < 14) → BI m s last rank → 0 < last.getD a 0 → ¬ 0 < last.getD t 0 → (∀ z, z ∈ q → ∃ n : Nat, n < 14 ∧ z = (n : Int) ∧ 0 < last.getD n 0) →
    ∃ rank', BI m s (scanL m t a r last q).2.1 rank' ∧ (∀ x, 0 < last.getD x 0 → 0 < (scanL m t a r last q).2.1.getD x 0) ∧
      ((scanL m t a r last q).1 = true → 0 < (scanL m t a r last q).2.1.getD t 0) ∧
      ((scanL m t a r last q).1 = false → ¬ 0 < (scanL m t a r last q).2.1.getD t 0 ∧ (∀ y, y ∈ r → mN m a y ≠ 0 → 0 < (scanL m t a r last q).2.1.getD y 0) ∧
        (∀ z, z ∈ (scanL m t a r last q).2.2 → ∃ n : Nat, n < 14 ∧ z = (n : Int) ∧ 0 < (scanL m t a r last q).2.1.getD n 0) ∧
        (scanL m t a r last q).2.2.length + unv (scanL m t a r last q).2.1 14 = q.length + unv last 14 ∧
        (∀ z, z ∈ q → z ∈ (scanL m t a r last q).2.2) ∧
        (∀ x, x < 14 → 0 < (scanL m t a r last q).2.1.getD x 0 → 0 < last.getD x 0 ∨ (x : Int) ∈ (scanL m t a r last q).2.2))
  | [], last, q, rank, _, hB, hva, ht, hq => ⟨rank, hB, fun _ h => h, fun h => by simp [scanL] at h, fun _ => ⟨ht, fun y hy => by simp at hy, hq, rfl, fun _ h => h, fun x _ h => .inl h⟩⟩
  | x :: r, last, q, rank, hr, hB, hva, ht, hq => by
    have hx := hr x List.mem_cons_self
    have hr' : ∀ y, y ∈ r → y < 14 := fun y hy => hr y (List.mem_cons_of_mem _ hy)
    unfold scanL
    rw [rd_nat0, rd_row]
    by_cases h1 : 0 < last.getD x 0
    · rw [if_pos (by simp only [Bool.or_eq_true, decide_eq_true_eq]; exact .inl h1)]
      obtain ⟨rank', b, mono, tr, fl⟩ := scan_ok m s t a hs ha r last q rank hr' hB hva ht hq
      refine ⟨rank', b, mono, tr, fun h => ?_⟩
      obtain ⟨f1, f2, f3, f4, f5, f6⟩ := fl h
      refine ⟨f1, fun y hy hm => ?_, f3, f4, f5, f6⟩
      rcases List.mem_cons.mp hy with rfl | hy
      · exact mono _ h1
      · exact f2 y hy hm
    · by_cases h2 : mN m a x = 0
      · rw [if_pos (by simp only [Bool.or_eq_true, beq_iff_eq]; exact .inr h2)]
        obtain ⟨rank', b, mono, tr, fl⟩ := scan_ok m s t a hs ha r last q rank hr' hB hva ht hq
        refine ⟨rank', b, mono, tr, fun h => ?_⟩
        obtain ⟨f1, f2, f3, f4, f5, f6⟩ := fl h
        refine ⟨f1, fun y hy hm => ?_, f3, f4, f5, f6⟩
        rcases List.mem_cons.mp hy with rfl | hy
        · exact absurd h2 hm
        · exact f2 y hy hm
      · rw [if_neg (by simp only [Bool.or_eq_true, decide_eq_true_eq, beq_iff_eq]; exact fun h => h.elim h1 h2)]
        have hB2 := hB.add a x ha hx hva h1 h2 hs
        have hg : ∀ y, (last.set x ((a : Int) + 1)).getD y 0 = if x = y then (a : Int) + 1 else last.getD y 0 := fun y => getD_set _ _ _ _ (by rw [hB.len]; exact hx)
        have hmono : ∀ y, 0 < last.getD y 0 → 0 < (last.set x ((a : Int) + 1)).getD y 0 := fun y hy => by
          rw [hg y]; split
          · omega
          · exact hy
        have hvx : 0 < (last.set x ((a : Int) + 1)).getD x 0 := by rw [hg x, if_pos rfl]; omega
        by_cases h3 : (x : Int) = (t : Int)
        · rw [if_pos h3]
          have e : x = t := by omega
          exact ⟨_, hB2, hmono, fun _ => by rw [← e]; exact hvx, fun h => by simp at h⟩
        · rw [if_neg h3]
          have hxt : x ≠ t := fun e => h3 (by rw [e])
          have hU := unv_set last hB.len x ((a : Int) + 1) hx h1 (by omega) 14 (Nat.le_refl _)
          rw [if_pos hx] at hU
          obtain ⟨rank', b, mono, tr, fl⟩ := scan_ok m s t a hs ha r (last.set x ((a : Int) + 1)) (q ++ [(x : Int)]) _ hr' hB2 (hmono a hva) (by rw [hg t, if_neg hxt]; exact ht) (fun z hz => by
            rcases List.mem_append.mp hz with hz | hz
            · obtain ⟨n, hn, e, hv⟩ := hq z hz
              exact ⟨n, hn, e, hmono n hv⟩
            · exact ⟨x, hx, List.mem_singleton.mp hz, hvx⟩)
          refine ⟨rank', b, fun y hy => mono y (hmono y hy), tr, fun h => ?_⟩
          obtain ⟨f1, f2, f3, f4, f5, f6⟩ := fl h
          refine ⟨f1, fun y hy hm => ?_, f3, ?_, fun z hz => f5 z (List.mem_append.mpr (.inl hz)), fun y hy hv => ?_⟩
          · rcases List.mem_cons.mp hy with rfl | hy
            · exact mono _ hvx
            · exact f2 y hy hm
          · rw [f4, List.length_append, List.length_singleton]; omega
          · rcases f6 y hy hv with h | h
            · rw [hg y] at h
              by_cases e : x = y
              · subst e; exact .inr (f5 _ (List.mem_append.mpr (.inr (List.mem_singleton.mpr rfl))))
              · rw [if_neg e] at h; exact .inl h
            · exact .inr h
/-- What the search ends with. -/
theorem bfs_ok (m : List Int) (s t : Nat) (hs : s < 14) : ∀ (k : Nat) (last q : List Int) (rank : Nat → Nat), BI m s last rank → ¬ 0 < last.getD t 0 → (∀ z, z ∈ q → ∃ n : Nat, n < 14 ∧ z = (n : Int) ∧ 0 < last.getD n 0) →
    (∀ x, x < 14 → 0 < last.getD x 0 → (x : Int) ∈ q ∨ ∀ y, y < 14 → mN m x y ≠ 0 → 0 < last.getD y 0) → q.length + unv last 14 ≤ k →
    ∃ lf rank', bfs m t k last q = some lf ∧ BI m s lf rank' ∧ (¬ 0 < lf.getD t 0 → ∀ x, x < 14 → 0 < lf.getD x 0 → ∀ y, y < 14 → mN m x y ≠ 0 → 0 < lf.getD y 0)
  | k, last, [], rank, hB, ht, hq, hc, hk => by
    refine ⟨last, rank, by rw [bfs], hB, fun _ x hx hv => ?_⟩
    rcases hc x hx hv with h | h
    · simp at h
    · exact h
  | 0, last, z :: q, rank, hB, ht, hq, hc, hk => by simp at hk
  | k + 1, last, z :: q, rank, hB, ht, hq, hc, hk => by
    obtain ⟨a, ha, rfl, hva⟩ := hq z List.mem_cons_self
    obtain ⟨rank', b, mono, tr, fl⟩ := scan_ok m s t a hs ha (List.range 14) last q rank (fun x hx => List.mem_range.mp hx) hB hva ht (fun z hz => hq z (List.mem_cons_of_mem _ hz))
    rw [bfs_succ]
    generalize scanL m t a (List.range 14) last q = R at b mono tr fl ⊢
    obtain ⟨b1, l1, q1⟩ := R
    simp only [] at b mono tr fl
    cases b1 with
    | true =>
      rw [nextB_stop]
      exact ⟨l1, rank', rfl, b, fun h => absurd (tr rfl) h⟩
    | false =>
      rw [nextB_go]
      obtain ⟨f1, f2, f3, f4, f5, f6⟩ := fl rfl
      refine bfs_ok m s t hs k l1 q1 rank' b f1 f3 (fun x hx hv => ?_) (by simp only [List.length_cons] at hk; omega)
      by_cases e : x = a
      · subst e
        exact .inr (fun y hy hm => f2 y (List.mem_range.mpr hy) hm)
      · rcases f6 x hx hv with h | h
        · rcases hc x hx h with h | h
          · rcases List.mem_cons.mp h with h | h
            · exact absurd (by omega) e
            · exact .inl (f5 _ h)
          · exact .inr (fun y hy hm => mono y (h y hy hm))
        · exact .inl h
theorem unv_repl : ∀ n, unv (List.replicate 14 (0 : Int)) n = n
  | 0 => rfl
  | n + 1 => by
    rw [unv, unv_repl n]
    have : (List.replicate 14 (0 : Int)).getD n 0 = 0 := by
      simp only [List.getD]; rw [List.getElem?_replicate]; split <;> rfl
    rw [this]; simp
theorem search_ok (m : List Int) (s t : Nat) (hs : s < 14) (hne : s ≠ t) :
    ∃ lf rank, bfs m t 14 (last0 s) [(s : Int)] = some lf ∧ BI m s lf rank ∧ (¬ 0 < lf.getD t 0 → ∀ x, x < 14 → 0 < lf.getD x 0 → ∀ y, y < 14 → mN m x y ≠ 0 → 0 < lf.getD y 0) := by
  have hg : ∀ y, (last0 (s : Int)).getD y 0 = if s = y then (s : Int) + 1 else 0 := fun y => by
    unfold last0
    rw [Int.toNat_natCast, getD_set _ _ _ _ (by simp; exact hs)]
    split
    · rfl
    · simp only [List.getD]; rw [List.getElem?_replicate]; split <;> rfl
  have hU : unv (last0 (s : Int)) 14 + 1 = 14 := by
    have := unv_set (List.replicate 14 (0 : Int)) (by simp) s ((s : Int) + 1) hs (by simp only [List.getD]; rw [List.getElem?_replicate]; split <;> simp) (by omega) 14 (Nat.le_refl _)
    rw [if_pos hs, unv_repl] at this
    unfold last0; rw [Int.toNat_natCast]; exact this
  have hB : BI m s (last0 (s : Int)) (fun _ => 0) := by
    refine ⟨by simp [last0], fun x hx => ?_, by rw [hg s, if_pos rfl], rfl, fun x hx hv hn => ?_, fun x hx hv => by omega⟩
    · rw [hg x]; split <;> omega
    · rw [hg x, if_neg (fun e => hn e.symm)] at hv; omega
  refine bfs_ok m s t hs 14 _ _ _ hB (by rw [hg t, if_neg hne]; omega) (fun z hz => ⟨s, hs, List.mem_singleton.mp hz, by rw [hg s, if_pos rfl]; omega⟩) (fun x hx hv => ?_) (by simp only [List.length_singleton]; omega)
  rw [hg x] at hv
  by_cases e : s = x
  · exact .inl (List.mem_singleton.mpr (by rw [e]))
  · rw [if_neg e] at hv; omega
end Go.Proofs.Ytkkakdpncogpkaa.D
end
section
/- The push: what is kept, and what it ends with. Conditions: none. -/
namespace Go.Proofs.Ytkkakdpncogpkaa.D
open Go.RowKit Go.Proofs.YtkkakdpncogpkaaW.PrintWords
set_option linter.unusedVariables false

def castP (l : List (Nat × Nat)) : List (Int × Int) := l.map fun p => ((p.1 : Int), (p.2 : Int))
def tele (χ : Nat → Nat → Int) : List (Nat × Nat) → Int
  | [] => 0
  | p :: l => χ p.1 p.2 + tele χ l
theorem way_ok (m : List Int) (s : Nat) (lf : List Int) (rank : Nat → Nat) (hB : BI m s lf rank) : ∀ (k x : Nat), x < 14 → 0 < lf.getD x 0 → rank x ≤ k →
    ∃ l : List (Nat × Nat), way lf s k x = some (castP l) ∧ (∀ p, p ∈ l → p.1 < 14 ∧ p.2 < 14 ∧ mN m p.1 p.2 ≠ 0 ∧ rank p.1 < rank p.2 ∧ rank p.2 ≤ rank x) ∧ l.Pairwise (fun p q => q ≠ p) ∧
      (∀ (w : Nat → Nat → Int) (χ : Nat → Int), (∀ a b, a < 14 → b < 14 → w a b - w b a = χ a - χ b) → tele (fun a b => w a b - w b a) l = χ s - χ x) ∧ (x ≠ s → l ≠ [])
  | 0, x, hx, hv, hr => by
    have e : x = s := Classical.byContradiction fun hn => by
      obtain ⟨p, _, _, _, h, _⟩ := hB.pre x hx hv hn
      omega
    refine ⟨[], ?_, fun p hp => by simp at hp, List.Pairwise.nil, fun w χ _ => by rw [e]; simp [tele], fun h => absurd e h⟩
    rw [way, if_pos (by rw [e])]; rfl
  | k + 1, x, hx, hv, hr => by
    by_cases e : x = s
    · refine ⟨[], ?_, fun p hp => by simp at hp, List.Pairwise.nil, fun w χ _ => by rw [e]; simp [tele], fun h => absurd e h⟩
      rw [way, if_pos (by rw [e])]; rfl
    · obtain ⟨p, hp, h1, h2, h3, h4⟩ := hB.pre x hx hv e
      obtain ⟨l, hw, hl, hpw, ht, hne⟩ := way_ok m s lf rank hB k p hp h2 (by omega)
      refine ⟨(p, x) :: l, ?_, fun q hq => ?_, ?_, fun w χ h => ?_, fun _ h => by simp at h⟩
      · rw [way, if_neg (by omega), rd_nat0, if_neg (by omega), h1, show ((p : Int) + 1 - 1) = (p : Int) by omega, hw]
        rfl
      · rcases List.mem_cons.mp hq with rfl | hq
        · exact ⟨hp, hx, h4, h3, Nat.le_refl _⟩
        · obtain ⟨a, b, c, d, e⟩ := hl q hq
          exact ⟨a, b, c, d, by omega⟩
      · refine List.Pairwise.cons (fun q hq e => ?_) hpw
        have := (hl q hq).2.2.2.2
        rw [e] at this
        simp only [] at this
        omega
      · show w p x - w x p + tele _ l = _
        rw [ht w χ h, h p x hp hx]; omega
theorem roomL_ok (m : List Int) : ∀ (l : List (Nat × Nat)) (r : Int), 0 < r → (∀ p, p ∈ l → 0 < mN m p.1 p.2) → 0 < roomL m (castP l) r ∧ roomL m (castP l) r ≤ r ∧ ∀ p, p ∈ l → roomL m (castP l) r ≤ mN m p.1 p.2
  | [], r, h, _ => ⟨h, Int.le_refl _, fun p hp => by simp at hp⟩
  | p :: l, r, h, hp => by
    have h1 := hp p List.mem_cons_self
    have hs : castP (p :: l) = ((p.1 : Int), (p.2 : Int)) :: castP l := rfl
    rw [hs, roomL, mAt_nat]
    have ih := roomL_ok m l (if mN m p.1 p.2 < r then mN m p.1 p.2 else r) (by split <;> omega) (fun q hq => hp q (List.mem_cons_of_mem _ hq))
    refine ⟨ih.1, ?_, fun q hq => ?_⟩
    · have := ih.2.1; split at this <;> omega
    · rcases List.mem_cons.mp hq with rfl | hq
      · have := ih.2.1; split at this <;> omega
      · exact ih.2.2 q hq
theorem pushL_ok (room : Int) (h0 : 0 ≤ room) : ∀ (l : List (Nat × Nat)) (m : List Int), m.length = 196 → (∀ a b, a < 14 → b < 14 → 0 ≤ mN m a b) → (∀ a b, a < 14 → b < 14 → mN m a b + mN m b a ≤ 1000000) →
    (∀ p, p ∈ l → p.1 < 14 ∧ p.2 < 14 ∧ p.1 ≠ p.2 ∧ room ≤ mN m p.1 p.2) → l.Pairwise (fun p q => q ≠ p) →
    (∀ a b, a < 14 → b < 14 → 0 ≤ mN (pushL room (castP l) m) a b) ∧ (∀ a b, a < 14 → b < 14 → mN (pushL room (castP l) m) a b + mN (pushL room (castP l) m) b a = mN m a b + mN m b a) ∧
      ∀ w, wsum w (pushL room (castP l) m) = wsum w m - room * tele (fun a b => w a b - w b a) l
  | [], m, _, hn, _, _, _ => ⟨hn, fun _ _ _ _ => rfl, fun w => by simp [castP, pushL, tele]⟩
  | p :: l, m, hl, hn, hb, hp, hpw => by
    obtain ⟨i, j⟩ := p
    obtain ⟨hi, hj, hij, hr⟩ := hp (i, j) List.mem_cons_self
    simp only [] at hi hj hij hr
    have hs : castP ((i, j) :: l) = ((i : Int), (j : Int)) :: castP l := rfl
    have b1 := hb i j hi hj
    have n1 := hn i j hi hj
    have n2 := hn j i hj hi
    have hw1 : wrap64 (mAt m (i : Int) (j : Int) - room) = mN m i j - room := by rw [mAt_nat]; exact wrap64_small (by omega) (by omega)
    have hl1 : (mSet m (i : Int) (j : Int) (mN m i j - room)).length = 196 := by rw [mSet_length, hl]
    have g1 : ∀ a b, b < 14 → mN (mSet m (i : Int) (j : Int) (mN m i j - room)) a b = if a = i ∧ b = j then mN m i j - room else mN m a b := fun a b h => mN_set m hl i j _ hi hj a b h
    have g1ji : mN (mSet m (i : Int) (j : Int) (mN m i j - room)) j i = mN m j i := by rw [g1 j i hi, if_neg (fun e => hij e.2)]
    have hw2 : wrap64 (mAt (mSet m (i : Int) (j : Int) (mN m i j - room)) (j : Int) (i : Int) + room) = mN m j i + room := by
      rw [mAt_nat, g1ji]; exact wrap64_small (by omega) (by omega)
    rw [hs, pushL, hw1, hw2]
    have g2 : ∀ a b, b < 14 → mN (mSet (mSet m (i : Int) (j : Int) (mN m i j - room)) (j : Int) (i : Int) (mN m j i + room)) a b = if a = j ∧ b = i then mN m j i + room else if a = i ∧ b = j then mN m i j - room else mN m a b := fun a b h => by
      rw [mN_set _ hl1 j i _ hj hi a b h, g1 a b h]
    have hw : ∀ w, wsum w (mSet (mSet m (i : Int) (j : Int) (mN m i j - room)) (j : Int) (i : Int) (mN m j i + room)) = wsum w m - room * (w i j - w j i) := fun w => by
      rw [wsum_set w _ hl1 j i _ hj hi, wsum_set w m hl i j _ hi hj, g1ji]
      grind
    have hl2 : (mSet (mSet m (i : Int) (j : Int) (mN m i j - room)) (j : Int) (i : Int) (mN m j i + room)).length = 196 := by rw [mSet_length, hl1]
    have hpair : ∀ a b, a < 14 → b < 14 → mN (mSet (mSet m (i : Int) (j : Int) (mN m i j - room)) (j : Int) (i : Int) (mN m j i + room)) a b + mN (mSet (mSet m (i : Int) (j : Int) (mN m i j - room)) (j : Int) (i : Int) (mN m j i + room)) b a = mN m a b + mN m b a := by
      intro a b ha hb'
      rw [g2 a b hb', g2 b a ha]
      by_cases c1 : a = j ∧ b = i
      · obtain ⟨rfl, rfl⟩ := c1
        rw [if_pos ⟨rfl, rfl⟩, if_neg (fun e => hij e.1), if_pos ⟨rfl, rfl⟩]; omega
      · by_cases c2 : a = i ∧ b = j
        · obtain ⟨rfl, rfl⟩ := c2
          rw [if_neg c1, if_pos ⟨rfl, rfl⟩, if_pos ⟨rfl, rfl⟩]; omega
        · rw [if_neg c1, if_neg c2, if_neg (fun e => c2 ⟨e.2, e.1⟩), if_neg (fun e => c1 ⟨e.2, e.1⟩)]
    generalize hm2 : mSet (mSet m (i : Int) (j : Int) (mN m i j - room)) (j : Int) (i : Int) (mN m j i + room) = m2 at g2 hw hl2 hpair ⊢
    cases hpw with
    | cons hhead htail =>
      obtain ⟨r1, r2, r3⟩ := pushL_ok room h0 l m2 hl2 (fun a b ha hb' => by
        rw [g2 a b hb']
        split
        · omega
        · split
          · omega
          · exact hn a b ha hb') (fun a b ha hb' => by rw [hpair a b ha hb']; exact hb a b ha hb') (fun q hq => by
        obtain ⟨q1, q2, q3, q4⟩ := hp q (List.mem_cons_of_mem _ hq)
        refine ⟨q1, q2, q3, ?_⟩
        rw [g2 q.1 q.2 q2]
        have hne := hhead q hq
        split
        · rename_i h; obtain ⟨e1, e2⟩ := h; rw [e1, e2] at q4; omega
        · split
          · rename_i h; exact absurd (Prod.ext h.1 h.2) hne
          · exact q4) htail
      refine ⟨r1, fun a b ha hb' => by rw [r2 a b ha hb', hpair a b ha hb'], fun w => ?_⟩
      rw [r3 w, hw w]
      show _ = wsum w m - room * ((w i j - w j i) + tele _ l)
      grind
/-- What the push keeps. -/
structure INV (c m : List Int) (s t : Nat) (v : Int) : Prop where
  len : m.length = 196
  nn : ∀ a b, a < 14 → b < 14 → 0 ≤ mN m a b
  pair : ∀ a b, a < 14 → b < 14 → mN m a b + mN m b a = mN c a b + mN c b a
  pot : ∀ (w : Nat → Nat → Int) (χ : Nat → Int), (∀ a b, a < 14 → b < 14 → w a b - w b a = χ a - χ b) → wsum w m = wsum w c - v * (χ s - χ t)
def wS (S : Nat → Bool) (a b : Nat) : Int := if S a = true then (if S b = true then 0 else 1) else 0
def chi (S : Nat → Bool) (a : Nat) : Int := if S a = true then 1 else 0
theorem wS_chi (S : Nat → Bool) (a b : Nat) : wS S a b - wS S b a = chi S a - chi S b := by
  unfold wS chi
  split <;> split <;> rfl
theorem wsum_nn (w : Nat → Nat → Int) (m : List Int) (hw : ∀ a b, 0 ≤ w a b) (hm : ∀ a b, a < 14 → b < 14 → 0 ≤ mN m a b) : 0 ≤ wsum w m := by
  have := dsum_le (f := fun _ _ => 0) (g := fun a b => w a b * mN m a b) (fun a b ha hb => Int.mul_nonneg (hw a b) (hm a b ha hb))
  rw [dsum_zero] at this
  exact this
theorem wS_nn (S : Nat → Bool) (a b : Nat) : 0 ≤ wS S a b := by
  unfold wS; split <;> (try split) <;> omega
theorem INV.cut {c m : List Int} {s t : Nat} {v : Int} (h : INV c m s t v) (S : Nat → Bool) (hs : S s = true) (ht : S t = false) : wsum (wS S) m = wsum (wS S) c - v := by
  rw [h.pot (wS S) (chi S) (fun a b _ _ => wS_chi S a b)]
  simp only [chi, hs, ht, if_true]
  simp
theorem INV.le {c m : List Int} {s t : Nat} {v : Int} (h : INV c m s t v) (S : Nat → Bool) (hs : S s = true) (ht : S t = false) : v ≤ wsum (wS S) c := by
  have := wsum_nn (wS S) m (wS_nn S) h.nn
  rw [h.cut S hs ht] at this
  omega
theorem INV.start (c : List Int) (s t : Nat) (hl : c.length = 196) (hn : ∀ a b, a < 14 → b < 14 → 0 ≤ mN c a b) : INV c c s t 0 :=
  ⟨hl, hn, fun _ _ _ _ => rfl, fun w χ _ => by simp⟩
/-- What the push ends with. -/
structure Ended (c : List Int) (s t : Nat) (rv rr : Int) (rm : List Int) : Prop where
  inv : INV c rm s t rv
  pos : 0 ≤ rv
  ends : ∃ lf rank, BI rm s lf rank ∧ rr = reachedL lf 0 ∧ ¬ 0 < lf.getD t 0 ∧ ∀ x, x < 14 → 0 < lf.getD x 0 → ∀ y, y < 14 → mN rm x y ≠ 0 → 0 < lf.getD y 0
theorem pushF_ok (c : List Int) (s t : Nat) (hs : s < 14) (ht : t < 14) (hne : s ≠ t) (hc : ∀ a b, a < 14 → b < 14 → mN c a b + mN c b a ≤ 1000000) (hB : wsum (wS (fun x => x == s)) c ≤ 2000000) :
    ∀ (k : Nat) (m : List Int) (v : Int), INV c m s t v → 0 ≤ v → wsum (wS (fun x => x == s)) c - v < k → ∃ rv rr rm, pushF s t k m v = some (rv, rr, rm) ∧ Ended c s t rv rr rm
  | 0, m, v, h, hv, hk => by
    have := h.le (fun x => x == s) (by simp) (by simp; exact fun e => hne e.symm)
    omega
  | k + 1, m, v, h, hv, hk => by
    obtain ⟨lf, rank, hb, hbi, hcl⟩ := search_ok m s t hs hne
    have hle := h.le (fun x => x == s) (by simp) (by simp; exact fun e => hne e.symm)
    rw [pushF, hb, Option.bind_some, rd_nat0]
    have hrt := hbi.rng t ht
    by_cases h0 : lf.getD t 0 = 0
    · rw [if_pos h0]
      exact ⟨v, _, m, rfl, h, hv, lf, rank, hbi, rfl, by omega, hcl (by omega)⟩
    · rw [if_neg h0]
      have hvt : 0 < lf.getD t 0 := by omega
      have hrk := hbi.rk t ht hvt
      obtain ⟨l, hw, hl, hpw, htel, hlne⟩ := way_ok m s lf rank hbi 14 t ht hvt (by omega)
      rw [hw, Option.bind_some]
      have hpos : ∀ p, p ∈ l → 0 < mN m p.1 p.2 := fun p hp => by
        have := h.nn p.1 p.2 (hl p hp).1 (hl p hp).2.1
        have := (hl p hp).2.2.1
        omega
      obtain ⟨r0, r1, r2⟩ := roomL_ok m l 4611686018427387903 (by decide) hpos
      generalize roomL m (castP l) 4611686018427387903 = room at r0 r1 r2 ⊢
      have hpush := pushL_ok room (by omega) l m h.len h.nn (fun a b ha hb' => by rw [h.pair a b ha hb']; exact hc a b ha hb') (fun p hp => ⟨(hl p hp).1, (hl p hp).2.1, fun e => by have := (hl p hp).2.2.2.1; rw [e] at this; omega, r2 p hp⟩) hpw
      have hinv : INV c (pushL room (castP l) m) s t (v + room) := by
        refine ⟨by rw [pushL_length', h.len], hpush.1, fun a b ha hb' => by rw [hpush.2.1 a b ha hb', h.pair a b ha hb'], fun w χ hwχ => ?_⟩
        rw [hpush.2.2 w, htel w χ hwχ, h.pot w χ hwχ]
        grind
      have hle2 := hinv.le (fun x => x == s) (by simp) (by simp; exact fun e => hne e.symm)
      rw [wrap64_small (x := v + room) (by omega) (by omega)]
      exact pushF_ok c s t hs ht hne hc hB k _ (v + room) hinv (by omega) (by omega)
/-- The reached set, as bits. -/
theorem reachedL_bits : ∀ (l : List Int) (i : Nat), ∃ N : Nat, reachedL l i = ((2 ^ i * N : Nat) : Int) ∧ ∀ x, N / 2 ^ x % 2 = if 0 < l.getD x 0 then 1 else 0
  | [], i => ⟨0, by simp [reachedL], fun x => by simp⟩
  | y :: r, i => by
    obtain ⟨N, h1, h2⟩ := reachedL_bits r (i + 1)
    refine ⟨(if 0 < y then 1 else 0) + 2 * N, ?_, fun x => ?_⟩
    · rw [reachedL, h1, Nat.pow_succ]
      split
      · have e : 2 ^ i * (1 + 2 * N) = 2 ^ i + 2 ^ i * 2 * N := by grind
        rw [e]; simp
      · have e : 2 ^ i * (0 + 2 * N) = 2 ^ i * 2 * N := by grind
        rw [e]; simp
    · cases x with
      | zero => simp; split <;> omega
      | succ x =>
        have := h2 x
        rw [List.getD_cons_succ, ← this, Nat.pow_succ, Nat.mul_comm (2 ^ x) 2, ← Nat.div_div_eq_div_mul]
        congr 2
        split <;> omega
theorem reached_has (lf : List Int) (x : Nat) : hasN (reachedL lf 0) (x : Int) = decide (0 < lf.getD x 0) := by
  obtain ⟨N, h1, h2⟩ := reachedL_bits lf 0
  have h := h2 x
  unfold hasN
  rw [h1, Int.toNat_natCast]
  simp only [Nat.pow_zero, Nat.one_mul]
  have e : ((N : Int) / 2 ^ x % 2) = ((N / 2 ^ x % 2 : Nat) : Int) := by simp
  rw [e, h]
  by_cases h0 : 0 < lf.getD x 0
  · rw [if_pos h0, decide_eq_true h0]; rfl
  · rw [if_neg h0, decide_eq_false h0]; rfl
end Go.Proofs.Ytkkakdpncogpkaa.D
end
section
/- Plain facts about bits. Conditions: none. -/
namespace Go.Proofs.Ytkkakdpncogpkaa.D
open Go.RowKit Go.Proofs.YtkkakdpncogpkaaW.PrintWords Go.Proofs.YtkkakdpncogpkaaW.PrintLast Go.Proofs.YtkkakdpncogpkaaW.PrintMore
set_option linter.unusedVariables false

theorem pow_bound {j n : Nat} (h : j ≤ n) : (2 : Int) ^ j ≤ 2 ^ n := by
  have := Nat.pow_le_pow_right (n := 2) (by decide) h
  exact_mod_cast this
theorem pow_pos2 (j : Nat) : (0 : Int) < 2 ^ j := Int.pow_pos (by decide)
theorem shl_one (n : Nat) (hn : n ≤ 62) : shl .i64 1 (n : Int) = 2 ^ n := by
  have hb : IntKind.i64.bits = 64 := rfl
  unfold shl
  rw [hb, Int.toNat_natCast, show min n 64 = n by omega, Int.one_mul, i64_w]
  have h1 := pow_bound (show n ≤ 62 from hn)
  have h2 := pow_pos2 n
  exact wrap64_small (by omega) (by omega)
theorem and_mask (x : Int) (n : Nat) (hx : 0 ≤ x) (hx2 : x < 9223372036854775808) (hn : n ≤ 62) : Go.bits .and .i64 x (2 ^ n - 1) = x % 2 ^ n := by
  obtain ⟨i, rfl⟩ := Int.eq_ofNat_of_zero_le hx
  have hp : 2 ^ n ≤ 2 ^ 62 := Nat.pow_le_pow_right (by decide) hn
  have hq : 0 < 2 ^ n := Nat.two_pow_pos n
  have e : ((2 : Int) ^ n - 1) = ((2 ^ n - 1 : Nat) : Int) := by rw [Int.ofNat_sub hq]; simp
  rw [e]
  have hand : i &&& (2 ^ n - 1) = i % 2 ^ n := Nat.and_two_pow_sub_one_eq_mod i n
  have k1 : (BitVec.ofInt 64 (i : Int)).toNat = i := by
    rw [BitVec.ofInt_natCast, BitVec.toNat_ofNat]; exact Nat.mod_eq_of_lt (by omega)
  have k2 : (BitVec.ofInt 64 ((2 ^ n - 1 : Nat) : Int)).toNat = 2 ^ n - 1 := by
    rw [BitVec.ofInt_natCast, BitVec.toNat_ofNat]; exact Nat.mod_eq_of_lt (by omega)
  show IntKind.i64.wrap ((BitVec.ofInt 64 (i : Int) &&& BitVec.ofInt 64 ((2 ^ n - 1 : Nat) : Int)).toNat : Int) = _
  rw [BitVec.toNat_and, k1, k2, hand, i64_w]
  have hm : i % 2 ^ n < 2 ^ n := Nat.mod_lt _ hq
  have e2 : ((i : Int) % 2 ^ n) = ((i % 2 ^ n : Nat) : Int) := by simp
  rw [e2]
  exact wrap64_small (by omega) (by omega)
theorem mask (x : Int) (n : Nat) (hx : 0 ≤ x) (hx2 : x < 9223372036854775808) (hn : n ≤ 62) : Go.bits .and .i64 x (wrap64 (shl .i64 1 (n : Int) - 1)) = x % 2 ^ n := by
  have h1 := pow_bound (show n ≤ 62 from hn)
  have h2 := pow_pos2 n
  rw [shl_one n hn, wrap64_small (by omega) (by omega), and_mask x n hx hx2 hn]
/-- What push returns as reached is a set of 14 nodes. -/
theorem last_len (m : List Int) (t a : Int) : ∀ (l : List Nat) (last q : List Int), (scanL m t a l last q).2.1.length = last.length
  | [], _, _ => rfl
  | x :: r, last, q => by
    rw [scanL]
    split
    · exact last_len m t a r last q
    · split
      · simp
      · rw [last_len m t a r]; simp
theorem bfs_len (m : List Int) (t : Int) : ∀ (k : Nat) (last q : List Int) (lf : List Int), bfs m t k last q = some lf → lf.length = last.length
  | _, last, [], lf, h => by rw [bfs] at h; simp at h; rw [← h]
  | 0, _, _ :: _, _, h => by simp [bfs] at h
  | k + 1, last, x :: q, lf, h => by
    rw [bfs] at h
    split at h
    · simp only [Option.some.injEq] at h; rw [← h, last_len]
    · rw [bfs_len m t k _ _ lf h, last_len]
theorem pushF_reach (s t : Int) : ∀ (k : Nat) (m : List Int) (v : Int) (rv rr : Int) (rm : List Int), pushF s t k m v = some (rv, rr, rm) → 0 ≤ rr ∧ rr < 16384
  | 0, _, _, _, _, _, h => by simp [pushF] at h
  | k + 1, m, v, rv, rr, rm, h => by
    rw [pushF] at h
    obtain ⟨last, hb, h⟩ := Option.bind_eq_some_iff.mp h
    split at h
    · simp only [Option.some.injEq, Prod.mk.injEq] at h
      have hl := bfs_len _ _ _ _ _ _ hb
      have hb := reach_bound last 0
      rw [hl, show (last0 s).length = 14 by simp [last0]] at hb
      rw [← h.2.1]
      constructor
      · exact hb.1
      · have : (2 : Int) ^ 0 = 1 := rfl
        have h14 : (2 : Int) ^ (0 + 14) = 16384 := by decide
        omega
    · obtain ⟨l, _, h⟩ := Option.bind_eq_some_iff.mp h
      exact pushF_reach s t k _ _ _ _ _ h
end Go.Proofs.Ytkkakdpncogpkaa.D
end
section
/- The plain functions behind flow.Worst. Conditions: none. -/
namespace Go.Proofs.Ytkkakdpncogpkaa.D
open Go.RowKit Go.Proofs.YtkkakdpncogpkaaW.PrintWords
set_option linter.unusedVariables false

/-- 'cmp(a, b)': the greater capacity first. -/
def cfF (es : List Ed) (a b : Fin es.length) : Int := (rd_T72 es (b.val : Int)).f2 - (rd_T72 es (a.val : Int)).f2
def ltF (es : List Ed) (a b : Fin es.length) : Bool := decide (cfF es a b < 0)
/-- The indices as slices.SortFunc leaves them. -/
def sortedF (es : List Ed) : List (Fin es.length) → List (Fin es.length)
  | [] => []
  | i :: r => haveI : Inhabited (Fin es.length) := ⟨i⟩; (Go.Sort.pdq (ltF es) (i :: r).toArray 0 (i :: r).toArray.size (Lib.bitLen (i :: r).toArray.size) true true).toList
/-- The failed ones: the first k. -/
def failedN {m : Nat} (l : List (Fin m)) : Nat := l.foldl (fun a i => a ||| 2 ^ i.val) 0
def worstAt (es : List Ed) (k c : Nat) : Int × Int × Int := (((failedN ((sortedF es (leavF c es es.length)).take k) : Nat) : Int), sumF es ((sortedF es (leavF c es es.length)).drop k), (c : Int))
def betterB (b x : Int × Int × Int) : Bool := decide (b.2.1 < 0) || decide (x.2.1 < b.2.1)
/-- The best of the cuts from a number on: failed, value, cut. -/
def bestF (es : List Ed) (s t : Int) (k : Nat) : Nat → Nat → Int × Int × Int → Int × Int × Int
  | 0, _, b => b
  | d + 1, c, b => bestF es s t k d (c + 1) (if (hasN c s && !hasN c t) = true then (if betterB b (worstAt es k c) = true then worstAt es k c else b) else b)
def flow_Worst.f (n : Int) (es : List Ed) (s t k : Int) : Option (Int × Int × Int × Int) :=
  if (pairB n es s t && (decide (0 ≤ k) && decide (k ≤ 3))) = true then
    some ((bestF es s t k.toNat (2 ^ n.toNat) 0 (0, -1, 0)).1, (bestF es s t k.toNat (2 ^ n.toNat) 0 (0, -1, 0)).2.1, (bestF es s t k.toNat (2 ^ n.toNat) 0 (0, -1, 0)).2.2, 0)
  else some (0, 0, 0, 270)
end Go.Proofs.Ytkkakdpncogpkaa.D
end
