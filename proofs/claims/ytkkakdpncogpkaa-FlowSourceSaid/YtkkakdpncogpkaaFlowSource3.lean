/- Parts of the proof of a law about flows (see the law's own text): A13, PSource. Conditions: each theorem's own. -/
import Derived.Test.YtkkakdpncogpkaaBase29
import Derived.Test.YtkkakdpncogpkaaFlowSource1
import Derived.Test.YtkkakdpncogpkaaFlowSource2
section
/- Supplies that integers determine, and those of a flow. Conditions: integers are of 64 bits. -/
namespace Go.Proofs.Ytkkakdpncogpkaa.D
open Go.RowKit Go.Proofs.YtkkakdpncogpkaaW.PrintWords Go.Proofs.YtkkakdpncogpkaaW.PrintLast Go.Proofs.YtkkakdpncogpkaaW.PrintMore
set_option linter.unusedVariables false
theorem sane_k (k : Nat) (hk : 64 ≤ k) : dialtonelaw27_sane.f k = some true := at_rounds (g := fun k => dialtonelaw27_sane.f k) (fun k => dialtonelaw27_sane.mono k) hk sane_64
theorem sumL_append : ∀ (a b : List Int), sumL (a ++ b) = sumL a + sumL b
  | [], b => by rw [List.nil_append, sumL, Int.zero_add]
  | x :: r, b => by rw [List.cons_append, sumL, sumL, sumL_append r b]; omega
theorem sumL_one (x : Int) : sumL [x] = x := by rw [sumL, sumL]; omega
theorem sumL_bound (c : Int) : ∀ l : List Int, (∀ x, x ∈ l → -c ≤ x ∧ x ≤ c) → -(c * l.length) ≤ sumL l ∧ sumL l ≤ c * l.length
  | [], _ => by simp [sumL]
  | x :: r, h => by
    have ih := sumL_bound c r (fun y hy => h y (List.mem_cons_of_mem _ hy))
    have hx := h x List.mem_cons_self
    rw [sumL, List.length_cons]
    grind
theorem set_mid (pre : List Int) (d : Nat) (v : Int) (b : List Int) : ((pre ++ List.replicate (d + 1) 0) ++ b).set pre.length v = ((pre ++ [v]) ++ List.replicate d 0) ++ b := by
  rw [List.append_assoc, List.set_append_right _ _ (Nat.le_refl _), Nat.sub_self, List.replicate_succ, List.cons_append, List.set_cons_zero]
  simp
theorem get_mid (pre : List Int) (d : Nat) (b : List Int) : ((pre ++ List.replicate (d + 1) 0) ++ b).getD pre.length 0 = 0 := by
  rw [List.append_assoc]
  simp [List.getD, List.replicate_succ]
theorem get_at (pre : List Int) (v : Int) (b : List Int) : ((pre ++ [v]) ++ b).getD pre.length 0 = v := by
  rw [List.append_assoc]
  simp [List.getD]
theorem supplied_l0 (n : Nat) (es : List Ed) (raw : List Int) (hr : ∀ x, x ∈ raw → I64 x) (hn : 1 ≤ n) (hn2 : n ≤ 12) : ∀ (d k : Nat) (pre : List Int), pre.length + d + 1 = n → d < k → (∀ x, x ∈ pre → -12 ≤ x ∧ x ≤ 12) →
    ∃ pre', pre'.length + 1 = n ∧ (∀ x, x ∈ pre' → -12 ≤ x ∧ x ≤ 12) ∧ dialtoneref27_Supplied.l0 k raw (pre ++ List.replicate (d + 1) 0) (sumL pre) (pre.length : Int) (n : Int) es = some (pre' ++ [-(sumL pre')])
  | 0, k + 1, pre, hl, hk, hb => by
    have hs := sumL_bound 12 pre hb
    rw [dialtoneref27_Supplied.l0, wrap64_small (x := (pre.length : Int) + 1) (by omega) (by omega), if_neg (by omega), if_pos (by omega), wrap64_small (x := (n : Int) - 1) (by omega) (by omega), if_pos (by omega), if_pos (by simp; omega), wrap64_small (x := -(sumL pre)) (by omega) (by omega)]
    refine ⟨pre, hl, hb, ?_⟩
    have e : ((n : Int) - 1).toNat = pre.length := by omega
    have h := set_mid pre 0 (-(sumL pre)) []
    simp only [List.append_nil, List.replicate_zero] at h
    rw [e, h]
  | d + 1, k + 1, pre, hl, hk, hb => by
    have hs := sumL_bound 12 pre hb
    have hlen : (pre ++ List.replicate (d + 1 + 1) (0 : Int)).length = n := by simp; omega
    have key : ∀ v : Int, -12 ≤ v → v ≤ 12 → ∃ pre', pre'.length + 1 = n ∧ (∀ x, x ∈ pre' → -12 ≤ x ∧ x ≤ 12) ∧ dialtoneref27_Supplied.l0 k raw ((pre ++ [v]) ++ List.replicate (d + 1) 0) (sumL pre + v) ((pre.length : Int) + 1) (n : Int) es = some (pre' ++ [-(sumL pre')]) := fun v v0 v1 => by
      obtain ⟨p, a, b, c⟩ := supplied_l0 n es raw hr hn hn2 d k (pre ++ [v]) (by simp; omega) (by omega) (fun x hx => by
        rcases List.mem_append.mp hx with hx | hx
        · exact hb x hx
        · rw [List.mem_singleton.mp hx]; exact ⟨v0, v1⟩)
      rw [sumL_append, sumL_one] at c
      refine ⟨p, a, b, ?_⟩
      have e : (((pre ++ [v]).length : Nat) : Int) = (pre.length : Int) + 1 := by simp
      rw [e] at c
      exact c
    have hget := get_mid pre (d + 1) []
    rw [List.append_nil] at hget
    rw [dialtoneref27_Supplied.l0, wrap64_small (x := (pre.length : Int) + 1) (by omega) (by omega), if_pos (by omega)]
    by_cases h : (pre.length : Int) < (raw.length : Int)
    · have hlt : pre.length < raw.length := by omega
      have hrd : rd raw (pre.length : Int) = raw[pre.length] := by rw [rd_nat0]; simp [List.getD, hlt]
      obtain ⟨q, e, q0, q1⟩ := pickr_f raw[pre.length] 25 (hr _ (List.getElem_mem hlt)) (by omega)
      have hset := set_mid pre (d + 1) (q - 12) []
      rw [List.append_nil, List.append_nil] at hset
      rw [if_pos h, if_pos (by omega), hrd, e, Option.bind_some, if_pos (by omega), Option.bind_some, Int.toNat_natCast, wrap64_small (x := q - 12) (by omega) (by omega), hset, rd_nat0, get_at, wrap64_small (x := sumL pre + (q - 12)) (by omega) (by omega)]
      exact key (q - 12) (by omega) (by omega)
    · rw [if_neg h, if_pos (by omega), if_pos (by omega), rd_nat0, hget, wrap64_small (x := sumL pre + 0) (by omega) (by omega)]
      have h1 := key 0 (by omega) (by omega)
      have e : (pre ++ [0]) ++ List.replicate (d + 1) (0 : Int) = pre ++ List.replicate (d + 1 + 1) 0 := by rw [List.replicate_succ (n := d + 1)]; simp
      rw [e] at h1
      exact h1
theorem supplied_f (n : Nat) (es : List Ed) (hM : MadeIs n es) (raw : List Int) (hr : ∀ x, x ∈ raw → I64 x) (k : Nat) (hk : 13 ≤ k) : ∃ l, dialtoneref27_Supplied.f k (n : Int) es raw = some l ∧ supplyB n es l = true ∧ (∀ x, x ∈ l → -1000 ≤ x ∧ x ≤ 1000) := by
  have hlo := hM.lo
  have hhi := hM.hi
  obtain ⟨pre, a, b, c⟩ := supplied_l0 n es raw hr (by omega) (by omega) (n - 1) k [] (by simp; omega) (by omega) (fun x hx => by simp at hx)
  have hs := sumL_bound 12 pre b
  have hb : ∀ x, x ∈ pre ++ [-(sumL pre)] → -1000 ≤ x ∧ x ≤ 1000 := fun x hx => by
    rcases List.mem_append.mp hx with hx | hx
    · have := b x hx; omega
    · rw [List.mem_singleton.mp hx]; omega
  refine ⟨pre ++ [-(sumL pre)], ?_, ?_, hb⟩
  · unfold dialtoneref27_Supplied.f
    rw [if_pos (by omega), if_pos (by omega), Int.toNat_natCast]
    rw [show n - 1 + 1 = n by omega] at c
    exact c
  · unfold supplyB
    rw [hM.valid]
    simp only [Bool.true_and, Bool.and_eq_true, decide_eq_true_eq, List.all_eq_true]
    refine ⟨⟨by simp; omega, fun x hx => by have := hb x hx; omega⟩, ?_⟩
    rw [sumL_append, sumL_one]; omega
theorem sumL_set : ∀ (l : List Int) (p : Nat) (v : Int), p < l.length → sumL (l.set p v) = sumL l + (v - l.getD p 0)
  | x :: r, 0, v, _ => by rw [List.set_cons_zero, sumL, sumL, List.getD_cons_zero]; omega
  | x :: r, p + 1, v, h => by rw [List.set_cons_succ, sumL, sumL, sumL_set r p v (by simpa using h), List.getD_cons_succ]; omega
theorem setSum_set (S : Nat → Bool) : ∀ (l : List Int) (i p : Nat) (v : Int), p < l.length → setSum S (l.set p v) i = setSum S l i + (if S (i + p) = true then v - l.getD p 0 else 0)
  | x :: r, i, 0, v, _ => by
    rw [List.set_cons_zero, setSum, setSum, List.getD_cons_zero, show i + 0 = i from rfl]
    by_cases h : S i = true
    · rw [if_pos h, if_pos h, if_pos h]; omega
    · rw [if_neg h, if_neg h, if_neg h]; omega
  | x :: r, i, p + 1, v, h => by
    rw [List.set_cons_succ, setSum, setSum, setSum_set S r (i + 1) p v (by simpa using h), List.getD_cons_succ, show i + 1 + p = i + (p + 1) by omega]
    omega
theorem sumL_repl0 : ∀ n, sumL (List.replicate n 0) = 0
  | 0 => rfl
  | n + 1 => by rw [List.replicate_succ, sumL, sumL_repl0 n]; rfl
theorem setSum_repl0 (S : Nat → Bool) : ∀ n i, setSum S (List.replicate n 0) i = 0
  | 0, _ => rfl
  | n + 1, i => by rw [List.replicate_succ, setSum, setSum_repl0 S n (i + 1)]; split <;> rfl
/-- The supplies of a flow of a value. -/
def srcL (n s t : Nat) (v : Int) : List Int := ((List.replicate n 0).set s v).set t (-v)
theorem srcL_get (n s t : Nat) (v : Int) (hs : s < n) (ht : t < n) (hst : s ≠ t) (x : Nat) : (srcL n s t v).getD x 0 = if x = t then -v else if x = s then v else 0 := by
  unfold srcL
  rw [getD_set _ _ _ _ (by simp; exact ht), getD_set _ _ _ _ (by simp; exact hs), getD_repl0]
  by_cases h1 : x = t
  · rw [if_pos h1.symm, if_pos h1]
  · rw [if_neg (fun e => h1 e.symm), if_neg h1]
    by_cases h2 : x = s
    · rw [if_pos h2.symm, if_pos h2]
    · rw [if_neg (fun e => h2 e.symm), if_neg h2]
theorem srcL_len (n s t : Nat) (v : Int) : (srcL n s t v).length = n := by simp [srcL]
theorem srcL_sum (n s t : Nat) (v : Int) (hs : s < n) (ht : t < n) (hst : s ≠ t) : sumL (srcL n s t v) = 0 := by
  unfold srcL
  rw [sumL_set _ _ _ (by simp; exact ht), sumL_set _ _ _ (by simp; exact hs), sumL_repl0, getD_set _ _ _ _ (by simp; exact hs), if_neg hst, getD_repl0, getD_repl0]; omega
theorem srcL_set (n s t : Nat) (v : Int) (hs : s < n) (ht : t < n) (hst : s ≠ t) (S : Nat → Bool) : setSum S (srcL n s t v) 0 = (if S s = true then v else 0) - (if S t = true then v else 0) := by
  unfold srcL
  rw [setSum_set _ _ _ _ _ (by simp; exact ht), setSum_set _ _ _ _ _ (by simp; exact hs), setSum_repl0, getD_set _ _ _ _ (by simp; exact hs), if_neg hst, getD_repl0, getD_repl0, Nat.zero_add, Nat.zero_add]
  split <;> split <;> omega
theorem srcL_supply (n s t : Nat) (v : Int) (es : List Ed) (hv : validB n es = true) (hs : s < n) (ht : t < n) (hst : s ≠ t) (h0 : 0 ≤ v) (h1 : v ≤ 100000) : supplyB n es (srcL n s t v) = true := by
  unfold supplyB
  rw [hv, srcL_sum n s t v hs ht hst]
  simp only [Bool.true_and, Bool.and_eq_true, decide_eq_true_eq, List.all_eq_true]
  refine ⟨⟨by rw [srcL_len], fun x hx => ?_⟩, trivial⟩
  obtain ⟨i, hi, e⟩ := List.mem_iff_getElem.mp hx
  have h := srcL_get n s t v hs ht hst i
  rw [List.getD, List.getElem?_eq_getElem hi, Option.getD_some, e] at h
  rw [h]
  split
  · omega
  · split <;> omega
end Go.Proofs.Ytkkakdpncogpkaa.D
end
section
/- FlowSource: a flow of a value exists exactly if its supplies can be met. Conditions: integers are of 64 bits. -/
namespace Go.Proofs.Ytkkakdpncogpkaa.D
open Go.RowKit Go.Proofs.YtkkakdpncogpkaaW.PrintWords Go.Proofs.YtkkakdpncogpkaaW.PrintLast Go.Proofs.YtkkakdpncogpkaaW.PrintMore
set_option linter.unusedVariables false
theorem capL_nn (set : Int) (es : List Ed) (hg : goodL es) : 0 ≤ capL es set := by
  rw [← esum_cap set es hg]; exact (esum_wS_le _ es hg).1
/-- One value: the supplies are met exactly if it is at most the greatest one; what meets them is a flow of it. -/
theorem source_step (n s t : Nat) (es : List Ed) (hp : pairB n es s t = true) (l : List Int) (cut v want : Int) (hm : MaxIs n s t es l cut v) (h0 : 0 ≤ want) (h1 : want ≤ 100000) :
    (want ≤ v ∧ ∃ am, flow_Meet.f n es (srcL n s t want) = some (true, am, 0, 0) ∧ isFlow n s t es am = true ∧ fsum (dlt s) es am = want) ∨ (v < want ∧ ∃ set, flow_Meet.f n es (srcL n s t want) = some (false, [], set, 0)) := by
  have hq := pairB_iff.mp hp
  have hs : s < n := by omega
  have ht : t < n := by omega
  have hst : s ≠ t := fun e => hq.2.2.2 (by rw [e])
  have hg := goodL_of hq.1
  rcases meet_is n es (srcL n s t want) (srcL_supply n s t want es hq.1 hs ht hst h0 h1) with ⟨am, e, ha, hx⟩ | ⟨set, e, s0, s1, s2⟩
  · have hfs : fsum (dlt s) es am = want := by rw [hx s hs, srcL_get n s t want hs ht hst, if_neg hst, if_pos rfl]
    have hf : isFlow n s t es am = true := by
      unfold isFlow
      rw [ha, Bool.true_and, Bool.and_eq_true, allF_iff]
      refine ⟨decide_eq_true (by omega), fun x _ hxn => ?_⟩
      by_cases e1 : x = s
      · exact .inr (.inl e1)
      · by_cases e2 : x = t
        · exact .inr (.inr e2)
        · refine .inl ?_
          show fsum (dlt x) es am = 0
          rw [hx x (by omega), srcL_get n s t want hs ht hst, if_neg e2, if_neg e1]
    refine .inl ⟨?_, am, e, hf, hfs⟩
    have := flow_le_cut n s t es am hp hf cut hm.isc
    rw [hfs, hm.cap] at this
    exact this
  · refine .inr ⟨?_, set, e⟩
    rw [srcL_set n s t want hs ht hst] at s2
    have hc0 := capL_nn set es hg
    cases h3 : setOf set s with
    | false =>
      rw [h3, if_neg (by simp)] at s2
      split at s2 <;> omega
    | true =>
      cases h4 : setOf set t with
      | true => rw [h3, h4, if_pos rfl] at s2; omega
      | false =>
        rw [h3, h4, if_pos rfl, if_neg (by simp)] at s2
        have := hm.le set ⟨s0, s1, h3, h4⟩
        omega
theorem source_l0 (n s t : Nat) (es : List Ed) (hp : pairB n es s t = true) (l : List Int) (cut v : Int) (hm : MaxIs n s t es l cut v) (L : List Int) (hL : ∀ x, x ∈ L → 0 ≤ x ∧ x ≤ 100000) (hl : L.length ≤ 1000) :
    ∀ (d i k : Nat), i + d = L.length → d + 41 ≤ k → dialtonelaw27_FlowSource.l0 k s t v true L (L.length : Int) (i : Int) n es = some true
  | 0, i, k + 1, hi, hk => by rw [dialtonelaw27_FlowSource.l0, if_neg (by omega)]
  | d + 1, i, k + 1, hi, hk => by
    have hq := pairB_iff.mp hp
    have hs : s < n := by omega
    have ht : t < n := by omega
    have hn : n ≤ 12 := (validB_iff.mp hq.1).1.2 |> fun h => by omega
    have hlt : i < L.length := by omega
    have hrd : rd L (i : Int) = L[i] := by rw [rd_nat0]; simp [List.getD, hlt]
    obtain ⟨w0, w1⟩ := hL L[i] (List.getElem_mem hlt)
    rw [dialtonelaw27_FlowSource.l0, if_pos (by omega), if_pos (by omega), if_pos (by omega), if_pos (by omega), if_pos (by omega), Option.bind_some, if_pos (by omega), if_pos (by simp; omega), if_pos (by omega), if_pos (by simp; omega), hrd, Int.toNat_natCast, Int.toNat_natCast, Int.toNat_natCast]
    generalize L[i] = want at *
    rw [wrap64_small (x := -want) (by omega) (by omega)]
    have hsl : ((List.replicate n (0 : Int)).set s want).set t (-want) = srcL n s t want := rfl
    rw [hsl, wrap64_small (x := (i : Int) + 1) (by omega) (by omega), show ((i : Int) + 1) = ((i + 1 : Nat) : Int) by omega]
    have ih := source_l0 n s t es hp l cut v hm L hL hl d (i + 1) k (by omega) (by omega)
    rcases source_step n s t es hp l cut v want hm w0 w1 with ⟨hle, am, e, hf, hfs⟩ | ⟨hgt, set, e⟩
    · rw [e, Option.bind_some]
      dsimp only
      rw [if_pos rfl, decide_eq_true hle, if_neg (by simp), if_pos rfl, checkFlow_f n s t es am hp k (by omega), if_pos hf, Option.bind_some]
      dsimp only
      rw [if_pos rfl, if_pos hfs, ih]
    · rw [e, Option.bind_some]
      dsimp only
      rw [if_pos rfl, decide_eq_false (by omega), if_neg (by simp), if_neg (by simp), ih]
theorem FlowSource_true (a0 : Int) (x : List S23) (a2 a3 a4 : Int) (h0 : I64 a0) (hx : AllI64 x) (h2 : I64 a2) (h3 : I64 a3) (h4 : I64 a4) : dialtonelaw27_FlowSource.f 64 a0 x a2 a3 a4 = some true := by
  obtain ⟨n, es, e1, hM⟩ := made_f a0 x h0 hx 64 (by omega)
  have hlo := hM.lo
  have hhi := hM.hi
  obtain ⟨s, t, e2, hs, ht, hst⟩ := ends_f n es a2 a3 h2 h3 (by omega) (by omega)
  have hp := hM.pair hs ht hst
  obtain ⟨l, cut, v, f1, f2, f3⟩ := greatest_f n s t es hp 64 (by omega)
  obtain ⟨q, e5, q0, q1⟩ := pick_f a4 60 h4 (by omega)
  have hv : v ≤ 304 := by
    have hg := goodL_of hM.valid
    have hle : ∀ r : List Ed, (∀ e, e ∈ r → 0 ≤ e.f2 ∧ e.f2 ≤ 19) → esum (fun _ _ => 1) r ≤ 19 * r.length := by
      intro r
      induction r with
      | nil => intro _; simp [esum]
      | cons e r ih =>
        intro h
        have h1 := ih (fun x hx => h x (List.mem_cons_of_mem _ hx))
        have h2 := h e List.mem_cons_self
        rw [esum, List.length_cons]; omega
    have a := (esum_wS_le (setOf cut) es hg).2
    have b := hle es (fun e he => (hM.ok e he).2.2.2)
    have c := f2.cap
    have d := hM.len
    rw [← esum_cap _ _ hg] at c
    rw [c] at a
    omega
  have h0v := f2.nn
  unfold dialtonelaw27_FlowSource.f
  rw [sane_k 64 (by omega), Option.bind_some, if_pos rfl, e1, Option.bind_some]
  dsimp only
  rw [e2, Option.bind_some]
  dsimp only
  rw [f3, Option.bind_some]
  dsimp only
  rw [if_pos rfl, e5, Option.bind_some, Option.bind_some, wrap64_small (x := v + 1) (by omega) (by omega)]
  have := source_l0 n s t es hp l cut v f2 [q, v, v + 1] (fun x hx => by simp only [List.mem_cons, List.mem_nil_iff, or_false] at hx; rcases hx with h | h | h <;> omega) (by simp) 3 0 64 (by simp) (by omega)
  exact this
end Go.Proofs.Ytkkakdpncogpkaa.D
end
