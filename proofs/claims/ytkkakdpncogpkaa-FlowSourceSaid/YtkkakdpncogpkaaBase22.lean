/- Parts of the proof of a law about flows (see the law's own text): HOnes. Conditions: each theorem's own. -/
import Derived.Test.YtkkakdpncogpkaaBase7
import Derived.Test.YtkkakdpncogpkaaBase17
import Derived.WalkMore
section
/- How many bits of a small number are 1: the walk of math/bits.OnesCount. Conditions: the number is below 2^40. -/
namespace Go.Proofs.Ytkkakdpncogpkaa.D
open Go.RowKit Go.Proofs.YtkkakdpncogpkaaW.PrintWords Go.Proofs.YtkkakdpncogpkaaW.PrintLast Go.Proofs.YtkkakdpncogpkaaW.PrintMore
set_option linter.unusedVariables false
theorem wrap_u64 (n : Nat) (h : n < 18446744073709551616) : IntKind.u64.wrap (n : Int) = (n : Int) := by
  simp [IntKind.wrap, IntKind.bits, IntKind.signed]; omega
theorem and_u64 (p q : Nat) (hp : p < 18446744073709551616) (hq : q < 18446744073709551616) : Go.bits .and .u64 (p : Int) (q : Int) = ((p &&& q : Nat) : Int) := by
  have k1 : (BitVec.ofInt 64 (p : Int)).toNat = p := by
    rw [BitVec.ofInt_natCast, BitVec.toNat_ofNat]; exact Nat.mod_eq_of_lt (by omega)
  have k2 : (BitVec.ofInt 64 (q : Int)).toNat = q := by
    rw [BitVec.ofInt_natCast, BitVec.toNat_ofNat]; exact Nat.mod_eq_of_lt (by omega)
  show IntKind.u64.wrap ((BitVec.ofInt 64 (p : Int) &&& BitVec.ofInt 64 (q : Int)).toNat : Int) = _
  rw [BitVec.toNat_and, k1, k2]
  have : p &&& q ≤ p := Nat.and_le_left
  exact wrap_u64 _ (by omega)
theorem valB_lt : ∀ (l : List Nat), (∀ b, b ∈ l → b < 256) → valB l < 256 ^ l.length
  | [], _ => by simp [valB]
  | b :: r, h => by
    have ih := valB_lt r (fun x hx => h x (List.mem_cons_of_mem _ hx))
    have := h b List.mem_cons_self
    rw [valB, List.length_cons, Nat.pow_succ]
    omega
theorem st1 (y : Nat) (l : List Nat) (hy : y = valB l) (hl : l.length = 5) (hb : ∀ b, b ∈ l → b < 256) : IntKind.u64.wrap (Go.bits .and .u64 ((y : Int) / 2) 6148914691236517205 + Go.bits .and .u64 (y : Int) 6148914691236517205) = ((valB (l.map f1) : Nat) : Int) := by
  have h5 := valB_lt l hb
  rw [hl, ← hy] at h5
  have e5 : (256 : Nat) ^ 5 = 1099511627776 := by decide
  have h := step1 l 8 (by omega) hb
  rw [← hy] at h
  have er : rep 85 8 = 6148914691236517205 := by decide
  rw [er] at h
  have e1 : ((y : Int) / 2) = ((y / 2 : Nat) : Int) := by omega
  have e2 : (6148914691236517205 : Int) = ((6148914691236517205 : Nat) : Int) := rfl
  rw [e1, e2, and_u64 _ _ (by omega) (by omega), and_u64 _ _ (by omega) (by omega), ← h, ← Int.natCast_add]
  have a1 : (y / 2) &&& 6148914691236517205 ≤ y / 2 := Nat.and_le_left
  have a2 : y &&& 6148914691236517205 ≤ y := Nat.and_le_left
  exact wrap_u64 _ (by omega)
theorem st2 (y : Nat) (l : List Nat) (hy : y = valB l) (hl : l.length = 5) (hb : ∀ b, b ∈ l → b < 256) : IntKind.u64.wrap (Go.bits .and .u64 ((y : Int) / 4) 3689348814741910323 + Go.bits .and .u64 (y : Int) 3689348814741910323) = ((valB (l.map f2) : Nat) : Int) := by
  have h5 := valB_lt l hb
  rw [hl, ← hy] at h5
  have e5 : (256 : Nat) ^ 5 = 1099511627776 := by decide
  have h := step2 l 8 (by omega) hb
  rw [← hy] at h
  have er : rep 51 8 = 3689348814741910323 := by decide
  rw [er] at h
  have e1 : ((y : Int) / 4) = ((y / 4 : Nat) : Int) := by omega
  have e2 : (3689348814741910323 : Int) = ((3689348814741910323 : Nat) : Int) := rfl
  rw [e1, e2, and_u64 _ _ (by omega) (by omega), and_u64 _ _ (by omega) (by omega), ← h, ← Int.natCast_add]
  have a1 : (y / 4) &&& 3689348814741910323 ≤ y / 4 := Nat.and_le_left
  have a2 : y &&& 3689348814741910323 ≤ y := Nat.and_le_left
  exact wrap_u64 _ (by omega)
theorem st3 (y : Nat) (l : List Nat) (hy : y = valB l) (hl : l.length = 5) (hb : ∀ b, b ∈ l → b ≤ 68 ∧ b % 16 ≤ 4) : Go.bits .and .u64 (IntKind.u64.wrap ((y : Int) / 16 + (y : Int))) 1085102592571150095 = ((valB (l.map f3) : Nat) : Int) := by
  have h5 := valB_lt l (fun b hx => by have := hb b hx; omega)
  rw [hl, ← hy] at h5
  have e5 : (256 : Nat) ^ 5 = 1099511627776 := by decide
  have h := step3 l 8 (by omega) hb
  rw [← hy] at h
  have er : rep 15 8 = 1085102592571150095 := by decide
  rw [er] at h
  have e1 : ((y : Int) / 16 + (y : Int)) = ((y / 16 + y : Nat) : Int) := by omega
  have e2 : (1085102592571150095 : Int) = ((1085102592571150095 : Nat) : Int) := rfl
  rw [e1, e2, wrap_u64 _ (by omega), and_u64 _ _ (by omega) (by omega), h]
theorem fin118 (y c0 c1 c2 c3 c4 : Nat) (hy : y = c0 + 256 * (c1 + 256 * (c2 + 256 * (c3 + 256 * c4)))) (h0 : c0 ≤ 8) (h1 : c1 ≤ 8) (h2 : c2 ≤ 8) (h3 : c3 ≤ 8) (h4 : c4 ≤ 8) :
    Go.bits .and .i64 (wrap64 (IntKind.u64.wrap (IntKind.u64.wrap (IntKind.u64.wrap ((y : Int) + (y : Int) / 256) + IntKind.u64.wrap ((y : Int) + (y : Int) / 256) / 65536) + IntKind.u64.wrap (IntKind.u64.wrap ((y : Int) + (y : Int) / 256) + IntKind.u64.wrap ((y : Int) + (y : Int) / 256) / 65536) / 4294967296))) 127 = ((c0 + c1 + c2 + c3 + c4 : Nat) : Int) := by
  have ea : ((y : Int) + (y : Int) / 256) = ((y + y / 256 : Nat) : Int) := by omega
  obtain ⟨a, ha⟩ : ∃ a : Nat, a = y + y / 256 := ⟨_, rfl⟩
  rw [ea, ← ha, wrap_u64 a (by omega)]
  have eb : ((a : Int) + (a : Int) / 65536) = ((a + a / 65536 : Nat) : Int) := by omega
  obtain ⟨b, hb⟩ : ∃ b : Nat, b = a + a / 65536 := ⟨_, rfl⟩
  rw [eb, ← hb, wrap_u64 b (by omega)]
  have ec : ((b : Int) + (b : Int) / 4294967296) = ((b + b / 4294967296 : Nat) : Int) := by omega
  obtain ⟨d, hd⟩ : ∃ d : Nat, d = b + b / 4294967296 := ⟨_, rfl⟩
  rw [ec, ← hd, wrap_u64 d (by omega), wrap64_small (by omega) (by omega)]
  have hm := and_mask (d : Int) 7 (by omega) (by omega) (by omega)
  have e7 : ((2 : Int) ^ 7 - 1) = 127 := by decide
  have e8 : ((2 : Int) ^ 7) = 128 := by decide
  rw [e7, e8] at hm
  rw [hm]
  have ya : a = (c0 + c1) + 256 * ((c1 + c2) + 256 * ((c2 + c3) + 256 * ((c3 + c4) + 256 * c4))) := by omega
  have yb : b = (c0 + c1 + c2 + c3) + 256 * ((c1 + c2 + c3 + c4) + 256 * ((c2 + c3 + c4) + 256 * ((c3 + c4) + 256 * c4))) := by omega
  have yd : d = (c0 + c1 + c2 + c3 + c4) + 256 * ((c1 + c2 + c3 + c4) + 256 * ((c2 + c3 + c4) + 256 * ((c3 + c4) + 256 * c4))) := by omega
  omega
set_option maxRecDepth 100000 in
set_option maxHeartbeats 4000000 in
theorem ones118 (x : Nat) (hx : x < 1099511627776) (w : World) : Calls Try.prog 118 #[.int .u64 x] w fun e w' => e = .returned (.int .i64 (onesN 40 x)) ∧ w' = w := by
  obtain ⟨l, hl⟩ : ∃ l : List Nat, l = [x % 256, x / 256 % 256, x / 65536 % 256, x / 16777216 % 256, x / 4294967296] := ⟨_, rfl⟩
  have hlen : l.length = 5 := by rw [hl]; rfl
  have hb : ∀ b, b ∈ l → b < 256 := by
    intro b h
    rw [hl] at h
    simp only [List.mem_cons, List.not_mem_nil, or_false] at h
    omega
  have hv : x = valB l := by rw [hl]; simp only [valB]; omega
  have hb1 : ∀ b, b ∈ l.map f1 → b < 256 := by
    intro b h
    obtain ⟨a, ha, rfl⟩ := List.mem_map.mp h
    exact (byte3_le a (hb a ha)).1
  have hb2 : ∀ b, b ∈ (l.map f1).map f2 → b ≤ 68 ∧ b % 16 ≤ 4 := by
    intro b h
    obtain ⟨a, ha, rfl⟩ := List.mem_map.mp h
    obtain ⟨a', ha', rfl⟩ := List.mem_map.mp ha
    exact ⟨(byte3_le a' (hb a' ha')).2.1, (byte3_le a' (hb a' ha')).2.2.1⟩
  have E1 := st1 x l hv hlen hb
  obtain ⟨y1, hy1⟩ : ∃ y1, y1 = valB (l.map f1) := ⟨_, rfl⟩
  have E2 := st2 y1 (l.map f1) hy1 (by simp [hlen]) hb1
  obtain ⟨y2, hy2⟩ : ∃ y2, y2 = valB ((l.map f1).map f2) := ⟨_, rfl⟩
  have E3 := st3 y2 ((l.map f1).map f2) hy2 (by simp [hlen]) hb2
  obtain ⟨y3, hy3⟩ : ∃ y3, y3 = valB (((l.map f1).map f2).map f3) := ⟨_, rfl⟩
  rw [← hy1] at E1
  rw [← hy2] at E2
  rw [← hy3] at E3
  have HE1 := Aside0.mk E1
  have HE2 := Aside0.mk E2
  have HE3 := Aside0.mk E3
  -- the sum of the bytes
  have HS : Aside0 (∃ c0 c1 c2 c3 c4 : Nat, y3 = c0 + 256 * (c1 + 256 * (c2 + 256 * (c3 + 256 * c4))) ∧ c0 ≤ 8 ∧ c1 ≤ 8 ∧ c2 ≤ 8 ∧ c3 ≤ 8 ∧ c4 ≤ 8 ∧ onesN 40 x = ((c0 + c1 + c2 + c3 + c4 : Nat) : Int)) := by
    refine ⟨f3 (f2 (f1 (x % 256))), f3 (f2 (f1 (x / 256 % 256))), f3 (f2 (f1 (x / 65536 % 256))), f3 (f2 (f1 (x / 16777216 % 256))), f3 (f2 (f1 (x / 4294967296))), ?_, (byte3_le _ (by omega)).2.2.2, (byte3_le _ (by omega)).2.2.2, (byte3_le _ (by omega)).2.2.2, (byte3_le _ (by omega)).2.2.2, (byte3_le _ (by omega)).2.2.2, ?_⟩
    · rw [hy3, hl]; simp [valB]
    · have s1 := ones_split 32 x
      have s2 := ones_split 24 (x / 256)
      have s3 := ones_split 16 (x / 256 / 256)
      have s4 := ones_split 8 (x / 256 / 256 / 256)
      simp only [Nat.div_div_eq_div_mul, Nat.reduceMul] at s1 s2 s3 s4
      rw [s1, s2, s3, s4, ← byte3_ones _ (by omega : x % 256 < 256), ← byte3_ones _ (by omega : x / 256 % 256 < 256), ← byte3_ones _ (by omega : x / 65536 % 256 < 256), ← byte3_ones _ (by omega : x / 16777216 % 256 < 256), ← byte3_ones _ (by omega : x / 4294967296 < 256)]
      omega
  clear E1 E2 E3 hy1 hy2 hy3 hb1 hb2 hb hv hlen hl
  have HX := Aside0.mk hx
  clear hx
  go_enter Try.func118, Try.ntmps118
  go_upto_region 2 with (fail)
  rw [HE1.out]
  go_upto_region 3 with (fail)
  rw [HE2.out]
  go_upto_region 4 with (fail)
  rw [HE3.out]
  go_wp2
  obtain ⟨c0, c1, c2, c3, c4, e, h0, h1, h2, h3, h4, eo⟩ := HS.out
  rw [fin118 y3 c0 c1 c2 c3 c4 e h0 h1 h2 h3 h4]
  go_ret
  exact ⟨by rw [eo]; rfl, rfl⟩
set_option maxRecDepth 100000 in
set_option maxHeartbeats 4000000 in
theorem bits_OnesCount.calls (a0 : Int) (r : Int) (w : World) (h : bits_OnesCount.f a0 = some r) :
    Calls Try.prog 89 #[.int .u64 a0] w fun e w' => e = .returned (.int .i64 r) ∧ Drawn0 w w' := by
  unfold bits_OnesCount.f at h
  split at h
  · rename_i hc
    simp only [Bool.and_eq_true, decide_eq_true_eq] at hc
    obtain ⟨x, rfl⟩ := Int.eq_ofNat_of_zero_le hc.1
    obtain rfl := Option.some.inj h
    have hx : x < 1099511627776 := by omega
    have HX := Aside0.mk hx
    clear h hc hx
    go_enter Try.func89, Try.ntmps89
    go_wp2_with (first | (go_at_call 118; refine (ones118 x HX.out _).mono ?_; rintro e w' ⟨rfl, rfl⟩))
    go_ret
    exact ⟨rfl, Drawn0.refl _⟩
  · cases h
end Go.Proofs.Ytkkakdpncogpkaa.D
end
