/- Parts of the proof of a law about flows (see the law's own text): HFlowWorst. Conditions: each theorem's own. -/
import Derived.Test.YtkkakdpncogpkaaBase25
import Derived.Test.YtkkakdpncogpkaaBase17
import Derived.StillTailTactics
import Derived.WalkMore
import Derived.Deep.DeepCutAuto
import Derived.Deep.CutBlock
import Derived.Test.YtkkakdpncogpkaaBase23
section
/- The walk of flow.Worst. Conditions: the contract's own. -/
namespace Go.Proofs.Ytkkakdpncogpkaa.D
open Go.RowKit Go.Proofs.YtkkakdpncogpkaaW.PrintWords Go.Proofs.YtkkakdpncogpkaaW.PrintLast Go.Proofs.YtkkakdpncogpkaaW.PrintMore
set_option linter.unusedVariables false
set_option linter.unusedSimpArgs false
theorem sortedF_perm (l : List Ed) : ∀ (LF : List (Fin l.length)), (sortedF l LF).Perm LF
  | [] => List.Perm.refl _
  | i :: r => by
    letI : Inhabited (Fin l.length) := ⟨i⟩
    have hps := Go.Sort.pdq_sorts (Go.Proofs.ltOf (cfF l)) (swoF l) (i :: r).toArray 0 (i :: r).toArray.size (Lib.bitLen (i :: r).toArray.size) true true (Nat.zero_le _) (Nat.le_refl _) (Or.inl rfl)
    have e1 : sortedF l (i :: r) = (Go.Sort.pdq (Go.Proofs.ltOf (cfF l)) (i :: r).toArray 0 (i :: r).toArray.size (Lib.bitLen (i :: r).toArray.size) true true).toList := by unfold sortedF; rfl
    rw [e1]
    have hp := hps.1.2.2
    have hz := hps.1.1
    have x2 : (i :: r).toArray.extract 0 (i :: r).toArray.size = (i :: r).toArray := Array.extract_size
    rw [x2] at hp
    generalize Go.Sort.pdq (Go.Proofs.ltOf (cfF l)) (i :: r).toArray 0 (i :: r).toArray.size (Lib.bitLen (i :: r).toArray.size) true true = X at hp hz ⊢
    rw [← hz] at hp
    have x1 : X.extract 0 X.size = X := Array.extract_size
    rw [x1] at hp
    exact hp
theorem sortedF_length (l : List Ed) (LF : List (Fin l.length)) : (sortedF l LF).length = LF.length := (sortedF_perm l LF).length_eq
theorem failedN_snoc {m : Nat} (l : List (Fin m)) (x : Fin m) : failedN (l ++ [x]) = failedN l ||| 2 ^ x.val := by
  simp [failedN, List.foldl_append]
theorem failedN_lt {m : Nat} (hm : m ≤ 40) (l : List (Fin m)) : failedN l < 1099511627776 := by
  suffices h : ∀ (l : List (Fin m)) (a : Nat), a < 2 ^ 40 → l.foldl (fun a i => a ||| 2 ^ i.val) a < 2 ^ 40 by
    have := h l 0 (by decide)
    simpa [failedN] using this
  intro l
  induction l with
  | nil => intro a h; exact h
  | cons x r ih =>
    intro a h
    exact ih _ (Nat.or_lt_two_pow h (Nat.pow_lt_pow_right (by decide) (by have := x.isLt; omega)))
theorem or_two (F e : Nat) (hF : F < 1099511627776) (he : e < 40) : Go.bits .or .i64 (F : Int) (wrap64 (2 ^ e)) = ((F ||| 2 ^ e : Nat) : Int) := by
  have hp : 2 ^ e < 2 ^ 40 := Nat.pow_lt_pow_right (by decide) he
  have hp40 : (2 : Nat) ^ 40 = 1099511627776 := by decide
  have hor : F ||| 2 ^ e < 2 ^ 40 := Nat.or_lt_two_pow (by omega) hp
  have e1 : wrap64 ((2 : Int) ^ e) = ((2 ^ e : Nat) : Int) := by
    have h := pow_bound (show e ≤ 40 by omega)
    have h2 := pow_pos2 e
    have h3 : (2 : Int) ^ 40 = 1099511627776 := by decide
    rw [wrap64_small (by omega) (by omega)]; simp
  rw [e1]
  have k1 : (BitVec.ofInt 64 (F : Int)).toNat = F := by
    rw [BitVec.ofInt_natCast, BitVec.toNat_ofNat]; exact Nat.mod_eq_of_lt (by omega)
  have k2 : (BitVec.ofInt 64 ((2 ^ e : Nat) : Int)).toNat = 2 ^ e := by
    rw [BitVec.ofInt_natCast, BitVec.toNat_ofNat]; exact Nat.mod_eq_of_lt (by omega)
  show IntKind.i64.wrap ((BitVec.ofInt 64 (F : Int) ||| BitVec.ofInt 64 ((2 ^ e : Nat) : Int)).toNat : Int) = _
  rw [BitVec.toNat_or, k1, k2, i64_w]
  exact wrap64_small (by omega) (by omega)
theorem take_lt {α : Type} (l : List α) (x : α) (k : Nat) (h : l.length < k) : (l ++ [x]).take k = l.take k ++ [x] ∧ (l ++ [x]).drop k = l.drop k := by
  constructor
  · rw [List.take_of_length_le (by simp; omega), List.take_of_length_le (by omega)]
  · rw [List.drop_of_length_le (by simp; omega), List.drop_of_length_le (by omega)]
theorem take_ge {α : Type} (l : List α) (x : α) (k : Nat) (h : k ≤ l.length) : (l ++ [x]).take k = l.take k ∧ (l ++ [x]).drop k = l.drop k ++ [x] :=
  ⟨List.take_append_of_le_length h, List.drop_append_of_le_length h⟩
theorem add_zero0 (g j : Nat) : Addr.add ⟨g, 0, none⟩ j = ⟨g, j, none⟩ := by
  unfold Addr.add
  split
  · rename_i h; rw [h]
  · simp
theorem sort_any (n : Int) (l : List Ed) (A : Option Addr) (c g4 : Nat) (LF : List (Fin l.length)) (v : Value) (base : Nat) (w : World)
    (h26 : w.heap[g4]? = some (.cells #[.int .i64 n, .slice A l.length c] 26 (0, 0))) (hr : Kd.C k72 w A l.length l) (hcap : ∀ k : Nat, k < l.length → 0 ≤ (rd_T72 l k).f2 ∧ (rd_T72 l k).f2 ≤ 10000)
    (hrow : w.ownsRow base 3 1 v LF.length (LF.map fun i => Value.int .i64 (i.val : Int))) (hnil : LF = [] → v = .slice none 0 0) (hbw : base ≤ w.heap.size)
    (hA : ∀ ad, A = some ad → 0 < l.length → ad.block < base) (hlen : LF.length ≤ 40) :
    ∃ Av cv, v = .slice Av LF.length cv ∧ Calls Try.prog 86 #[.slice Av LF.length cv, .func (.func 87) #[] #[.pointer (some ⟨g4, 0, none⟩)]] w fun e w' =>
      e = .returned (.tuple #[]) ∧ (∀ j (h : j < (sortedF l LF).length), ∃ ad, Av = some ad ∧ w'.cell? (ad.add j) = some (.int .i64 ((sortedF l LF)[j].val : Int))) ∧ ∃ x, base ≤ x ∧ BX w.heap.size x w w' := by
  cases LF with
  | nil =>
    refine ⟨none, 0, hnil rfl, (sort_nil _ w).mono ?_⟩
    rintro e w' ⟨rfl, rfl⟩
    exact ⟨rfl, fun j h => absurd h (by simp [sortedF]), w'.heap.size, hbw, BX.refl _ _ _⟩
  | cons i r =>
    rcases hrow.2 with ⟨_, h0⟩ | ⟨g, cap', cur, hv, hbase, hcur, hcap1, hcap2, hsz, htake⟩
    · simp at h0
    · subst hv
      refine ⟨some ⟨g, 0, none⟩, cap', rfl, (sort_calls n l A c g4 i r g cap' base w h26 hr hcap hrow (fun ad ea e => ?_) hlen).mono ?_⟩
      · have := hA ad ea (Nat.lt_of_le_of_lt (Nat.zero_le _) i.isLt)
        omega
      · rintro e w' ⟨rfl, hrd, hbx⟩
        exact ⟨rfl, fun j h => ⟨⟨g, 0, none⟩, rfl, by have := hrd j h; rw [add_zero0]; exact this⟩, g, hbase, hbx⟩
set_option maxRecDepth 100000 in
set_option maxHeartbeats 4000000 in
theorem flow_Worst.calls (a0_0 : Int) (A0_1 : Option Addr) (c0_1 : Nat) (l0_1 : List (S72)) (a1 : Int) (a2 : Int) (a3 : Int) (r1 : Int) (r2 : Int) (r3 : Int) (r4 : Int) (w : World) (hr0_1 : Kd.C k72 w A0_1 l0_1.length l0_1) (hc0_1 : l0_1.length ≤ c0_1) (h : flow_Worst.f a0_0 l0_1 a1 a2 a3 = some (r1, r2, r3, r4)) :
    Calls Try.prog 41 #[.agg #[.int .i64 a0_0, .slice A0_1 l0_1.length c0_1], .int .i64 a1, .int .i64 a2, .int .i64 a3] w fun e w' => e = .returned (.tuple #[.agg #[.int .i64 r1, .int .i64 r2, .int .i64 r3], .int .i64 r4]) ∧ Below w.heap.size w w' := by
  have hu26 := Try.underlying26
  have hu53 := Try.underlying53
  have hu72 := Try.underlying72
  have HR := Aside0.mk hr0_1
  have HL := Aside0.mk hc0_1
  clear hr0_1 hc0_1
  have P := Aside0.mk (isPair_f a0_0 l0_1 a1 a2)
  have PK := Aside0.mk (isIn_f a3 0 3)
  unfold flow_Worst.f at h
  by_cases hg : (pairB a0_0 l0_1 a1 a2 && (decide (0 ≤ a3) && decide (a3 ≤ 3))) = true
  · rw [if_pos hg] at h
    simp only [Option.some.injEq, Prod.mk.injEq] at h
    have hg2 : pairB a0_0 l0_1 a1 a2 = true ∧ 0 ≤ a3 ∧ a3 ≤ 3 := by simpa [Bool.and_eq_true, decide_eq_true_eq] using hg
    clear hg
    obtain ⟨hp, hk0, hk3⟩ := hg2
    have hq := pairB_iff.mp hp
    have hv := validB_iff.mp hq.1
    obtain ⟨n, rfl⟩ := Int.eq_ofNat_of_zero_le hv.1.1
    obtain ⟨s, rfl⟩ := Int.eq_ofNat_of_zero_le hq.2.1.1
    obtain ⟨t, rfl⟩ := Int.eq_ofNat_of_zero_le hq.2.2.1.1
    obtain ⟨kk, rfl⟩ := Int.eq_ofNat_of_zero_le hk0
    have hs : s < 12 := by omega
    have ht : t < 12 := by omega
    have hn : n ≤ 12 := by omega
    have hl : l0_1.length ≤ 40 := hv.2.1
    have HVB := Aside0.mk hq.1
    have HCAP := Aside0.mk (show ∀ k : Nat, k < l0_1.length → 0 ≤ (rd_T72 l0_1 k).f2 ∧ (rd_T72 l0_1 k).f2 ≤ 10000 from fun k hk => by obtain ⟨_, _, hh⟩ := valid_facts hq.1; obtain ⟨_, _, _, _, _, f, g⟩ := hh k hk; exact ⟨f, g⟩)
    rw [hp] at P
    have PK2 : Aside0 (flow_isIn.f (kk : Int) 0 3 = some true) := ⟨by rw [PK.out]; simp; omega⟩
    have HF := Aside0.mk h
    simp only [Int.toNat_natCast] at HF
    have hAlt : Aside0 (∀ ad, A0_1 = some ad → 0 < l0_1.length → ad.block < w.heap.size) := ⟨fun ad ea h0 => by
      obtain ⟨ad', ea', hx0, _, _⟩ := at_T72 HR.out (0 : Int) (by omega) (by omega)
      rw [ea] at ea'; cases ea'
      have := World.block_lt_of_cell? w _ hx0
      rw [add_block] at this
      exact this⟩
    clear h hp hq hv PK hk0 hk3
    go_enter Try.func41, Try.ntmps41
    go_wp2_with (first | ((with_reducible refine gate_dst (N := 4) rfl ?_); refine box_event ?hg (N := 4) ?hd (cs := #[.int .i64 n, .slice A0_1 l0_1.length c0_1]) (t := 26) ?hr ?_; (case hd => rfl); (case hg => rfl); (case hr => first | (go_simp; done) | (go_simp; rfl)); intro g4 hg4 w2 hbox hb; have G4 := Aside0.mk hg4; have B2 := Aside0.mk hbox; have HB2 := Aside0.mk hb; have c0 : w2.cell? ⟨g4, 0, none⟩ = some (.int .i64 n) := (blk_cell hbox 0).trans rfl; have c1 : w2.cell? ⟨g4, 1, none⟩ = some (.slice A0_1 l0_1.length c0_1) := (blk_cell hbox 1).trans rfl; clear hbox hb hg4) | ((with_reducible refine gate_dst (N := 8) rfl ?_); refine box_event ?hg (N := 8) ?hd (cs := #[.int .i64 0, .int .i64 0, .int .i64 0]) (t := 53) ?hr ?_; (case hd => rfl); (case hg => rfl); (case hr => first | (go_simp; done) | (go_simp; rfl)); intro g8 hg8 w4 hbox hb; have G8 := Aside0.mk (Nat.le_trans HB2.out.size (Nat.le_of_eq hg8.symm)); have B4 := Aside0.mk hbox; have B44 := Aside0.mk (blk_below B2.out hb); have HB4 := Aside0.mk (below_step HB2.out hb); have d0 : w4.cell? ⟨g4, 0, none⟩ = some (.int .i64 n) := (blk_cell (blk_below B2.out hb) 0).trans rfl; have d1 : w4.cell? ⟨g4, 1, none⟩ = some (.slice A0_1 l0_1.length c0_1) := (blk_cell (blk_below B2.out hb) 1).trans rfl; clear hbox hb hg8 c0 c1) | (go_at_call 73; refine (flow_isPair.calls n A0_1 c0_1 l0_1 s t true w4 (Kd.C_below HR.out HB4.out) HL.out P.out).mono ?_; rintro e w5 ⟨rfl, hb5⟩; have HB5 := Aside0.mk (below_step HB4.out hb5); have B5 := Aside0.mk (blk_below B4.out hb5); have B54 := Aside0.mk (blk_below B44.out hb5); clear hb5 d0 d1) | (go_at_call 69; refine (flow_isIn.calls kk 0 3 true w5 PK2.out).mono ?_; rintro e w6 ⟨rfl, q6, rfl⟩; have HB6 := Aside0.mk (pw_below_drewN HB5.out q6); have B6 := Aside0.mk (blk_drewN B5.out q6); have B64 := Aside0.mk (blk_drewN B54.out q6); generalize w5.drewN q6 = w6 at HB6 B6 B64 ⊢) | ((with_reducible refine gate_dst (N := 10) rfl ?_); refine box_event ?hg (N := 10) ?hd (cs := #[.int .i64 0, .int .i64 0, .int .i64 0]) (t := 53) ?hr ?_; (case hd => rfl); (case hg => rfl); (case hr => first | (go_simp; done) | (go_simp; rfl)); intro g10 hg10 w7 hbox hb; have G10 := Aside0.mk (Nat.le_trans HB6.out.size (Nat.le_of_eq hg10.symm)); have B7 := Aside0.mk hbox; have B78 := Aside0.mk (blk_below B6.out hb); have B74 := Aside0.mk (blk_below B64.out hb); have HB7 := Aside0.mk (below_step HB6.out hb); have N810 := Aside0.mk (show g8 ≠ g10 from by rw [hg10]; exact Nat.ne_of_lt (blk_lt B6.out)); have N410 := Aside0.mk (show g4 ≠ g10 from by rw [hg10]; exact Nat.ne_of_lt (blk_lt B64.out)); have e0 : w7.cell? ⟨g10, 0, none⟩ = some (.int .i64 0) := (blk_cell hbox 0).trans rfl; have e1 : w7.cell? ⟨g10, 1, none⟩ = some (.int .i64 0) := (blk_cell hbox 1).trans rfl; have e2 : w7.cell? ⟨g10, 2, none⟩ = some (.int .i64 0) := (blk_cell hbox 2).trans rfl; have f0 := blk_frozen hbox 0; have f1 := blk_frozen hbox 1; have f2 := blk_frozen hbox 2; have y4 : w7.cell? ⟨g4, 0, none⟩ = some (.int .i64 n) := (blk_cell (blk_below B64.out hb) 0).trans rfl; have N410' := N410.out; clear hbox hb hg10))
    obtain ⟨PP, hPP⟩ : ∃ PP : Int, PP = wrap64 (2 ^ n) := ⟨_, rfl⟩
    rw [← hPP]
    obtain ⟨TN, hTN⟩ : ∃ TN : Nat, TN = 2 ^ n := ⟨_, rfl⟩
    have HPP : Aside0 (PP = (TN : Int)) := ⟨by rw [hPP, hTN, wrap64_small (by have := pow_pos2 n; omega) (by have := pow_bound hn; have e : (2 : Int) ^ 12 = 4096 := rfl; omega)]; simp⟩
    have HP2 : Aside0 (TN ≤ 4096) := ⟨by rw [hTN]; exact Nat.pow_le_pow_right (by decide) hn⟩
    have HTN := Aside0.mk hTN
    rw [← hTN] at HF
    clear hPP hTN
    clear y4 N410'
    go_loopg [31] (TN) (fun gg v31 wr => ∃ (c : Nat) (b : Int × Int × Int), c ≤ TN ∧ TN - c ≤ gg ∧ v31 = .int .i64 c ∧ Aside0 (bestF l0_1 s t kk (TN - c) c b = bestF l0_1 s t kk (TN) 0 (0, -1, 0)) ∧ Aside0 (-1 ≤ b.2.1 ∧ b.2.1 ≤ 400000) ∧ Aside0 (wr.heap[g10]? = some (.cells #[.int .i64 b.1, .int .i64 b.2.1, .int .i64 b.2.2] 53 (0, 0))) ∧ Aside0 (wr.heap[g8]? = some (.cells #[.int .i64 0, .int .i64 0, .int .i64 0] 53 (0, 0))) ∧ Aside0 (wr.heap[g4]? = some (.cells #[.int .i64 n, .slice A0_1 l0_1.length c0_1] 26 (0, 0))) ∧ Aside0 (Below w.heap.size w wr))
    case atStart => exact ⟨0, (0, -1, 0), Nat.zero_le _, by omega, rfl, ⟨rfl⟩, ⟨by decide⟩, ⟨put3 B7.out _ _ _⟩, ⟨blk_far (blk_far (blk_far B78.out N810.out _) N810.out _) N810.out _⟩, ⟨blk_far (blk_far (blk_far B74.out N410.out _) N410.out _) N410.out _⟩, ⟨below_set (below_set (below_set HB7.out G10.out) G10.out) G10.out⟩⟩
    case round =>
      obtain ⟨c, ⟨bf, bv, bc⟩, hc, hgc, rfl, HBE, HBV, C10, C8, C4, HBW⟩ := hrel
      by_cases hlt : c < TN
      · have hltP : (c : Int) < PP := by rw [HPP.out]; omega
        have hc4 : c < 4096 := by have := HP2.out; omega
        have q1 := has_and0 (c : Int) (s : Int) (by omega) (by have := HP2.out; omega)
        have q2 := has_and (c : Int) (t : Int) (by omega) (by have := HP2.out; omega)
        simp only [Int.toNat_natCast] at q1 q2
        have HB1 : Aside0 (bestF l0_1 s t kk (TN - c) c (bf, bv, bc) = bestF l0_1 s t kk (TN - (c + 1)) (c + 1) (if (hasN c s && !hasN c t) = true then (if betterB (bf, bv, bc) (worstAt l0_1 kk c) = true then worstAt l0_1 kk c else (bf, bv, bc)) else (bf, bv, bc))) := ⟨by rw [show TN - c = (TN - (c + 1)) + 1 by omega, bestF]⟩
        generalize hasN (c : Int) (s : Int) = b1 at q1 HB1
        generalize hasN (c : Int) (t : Int) = b2 at q2 HB1
        cases b1 with
        | false =>
          go_wp2
          go_roundg (TN - (c + 1))
          case measure => omega
          case rel => exact ⟨c + 1, (bf, bv, bc), by omega, by omega, by go_num, ⟨by rw [← HBE.out, HB1.out]; rfl⟩, HBV, C10, C8, C4, HBW⟩
        | true =>
          cases b2 with
          | true =>
            go_wp2
            go_roundg (TN - (c + 1))
            case measure => omega
            case rel => exact ⟨c + 1, (bf, bv, bc), by omega, by omega, by go_num, ⟨by rw [← HBE.out, HB1.out]; rfl⟩, HBV, C10, C8, C4, HBW⟩
          | false =>
            obtain ⟨LF, hLF⟩ : ∃ LF, LF = leavF (c : Int) l0_1 l0_1.length := ⟨_, rfl⟩
            have HLF := Aside0.mk hLF
            have HWA : Aside0 (worstAt l0_1 kk c = (((failedN ((sortedF l0_1 LF).take kk) : Nat) : Int), sumF l0_1 ((sortedF l0_1 LF).drop kk), (c : Int))) := ⟨by rw [hLF]; rfl⟩
            have HLL : Aside0 (LF.length ≤ 40) := ⟨by rw [hLF]; exact Nat.le_trans (leavF_length _ _ _) hl⟩
            clear hLF
            have y40 : wr.cell? ⟨g4, 0, none⟩ = some (.int .i64 n) := (blk_cell C4.out 0).trans rfl
            have y41 : wr.cell? ⟨g4, 1, none⟩ = some (.slice A0_1 l0_1.length c0_1) := (blk_cell C4.out 1).trans rfl
            go_wp2_with (first | (go_at_call 85; refine (leaving_calls n c l0_1 A0_1 c0_1 wr).mono ?_; rintro e w8 ⟨gn, gs, rfl, hbn, hbs, hb8⟩; have BN8 := Aside0.mk hbn; have BS8 := Aside0.mk hbs; have HB8 := Aside0.mk (below_step HBW.out hb8); have C108 := Aside0.mk (blk_below C10.out hb8); have C88 := Aside0.mk (blk_below C8.out hb8); have C48 := Aside0.mk (blk_below C4.out hb8); clear hbn hbs hb8 y40 y41) | (go_at_call 84; refine (collect_calls gn gs n c l0_1 A0_1 c0_1 w8 HVB.out (by omega) (by have := HP2.out; omega) BN8.out BS8.out (Kd.C_below HR.out HB8.out)).mono ?_; rintro e w9 ⟨v9, rfl, hrow, hnil, hb9⟩; rw [← HLF.out] at hrow hnil; replace hrow := own_weaken hrow (Nat.le_succ w8.heap.size); have HB9 := Aside0.mk (below_step HB8.out hb9); have C109 := Aside0.mk (blk_below C108.out hb9); have C89 := Aside0.mk (blk_below C88.out hb9); have C49 := Aside0.mk (blk_below C48.out hb9); obtain ⟨Av, cv, hv9, hsort⟩ := sort_any n l0_1 A0_1 c0_1 g4 LF v9 w8.heap.size w9 C49.out (Kd.C_below HR.out HB9.out) HCAP.out hrow hnil hb9.size (fun ad ea h0 => by have := hAlt.out ad ea h0; have := HB8.out.size; omega) HLL.out; have HSO := Aside0.mk hsort; clear hrow hnil hb9 hsort; subst hv9) | (go_at_call 86; refine HSO.out.mono ?_; rintro e w10 ⟨rfl, hrd, x, hx, hbx⟩; have HRD := Aside0.mk hrd; have HB10 := Aside0.mk (HB9.out.trans (hbx.below HB9.out.size (by have := HB8.out.size; omega))); have C1010 := Aside0.mk (hbx.blk C109.out (blk_lt C109.out) (by have := blk_lt C108.out; omega)); have C810 := Aside0.mk (hbx.blk C89.out (blk_lt C89.out) (by have := blk_lt C88.out; omega)); have C410 := Aside0.mk (hbx.blk C49.out (blk_lt C49.out) (by have := blk_lt C48.out; omega)); clear hrd hx hbx) | ((with_reducible refine gate_dst (N := 13) rfl ?_); refine box_event ?hg (N := 13) ?hd (cs := #[.int .i64 0, .int .i64 0, .int .i64 0]) (t := 53) ?hr ?_; (case hd => rfl); (case hg => rfl); (case hr => first | (go_simp; done) | (go_simp; rfl)); intro g13 hg13 w11 hbox hb; have G13 := Aside0.mk (Nat.le_trans HB10.out.size (Nat.le_of_eq hg13.symm)); have C13 := Aside0.mk hbox; have C1011 := Aside0.mk (blk_below C1010.out hb); have C811 := Aside0.mk (blk_below C810.out hb); have C411 := Aside0.mk (blk_below C410.out hb); have HB11 := Aside0.mk (below_step HB10.out hb); have NN13 := Aside0.mk (show g10 ≠ g13 ∧ g8 ≠ g13 ∧ g4 ≠ g13 from ⟨by rw [hg13]; exact Nat.ne_of_lt (blk_lt C1010.out), by rw [hg13]; exact Nat.ne_of_lt (blk_lt C810.out), by rw [hg13]; exact Nat.ne_of_lt (blk_lt C410.out)⟩); have HW11 := Aside0.mk hb; have G1310 := Aside0.mk (Nat.le_of_eq hg13.symm); have e0 : w11.cell? ⟨g13, 0, none⟩ = some (.int .i64 0) := (blk_cell hbox 0).trans rfl; have e1 : w11.cell? ⟨g13, 1, none⟩ = some (.int .i64 0) := (blk_cell hbox 1).trans rfl; have e2 : w11.cell? ⟨g13, 2, none⟩ = some (.int .i64 0) := (blk_cell hbox 2).trans rfl; have f0 := blk_frozen hbox 0; have f1 := blk_frozen hbox 1; have f2 := blk_frozen hbox 2; clear hbox hb hg13))
            obtain ⟨Ls, hLs⟩ : ∃ Ls, Ls = sortedF l0_1 LF := ⟨_, rfl⟩
            rw [← hLs] at HWA HRD
            have HLS : Aside0 (Ls.length = LF.length) := ⟨by rw [hLs, sortedF_length]⟩
            clear hLs
            go_loopg [57] LF.length (fun gg v57 wq => ∃ j : Nat, j ≤ LF.length ∧ LF.length - j ≤ gg ∧ v57 = .int .i64 j ∧ Aside0 (wq.heap[g13]? = some (.cells #[.int .i64 ((failedN ((Ls.take j).take kk) : Nat) : Int), .int .i64 (sumF l0_1 ((Ls.take j).drop kk)), .int .i64 c] 53 (0, 0))) ∧ Aside0 (Below w10.heap.size w10 wq))
            case atStart => exact ⟨0, Nat.zero_le _, by omega, rfl, ⟨by simp only [List.take_zero, List.take_nil, List.drop_nil]; exact put3 C13.out _ _ _⟩, ⟨below_set (below_set (below_set HW11.out G1310.out) G1310.out) G1310.out⟩⟩
            case round =>
              obtain ⟨j, hj, hgj, rfl, D13, HK⟩ := hrel
              by_cases hjl : j < LF.length
              · have hjz : (j : Int) < (LF.length : Int) := by omega
                have hj40 : j < 40 := by have := HLL.out; omega
                have hjL : j < Ls.length := by rw [HLS.out]; exact hjl
                obtain ⟨ad, ea, hx⟩ := HRD.out j hjL
                cases ea
                replace hx := (HK.out.cell (World.block_lt_of_cell? w10 _ hx)).trans hx
                have hev := Ls[j].isLt
                have HTK : Aside0 (Ls.take (j + 1) = Ls.take j ++ [Ls[j]]) := ⟨by rw [List.take_succ_eq_append_getElem hjL]⟩
                have HTL : Aside0 ((Ls.take j).length = j) := ⟨by rw [List.length_take]; omega⟩
                have HCE := Aside0.mk (HCAP.out Ls[j].val Ls[j].isLt)
                obtain ⟨ex, hex⟩ : ∃ ex, ex = Ls[j] := ⟨_, rfl⟩
                rw [← hex] at hx hev HTK HCE
                clear hex
                obtain ⟨FN, hFN⟩ : ∃ FN, FN = failedN ((Ls.take j).take kk) := ⟨_, rfl⟩
                obtain ⟨RS, hRS⟩ : ∃ RS, RS = sumF l0_1 ((Ls.take j).drop kk) := ⟨_, rfl⟩
                rw [← hFN, ← hRS] at D13
                have HFN := Aside0.mk hFN
                have HRS := Aside0.mk hRS
                have HFB : Aside0 (FN < 1099511627776) := ⟨by rw [hFN]; exact failedN_lt hl _⟩
                have HRB : Aside0 (0 ≤ RS ∧ RS ≤ 400000) := ⟨by have hb := sumF_bound l0_1 HCAP.out ((Ls.take j).drop kk); rw [← hRS] at hb; have hlen : ((Ls.take j).drop kk).length ≤ 40 := (by have := HTL.out; have := HLL.out; simp only [List.length_drop]; omega); omega⟩
                clear hFN hRS
                by_cases hk : j < kk
                · have hkz : (j : Int) < (kk : Int) := by omega
                  have y0 : wr.cell? ⟨g13, 0, none⟩ = some (.int .i64 FN) := (blk_cell D13.out 0).trans rfl
                  go_wp2
                  go_still_tail 6, (by kernel_rfl)
                  change wpList _ _ _ _ _ wr.drew
                  have D12 := Aside0.mk (blk_drew D13.out)
                  have HK12 := Aside0.mk (below_drew1 HK.out)
                  clear y0
                  generalize wr.drew = w12 at D12 HK12 ⊢
                  have z0 : w12.cell? ⟨g13, 0, none⟩ = some (.int .i64 FN) := (blk_cell D12.out 0).trans rfl
                  have z0f := blk_frozen D12.out 0
                  go_wp2
                  go_roundg (LF.length - (j + 1))
                  case measure => omega
                  case rel =>
                    refine ⟨j + 1, by omega, by omega, by go_num, ⟨?_⟩, ⟨below_set HK12.out G1310.out⟩⟩
                    have tk := take_lt (Ls.take j) ex kk (by rw [HTL.out]; exact hk)
                    rw [HTK.out, tk.1, tk.2, failedN_snoc, ← HFN.out, ← HRS.out, or_two FN ex.val HFB.out (by omega)]
                    exact blk_put (cs := #[.int .i64 (FN : Int), .int .i64 RS, .int .i64 c]) D12.out 0 _ rfl
                · have hkz : ¬ (j : Int) < (kk : Int) := by omega
                  have y1 : wr.cell? ⟨g13, 1, none⟩ = some (.int .i64 RS) := (blk_cell D13.out 1).trans rfl
                  have y4 : wr.cell? ⟨g4, 1, none⟩ = some (.slice A0_1 l0_1.length c0_1) := (blk_cell (blk_below C410.out HK.out) 1).trans rfl
                  obtain ⟨ad2, ea2, _, _, hx2⟩ := at_T72 (Kd.C_below HR.out (below_step HB10.out HK.out)) (ex.val : Int) (by omega) (by omega)
                  cases ea2
                  simp only [Int.toNat_natCast] at hx2
                  obtain ⟨cx, hcx⟩ : ∃ cx, cx = (rd_T72 l0_1 (ex.val : Int)).f2 := ⟨_, rfl⟩
                  rw [← hcx] at hx2 HCE
                  have HCX := Aside0.mk hcx
                  clear hcx
                  go_wp2
                  go_still_tail 10, (by kernel_rfl)
                  change wpList _ _ _ _ _ wr.drew
                  have D12 := Aside0.mk (blk_drew D13.out)
                  have HK12 := Aside0.mk (below_drew1 HK.out)
                  have w4 : wr.drew.cell? ⟨g4, 1, none⟩ = some (.slice (some ad2) l0_1.length c0_1) := y4
                  have w5 := hx2
                  clear y1 y4 hx2
                  replace w5 : wr.drew.cell? _ = _ := w5
                  generalize wr.drew = w12 at D12 HK12 w4 w5 ⊢
                  have z1 : w12.cell? ⟨g13, 1, none⟩ = some (.int .i64 RS) := (blk_cell D12.out 1).trans rfl
                  have z1f := blk_frozen D12.out 1
                  go_wp2
                  go_roundg (LF.length - (j + 1))
                  case measure => omega
                  case rel =>
                    refine ⟨j + 1, by omega, by omega, by go_num, ⟨?_⟩, ⟨below_set HK12.out G1310.out⟩⟩
                    have tk := take_ge (Ls.take j) ex kk (by rw [HTL.out]; omega)
                    rw [HTK.out, tk.1, tk.2, sumF_snoc, ← HFN.out, ← HRS.out, ← HCX.out]
                    rw [wrap64_small (x := RS + cx) (by have := HRB.out; have := HCE.out; omega) (by have := HRB.out; have := HCE.out; omega)]
                    exact blk_put (cs := #[.int .i64 (FN : Int), .int .i64 RS, .int .i64 c]) D12.out 1 _ rfl
              · obtain rfl : j = LF.length := by omega
                have eT : Ls.take LF.length = Ls := by rw [← HLS.out, List.take_length]
                rw [eT] at D13
                clear eT
                obtain ⟨FN, hFN⟩ : ∃ FN : Int, FN = ((failedN (Ls.take kk) : Nat) : Int) := ⟨_, rfl⟩
                obtain ⟨RS, hRS⟩ : ∃ RS, RS = sumF l0_1 (Ls.drop kk) := ⟨_, rfl⟩
                have HRB : Aside0 (0 ≤ RS ∧ RS ≤ 400000) := ⟨by have hb := sumF_bound l0_1 HCAP.out (Ls.drop kk); rw [← hRS] at hb; have hlen : (Ls.drop kk).length ≤ 40 := (by have := HLS.out; have := HLL.out; simp only [List.length_drop]; omega); omega⟩
                rw [← hFN, ← hRS] at D13 HWA
                clear hFN hRS
                have HBB : Aside0 (betterB (bf, bv, bc) (worstAt l0_1 kk c) = (decide (bv < 0) || decide (RS < bv))) := ⟨by rw [HWA.out]; rfl⟩
                have D10 := Aside0.mk (blk_below C1010.out HK.out)
                have D8 := Aside0.mk (blk_below C810.out HK.out)
                have D4 := Aside0.mk (blk_below C410.out HK.out)
                have HBK := Aside0.mk (below_step HB10.out HK.out)
                have y10 : wr.cell? ⟨g10, 0, none⟩ = some (.int .i64 bf) := (blk_cell D10.out 0).trans rfl
                have y11 : wr.cell? ⟨g10, 1, none⟩ = some (.int .i64 bv) := (blk_cell D10.out 1).trans rfl
                have y12 : wr.cell? ⟨g10, 2, none⟩ = some (.int .i64 bc) := (blk_cell D10.out 2).trans rfl
                have f10 := blk_frozen D10.out 0
                have f11 := blk_frozen D10.out 1
                have f12 := blk_frozen D10.out 2
                have y13 : wr.cell? ⟨g13, 0, none⟩ = some (.int .i64 FN) := (blk_cell D13.out 0).trans rfl
                have y14 : wr.cell? ⟨g13, 1, none⟩ = some (.int .i64 RS) := (blk_cell D13.out 1).trans rfl
                have y15 : wr.cell? ⟨g13, 2, none⟩ = some (.int .i64 c) := (blk_cell D13.out 2).trans rfl
                by_cases hneg : bv < 0
                · go_wp2
                  go_roundg (TN - (c + 1))
                  case measure => omega
                  case rel => exact ⟨c + 1, (FN, RS, (c : Int)), by omega, by omega, by go_num, ⟨by rw [← HBE.out, HB1.out, if_pos (show (true && !false) = true from rfl), if_pos (by rw [HBB.out]; simp [hneg]), HWA.out]⟩, ⟨⟨by have := HRB.out; show -1 ≤ RS; omega, HRB.out.2⟩⟩, ⟨put3 D10.out _ _ _⟩, ⟨blk_far (blk_far (blk_far D8.out N810.out _) N810.out _) N810.out _⟩, ⟨blk_far (blk_far (blk_far D4.out N410.out _) N410.out _) N410.out _⟩, ⟨below_set (below_set (below_set HBK.out G10.out) G10.out) G10.out⟩⟩
                · by_cases hless : RS < bv
                  · go_wp2
                    go_roundg (TN - (c + 1))
                    case measure => omega
                    case rel => exact ⟨c + 1, (FN, RS, (c : Int)), by omega, by omega, by go_num, ⟨by rw [← HBE.out, HB1.out, if_pos (show (true && !false) = true from rfl), if_pos (by rw [HBB.out]; simp [hless]), HWA.out]⟩, ⟨⟨by have := HRB.out; show -1 ≤ RS; omega, HRB.out.2⟩⟩, ⟨put3 D10.out _ _ _⟩, ⟨blk_far (blk_far (blk_far D8.out N810.out _) N810.out _) N810.out _⟩, ⟨blk_far (blk_far (blk_far D4.out N410.out _) N410.out _) N410.out _⟩, ⟨below_set (below_set (below_set HBK.out G10.out) G10.out) G10.out⟩⟩
                  · go_wp2
                    go_roundg (TN - (c + 1))
                    case measure => omega
                    case rel => exact ⟨c + 1, (bf, bv, bc), by omega, by omega, by go_num, ⟨by rw [← HBE.out, HB1.out, if_pos (show (true && !false) = true from rfl), if_neg (by rw [HBB.out]; simp [hneg, hless])]⟩, HBV, D10, D8, D4, HBK⟩
      · obtain rfl : c = TN := by omega
        have hltP : ¬ (c : Int) < PP := by rw [HPP.out]; omega
        have hb := HBE.out
        rw [Nat.sub_self, bestF] at hb
        rw [← hb] at HF
        obtain ⟨rfl, rfl, rfl, rfl⟩ := HF.out
        have y10 : wr.cell? ⟨g10, 0, none⟩ = some (.int .i64 bf) := (blk_cell C10.out 0).trans rfl
        have y11 : wr.cell? ⟨g10, 1, none⟩ = some (.int .i64 bv) := (blk_cell C10.out 1).trans rfl
        have y12 : wr.cell? ⟨g10, 2, none⟩ = some (.int .i64 bc) := (blk_cell C10.out 2).trans rfl
        have e0 : wr.cell? ⟨g8, 0, none⟩ = some (.int .i64 0) := (blk_cell C8.out 0).trans rfl
        have e1 : wr.cell? ⟨g8, 1, none⟩ = some (.int .i64 0) := (blk_cell C8.out 1).trans rfl
        have e2 : wr.cell? ⟨g8, 2, none⟩ = some (.int .i64 0) := (blk_cell C8.out 2).trans rfl
        have f0 := blk_frozen C8.out 0
        have f1 := blk_frozen C8.out 1
        have f2 := blk_frozen C8.out 2
        clear hb
        go_wp2
        refine bodyPost_ret (results_ct rfl _ _ g8 53 #[.int .i64 bf, .int .i64 bv, .int .i64 bc] (0, 0) _ rfl (put3 C8.out _ _ _) Try.underlying53 rfl (by kernel_rfl)) rfl ?_
        exact ⟨rfl, below_set (below_set (below_set HBW.out G8.out) G8.out) G8.out⟩
  · rw [if_neg hg] at h
    simp only [Option.some.injEq, Prod.mk.injEq] at h
    obtain ⟨rfl, rfl, rfl, rfl⟩ := h
    cases hp : pairB a0_0 l0_1 a1 a2 with
    | false =>
      rw [hp] at P
      clear hg hp PK
      go_enter Try.func41, Try.ntmps41
      go_wp2_with (first | ((with_reducible refine gate_dst (N := 4) rfl ?_); refine box_event ?hg (N := 4) ?hd (cs := #[.int .i64 a0_0, .slice A0_1 l0_1.length c0_1]) (t := 26) ?hr ?_; (case hd => rfl); (case hg => rfl); (case hr => first | (go_simp; done) | (go_simp; rfl)); intro g4 hg4 w2 hbox hb; have G4 := Aside0.mk hg4; have B2 := Aside0.mk hbox; have HB2 := Aside0.mk hb; have c0 : w2.cell? ⟨g4, 0, none⟩ = some (.int .i64 a0_0) := (blk_cell hbox 0).trans rfl; have c1 : w2.cell? ⟨g4, 1, none⟩ = some (.slice A0_1 l0_1.length c0_1) := (blk_cell hbox 1).trans rfl; clear hbox hb hg4) | ((with_reducible refine gate_dst (N := 8) rfl ?_); refine box_event ?hg (N := 8) ?hd (cs := #[.int .i64 0, .int .i64 0, .int .i64 0]) (t := 53) ?hr ?_; (case hd => rfl); (case hg => rfl); (case hr => first | (go_simp; done) | (go_simp; rfl)); intro g8 hg8 w4 hbox hb; have G8 := Aside0.mk (Nat.le_trans HB2.out.size (Nat.le_of_eq hg8.symm)); have B4 := Aside0.mk hbox; have B44 := Aside0.mk (blk_below B2.out hb); have HB4 := Aside0.mk (below_step HB2.out hb); have d0 : w4.cell? ⟨g4, 0, none⟩ = some (.int .i64 a0_0) := (blk_cell (blk_below B2.out hb) 0).trans rfl; have d1 : w4.cell? ⟨g4, 1, none⟩ = some (.slice A0_1 l0_1.length c0_1) := (blk_cell (blk_below B2.out hb) 1).trans rfl; clear hbox hb hg8 c0 c1) | (go_at_call 73; refine (flow_isPair.calls a0_0 A0_1 c0_1 l0_1 a1 a2 false w4 (Kd.C_below HR.out HB4.out) HL.out P.out).mono ?_; rintro e w5 ⟨rfl, hb5⟩; have HB5 := Aside0.mk (below_step HB4.out hb5); have B5 := Aside0.mk (blk_below B4.out hb5); have e0 : w5.cell? ⟨g8, 0, none⟩ = some (.int .i64 0) := (blk_cell B5.out 0).trans rfl; have e1 : w5.cell? ⟨g8, 1, none⟩ = some (.int .i64 0) := (blk_cell B5.out 1).trans rfl; have e2 : w5.cell? ⟨g8, 2, none⟩ = some (.int .i64 0) := (blk_cell B5.out 2).trans rfl; have f0 := blk_frozen B5.out 0; have f1 := blk_frozen B5.out 1; have f2 := blk_frozen B5.out 2; clear hb5 d0 d1))
      refine bodyPost_ret (results_ct rfl _ _ g8 53 #[.int .i64 0, .int .i64 0, .int .i64 0] (0, 0) _ rfl (put3 B5.out _ _ _) Try.underlying53 rfl (by kernel_rfl)) rfl ?_
      exact ⟨rfl, below_set (below_set (below_set HB5.out G8.out) G8.out) G8.out⟩
    | true =>
      rw [hp] at P hg
      rw [Bool.true_and] at hg
      rw [Bool.eq_false_iff.mpr hg] at PK
      clear hg hp
      go_enter Try.func41, Try.ntmps41
      go_wp2_with (first | ((with_reducible refine gate_dst (N := 4) rfl ?_); refine box_event ?hg (N := 4) ?hd (cs := #[.int .i64 a0_0, .slice A0_1 l0_1.length c0_1]) (t := 26) ?hr ?_; (case hd => rfl); (case hg => rfl); (case hr => first | (go_simp; done) | (go_simp; rfl)); intro g4 hg4 w2 hbox hb; have G4 := Aside0.mk hg4; have B2 := Aside0.mk hbox; have HB2 := Aside0.mk hb; have c0 : w2.cell? ⟨g4, 0, none⟩ = some (.int .i64 a0_0) := (blk_cell hbox 0).trans rfl; have c1 : w2.cell? ⟨g4, 1, none⟩ = some (.slice A0_1 l0_1.length c0_1) := (blk_cell hbox 1).trans rfl; clear hbox hb hg4) | ((with_reducible refine gate_dst (N := 8) rfl ?_); refine box_event ?hg (N := 8) ?hd (cs := #[.int .i64 0, .int .i64 0, .int .i64 0]) (t := 53) ?hr ?_; (case hd => rfl); (case hg => rfl); (case hr => first | (go_simp; done) | (go_simp; rfl)); intro g8 hg8 w4 hbox hb; have G8 := Aside0.mk (Nat.le_trans HB2.out.size (Nat.le_of_eq hg8.symm)); have B4 := Aside0.mk hbox; have B44 := Aside0.mk (blk_below B2.out hb); have HB4 := Aside0.mk (below_step HB2.out hb); have d0 : w4.cell? ⟨g4, 0, none⟩ = some (.int .i64 a0_0) := (blk_cell (blk_below B2.out hb) 0).trans rfl; have d1 : w4.cell? ⟨g4, 1, none⟩ = some (.slice A0_1 l0_1.length c0_1) := (blk_cell (blk_below B2.out hb) 1).trans rfl; clear hbox hb hg8 c0 c1) | (go_at_call 73; refine (flow_isPair.calls a0_0 A0_1 c0_1 l0_1 a1 a2 true w4 (Kd.C_below HR.out HB4.out) HL.out P.out).mono ?_; rintro e w5 ⟨rfl, hb5⟩; have HB5 := Aside0.mk (below_step HB4.out hb5); have B5 := Aside0.mk (blk_below B4.out hb5); clear hb5 d0 d1) | (go_at_call 69; refine (flow_isIn.calls a3 0 3 false w5 PK.out).mono ?_; rintro e w6 ⟨rfl, q6, rfl⟩; have HB6 := Aside0.mk (pw_below_drewN HB5.out q6); have B6 := Aside0.mk (blk_drewN B5.out q6); have e0 : (w5.drewN q6).cell? ⟨g8, 0, none⟩ = some (.int .i64 0) := (blk_cell B6.out 0).trans rfl; have e1 : (w5.drewN q6).cell? ⟨g8, 1, none⟩ = some (.int .i64 0) := (blk_cell B6.out 1).trans rfl; have e2 : (w5.drewN q6).cell? ⟨g8, 2, none⟩ = some (.int .i64 0) := (blk_cell B6.out 2).trans rfl; have f0 := blk_frozen B6.out 0; have f1 := blk_frozen B6.out 1; have f2 := blk_frozen B6.out 2; generalize w5.drewN q6 = w6 at HB6 B6 e0 e1 e2 f0 f1 f2 ⊢))
      refine bodyPost_ret (results_ct rfl _ _ g8 53 #[.int .i64 0, .int .i64 0, .int .i64 0] (0, 0) _ rfl (put3 B6.out _ _ _) Try.underlying53 rfl (by kernel_rfl)) rfl ?_
      exact ⟨rfl, below_set (below_set (below_set HB6.out G8.out) G8.out) G8.out⟩
end Go.Proofs.Ytkkakdpncogpkaa.D
end
