/- Parts of the proof of a law about flows (see the law's own text): HSortNil. Conditions: each theorem's own. -/
import Derived.Test.YtkkakdpncogpkaaBase24
section
/- slices.SortFunc at a nil slice. Conditions: none. -/
namespace Go.Proofs.Ytkkakdpncogpkaa.D
open Go.RowKit Go.Proofs.YtkkakdpncogpkaaW.PrintWords Go.Proofs.YtkkakdpncogpkaaW.PrintLast Go.Proofs.YtkkakdpncogpkaaW.PrintMore
set_option linter.unusedVariables false
set_option linter.unusedSimpArgs false
set_option maxRecDepth 100000 in
set_option maxHeartbeats 4000000 in
theorem ins_nil (f : Value) (w : World) : Calls Try.prog 125 #[.slice none 0 0, .int .i64 0, .int .i64 0, f] w fun e w' => e = .returned (.tuple #[]) ∧ w' = w := by
  go_enter Try.func125, Try.ntmps125
  go_wp2
  go_loopg [8] 1 (fun gg v8 wr => 1 ≤ gg ∧ v8 = .int .i64 1 ∧ wr = w)
  case atStart => exact ⟨by omega, rfl, rfl⟩
  case round =>
    obtain ⟨hg, rfl, rfl⟩ := hrel
    go_wp2
    go_end0
    exact ⟨rfl, rfl⟩
set_option maxRecDepth 100000 in
set_option maxHeartbeats 4000000 in
theorem pdq_nil (f : Value) (w : World) : Calls Try.prog 115 #[.slice none 0 0, .int .i64 0, .int .i64 0, .int .i64 0, f] w fun e w' => e = .returned (.tuple #[]) ∧ w' = w := by
  go_enter Try.func115, Try.ntmps115
  go_wp2
  go_loopg [1, 2] 1 (fun gg v1 v2 wr => 1 ≤ gg ∧ v1 = .int .i64 0 ∧ v2 = .int .i64 0 ∧ wr = w)
  case atStart => exact ⟨by omega, rfl, rfl, rfl⟩
  case round =>
    obtain ⟨hg, rfl, rfl, rfl⟩ := hrel
    go_step
    go_wp2_with (go_at_call 125; refine (ins_nil f _).mono ?_; rintro e w' ⟨rfl, rfl⟩)
    refine bodyPost_ret (results_none rfl _ _ _) rfl ?_
    exact ⟨rfl, rfl⟩
theorem len_zero (w : World) : Calls Try.prog 116 #[.int .u64 0] w fun e w' => e = .returned (.int .i64 0) ∧ w' = w := by
  have h := Any.bits_Len (SlLaysF0.n15.bits (P := Try.prog) (ρ := laysSort_ren) { laysSort with }) 0 w (by omega) (by omega)
  have e : ((Lib.bitLen (0 : Int).toNat : Nat) : Int) = 0 := by decide
  rw [e] at h
  exact h
set_option maxRecDepth 100000 in
set_option maxHeartbeats 4000000 in
theorem sort_nil (f : Value) (w : World) : Calls Try.prog 86 #[.slice none 0 0, f] w fun e w' => e = .returned (.tuple #[]) ∧ w' = w := by
  go_enter Try.func86, Try.ntmps86
  have hl : ∀ w : World, Calls Try.prog 116 #[.int .u64 0] w fun e w' => e = .returned (.int .i64 0) ∧ w' = w := len_zero
  go_wp2_with (first | (go_at_call 116; refine (hl _).mono ?_; rintro e w' ⟨rfl, rfl⟩) | (go_at_call 115; refine (pdq_nil f _).mono ?_; rintro e w' ⟨rfl, rfl⟩))
  go_end0
  exact ⟨rfl, rfl⟩
end Go.Proofs.Ytkkakdpncogpkaa.D
end
