/- Parts of the proof of a law about flows (see the law's own text): M3. Conditions: each theorem's own. -/
import Derived.Test.YtkkakdpncogpkaaBase10
section
namespace Go.Proofs.Ytkkakdpncogpkaa.D
open Go.RowKit Go.Proofs.YtkkakdpncogpkaaW.PrintWords Go.Proofs.YtkkakdpncogpkaaW.PrintLast Go.Proofs.YtkkakdpncogpkaaW.PrintMore
set_option linter.unusedVariables false
set_option linter.unusedSimpArgs false

set_option maxRecDepth 100000 in
set_option maxHeartbeats 4000000 in
theorem along110_calls (c1 c2 : Value) (J : List (Int × Int) → World → Prop) (last : List Int) (s t : Nat) (gt gs gl : Nat) (path : List (Int × Int)) (hlen : last.length = 14) (hlast : ∀ i : Nat, i < 14 → rd last i ≤ 14) (ht : t < 14)
    (hp : way last s 14 t = some path)
    (hJ : ∀ pre W, J pre W → W.cell? ⟨gt, 0, none⟩ = some (.int .i64 t) ∧ W.cell? ⟨gs, 0, none⟩ = some (.int .i64 s) ∧ W.heap[gl]? = some (.cells (cellsI last) 135 (0, 0)))
    (hstep : ∀ (pre : List (Int × Int)) (a b : Nat) W, J pre W → a < 14 → b < 14 → Calls Try.prog 110 #[.int .i64 a, .int .i64 b, c1, c2] W fun e W' => (∃ v, e = .returned v) ∧ J (pre ++ [((a : Int), (b : Int))]) W')
    (W : World) (h0 : J [] W) :
    Calls Try.prog 109 #[.func (.func 110) #[] #[c1, c2], .pointer (some ⟨gt, 0, none⟩), .pointer (some ⟨gs, 0, none⟩), .pointer (some ⟨gl, 0, none⟩)] W fun e W' => (∃ v, e = .returned v) ∧ J path W' := by
  have HJ := Aside0.mk hJ
  have HS := Aside0.mk hstep
  have HL := Aside0.mk hlast
  have HP := Aside0.mk hp
  obtain ⟨y0, _, _⟩ := hJ [] W h0
  have H0 := Aside0.mk h0
  have eg : ∀ args w, (callFunc 110 args).run Try.prog w = .ok (.enter 110 args) w := fun args w => enters_ Try.func110 (by kernel_rfl) rfl args w
  clear hJ hstep hlast hp h0
  go_enter Try.func109, Try.ntmps109
  go_wp2
  clear y0
  go_loopg [5] 14 (fun gg v5 wr => ∃ (k x : Nat) (pre suf : List (Int × Int)), k ≤ gg ∧ x < 14 ∧ v5 = .int .i64 x ∧ Aside0 (way last s k x = some suf) ∧ Aside0 (pre ++ suf = path) ∧ Aside0 (J pre wr))
  case atStart => exact ⟨14, t, [], path, Nat.le_refl _, ht, rfl, HP, ⟨rfl⟩, H0⟩
  case round =>
    obtain ⟨k, x, pre, suf, hk, hx, rfl, HW, HPS, HJJ⟩ := hrel
    obtain ⟨y0, y1, hl⟩ := HJ.out pre wr HJJ.out
    have y2 : wr.cell? ⟨gl, x, none⟩ = some (.int .i64 (last.getD x 0)) := row_cell hl x (by rw [hlen]; exact hx)
    clear hl
    have hx14 : (x : Int) < 14 := by omega
    by_cases hxs : (x : Int) = s
    · have hw := HW.out
      have e : suf = [] := by cases k <;> (unfold way at hw; rw [if_pos hxs] at hw; exact (Option.some.inj hw).symm)
      subst e
      have e2 : ((x : Int) != (s : Int)) = false := by simp [hxs]
      have hps := HPS.out
      rw [List.append_nil] at hps
      subst hps
      go_wp2
      go_end0
      exact ⟨⟨_, rfl⟩, HJJ.out⟩
    · have hw := HW.out
      have e2 : ((x : Int) != (s : Int)) = true := by simp [hxs]
      cases k with
      | zero => unfold way at hw; rw [if_neg hxs] at hw; exact absurd hw (by simp)
      | succ k =>
        unfold way at hw
        rw [if_neg hxs] at hw
        by_cases hpos : rd last x ≤ 0
        · rw [if_pos hpos] at hw; exact absurd hw (by simp)
        · rw [if_neg hpos] at hw
          obtain ⟨suf', hw', rfl⟩ := Option.map_eq_some_iff.mp hw
          have hb := HL.out x hx
          have er : rd last x = last.getD x 0 := by simp [rd]
          rw [er] at hw' HPS hb hpos
          generalize hgl : last.getD x 0 = lx at y2 hw' HPS hb hpos
          have HGL := Aside0.mk hgl
          clear hgl
          obtain ⟨p, hpp⟩ := Int.eq_ofNat_of_zero_le (show 0 ≤ lx - 1 by omega)
          obtain rfl : lx = (p : Int) + 1 := by omega
          have hp14 : p < 14 := by omega
          have ep : ((p : Int) + 1 - 1) = p := by omega
          rw [ep] at hw' HPS
          have ew : wrap64 ((p : Int) + 1 - 1) = p := by unfold wrap64; omega
          have ew2 : IntKind.i64.wrap ((p : Int) + 1 - 1) = p := by rw [i64_w]; exact ew
          have HC := Aside0.mk (HS.out pre p x wr HJJ.out hp14 hx)
          have HW' := Aside0.mk hw'
          clear hw hw' HW hpos hb hpp
          clear ep
          go_wp2_with (go_at_call 110; refine HC.out.mono ?_; rintro e w' ⟨⟨v, rfl⟩, hj⟩; have HJ2 := Aside0.mk hj; obtain ⟨_, _, hl⟩ := HJ.out _ w' hj; have y3 : w'.cell? ⟨gl, x, none⟩ = some (.int .i64 ((p : Int) + 1)) := (row_cell hl x (by rw [hlen]; exact hx)).trans (by rw [HGL.out]); clear hl hj)
          go_roundg k
          case measure => omega
          case rel => exact ⟨k, p, pre ++ [((p : Int), (x : Int))], suf', Nat.le_refl _, hp14, rfl, HW', ⟨by rw [← HPS.out]; simp⟩, HJ2⟩

set_option maxRecDepth 100000 in
set_option maxHeartbeats 4000000 in
theorem along111_calls (c1 c2 : Value) (J : List (Int × Int) → World → Prop) (last : List Int) (s t : Nat) (gt gs gl : Nat) (path : List (Int × Int)) (hlen : last.length = 14) (hlast : ∀ i : Nat, i < 14 → rd last i ≤ 14) (ht : t < 14)
    (hp : way last s 14 t = some path)
    (hJ : ∀ pre W, J pre W → W.cell? ⟨gt, 0, none⟩ = some (.int .i64 t) ∧ W.cell? ⟨gs, 0, none⟩ = some (.int .i64 s) ∧ W.heap[gl]? = some (.cells (cellsI last) 135 (0, 0)))
    (hstep : ∀ (pre : List (Int × Int)) (a b : Nat) W, J pre W → a < 14 → b < 14 → Calls Try.prog 111 #[.int .i64 a, .int .i64 b, c1, c2] W fun e W' => (∃ v, e = .returned v) ∧ J (pre ++ [((a : Int), (b : Int))]) W')
    (W : World) (h0 : J [] W) :
    Calls Try.prog 109 #[.func (.func 111) #[] #[c1, c2], .pointer (some ⟨gt, 0, none⟩), .pointer (some ⟨gs, 0, none⟩), .pointer (some ⟨gl, 0, none⟩)] W fun e W' => (∃ v, e = .returned v) ∧ J path W' := by
  have HJ := Aside0.mk hJ
  have HS := Aside0.mk hstep
  have HL := Aside0.mk hlast
  have HP := Aside0.mk hp
  obtain ⟨y0, _, _⟩ := hJ [] W h0
  have H0 := Aside0.mk h0
  have eg : ∀ args w, (callFunc 111 args).run Try.prog w = .ok (.enter 111 args) w := fun args w => enters_ Try.func111 (by kernel_rfl) rfl args w
  clear hJ hstep hlast hp h0
  go_enter Try.func109, Try.ntmps109
  go_wp2
  clear y0
  go_loopg [5] 14 (fun gg v5 wr => ∃ (k x : Nat) (pre suf : List (Int × Int)), k ≤ gg ∧ x < 14 ∧ v5 = .int .i64 x ∧ Aside0 (way last s k x = some suf) ∧ Aside0 (pre ++ suf = path) ∧ Aside0 (J pre wr))
  case atStart => exact ⟨14, t, [], path, Nat.le_refl _, ht, rfl, HP, ⟨rfl⟩, H0⟩
  case round =>
    obtain ⟨k, x, pre, suf, hk, hx, rfl, HW, HPS, HJJ⟩ := hrel
    obtain ⟨y0, y1, hl⟩ := HJ.out pre wr HJJ.out
    have y2 : wr.cell? ⟨gl, x, none⟩ = some (.int .i64 (last.getD x 0)) := row_cell hl x (by rw [hlen]; exact hx)
    clear hl
    have hx14 : (x : Int) < 14 := by omega
    by_cases hxs : (x : Int) = s
    · have hw := HW.out
      have e : suf = [] := by cases k <;> (unfold way at hw; rw [if_pos hxs] at hw; exact (Option.some.inj hw).symm)
      subst e
      have e2 : ((x : Int) != (s : Int)) = false := by simp [hxs]
      have hps := HPS.out
      rw [List.append_nil] at hps
      subst hps
      go_wp2
      go_end0
      exact ⟨⟨_, rfl⟩, HJJ.out⟩
    · have hw := HW.out
      have e2 : ((x : Int) != (s : Int)) = true := by simp [hxs]
      cases k with
      | zero => unfold way at hw; rw [if_neg hxs] at hw; exact absurd hw (by simp)
      | succ k =>
        unfold way at hw
        rw [if_neg hxs] at hw
        by_cases hpos : rd last x ≤ 0
        · rw [if_pos hpos] at hw; exact absurd hw (by simp)
        · rw [if_neg hpos] at hw
          obtain ⟨suf', hw', rfl⟩ := Option.map_eq_some_iff.mp hw
          have hb := HL.out x hx
          have er : rd last x = last.getD x 0 := by simp [rd]
          rw [er] at hw' HPS hb hpos
          generalize hgl : last.getD x 0 = lx at y2 hw' HPS hb hpos
          have HGL := Aside0.mk hgl
          clear hgl
          obtain ⟨p, hpp⟩ := Int.eq_ofNat_of_zero_le (show 0 ≤ lx - 1 by omega)
          obtain rfl : lx = (p : Int) + 1 := by omega
          have hp14 : p < 14 := by omega
          have ep : ((p : Int) + 1 - 1) = p := by omega
          rw [ep] at hw' HPS
          have ew : wrap64 ((p : Int) + 1 - 1) = p := by unfold wrap64; omega
          have ew2 : IntKind.i64.wrap ((p : Int) + 1 - 1) = p := by rw [i64_w]; exact ew
          have HC := Aside0.mk (HS.out pre p x wr HJJ.out hp14 hx)
          have HW' := Aside0.mk hw'
          clear hw hw' HW hpos hb hpp
          clear ep
          go_wp2_with (go_at_call 111; refine HC.out.mono ?_; rintro e w' ⟨⟨v, rfl⟩, hj⟩; have HJ2 := Aside0.mk hj; obtain ⟨_, _, hl⟩ := HJ.out _ w' hj; have y3 : w'.cell? ⟨gl, x, none⟩ = some (.int .i64 ((p : Int) + 1)) := (row_cell hl x (by rw [hlen]; exact hx)).trans (by rw [HGL.out]); clear hl hj)
          go_roundg k
          case measure => omega
          case rel => exact ⟨k, p, pre ++ [((p : Int), (x : Int))], suf', Nat.le_refl _, hp14, rfl, HW', ⟨by rw [← HPS.out]; simp⟩, HJ2⟩
end Go.Proofs.Ytkkakdpncogpkaa.D
end
