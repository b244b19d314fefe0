/- Parts of the proof of a law about flows (see the law's own text): M2. Conditions: each theorem's own. -/
import Derived.Test.YtkkakdpncogpkaaBase9
section
namespace Go.Proofs.Ytkkakdpncogpkaa.D
open Go.RowKit Go.Proofs.YtkkakdpncogpkaaW.PrintWords Go.Proofs.YtkkakdpncogpkaaW.PrintLast Go.Proofs.YtkkakdpncogpkaaW.PrintMore
set_option linter.unusedVariables false
set_option linter.unusedSimpArgs false

/-- Whatever lies below B stands, but for block x. -/
structure BX (B x : Nat) (w w' : World) : Prop where
  os : w'.os = w.os
  tape : w'.tape = w.tape
  output : w'.output = w.output
  size : w.heap.size ≤ w'.heap.size
  block : ∀ k, k < B → k ≠ x → w'.heap[k]? = w.heap[k]?
theorem BX.of_below {B x : Nat} {w w' : World} (h : Below B w w') : BX B x w w' := ⟨h.os, h.tape, h.output, h.size, fun k hk _ => h.block k hk⟩
theorem BX.refl (B x : Nat) (w : World) : BX B x w w := .of_below (Below.refl _ _)
theorem BX.trans {B x : Nat} {a b c : World} (h : BX B x a b) (k : BX B x b c) : BX B x a c :=
  ⟨k.os.trans h.os, k.tape.trans h.tape, k.output.trans h.output, Nat.le_trans h.size k.size, fun i hi hx => (k.block i hi hx).trans (h.block i hi hx)⟩
theorem BX.mono {B B' x : Nat} {w w' : World} (h : BX B x w w') (hB : B' ≤ B) : BX B' x w w' := ⟨h.os, h.tape, h.output, h.size, fun k hk => h.block k (Nat.lt_of_lt_of_le hk hB)⟩
theorem BX.step {B x : Nat} {a b c : World} (h : BX B x a b) (k : BX b.heap.size x b c) (hB : B ≤ b.heap.size) : BX B x a c := h.trans (k.mono hB)
theorem BX.stepB {B x : Nat} {a b c : World} (h : BX B x a b) (k : Below b.heap.size b c) (hB : B ≤ b.heap.size) : BX B x a c := h.trans ((BX.of_below k).mono hB)
/-- What is changed is either x, or new. -/
theorem BX.set {B x g : Nat} {w W : World} (h : BX B x w W) (hg : g = x ∨ B ≤ g) (j : Nat) (u : Value) : BX B x w (W.setCell ⟨g, j, none⟩ u) :=
  h.trans ⟨rfl, rfl, rfl, by simp [World.setCell], fun k hk hx => Below.heap_setCell _ _ _ _ (by rcases hg with e | e; exact fun e' => hx (e'.trans e); exact fun e' => by dsimp only at e'; omega)⟩
theorem BX.drew {B x : Nat} {w W : World} (h : BX B x w W) : BX B x w W.drew := ⟨h.os, h.tape, h.output, h.size, h.block⟩
theorem BX.drewN {B x : Nat} {w W : World} (h : BX B x w W) (n : Nat) : BX B x w (W.drewN n) := ⟨h.os, h.tape, h.output, h.size, h.block⟩
/-- What is changed is new: nothing elder is changed. -/
theorem BX.below {B B' x : Nat} {w w' : World} (h : BX B x w w') (hB : B' ≤ B) (hx : B' ≤ x) : Below B' w w' := ⟨h.os, h.tape, h.output, h.size, fun k hk => h.block k (by omega) (by omega)⟩
theorem BX.blk {B x : Nat} {W W1 : World} (h : BX B x W W1) {g : Nat} {o : Obj} (hb : W.heap[g]? = some o) (hB : g < B) (hx : g ≠ x) : W1.heap[g]? = some o := (h.block _ hB hx).trans hb
theorem BX.cell {B x : Nat} {W W1 : World} (h : BX B x W W1) {a : Addr} {v : Value} (hc : W.cell? a = some v) (hB : a.block < B) (hx : a.block ≠ x) : W1.cell? a = some v := by
  unfold World.cell? at hc ⊢
  rw [h.block _ hB hx]; exact hc

set_option maxRecDepth 100000 in
set_option maxHeartbeats 4000000 in
theorem room_calls (a b : Nat) (ha : a < 14) (hb : b < 14) (gr gp gm : Nat) (m : List Int) (rm : Int) (W : World) (hR : W.heap[gr]? = some (.cells #[.int .i64 rm] 3 (0, 0))) (hP : W.heap[gp]? = some (.cells #[.pointer (some ⟨gm, 0, none⟩)] 117 (0, 0)))
    (hM : W.heap[gm]? = some (.cells (cellsI m) 154 (0, 0))) (hl : m.length = 196) :
    Calls Try.prog 110 #[.int .i64 a, .int .i64 b, .pointer (some ⟨gr, 0, none⟩), .pointer (some ⟨gp, 0, none⟩)] W fun e W' => (∃ v, e = .returned v) ∧ W'.heap[gr]? = some (.cells #[.int .i64 (if mAt m a b < rm then mAt m a b else rm)] 3 (0, 0)) ∧ BX W.heap.size gr W W' := by
  have y0 : W.cell? ⟨gr, 0, none⟩ = some (.int .i64 rm) := (blk_cell hR 0).trans rfl
  have y1 : W.frozen? ⟨gr, 0, none⟩ = false := blk_frozen hR 0
  have y2 : W.cell? ⟨gp, 0, none⟩ = some (.pointer (some ⟨gm, 0, none⟩)) := (blk_cell hP 0).trans rfl
  have y3 : W.cell? ⟨gm, a * 14 + b, none⟩ = some (.int .i64 (m.getD (a * 14 + b) 0)) := row_cell hM (a * 14 + b) (by rw [hl]; omega)
  have t0 : (a : Int) < 14 := by omega
  have t1 : (b : Int) < 14 := by omega
  have HR := Aside0.mk hR
  clear hR hP hM
  obtain ⟨rn, hrn⟩ : ∃ rn, rn = (if mAt m a b < rm then mAt m a b else rm) := ⟨_, rfl⟩
  rw [← hrn]
  have HRN := Aside0.mk hrn
  clear hrn
  go_enter Try.func110, Try.ntmps110
  go_wp2
  go_still_tail 9, (by kernel_rfl)
  change wpList _ _ _ _ _ W.drew
  go_wp2
  all_goals
    go_end0
    refine ⟨⟨_, rfl⟩, ?_, ((BX.refl _ _ _).set (.inl rfl) _ _).drew⟩
    rw [HRN.out, mAt, rd_nat]
    first
      | rw [if_pos (by assumption)]
      | rw [if_neg (by omega)]
    exact blk_drew (blk_put HR.out 0 _ rfl)
set_option maxRecDepth 100000 in
set_option maxHeartbeats 4000000 in
theorem push_calls (a b : Nat) (ha : a < 14) (hb : b < 14) (gr gp gm : Nat) (m : List Int) (rm : Int) (W : World) (hR : W.heap[gr]? = some (.cells #[.int .i64 rm] 3 (0, 0))) (hP : W.heap[gp]? = some (.cells #[.pointer (some ⟨gm, 0, none⟩)] 117 (0, 0)))
    (hM : W.heap[gm]? = some (.cells (cellsI m) 154 (0, 0))) (hl : m.length = 196) :
    Calls Try.prog 111 #[.int .i64 a, .int .i64 b, .pointer (some ⟨gp, 0, none⟩), .pointer (some ⟨gr, 0, none⟩)] W fun e W' => (∃ v, e = .returned v) ∧
      W'.heap[gm]? = some (.cells (cellsI (pushL rm [((a : Int), (b : Int))] m)) 154 (0, 0)) ∧ BX W.heap.size gm W W' := by
  have y0 : W.cell? ⟨gr, 0, none⟩ = some (.int .i64 rm) := (blk_cell hR 0).trans rfl
  have y2 : W.cell? ⟨gp, 0, none⟩ = some (.pointer (some ⟨gm, 0, none⟩)) := (blk_cell hP 0).trans rfl
  have y3 : W.cell? ⟨gm, a * 14 + b, none⟩ = some (.int .i64 (m.getD (a * 14 + b) 0)) := row_cell hM (a * 14 + b) (by rw [hl]; omega)
  have y4 : W.frozen? ⟨gm, a * 14 + b, none⟩ = false := blk_frozen hM _
  have t0 : (a : Int) < 14 := by omega
  have t1 : (b : Int) < 14 := by omega
  have HR := Aside0.mk hR
  have HP := Aside0.mk hP
  have HM := Aside0.mk hM
  clear hR hP hM
  obtain ⟨m2, hm2⟩ : ∃ m2, m2 = pushL rm [((a : Int), (b : Int))] m := ⟨_, rfl⟩
  rw [← hm2]
  have HM2 := Aside0.mk hm2
  clear hm2
  go_enter Try.func111, Try.ntmps111
  go_wp2
  go_still_tail 12, (by kernel_rfl)
  change wpList _ _ _ _ _ W.drew
  go_wp2
  generalize hW1 : World.drew (World.setCell W _ _) = W1
  have HM1 : W1.heap[gm]? = some (.cells (cellsI (m.set (a * 14 + b) (wrap64 (m[a * 14 + b]?.getD 0 - rm)))) 154 (0, 0)) := by rw [← hW1]; exact blk_drew (row_put HM.out _ _)
  have HR1 : W1.heap[gr]? = some (.cells #[.int .i64 rm] 3 (0, 0)) := by rw [← hW1]; exact blk_drew (blk_far HR.out (blk_ne HR.out HM.out (by decide)) _)
  have HP1 : W1.heap[gp]? = some (.cells #[.pointer (some ⟨gm, 0, none⟩)] 117 (0, 0)) := by rw [← hW1]; exact blk_drew (blk_far HP.out (blk_ne HP.out HM.out (by decide)) _)
  have HX1 : Aside0 (BX W.heap.size gm W W1) := ⟨by rw [← hW1]; exact ((BX.refl _ _ _).set (.inl rfl) _ _).drew⟩
  clear hW1 y0 y2 y3 y4
  have y0 : W1.cell? ⟨gr, 0, none⟩ = some (.int .i64 rm) := (blk_cell HR1 0).trans rfl
  have y2 : W1.cell? ⟨gp, 0, none⟩ = some (.pointer (some ⟨gm, 0, none⟩)) := (blk_cell HP1 0).trans rfl
  have y3 := row_cell HM1 (b * 14 + a) (by rw [List.length_set, hl]; omega)
  generalize hz : (m.set (a * 14 + b) (wrap64 (m[a * 14 + b]?.getD 0 - rm))).getD (b * 14 + a) 0 = z at y3
  have y4 : W1.frozen? ⟨gm, b * 14 + a, none⟩ = false := blk_frozen HM1 _
  have HZ := Aside0.mk hz
  have HM1 := Aside0.mk HM1
  clear HR1 HP1 hz
  go_still_tail 12, (by kernel_rfl)
  change wpList _ _ _ _ _ W1.drew
  go_wp2
  go_end0
  refine ⟨⟨_, rfl⟩, ?_, (HX1.out.set (.inl rfl) _ _).drew⟩
  have e : m2 = (m.set (a * 14 + b) (wrap64 (m[a * 14 + b]?.getD 0 - rm))).set (b * 14 + a) (wrap64 (z + rm)) := by
    rw [HM2.out, ← HZ.out]
    unfold pushL pushL mSet mAt
    rw [show ((a : Int) * 14 + (b : Int)).toNat = a * 14 + b by omega, show ((b : Int) * 14 + (a : Int)).toNat = b * 14 + a by omega, rd_nat, rd_nat]
    simp [List.getD]
  rw [e]
  exact blk_drew (row_put HM1.out _ _)
end Go.Proofs.Ytkkakdpncogpkaa.D
end
