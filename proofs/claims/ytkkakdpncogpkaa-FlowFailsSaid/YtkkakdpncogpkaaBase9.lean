/- Parts of the proof of a law about flows (see the law's own text): M1. Conditions: each theorem's own. -/
import Derived.StillTailTactics
import Derived.Test.YtkkakdpncogpkaaBase7
section
namespace Go.Proofs.Ytkkakdpncogpkaa.D
open Go.RowKit Go.Proofs.YtkkakdpncogpkaaW.PrintWords Go.Proofs.YtkkakdpncogpkaaW.PrintLast Go.Proofs.YtkkakdpncogpkaaW.PrintMore
set_option linter.unusedVariables false
set_option linter.unusedSimpArgs false

/-- The cells of a list of numbers. -/
def cellsI (m : List Int) : Array Value := (m.map (Value.int .i64)).toArray
theorem cellsI_get (m : List Int) (i : Nat) (h : i < m.length) : (cellsI m)[i]? = some (.int .i64 (m.getD i 0)) := by
  simp [cellsI, h, List.getD]
theorem row_cell {W : World} {g t : Nat} {m : List Int} (h : W.heap[g]? = some (.cells (cellsI m) t (0, 0))) (i : Nat) (hi : i < m.length) : W.cell? ⟨g, i, none⟩ = some (.int .i64 (m.getD i 0)) := (blk_cell h i).trans (cellsI_get m i hi)
theorem row_put {W : World} {g t : Nat} {m : List Int} (h : W.heap[g]? = some (.cells (cellsI m) t (0, 0))) (i : Nat) (v : Int) : (W.setCell ⟨g, i, none⟩ (.int .i64 v)).heap[g]? = some (.cells (cellsI (m.set i v)) t (0, 0)) :=
  blk_put h i (.int .i64 v) (by simp [cellsI, List.map_set])

theorem rd_nat (m : List Int) (i j : Nat) : rd m ((i : Int) * 14 + (j : Int)) = m[i * 14 + j]?.getD 0 := by
  have e : ((i : Int) * 14 + (j : Int)).toNat = i * 14 + j := by omega
  simp [rd, e, List.getD]
set_option maxRecDepth 100000 in
set_option maxHeartbeats 4000000 in
theorem open_calls (n : Int) (l : List Ed) (A : Option Addr) (c : Nat) (w : World) (hn : n ≤ 12) (hl : l.length ≤ 40) (hg : ∀ k : Nat, k < l.length → 0 ≤ (rd_T72 l k).f0 ∧ (rd_T72 l k).f0 ≤ n - 1 ∧ 0 ≤ (rd_T72 l k).f1 ∧ (rd_T72 l k).f1 ≤ n - 1)
    (hr : Kd.C k72 w A l.length l) :
    Calls Try.prog 74 #[.agg #[.int .i64 n, .slice A l.length c]] w fun e w' => ∃ g, e = .returned (.pointer (some ⟨g, 0, none⟩)) ∧ w.heap.size ≤ g ∧ w'.heap[g]? = some (.cells (cellsI (openM l)) 154 (0, 0)) ∧ Below w.heap.size w w' := by
  have hu26 := Try.underlying26
  have hu72 := Try.underlying72
  have HR := Aside0.mk hr
  have HG := Aside0.mk hg
  clear hr hg
  go_enter Try.func74, Try.ntmps74
  go_wp2_with (first | ((with_reducible refine gate_dst (N := 1) rfl ?_); refine box_event ?hg (N := 1) ?hd (cs := #[.int .i64 n, .slice A l.length c]) (t := 26) ?hr ?_; (case hd => rfl); (case hg => rfl); (case hr => first | (go_simp; done) | (go_simp; rfl)); intro g1 hg1 w1 hbox hb; have B1 := Aside0.mk hbox; have HB1 := Aside0.mk hb; have c1 : w1.cell? ⟨g1, 1, none⟩ = some (.slice A l.length c) := (blk_cell hbox 1).trans rfl; clear hbox hb hg1) | ((with_reducible refine gate_dst (N := 3) rfl ?_); refine box_event ?hg (N := 3) ?hd (cs := cellsI zeros196) (t := 154) ?hr ?_; (case hd => rfl); (case hg => rfl); (case hr => first | (go_simp; done) | (go_simp; rfl)); intro g3 hg3 w3 hbox hb; have B3 := Aside0.mk hbox; have HB3 := Aside0.mk (below_step HB1.out hb); have c1 : w3.cell? ⟨g1, 1, none⟩ = some (.slice A l.length c) := (blk_cell (blk_below B1.out hb) 1).trans rfl; have GE3 := Aside0.mk (show w.heap.size ≤ g3 by rw [hg3]; exact HB1.out.size); clear hbox hb hg3))
  go_loopg [9] l.length (fun gg v9 wr => ∃ (k : Nat) (m : List Int), k ≤ l.length ∧ l.length - k ≤ gg ∧ v9 = .int .i64 k ∧ Aside0 (openL (l.drop k) m = openM l) ∧ Aside0 (m.length = 196) ∧ Aside0 (wr.heap[g3]? = some (.cells (cellsI m) 154 (0, 0))) ∧ Aside0 (Below w.heap.size w wr))
  case atStart => exact ⟨0, zeros196, Nat.zero_le _, by omega, rfl, ⟨rfl⟩, ⟨by simp [zeros196]⟩, ⟨B3.out⟩, ⟨HB3.out⟩⟩
  case round =>
    obtain ⟨k, m, hk, hgg, rfl, HM, HL, BM, BW⟩ := hrel
    by_cases hlt : k < l.length
    · have hltz : (k : Int) < (l.length : Int) := by omega
      obtain ⟨ad, ea, hx0, hx1, hx2⟩ := at_T72 HR.out (k : Int) (by omega) (by omega)
      cases ea
      simp only [Int.toNat_natCast] at hx0 hx1 hx2
      replace hx0 := (BW.out.cell (World.block_lt_of_cell? w _ hx0)).trans hx0
      replace hx1 := (BW.out.cell (World.block_lt_of_cell? w _ hx1)).trans hx1
      replace hx2 := (BW.out.cell (World.block_lt_of_cell? w _ hx2)).trans hx2
      obtain ⟨v0, v1, v2, v3⟩ := HG.out k hlt
      have t0 : (rd_T72 l k).f0 < 14 := by omega
      have t1 : (rd_T72 l k).f1 < 14 := by omega
      generalize hf0 : (rd_T72 l k).f0 = f0 at *
      generalize hf1 : (rd_T72 l k).f1 = f1 at *
      obtain ⟨i, rfl⟩ := Int.eq_ofNat_of_zero_le v0
      obtain ⟨j, rfl⟩ := Int.eq_ofNat_of_zero_le v2
      have hmc := row_cell BM.out (i * 14 + j) (by rw [HL.out]; omega)
      have HM5 := Aside0.mk hmc
      clear hmc
      go_wp2
      have B5 := blk_new wr (Obj.cells #[Value.int IntKind.i64 i, Value.int IntKind.i64 j, Value.int IntKind.i64 (rd_T72 l k).f2] 72)
      have HB5 := Aside0.mk (below_alloc (Below.refl wr.heap.size wr) (Obj.cells #[Value.int IntKind.i64 i, Value.int IntKind.i64 j, Value.int IntKind.i64 (rd_T72 l k).f2] 72))
      generalize wr.alloc (Obj.cells #[Value.int IntKind.i64 i, Value.int IntKind.i64 j, Value.int IntKind.i64 (rd_T72 l k).f2] 72) = w5 at B5 HB5 ⊢
      have y0 : w5.cell? ⟨wr.heap.size, 0, none⟩ = some (.int .i64 i) := (blk_cell B5 0).trans rfl
      have y1 : w5.cell? ⟨wr.heap.size, 1, none⟩ = some (.int .i64 j) := (blk_cell B5 1).trans rfl
      have y2 : w5.cell? ⟨wr.heap.size, 2, none⟩ = some (.int .i64 (rd_T72 l k).f2) := (blk_cell B5 2).trans rfl
      have y3 : w5.cell? ⟨g3, i * 14 + j, none⟩ = some (.int .i64 (m.getD (i * 14 + j) 0)) := row_cell (blk_below BM.out HB5.out) (i * 14 + j) (by rw [HL.out]; omega)
      have y4 : w5.frozen? ⟨g3, i * 14 + j, none⟩ = false := blk_frozen (blk_below BM.out HB5.out) _
      go_still_tail 12, (by kernel_rfl)
      change wpList _ _ _ _ _ w5.drew
      have BM6 := Aside0.mk (blk_drew (row_put (blk_below BM.out HB5.out) (i * 14 + j) (wrap64 (mAt m i j + (rd_T72 l k).f2))))
      have BW6 := Aside0.mk (below_drew1 (below_set (j := i * 14 + j) (v := .int .i64 (wrap64 (mAt m i j + (rd_T72 l k).f2))) (below_step BW.out HB5.out) GE3.out))
      have ev : (IntKind.i64.wrap (m[i * 14 + j]?.getD 0 + (rd_T72 l k).f2)) = wrap64 (mAt m i j + (rd_T72 l k).f2) := by rw [i64_w]; unfold mAt; rw [rd_nat]
      rw [ev]
      go_wp2
      go_roundg (l.length - (k + 1))
      case measure => omega
      case rel =>
        refine ⟨k + 1, mSet m i j (wrap64 (mAt m i j + (rd_T72 l k).f2)), by omega, by omega, by go_num, ⟨?_⟩, ⟨?_⟩, ⟨?_⟩, ⟨BW6.out⟩⟩
        · rw [← HM.out]
          have e : l.drop k = l[k] :: l.drop (k + 1) := List.drop_eq_getElem_cons hlt
          have e2 : rd_T72 l k = l[k] := by simp [rd_T72, List.getD, hlt]
          rw [e, openL, ← e2, hf0, hf1]
        · unfold mSet; rw [List.length_set]; exact HL.out
        · have e : ((i : Int) * 14 + (j : Int)).toNat = i * 14 + j := by omega
          unfold mSet; rw [e]; exact BM6.out
    · obtain rfl : k = l.length := by omega
      go_wp2
      go_ret
      have e := HM.out
      rw [List.drop_length, openL] at e
      exact ⟨_, rfl, GE3.out, by rw [← e]; exact BM.out, BW.out⟩
end Go.Proofs.Ytkkakdpncogpkaa.D
end
