/- Parts of the proof of a law about flows (see the law's own text): M5. Conditions: each theorem's own. -/
import Derived.Deep.QuietTactic
import Derived.Test.YtkkakdpncogpkaaBase12
section
namespace Go.Proofs.Ytkkakdpncogpkaa.D
open Go.RowKit Go.Proofs.YtkkakdpncogpkaaW.PrintWords Go.Proofs.YtkkakdpncogpkaaW.PrintLast Go.Proofs.YtkkakdpncogpkaaW.PrintMore
set_option linter.unusedVariables false
set_option linter.unusedSimpArgs false

def useF (x y : Int) : Int := if wrap64 (x - y) < 0 then 0 else wrap64 (x - y)
/-- What is used, as far as p. -/
def usedTo (c m : List Int) : Nat → List Int
  | 0 => c
  | p + 1 => (usedTo c m p).set p (useF (c.getD p 0) (m.getD p 0))
theorem usedTo_length (c m : List Int) : ∀ p, (usedTo c m p).length = c.length
  | 0 => rfl
  | p + 1 => by rw [usedTo, List.length_set]; exact usedTo_length c m p
theorem usedTo_get (c m : List Int) : ∀ (p i : Nat), i < c.length → (usedTo c m p).getD i 0 = if i < p then useF (c.getD i 0) (m.getD i 0) else c.getD i 0
  | 0, i, _ => by simp [usedTo]
  | p + 1, i, hi => by
    have ih := usedTo_get c m p i hi
    rw [usedTo]
    simp only [List.getD] at ih ⊢
    rw [List.getElem?_set]
    by_cases e : p = i
    · subst e
      rw [if_pos rfl, if_pos (by rw [usedTo_length]; exact hi), if_pos (Nat.lt_succ_self _)]
      rfl
    · rw [if_neg e, ih]
      by_cases h : i < p
      · rw [if_pos h, if_pos (by omega)]
      · rw [if_neg h, if_neg (by omega)]
theorem usedTo_all (c m : List Int) (h : c.length = m.length) : usedTo c m c.length = usedL c m := by
  apply List.ext_getElem
  · rw [usedTo_length]; simp [usedL, h]
  · intro i h1 h2
    rw [usedTo_length] at h1
    have hg := usedTo_get c m c.length i h1
    rw [if_pos h1] at hg
    have hm : i < m.length := by omega
    simp only [List.getD, List.getElem?_eq_getElem h1, List.getElem?_eq_getElem hm, List.getElem?_eq_getElem (show i < (usedTo c m c.length).length by rw [usedTo_length]; exact h1), Option.getD_some] at hg
    rw [hg]
    simp [usedL, useF]
def Stop (p : Prop) : Prop := p
theorem stop_ {p : Prop} (h : Stop p) : p := h
set_option maxRecDepth 100000 in
set_option maxHeartbeats 4000000 in
theorem amounts_calls (n : Int) (l : List Ed) (A : Option Addr) (c : Nat) (gm : Nat) (m : List Int) (w : World) (hn : n ≤ 12) (hl : l.length ≤ 40) (hg : ∀ k : Nat, k < l.length → 0 ≤ (rd_T72 l k).f0 ∧ (rd_T72 l k).f0 ≤ n - 1 ∧ 0 ≤ (rd_T72 l k).f1 ∧ (rd_T72 l k).f1 ≤ n - 1)
    (hr : Kd.C k72 w A l.length l) (hM : w.heap[gm]? = some (.cells (cellsI m) 154 (0, 0))) (hml : m.length = 196) (hol : (openM l).length = 196) :
    Calls Try.prog 76 #[.agg #[.int .i64 n, .slice A l.length c], .pointer (some ⟨gm, 0, none⟩)] w fun e w' => ∃ v, e = .returned v ∧ Kd.R (Kd.int .i64) 3 w' w.heap.size (fun _ => True) v (amountsL l m) ∧ Below w.heap.size w w' := by
  have hu26 := Try.underlying26
  have hu72 := Try.underlying72
  have HR := Aside0.mk hr
  have HG := Aside0.mk hg
  have HM := Aside0.mk hM
  have HOL := Aside0.mk hol
  clear hr hg hM hol
  go_enter Try.func76, Try.ntmps76
  go_wp2_with (first | ((with_reducible refine gate_dst (N := 2) rfl ?_); refine box_event ?hg (N := 2) ?hd (cs := #[.int .i64 n, .slice A l.length c]) (t := 26) ?hr ?_; (case hd => rfl); (case hg => rfl); (case hr => first | (go_simp; done) | (go_simp; rfl)); intro g2 hg2 w2 hbox hb; have B2 := Aside0.mk hbox; have HB2 := Aside0.mk hb; have c0 : w2.cell? ⟨g2, 0, none⟩ = some (.int .i64 n) := (blk_cell hbox 0).trans rfl; have c1 : w2.cell? ⟨g2, 1, none⟩ = some (.slice A l.length c) := (blk_cell hbox 1).trans rfl; clear hbox hb hg2) | (go_at_call 74; refine (open_calls n l A c w2 hn hl HG.out (Kd.C_below HR.out HB2.out)).mono ?_; rintro e w3 ⟨g5, rfl, hge, hu, hb3⟩; have U3 := Aside0.mk hu; have GE5 := Aside0.mk (Nat.le_trans HB2.out.size hge); have HB3 := Aside0.mk (below_step HB2.out hb3); have B3 := Aside0.mk (blk_below B2.out hb3); clear hge hu hb3 c0 c1))
  have hC : ∃ C, C = openM l := ⟨_, rfl⟩
  obtain ⟨C, hC⟩ := hC
  have HC := Aside0.mk hC
  rw [← hC] at U3 HOL
  clear hC
  have NG : Aside0 (g2 ≠ g5 ∧ gm < w.heap.size) := ⟨blk_ne B3.out U3.out (by decide), blk_lt HM.out⟩
  go_loopg [14] 14 (fun gg v14 wr => ∃ a : Nat, a ≤ 14 ∧ 14 - a ≤ gg ∧ v14 = .int .i64 a ∧ Aside0 (wr.heap[g5]? = some (.cells (cellsI (usedTo C m (a * 14))) 154 (0, 0))) ∧ Aside0 (wr.heap[g2]? = some (.cells #[.int .i64 n, .slice A l.length c] 26 (0, 0))) ∧ Aside0 (Below w.heap.size w wr))
  case atStart => exact ⟨0, by omega, by omega, rfl, U3, B3, HB3⟩
  case round =>
    obtain ⟨a, ha, hgg, rfl, U4, B4, HB4⟩ := hrel
    by_cases ha14 : a < 14
    · have haI : (a : Int) < 14 := by omega
      go_wp2
      go_loopg [17] 14 (fun gg v17 wr => ∃ b : Nat, b ≤ 14 ∧ 14 - b ≤ gg ∧ v17 = .int .i64 b ∧ Aside0 (wr.heap[g5]? = some (.cells (cellsI (usedTo C m (a * 14 + b))) 154 (0, 0))) ∧ Aside0 (wr.heap[g2]? = some (.cells #[.int .i64 n, .slice A l.length c] 26 (0, 0))) ∧ Aside0 (Below w.heap.size w wr))
      case atStart => exact ⟨0, by omega, by omega, rfl, U4, B4, HB4⟩
      case round =>
        obtain ⟨b, hb, hgb, rfl, U5, B5, HB5⟩ := hrel
        by_cases hb14 : b < 14
        · have hbI : (b : Int) < 14 := by omega
          have y5 := row_cell U5.out (a * 14 + b) (by rw [usedTo_length, HOL.out]; exact idx14 ha14 hb14)
          have y5f : wr.frozen? ⟨g5, a * 14 + b, none⟩ = false := blk_frozen U5.out _
          have ym := row_cell ((HB5.out.block gm NG.out.2).trans HM.out) (a * 14 + b) (by rw [hml]; exact idx14 ha14 hb14)
          rw [usedTo_get C m _ _ (by rw [HOL.out]; exact idx14 ha14 hb14), if_neg (Nat.lt_irrefl _)] at y5
          obtain ⟨cu, hcu⟩ : ∃ cu, cu = C.getD (a * 14 + b) 0 := ⟨_, rfl⟩
          obtain ⟨mu, hmu⟩ : ∃ mu, mu = m.getD (a * 14 + b) 0 := ⟨_, rfl⟩
          rw [← hcu] at y5
          rw [← hmu] at ym
          have HCU := Aside0.mk hcu
          have HMU := Aside0.mk hmu
          clear hcu hmu
          go_wp2
          go_still_tail 22, (by kernel_rfl)
          all_goals change wpList _ _ _ _ _ wr.drew
          all_goals go_wp2
          all_goals
            go_roundg (14 - (b + 1))
            case measure => omega
            case rel =>
              refine ⟨b + 1, by omega, by omega, by go_num, ⟨?_⟩, ⟨?_⟩, ⟨below_drew1 (below_set HB5.out GE5.out)⟩⟩
              · rw [show a * 14 + (b + 1) = a * 14 + b + 1 by omega, usedTo, ← HCU.out, ← HMU.out]
                unfold useF
                have hh : IntKind.i64.wrap (cu - mu) < 0 ∨ 0 ≤ IntKind.i64.wrap (cu - mu) ∨ IntKind.i64.wrap (cu - mu) ≤ 0 := by first | exact Or.inl (by assumption) | exact Or.inr (Or.inl (by assumption)) | exact Or.inr (Or.inr (by assumption))
                (try simp only [i64_w] at *)
                generalize wrap64 (cu - mu) = z at *
                split
                all_goals first
                  | exact blk_drew (row_put U5.out _ _)
                  | (exfalso; omega)
                  | (obtain rfl : z = 0 := by omega
                     exact blk_drew (row_put U5.out _ _))
              · exact blk_drew (blk_far B5.out NG.out.1 _)
        · obtain rfl : b = 14 := by omega
          go_wp2
          go_roundg (14 - (a + 1))
          case measure => omega
          case rel => exact ⟨a + 1, by omega, by omega, by go_num, ⟨by rw [show (a + 1) * 14 = a * 14 + 14 by omega]; exact U5.out⟩, B5, HB5⟩
    · obtain rfl : a = 14 := by omega
      have y21 : wr.cell? ⟨g2, 1, none⟩ = some (.slice A l.length c) := (blk_cell B4.out 1).trans rfl
      have HU : Aside0 (usedTo C m (14 * 14) = usedL (openM l) m) := ⟨by rw [← HC.out, ← usedTo_all C m (by rw [HOL.out, hml]), HOL.out]⟩
      rw [HU.out] at U4
      go_wp2
      go_loopg [8, 47] l.length (fun gg v8 v47 w6 => ∃ (k : Nat) (u acc : List Int), k ≤ l.length ∧ l.length - k ≤ gg ∧ v47 = .int .i64 k ∧ Aside0 (Kd.R (Kd.int .i64) 3 w6 w.heap.size (fun k => k ≠ g5) v8 acc) ∧ Aside0 (acc ++ takeL (l.drop k) u = amountsL l m) ∧ Aside0 (acc.length = k) ∧ Aside0 (u.length = 196) ∧ Aside0 (w6.heap[g5]? = some (.cells (cellsI u) 154 (0, 0))) ∧ Aside0 (Below w.heap.size w w6))
      case atStart => exact ⟨0, usedL (openM l) m, [], by omega, by omega, rfl, ⟨Kd.R_nil _ _ _ _ _⟩, ⟨rfl⟩, ⟨rfl⟩, ⟨by rw [← HU.out, usedTo_length, HOL.out]⟩, U4, HB4⟩
      case round =>
        obtain ⟨k, u, acc, hk, hgk, rfl, HA, HT, HAL, HUL, U6, HB6⟩ := hrel
        obtain ⟨Ao, co, rfl⟩ := Kd.R_slice HA.out
        by_cases hlt : k < l.length
        · have hltz : (k : Int) < (l.length : Int) := by omega
          obtain ⟨ad, ea, hx0, hx1, hx2⟩ := at_T72 HR.out (k : Int) (by omega) (by omega)
          cases ea
          simp only [Int.toNat_natCast] at hx0 hx1 hx2
          replace hx0 := (HB6.out.cell (World.block_lt_of_cell? w _ hx0)).trans hx0
          replace hx1 := (HB6.out.cell (World.block_lt_of_cell? w _ hx1)).trans hx1
          replace hx2 := (HB6.out.cell (World.block_lt_of_cell? w _ hx2)).trans hx2
          obtain ⟨v0, v1, v2, v3⟩ := HG.out k hlt
          have t0 : (rd_T72 l k).f0 < 14 := by omega
          have t1 : (rd_T72 l k).f1 < 14 := by omega
          generalize hf0 : (rd_T72 l k).f0 = f0 at *
          generalize hf1 : (rd_T72 l k).f1 = f1 at *
          obtain ⟨i, rfl⟩ := Int.eq_ofNat_of_zero_le v0
          obtain ⟨j, rfl⟩ := Int.eq_ofNat_of_zero_le v2
          go_wp2
          have B5 := blk_new wr (Obj.cells #[Value.int IntKind.i64 i, Value.int IntKind.i64 j, Value.int IntKind.i64 (rd_T72 l k).f2] 72)
          have HB5 := Aside0.mk (below_alloc (Below.refl wr.heap.size wr) (Obj.cells #[Value.int IntKind.i64 i, Value.int IntKind.i64 j, Value.int IntKind.i64 (rd_T72 l k).f2] 72))
          generalize wr.alloc (Obj.cells #[Value.int IntKind.i64 i, Value.int IntKind.i64 j, Value.int IntKind.i64 (rd_T72 l k).f2] 72) = w5 at B5 HB5 ⊢
          have y0 : w5.cell? ⟨wr.heap.size, 0, none⟩ = some (.int .i64 i) := (blk_cell B5 0).trans rfl
          have y1 : w5.cell? ⟨wr.heap.size, 1, none⟩ = some (.int .i64 j) := (blk_cell B5 1).trans rfl
          have y2 : w5.cell? ⟨wr.heap.size, 2, none⟩ = some (.int .i64 (rd_T72 l k).f2) := (blk_cell B5 2).trans rfl
          have y3 : w5.cell? ⟨g5, i * 14 + j, none⟩ = some (.int .i64 (u.getD (i * 14 + j) 0)) := row_cell (blk_below U6.out HB5.out) (i * 14 + j) (by rw [HUL.out]; exact idx14 (by omega) (by omega))
          go_quiet (fail)
          obtain ⟨z, hz⟩ : ∃ z, z = (if u.getD (i * 14 + j) 0 < (rd_T72 l k).f2 then u.getD (i * 14 + j) 0 else (rd_T72 l k).f2) := ⟨_, rfl⟩
          have ez : (if u[i * 14 + j]?.getD 0 < (rd_T72 l ↑k).f2 then u[i * 14 + j]?.getD 0 else (rd_T72 l ↑k).f2) = z := by rw [hz]; rfl
          rw [ez]
          have HZ := Aside0.mk hz
          clear hz ez
          generalize hux : u.getD (i * 14 + j) 0 = ux at y3 HZ
          have HUX := Aside0.mk hux
          clear hux
          obtain ⟨w7, hw7⟩ : ∃ w7, w7 = w5.drewN nq := ⟨_, rfl⟩
          rw [← hw7]
          have B7 := blk_drewN B5 nq
          rw [← hw7] at B7
          have U7 := blk_drewN (blk_below U6.out HB5.out) nq
          rw [← hw7] at U7
          have HB7 : Aside0 (Below w.heap.size w w7) := ⟨by rw [hw7]; exact pw_below_drewN (below_step HB6.out HB5.out) nq⟩
          have R7 : Aside0 (Kd.R (Kd.int .i64) 3 w7 w.heap.size (fun k => k ≠ g5) (.slice Ao acc.length co) acc) := ⟨by rw [hw7]; exact Kd.R_drewN (Kd.R_below HA.out HB5.out) nq⟩
          clear hw7 y0 y1 y2 y3
          have x0 : w7.cell? ⟨wr.heap.size, 0, none⟩ = some (.int .i64 i) := (blk_cell B7 0).trans rfl
          have x1 : w7.cell? ⟨wr.heap.size, 1, none⟩ = some (.int .i64 j) := (blk_cell B7 1).trans rfl
          have x3 : w7.cell? ⟨g5, i * 14 + j, none⟩ = some (.int .i64 ux) := by rw [← HUX.out]; exact row_cell U7 (i * 14 + j) (by rw [HUL.out]; exact idx14 (by omega) (by omega))
          have x3f : w7.frozen? ⟨g5, i * 14 + j, none⟩ = false := blk_frozen U7 _
          have U7' := Aside0.mk U7
          have B7' := Aside0.mk B7
          clear U7 B7
          go_wp2
          go_still_tail 14, (by kernel_rfl)
          change wpList _ _ _ _ _ w7.drew
          have z0 : w7.drew.cell? ⟨wr.heap.size, 0, none⟩ = some (.int .i64 i) := x0
          have z1 : w7.drew.cell? ⟨wr.heap.size, 1, none⟩ = some (.int .i64 j) := x1
          have z3 : w7.drew.cell? ⟨g5, i * 14 + j, none⟩ = some (.int .i64 ux) := x3
          have z3f : w7.drew.frozen? ⟨g5, i * 14 + j, none⟩ = false := x3f
          have U8 := Aside0.mk (row_put (blk_drew U7'.out) (i * 14 + j) (wrap64 (ux - z)))
          have HB8 := Aside0.mk (below_set (j := i * 14 + j) (v := .int .i64 (wrap64 (ux - z))) (below_drew1 HB7.out) GE5.out)
          have R8 := Aside0.mk (Kd.R_far (p := ⟨g5, i * 14 + j, none⟩) (Kd.R_drew R7.out) (fun k hk => hk) (.int .i64 (wrap64 (ux - z))))
          clear x0 x1 x3 x3f U7' R7 HB7
          generalize w7.drew = w8 at z0 z1 z3 z3f U8 HB8 R8 ⊢
          go_wp2_with (first | ((with_reducible refine gate_builtin (b := .append) (xs := #[.tmp 77, .tmp 79]) rfl ?_); at_builtin; refine stop_ ?_))
          unfold Stop
          refine Kd.R_append (Kd.int .i64) (w0 := w) w.heap.size rfl (.tmp 77) (.tmp 79) 27 3 (.int .i64 0) 8 rfl Try.underlying27 info3 rfl (by decide) (by omega) (.slice Ao acc.length co) acc z [.int .i64 z] (fun k => k ≠ g5) (fun _ => False) rfl ?aX ?aP (fun _ hk => hk.elim) ?aF ?aO ?aB ?aS ?aL ?_
          case aX => first | (go_simp; done) | (go_simp; rfl)
          case aP => exact rfl
          case aF => exact (fun k hk e => Nat.lt_irrefl _ (Nat.lt_of_lt_of_le (blk_lt U8.out) (Nat.le_trans hk (Nat.le_of_eq e))))
          case aO => exact R8.out
          case aB => exact HB8.out
          case aS => exact HB8.out.size
          case aL => have := HAL.out; omega
          intro v6 w6 ho hb6 hg6 hat6
          have R9 := Aside0.mk ho
          have U9 := Aside0.mk (blk_grown U8.out hg6 (Kd.R_away R8.out (fun k hk => hk)))
          have HB9 := Aside0.mk hb6
          clear ho hb6 hg6 hat6
          go_wp2
          go_roundg (l.length - (k + 1))
          case measure => omega
          case rel =>
            have hrd : l[k]'hlt = rd_T72 l k := by simp [rd_T72, hlt]
            have hdk : l.drop k = rd_T72 l k :: l.drop (k + 1) := by rw [← hrd]; exact List.drop_eq_getElem_cons hlt
            have hux : mAt u i j = ux := by rw [mAt, rd_nat, ← HUX.out]; simp [List.getD]
            refine ⟨k + 1, mSet u i j (wrap64 (ux - z)), acc ++ [z], by omega, by omega, by go_num, R9, ⟨?_⟩, ⟨?_⟩, ⟨?_⟩, ⟨?_⟩, HB9⟩
            · rw [← HT.out, List.append_assoc]
              congr 1
              rw [hdk, takeL, hf0, hf1, hux, ← HZ.out]
              rfl
            · rw [List.length_append, HAL.out]; rfl
            · rw [mSet, List.length_set]; exact HUL.out
            · have e : ((i : Int) * 14 + (j : Int)).toNat = i * 14 + j := by omega
              rw [mSet, e]; exact U9.out
        · obtain rfl : k = l.length := by omega
          go_wp2
          go_ret
          have e := HT.out
          rw [List.drop_length, takeL, List.append_nil] at e
          exact ⟨_, rfl, by rw [← e]; exact Kd.R_mono HA.out (fun _ _ => trivial), HB6.out⟩
end Go.Proofs.Ytkkakdpncogpkaa.D
end
