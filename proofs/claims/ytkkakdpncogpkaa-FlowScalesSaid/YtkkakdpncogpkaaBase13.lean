/- Parts of the proof of a law about flows (see the law's own text): HFlowCap. Conditions: each theorem's own. -/
import Derived.RangeFuncNested
import Derived.RangeFuncBound
import Derived.RangeFuncCalls
import Derived.RangeFuncLeaves
import Derived.RangeFuncFrom
import Derived.RangeFuncBox
import Derived.Shelf.Abstract
import Derived.WalkKit
import Derived.OwnWalkIn
import Derived.TacticsInMore
import Derived.LoopNIn
import Derived.LoopIn
import Derived.Lib.RabinKarpLaws
import Derived.Test.YtkkakdpncogpkaaBase7
section
namespace Go.Proofs.Ytkkakdpncogpkaa.D
open Go.RowKit Go.Shelf Go.Proofs.YtkkakdpncogpkaaW.PrintWords Go.Proofs.YtkkakdpncogpkaaW.PrintLast Go.Proofs.YtkkakdpncogpkaaW.PrintMore
set_option linter.unusedVariables false
set_option linter.unusedSimpArgs false
attribute [local go_sem] Oper.semAt_some

/-- What a round keeps: whatever lies below B, but for block x. -/
def KB (B x : Nat) (W W' : World) : Prop := W.heap.size ≤ W'.heap.size ∧ ∀ i, i < B → i ≠ x → W'.heap[i]? = W.heap[i]?
theorem KB.refl (B x : Nat) (W : World) : KB B x W W := ⟨Nat.le_refl _, fun _ _ _ => rfl⟩
theorem KB.trans {B x : Nat} {W W1 W2 : World} (h : KB B x W W1) (k : KB B x W1 W2) : KB B x W W2 := ⟨Nat.le_trans h.1 k.1, fun i hi hx => (k.2 i hi hx).trans (h.2 i hi hx)⟩
theorem KB.of_below {B x : Nat} {W W1 : World} (h : Below W.heap.size W W1) (hB : B ≤ W.heap.size) : KB B x W W1 := ⟨h.size, fun i hi _ => h.block i (Nat.lt_of_lt_of_le hi hB)⟩
theorem KB.cell {B x : Nat} {W W1 : World} (h : KB B x W W1) {a : Addr} {v : Value} (hB : a.block < B) (hx : a.block ≠ x) (hc : W.cell? a = some v) : W1.cell? a = some v := by
  unfold World.cell? at hc ⊢
  rw [h.2 _ hB hx]; exact hc
theorem KB.blk {B x : Nat} {W W1 : World} (h : KB B x W W1) {g : Nat} {o : Obj} (hB : g < B) (hx : g ≠ x) (hc : W.heap[g]? = some o) : W1.heap[g]? = some o := (h.2 _ hB hx).trans hc

/-- The indices that come, as numbers below the length. -/
def leavF (set : Int) (l : List Ed) : Nat → List (Fin l.length)
  | 0 => []
  | k + 1 => if h : k < l.length then (if leavesE set l[k] then leavF set l k ++ [⟨k, h⟩] else leavF set l k) else leavF set l k
theorem leavF_length (set : Int) (l : List Ed) (k : Nat) : (leavF set l k).length ≤ k := by
  induction k with
  | zero => simp [leavF]
  | succ k ih => unfold leavF; split <;> (try split) <;> (try rw [List.length_append]) <;> (try simp only [List.length_cons, List.length_nil]) <;> omega
theorem leavF_prefix (set : Int) (l : List Ed) (k d : Nat) : leavF set l k <+: leavF set l (k + d) := by
  induction d with
  | zero => exact List.prefix_refl _
  | succ d ih =>
    refine ih.trans ?_
    show leavF set l (k + d) <+: leavF set l (k + d + 1)
    rw [leavF]
    split
    · split
      · exact List.prefix_append _ _
      · exact List.prefix_refl _
    · exact List.prefix_refl _

theorem and_one (y : Int) (h : 0 ≤ y) (h2 : y < 9223372036854775808) : Go.bits .and .i64 y 1 = y % 2 := by
  obtain ⟨i, rfl⟩ := Int.eq_ofNat_of_zero_le h
  exact (_root_.Go.Proofs.and_one i (by omega))
theorem div_pow (set i : Int) (h : 0 ≤ set) : 0 ≤ set / 2 ^ i.toNat ∧ set / 2 ^ i.toNat ≤ set :=
  ⟨Int.ediv_nonneg h (Int.le_of_lt (Int.pow_pos (by omega))), Int.ediv_le_self _ h⟩
theorem has_and (set i : Int) (h : 0 ≤ set) (h2 : set < 9223372036854775808) : (Go.bits .and .i64 (set / 2 ^ i.toNat) 1 == 1) = hasN set i := by
  have d := div_pow set i h
  rw [and_one _ d.1 (by omega)]; rfl
theorem has_and0 (set i : Int) (h : 0 ≤ set) (h2 : set < 9223372036854775808) : (Go.bits .and .i64 (set / 2 ^ i.toNat) 1 == 0) = !hasN set i := by
  have d := div_pow set i h
  rw [and_one _ d.1 (by omega)]
  unfold hasN
  generalize set / 2 ^ i.toNat = y
  rcases Int.emod_two_eq y with e | e <;> rw [e] <;> rfl
theorem leavF_skip {set : Int} {l : List Ed} {k : Nat} (h : k < l.length) (hl : leavesE set l[k] = false) : leavF set l (k + 1) = leavF set l k := by
  rw [leavF, dif_pos h, if_neg (by simp [hl])]
theorem leavF_take {set : Int} {l : List Ed} {k : Nat} (h : k < l.length) (hl : leavesE set l[k] = true) : leavF set l (k + 1) = leavF set l k ++ [⟨k, h⟩] := by
  rw [leavF, dif_pos h, if_pos hl]

set_option maxRecDepth 100000 in
set_option maxHeartbeats 2000000 in
theorem leav1_in (F : Fence) (n : Nat) (h114 : F.fn 114) (hro : F.round = none) (hn : 1 ≤ n) (lp B x gn gs : Nat) (nn set : Int) (l : List Ed) (A : Option Addr) (c : Nat)
    (hgn : gn < B) (hgnx : gn ≠ x) (hgs : gs < B) (hgsx : gs ≠ x) (hAB : ∀ ad, A = some ad → 0 < l.length → ad.block < B ∧ ad.block ≠ x) (hl : l.length ≤ 40)
    (hv : ∀ k : Nat, k < l.length → 0 ≤ (rd_T72 l k).f0 ∧ (rd_T72 l k).f0 ≤ 11 ∧ 0 ≤ (rd_T72 l k).f1 ∧ (rd_T72 l k).f1 ≤ 11) (hset : 0 ≤ set) (hset2 : set < 9223372036854775808)
    (J Jx : List (Fin l.length) → World → Prop)
    (W : World) (hBW : B ≤ W.heap.size) (hJ : AbidesFrom W.heap.size J)
    (hY : ∀ pre (y : Fin l.length) W, J pre W → pre.length < l.length → YieldAt F (n - 1) Try.prog lp #[.int .i64 (y.val : Int)] W fun e W' =>
      (e = .returned (.bool true) ∧ J (pre ++ [y]) W' ∧ KB B x W W') ∨ (e = .returned (.bool false) ∧ Jx (pre ++ [y]) W'))
    (hbn : W.heap[gn]? = some (.cells #[.int .i64 nn, .slice A l.length c] 26 (0, 0))) (hbs : W.heap[gs]? = some (.cells #[.int .i64 set] 3 (0, 0)))
    (hr : Kd.C k72 W A l.length l) (h0 : J [] W) :
    CallsIn F n Try.prog 114 #[.func (.yield lp) #[] #[], .pointer (some ⟨gn, 0, none⟩), .pointer (some ⟨gs, 0, none⟩)] W fun e W' => (∃ v, e = .returned v) ∧
      ((∃ ys, ys = leavF set l l.length ∧ J ys W') ∨ (∃ pre, (∃ k, k ≤ l.length ∧ pre = leavF set l k) ∧ Jx pre W')) := by
  have hu26 := Try.underlying26
  have hu72 := Try.underlying72
  have c0 : W.cell? ⟨gn, 1, none⟩ = some (.slice A l.length c) := (blk_cell hbn 1).trans rfl
  have HR := Aside0.mk hr
  have BN := Aside0.mk hbn
  have BS := Aside0.mk hbs
  have HY := Aside0.mk hY
  have HJ := Aside0.mk hJ
  have HV := Aside0.mk hv
  have HAB := Aside0.mk hAB
  clear hr hbn hbs hY hJ hv hAB
  refine callsIn_of_wp Try.func114 rfl h114 ?_ hro
  simp only [Try.ntmps114, List.size_toArray, List.length_cons, List.length_nil, Nat.reduceAdd, Nat.reduceSub, Array.replicate_succ, Array.replicate_zero, List.push_toArray, List.append_toArray, List.nil_append, List.cons_append]
  gi_wp2
  gi_loopw [9] (fun i wr => ∃ k : Nat, k ≤ l.length ∧ i = .int .i64 k ∧ Aside0 (J (leavF set l k) wr) ∧ Aside0 (KB B x W wr))
    (fun i _ => l.length - (intOf i).toNat)
  case atStart => exact ⟨0, Nat.zero_le _, rfl, ⟨h0⟩, ⟨KB.refl _ _ _⟩⟩
  case round =>
    obtain ⟨k, hk, rfl, hJs, hnx⟩ := hrel
    by_cases hlt : k < l.length
    · obtain ⟨ad, ea, hx0, hx1, hx2⟩ := at_T72 HR.out (k : Int) (by omega) (by omega)
      cases ea
      simp only [Int.toNat_natCast] at hx0 hx1 hx2
      obtain ⟨hb1, hb2⟩ := HAB.out ad rfl (by omega)
      replace hx0 := hnx.out.cell (by rw [add_block]; exact hb1) (by rw [add_block]; exact hb2) hx0
      replace hx1 := hnx.out.cell (by show (Addr.add _ _).block < _; rw [add_block]; exact hb1) (by show (Addr.add _ _).block ≠ _; rw [add_block]; exact hb2) hx1
      replace hx2 := hnx.out.cell (by show (Addr.add _ _).block < _; rw [add_block]; exact hb1) (by show (Addr.add _ _).block ≠ _; rw [add_block]; exact hb2) hx2
      have hcs : wr.cell? ⟨gs, 0, none⟩ = some (.int .i64 set) := hnx.out.cell (a := ⟨gs, 0, none⟩) hgs hgsx ((blk_cell BS.out 0).trans rfl)
      obtain ⟨v0, v1, v2, v3⟩ := HV.out k hlt
      have hcs' : ∀ o, (wr.alloc o).cell? ⟨gs, 0, none⟩ = some (.int .i64 set) := fun o => (World.cell?_alloc_lt _ _ _ (World.block_lt_of_cell? _ _ hcs)).trans hcs
      have q1 := has_and set (rd_T72 l k).f0 hset hset2
      have q2 := has_and0 set (rd_T72 l k).f1 hset hset2
      have HS := Aside0.mk hset2
      clear hset2
      have HL : Aside0 (leavesE set l[k] = (hasN set (rd_T72 l k).f0 && !hasN set (rd_T72 l k).f1)) := ⟨by simp [leavesE, rd_T72, List.getD, hlt]⟩
      generalize hasN set (rd_T72 l k).f0 = b1 at q1 HL
      generalize hasN set (rd_T72 l k).f1 = b2 at q2 HL
      cases b1 with
      | false =>
        gi_wp2
        refine ⟨fun _ h => (by cases h), ?_⟩
        gi_wp2
        go_roundw
        case rel => exact ⟨k + 1, by omega, by simp, ⟨by rw [leavF_skip hlt (by rw [HL.out]; rfl)]; exact HJ.out _ _ _ none hJs.out (World.grownBy_alloc wr _ none) (fun r e => by cases e)⟩, ⟨hnx.out.trans (KB.of_below ((Below.refl _ _).alloc (Nat.le_refl _) _) (Nat.le_trans hBW hnx.out.1))⟩⟩
        case measure => simp [intOf]; omega
      | true =>
        cases b2 with
        | true =>
          gi_wp2
          refine ⟨fun _ h => (by cases h), ?_⟩
          gi_wp2
          go_roundw
          case rel => exact ⟨k + 1, by omega, by simp, ⟨by rw [leavF_skip hlt (by rw [HL.out]; rfl)]; exact HJ.out _ _ _ none hJs.out (World.grownBy_alloc wr _ none) (fun r e => by cases e)⟩, ⟨hnx.out.trans (KB.of_below ((Below.refl _ _).alloc (Nat.le_refl _) _) (Nat.le_trans hBW hnx.out.1))⟩⟩
          case measure => simp [intOf]; omega
        | false =>
          obtain ⟨fn, tmps, assign, body, hy, hR⟩ := HY.out _ ⟨k, hlt⟩ _ (HJ.out _ _ _ none hJs.out (World.grownBy_alloc wr (.cells #[.int .i64 (rd_T72 l k).f0, .int .i64 (rd_T72 l k).f1, .int .i64 (rd_T72 l k).f2] 72) none) (fun r e => by cases e)) (Nat.lt_of_le_of_lt (leavF_length _ _ _) hlt)
          dsimp only at hy
          gi_wp2
          refine hR.mono ?_
          rintro e W3 (⟨rfl, hJ3, hk3⟩ | ⟨rfl, hJx3⟩)
          · gi_wp2
            go_roundw
            case rel => exact ⟨k + 1, by omega, by simp, ⟨by rw [leavF_take hlt (by rw [HL.out]; rfl)]; exact hJ3⟩, ⟨(hnx.out.trans (KB.of_below ((Below.refl _ _).alloc (Nat.le_refl _) _) (Nat.le_trans hBW hnx.out.1))).trans hk3⟩⟩
            case measure => simp [intOf]; omega
          · gi_wp2
            refine bodyPost_ret (results_none rfl _ _ _) rfl ?_
            exact ⟨⟨_, rfl⟩, .inr ⟨_, ⟨k + 1, by omega, (leavF_take hlt (by rw [HL.out]; rfl)).symm⟩, hJx3⟩⟩
    · obtain rfl : k = l.length := by omega
      gi_wp2
      go_end0
      exact ⟨⟨_, rfl⟩, .inl ⟨_, rfl, hJs.out⟩⟩
set_option maxRecDepth 100000 in
set_option maxHeartbeats 2000000 in
theorem leaving_in (F : Fence) (n : Nat) (h85 : F.fn 85) (hro : F.round = none) (nn set : Int) (l : List Ed) (A : Option Addr) (c : Nat) (w : World) :
    CallsIn F n Try.prog 85 #[.agg #[.int .i64 nn, .slice A l.length c], .int .i64 set] w fun e w' => e = .returned (.func (.func 114) #[] #[.pointer (some ⟨w.heap.size, 0, none⟩), .pointer (some ⟨w.heap.size + 1, 0, none⟩)]) ∧
      w' = (w.alloc (.cells #[.int .i64 nn, .slice A l.length c] 26)).alloc (.cells #[.int .i64 set] 3) := by
  have hu26 := Try.underlying26
  refine callsIn_of_wp Try.func85 rfl h85 ?_ hro
  simp only [Try.ntmps85, List.size_toArray, List.length_cons, List.length_nil, Nat.reduceAdd, Nat.reduceSub, Array.replicate_succ, Array.replicate_zero, List.push_toArray, List.append_toArray, List.nil_append, List.cons_append]
  gi_wp2
  go_ret
  exact ⟨rfl, rfl⟩

/-- The contract of the function value that 'leaving' hands back. -/
theorem leav_stops (F : Fence) (n : Nat) (h114 : F.fn 114) (hro : F.round = none) (hn : 1 ≤ n) (B x gn gs : Nat) (nn set : Int) (l : List Ed) (A : Option Addr) (c : Nat)
    (hgn : gn < B) (hgnx : gn ≠ x) (hgs : gs < B) (hgsx : gs ≠ x) (hAB : ∀ ad, A = some ad → 0 < l.length → ad.block < B ∧ ad.block ≠ x) (hl : l.length ≤ 40)
    (hv : ∀ k : Nat, k < l.length → 0 ≤ (rd_T72 l k).f0 ∧ (rd_T72 l k).f0 ≤ 11 ∧ 0 ≤ (rd_T72 l k).f1 ∧ (rd_T72 l k).f1 ≤ 11) (hset : 0 ≤ set) (hset2 : set < 9223372036854775808)
    (w : World) (hBW : B ≤ w.heap.size)
    (hbn : w.heap[gn]? = some (.cells #[.int .i64 nn, .slice A l.length c] 26 (0, 0))) (hbs : w.heap[gs]? = some (.cells #[.int .i64 set] 3 (0, 0)))
    (hr : Kd.C k72 w A l.length l) :
    SeqStopsK F n Try.prog 114 #[.pointer (some ⟨gn, 0, none⟩), .pointer (some ⟨gs, 0, none⟩)] (fun i : Fin l.length => #[Value.int .i64 (i.val : Int)]) (KB B x) (fun ys => ys = leavF set l l.length) (fun pre => ∃ k, k ≤ l.length ∧ pre = leavF set l k) l.length w :=
  fun lp J Jx W hW hJ _ hY h0 =>
    leav1_in F n h114 hro hn lp B x gn gs nn set l A c hgn hgnx hgs hgsx hAB hl hv hset hset2 J Jx W (Nat.le_trans hBW hW.size) hJ hY (blk_below hbn hW) (blk_below hbs hW) (Kd.C_below hr hW) h0
attribute [local go_sem] Oper.semAt_some

def sumF (l : List Ed) : List (Fin l.length) → Int
  | [] => 0
  | i :: r => (rd_T72 l (i.val : Int)).f2 + sumF l r
theorem sumF_snoc (l : List Ed) (p : List (Fin l.length)) (i : Fin l.length) : sumF l (p ++ [i]) = sumF l p + (rd_T72 l (i.val : Int)).f2 := by
  induction p with
  | nil => simp [sumF]
  | cons a r ih => simp only [List.cons_append, sumF, ih]; omega
theorem sumF_bound (l : List Ed) (hc : ∀ k : Nat, k < l.length → 0 ≤ (rd_T72 l k).f2 ∧ (rd_T72 l k).f2 ≤ 10000) (p : List (Fin l.length)) : 0 ≤ sumF l p ∧ sumF l p ≤ 10000 * p.length := by
  induction p with
  | nil => simp [sumF]
  | cons a r ih =>
    have := hc a.val a.isLt
    simp only [sumF, List.length_cons]
    omega

theorem keeps_kb {B x : Nat} {w : World} (hB : B ≤ w.heap.size) (W : World) (l : Nat) (o o' : Obj) (hl : w.heap.size ≤ l) (h : W.heap[l]? = some o) (_ : o.isCells = false) (_ : o.isWalk = false) : KB B x W (W.putObj l o') := by
  have g := grownBy_putObj' W l o'
  refine ⟨g.size, fun i hi hx => ?_⟩
  have h1 := (Array.getElem?_eq_some_iff.1 h).1
  exact g.block i (by omega) (fun e => by cases e; omega)

theorem wrap_small (a b : Int) (h0 : 0 ≤ a) (h1 : a ≤ 1000000000) (h2 : 0 ≤ b) (h3 : b ≤ 1000000000) : IntKind.i64.wrap (a + b) = a + b := by
  rw [i64_w]; unfold wrap64; omega
theorem cap_close {w W : World} {l : List Ed} {pre : List (Fin l.length)} {x : Fin l.length} {sm : Int} {sv : Value} (hcs : W.cell? ⟨w.heap.size + 1, 0, none⟩ = some (.int .i64 sm)) (hfs : W.frozen? ⟨w.heap.size + 1, 0, none⟩ = false)
    (hcn : W.cell? ⟨w.heap.size, 1, none⟩ = some sv) (hpl : pre.length < l.length) (hB : Below w.heap.size w W) (HS : sumF l (pre ++ [x]) = sm + (rd_T72 l (x.val : Int)).f2) (h0 : 0 ≤ sm) (h1 : sm ≤ 10000 * pre.length) (h2 : 0 ≤ (rd_T72 l (x.val : Int)).f2) (h3 : (rd_T72 l (x.val : Int)).f2 ≤ 10000) (hl : l.length ≤ 40) :
    KeepsOthers W (W.setCell ⟨w.heap.size + 1, 0, none⟩ (.int .i64 (IntKind.i64.wrap (sm + (rd_T72 l (x.val : Int)).f2)))).drew ∧ KB (w.heap.size + 4) (w.heap.size + 1) W (W.setCell ⟨w.heap.size + 1, 0, none⟩ (.int .i64 (IntKind.i64.wrap (sm + (rd_T72 l (x.val : Int)).f2)))).drew ∧
    ((W.setCell ⟨w.heap.size + 1, 0, none⟩ (.int .i64 (IntKind.i64.wrap (sm + (rd_T72 l (x.val : Int)).f2)))).drew.cell? ⟨w.heap.size + 1, 0, none⟩ = some (.int .i64 (sumF l (pre ++ [x]))) ∧ (W.setCell ⟨w.heap.size + 1, 0, none⟩ (.int .i64 (IntKind.i64.wrap (sm + (rd_T72 l (x.val : Int)).f2)))).drew.frozen? ⟨w.heap.size + 1, 0, none⟩ = false) ∧
    (W.setCell ⟨w.heap.size + 1, 0, none⟩ (.int .i64 (IntKind.i64.wrap (sm + (rd_T72 l (x.val : Int)).f2)))).drew.cell? ⟨w.heap.size, 1, none⟩ = some sv ∧ (pre ++ [x]).length ≤ l.length ∧ Below w.heap.size w (W.setCell ⟨w.heap.size + 1, 0, none⟩ (.int .i64 (IntKind.i64.wrap (sm + (rd_T72 l (x.val : Int)).f2)))).drew := by
  rw [wrap_small _ _ h0 (by omega) h2 (by omega), HS]
  have e : ∀ v, (W.setCell ⟨w.heap.size + 1, 0, none⟩ v).drew.heap = (W.setCell ⟨w.heap.size + 1, 0, none⟩ v).heap := fun _ => rfl
  refine ⟨(KeepsOthers.setCell _ _ _).trans (KeepsOthers.drew _), ⟨?_, ?_⟩, ⟨?_, ?_⟩, ?_, by simp; omega, below_drew1 (below_set hB (by omega))⟩
  · rw [e]; simp
  · intro i hi hx
    rw [e]; exact Below.heap_setCell W _ _ i hx
  · exact World.cell?_setCell_same' W ⟨w.heap.size + 1, 0, none⟩ _ (by rw [hcs]; rfl)
  · show (W.setCell ⟨w.heap.size + 1, 0, none⟩ _).frozen? _ = false
    rw [World.frozen?_setCell]; exact hfs
  · exact (cell_far (W := W) (p := ⟨w.heap.size + 1, 0, none⟩) (a := ⟨w.heap.size, 1, none⟩) (by show w.heap.size ≠ w.heap.size + 1; omega) _).trans hcn

set_option maxRecDepth 100000 in
set_option maxHeartbeats 4000000 in
theorem capacity_in (F : Fence) (n : Nat) (h82 : F.fn 82) (h85 : F.fn 85) (h114 : F.fn 114) (hro : F.round = none) (hn : 3 ≤ n) (nn set : Int) (l : List Ed) (A : Option Addr) (c : Nat) (w : World) (hl : l.length ≤ 40)
    (hv : ∀ k : Nat, k < l.length → 0 ≤ (rd_T72 l k).f0 ∧ (rd_T72 l k).f0 ≤ 11 ∧ 0 ≤ (rd_T72 l k).f1 ∧ (rd_T72 l k).f1 ≤ 11) (hc : ∀ k : Nat, k < l.length → 0 ≤ (rd_T72 l k).f2 ∧ (rd_T72 l k).f2 ≤ 10000) (hset : 0 ≤ set) (hset2 : set < 9223372036854775808)
    (hr : Kd.C k72 w A l.length l) :
    CallsIn F n Try.prog 82 #[.agg #[.int .i64 nn, .slice A l.length c], .int .i64 set] w fun e W' => e = .returned (.int .i64 (sumF l (leavF set l l.length))) ∧ Below w.heap.size w W' := by
  have h1 : 1 ≤ n := by omega
  have hu26 := Try.underlying26
  have hu72 := Try.underlying72
  have HR := Aside0.mk hr
  have HV := Aside0.mk hv
  have HC := Aside0.mk hc
  have hAB : ∀ ad, A = some ad → 0 < l.length → ad.block < w.heap.size + 4 ∧ ad.block ≠ w.heap.size + 1 := fun ad ea h0 => by
    obtain ⟨ad', ea', hx0, _, _⟩ := at_T72 hr (0 : Int) (by omega) (by omega)
    rw [ea] at ea'; cases ea'
    have := World.block_lt_of_cell? w _ hx0
    rw [add_block] at this
    exact ⟨by omega, by omega⟩
  have HAB := Aside0.mk hAB
  clear hr hv hc hAB
  refine callsIn_of_wp_marks Try.func82 rfl h82 ?_ hro
  simp only [Try.ntmps82, List.size_toArray, List.length_cons, List.length_nil, Nat.reduceAdd, Nat.reduceSub, Array.replicate_succ, Array.replicate_zero, List.push_toArray, List.append_toArray, List.nil_append, List.cons_append]
  gi_wp2_with (gi_at_call 85; refine (leaving_in F (n - 1) h85 hro nn set l A c _).mono ?_; rintro e w' ⟨rfl, rfl⟩)
  obtain ⟨W0, hW0⟩ : ∃ W0, ((((w.alloc (Obj.cells #[Value.int IntKind.i64 nn, Value.slice A l.length c] 26)).alloc (Obj.cells #[Value.int IntKind.i64 0] 3)).alloc (Obj.cells #[Value.int IntKind.i64 nn, Value.slice A l.length c] 26)).alloc (Obj.cells #[Value.int IntKind.i64 set] 3)) = W0 := ⟨_, rfl⟩
  have hsz : W0.heap.size = w.heap.size + 4 := by rw [← hW0]; simp
  have b0 : W0.heap[w.heap.size]? = some (.cells #[.int .i64 nn, .slice A l.length c] 26 (0, 0)) := by rw [← hW0]; exact blk_alloc (blk_alloc (blk_alloc (blk_new _ _) _) _) _
  have b1 : W0.heap[w.heap.size + 1]? = some (.cells #[.int .i64 0] 3 (0, 0)) := by rw [← hW0]; exact blk_alloc (blk_alloc (by have h := blk_new (w.alloc (Obj.cells #[Value.int IntKind.i64 nn, Value.slice A l.length c] 26)) (Obj.cells #[Value.int IntKind.i64 0] 3); rwa [World.size_alloc] at h) _) _
  have b2 : W0.heap[w.heap.size + 1 + 1]? = some (.cells #[.int .i64 nn, .slice A l.length c] 26 (0, 0)) := by rw [← hW0]; exact blk_alloc (by have h := blk_new ((w.alloc (Obj.cells #[Value.int IntKind.i64 nn, Value.slice A l.length c] 26)).alloc (Obj.cells #[Value.int IntKind.i64 0] 3)) (Obj.cells #[Value.int IntKind.i64 nn, Value.slice A l.length c] 26); rwa [World.size_alloc, World.size_alloc] at h) _
  have b3 : W0.heap[w.heap.size + 1 + 1 + 1]? = some (.cells #[.int .i64 set] 3 (0, 0)) := by rw [← hW0]; have h := blk_new (((w.alloc (Obj.cells #[Value.int IntKind.i64 nn, Value.slice A l.length c] 26)).alloc (Obj.cells #[Value.int IntKind.i64 0] 3)).alloc (Obj.cells #[Value.int IntKind.i64 nn, Value.slice A l.length c] 26)) (Obj.cells #[Value.int IntKind.i64 set] 3); rwa [World.size_alloc, World.size_alloc, World.size_alloc] at h
  have hB0 : Below w.heap.size w W0 := by rw [← hW0]; exact below_alloc (below_alloc (below_alloc (below_alloc (Below.refl _ _) _) _) _) _
  rw [hW0]
  clear hW0
  have hst := leav_stops F (n - 1) h114 hro (by omega) (w.heap.size + 4) (w.heap.size + 1) (w.heap.size + 1 + 1) (w.heap.size + 1 + 1 + 1) nn set l A c (by omega) (by omega) (by omega) (by omega) HAB.out hl HV.out hset hset2 W0 (by omega) b2 b3 (Kd.C_below HR.out hB0)
  refine wpIn_rangeFunc_ownF hro h1 (gf := 114) (lb := #[.pointer (some ⟨w.heap.size + 1 + 1, 0, none⟩), .pointer (some ⟨w.heap.size + 1 + 1 + 1, 0, none⟩)]) rfl h114 (enters_of Try.func114 (by kernel_rfl) rfl)
    hst KB.trans (keeps_kb (by omega)) (Below.refl _ _) (fun _ => rfl)
    (fun pre W => (W.cell? ⟨w.heap.size + 1, 0, none⟩ = some (.int .i64 (sumF l pre)) ∧ W.frozen? ⟨w.heap.size + 1, 0, none⟩ = false) ∧ (W.cell? ⟨w.heap.size, 1, none⟩ = some (.slice A l.length c)) ∧ pre.length ≤ l.length ∧ Below w.heap.size w W)
    (fun _ _ _ => False)
    (OwnFrom.and (Own.from (fun s A B row hs hg hr => ⟨cell_kept hs.1 hg hr, (frozen_kept hs.1 hg hr).trans hs.2⟩) _) (OwnFrom.and (Own.from (fun s A B row hs hg hr => cell_kept hs hg hr) _) (OwnFrom.and (ownFrom_pure _ _) (ownFrom_below (Nat.le_refl _) (by omega)))))
    (fun _ _ _ _ _ hs _ _ => hs)
    ⟨⟨(blk_cell b1 0).trans rfl, blk_frozen b1 0⟩, (blk_cell b0 1).trans rfl, by simp, hB0⟩
    (fun x => { tmps := #[Value.agg #[Value.int IntKind.i64 nn, Value.slice A l.length c], Value.int IntKind.i64 set, Value.pointer (some { block := w.heap.size, off := 0 }), undef, Value.int IntKind.i64 0, Value.pointer (some { block := w.heap.size + 1, off := 0 }), .int .i64 (x.val : Int), Value.agg #[Value.int IntKind.i64 nn, Value.slice A l.length c], Value.int IntKind.i64 set, Value.func (Fn.func 114) #[] #[Value.pointer (some { block := w.heap.size + 1 + 1, off := 0 }), Value.pointer (some { block := w.heap.size + 1 + 1 + 1, off := 0 })], .int .i64 (x.val : Int), undef, undef, undef, undef, undef, undef, undef, undef, undef], defers := [] }) ?assign ?body ?done ?stop
  case assign =>
    intro lp x W K hK
    gi_wp2
    exact hK
  case body =>
    rintro lp pre x W ⟨⟨hcs, hfs⟩, hcn, hlen, hB⟩ hpl
    obtain ⟨ad, ea, hx0, hx1, hx2⟩ := at_T72 HR.out (x.val : Int) (by omega) (by have := x.isLt; omega)
    cases ea
    simp only [Int.toNat_natCast] at hx0 hx1 hx2
    replace hx2 := (hB.cell (World.block_lt_of_cell? w _ hx2)).trans hx2
    have hsn := sumF_snoc l pre x
    have hbd := sumF_bound l HC.out pre
    have hbx := HC.out x.val x.isLt
    have hxl := x.isLt
    have HS := Aside0.mk hsn
    clear hsn
    generalize sumF l pre = sm at HS hcs hbd
    obtain ⟨hb1, hb2⟩ := hbd
    obtain ⟨hb3, hb4⟩ := hbx
    gi_wp2
    gi_region
    all_goals gi_wp2
    all_goals exact cap_close hcs hfs hcn hpl hB HS.out hb1 hb2 hb3 hb4 hl
  case done =>
    rintro D ys W hD rfl ⟨⟨hcs, hfs⟩, hcn, hlen, hB⟩ hK
    gi_wp2
    refine ⟨by simp, .inl ⟨_, _, rfl, run_takeDeferred hK, ?_⟩⟩
    exact ⟨_, results_tmp rfl _ _ _, rfl, hB.trans (belowK_b (w := w) (Nat.le_refl _) W D _ _ (by omega) hK rfl rfl)⟩
  case stop =>
    rintro D c pre W _ _ h _
    exact h.elim

theorem rd_mem (l : List Ed) (k : Nat) (h : k < l.length) : rd_T72 l (k : Int) = l[k] := by simp [rd_T72, List.getD, h]
theorem valid_facts {n : Int} {es : List Ed} (h : validB n es = true) : (0 ≤ n ∧ n ≤ 12) ∧ es.length ≤ 40 ∧ ∀ k : Nat, k < es.length → 0 ≤ (rd_T72 es k).f0 ∧ (rd_T72 es k).f0 ≤ n - 1 ∧ 0 ≤ (rd_T72 es k).f1 ∧ (rd_T72 es k).f1 ≤ n - 1 ∧ (rd_T72 es k).f0 ≠ (rd_T72 es k).f1 ∧ 0 ≤ (rd_T72 es k).f2 ∧ (rd_T72 es k).f2 ≤ 10000 := by
  unfold validB at h
  simp only [Bool.and_eq_true, decide_eq_true_eq, List.all_eq_true] at h
  obtain ⟨⟨⟨h0, h1⟩, h2⟩, h3⟩ := h
  refine ⟨⟨h0, h1⟩, h2, fun k hk => ?_⟩
  rw [rd_mem es k hk]
  have := h3 es[k] (List.getElem_mem hk)
  unfold goodE at this
  simp only [Bool.and_eq_true, decide_eq_true_eq] at this
  obtain ⟨⟨⟨⟨a, b⟩, c, d⟩, e⟩, f, g⟩ := this
  exact ⟨a, b, c, d, e, f, g⟩

theorem sumCap_append (a b : List Ed) : sumCap (a ++ b) = sumCap a + sumCap b := by
  induction a with
  | nil => simp [sumCap]
  | cons x r ih => simp only [List.cons_append, sumCap, ih]; omega
theorem sumF_leav (set : Int) (l : List Ed) : ∀ k, k ≤ l.length → sumF l (leavF set l k) = capL (l.take k) set := by
  intro k
  induction k with
  | zero => intro _; simp [leavF, sumF, capL, sumCap]
  | succ k ih =>
    intro hk
    have h : k < l.length := by omega
    have e : l.take (k + 1) = l.take k ++ [l[k]] := by rw [List.take_succ_eq_append_getElem h]
    have ih' := ih (by omega)
    unfold capL at ih' ⊢
    rw [e, List.filter_append, sumCap_append, ← ih']
    cases hl : leavesE set l[k] with
    | true => rw [leavF_take h hl, sumF_snoc, rd_mem l k h]; simp [hl, sumCap]
    | false => rw [leavF_skip h hl]; simp [hl, sumCap]

theorem flow_capacity.calls (a0_0 : Int) (A0_1 : Option Addr) (c0_1 : Nat) (l0_1 : List (S72)) (a1 : Int) (r : Int) (w : World) (hr0_1 : Kd.C k72 w A0_1 l0_1.length l0_1) (hc0_1 : l0_1.length ≤ c0_1) (h : flow_capacity.f a0_0 l0_1 a1 = some r) :
    Calls Try.prog 82 #[.agg #[.int .i64 a0_0, .slice A0_1 l0_1.length c0_1], .int .i64 a1] w fun e w' => e = .returned (.int .i64 r) ∧ Below w.heap.size w w' := by
  unfold flow_capacity.f at h
  split at h
  · rename_i hv
    simp only [Bool.and_eq_true, decide_eq_true_eq] at hv
    obtain ⟨hv, h0, hset2⟩ := hv
    obtain ⟨hn, hl, hk⟩ := valid_facts hv
    have hcap := sumF_leav a1 l0_1 l0_1.length (Nat.le_refl _)
    rw [List.take_length] at hcap
    have hr : r = sumF l0_1 (leavF a1 l0_1 l0_1.length) := by rw [hcap]; exact (Option.some.inj h).symm
    subst hr
    exact (callsIn_wide (n := 3)).1 (capacity_in Fence.wide 3 trivial trivial trivial rfl (by omega) a0_0 a1 l0_1 A0_1 c0_1 w hl (fun k h => by obtain ⟨a, b, c, d, _⟩ := hk k h; omega) (fun k h => by obtain ⟨a, b, c, d, e, f, g⟩ := hk k h; omega) h0 hset2 hr0_1)
  · exact absurd h (by simp)
end Go.Proofs.Ytkkakdpncogpkaa.D
end
