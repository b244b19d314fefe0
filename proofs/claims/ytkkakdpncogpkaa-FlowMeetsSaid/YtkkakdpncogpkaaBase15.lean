/- Parts of the proof of a law about flows (see the law's own text): HCollect. Conditions: each theorem's own. -/
import Derived.Test.YtkkakdpncogpkaaBase13
import Derived.OwnWalkIn
section
/- The contract of slices.Collect over the function value of flow.leaving. Conditions: the contract's own. -/
namespace Go.Proofs.Ytkkakdpncogpkaa.D
open Go.RowKit Go.Shelf Go.Proofs.YtkkakdpncogpkaaW.PrintWords Go.Proofs.YtkkakdpncogpkaaW.PrintLast Go.Proofs.YtkkakdpncogpkaaW.PrintMore
set_option linter.unusedVariables false
set_option linter.unusedSimpArgs false
attribute [local go_sem] Oper.semAt_some

theorem row_ne {W : World} {base : Nat} {e : TypeId} {size : Nat} {v : Value} {k : Nat} {xs : List Value} (h : W.ownsRow base e size v k xs) {j : Nat} {o : Obj} (hj : W.heap[j]? = some o) (hno : ∀ cur, o ≠ .cells cur e (0, 0)) : some j ≠ v.ownBlock := by
  rcases h.2 with ⟨rfl, _⟩ | ⟨g, cap, cur, rfl, _, hg, _⟩
  · intro e; cases e
  · intro e; simp only [Value.ownBlock, Option.some.injEq] at e
    subst e
    rw [hj] at hg
    exact hno cur (Option.some.inj hg)
theorem row_kept {W W' : World} {base : Nat} {e : TypeId} {size : Nat} {v : Value} {k : Nat} {xs : List Value} {row : Option Nat} (h : W.ownsRow base e size v k xs) (hg : W.grownBy W' row) (hr : ∀ r, row = some r → ∃ o : Obj, W.heap[r]? = some o ∧ o.isCells = false) : W'.ownsRow base e size v k xs := by
  refine h.kept hg ?_
  cases row with
  | none =>
    cases hv : v.ownBlock with
    | none => exact .inl rfl
    | some _ => exact .inr (by simp)
  | some r =>
    obtain ⟨o, ho, hc⟩ := hr r rfl
    exact .inr (fun e => row_ne h ho (fun cur e => by rw [e] at hc; cases hc) e.symm)
/-- What AppendSeq keeps between two rounds. -/
def ApI (w : World) (l : List Ed) (pre : List (Fin l.length)) (W : World) : Prop :=
  (∃ v, W.heap[w.heap.size]? = some (.cells #[v] 27 (0, 0)) ∧ W.ownsRow (w.heap.size + 1) 3 1 v pre.length (pre.map fun i => Value.int .i64 (i.val : Int)) ∧ (pre = [] → v = .slice none 0 0)) ∧ pre.length ≤ l.length ∧ Below w.heap.size w W
theorem ApI.own (w : World) (l : List Ed) (B : Nat) (hB : w.heap.size ≤ B) : OwnFrom B (ApI w l) := fun s W W' row h hg hr => by
  obtain ⟨⟨v, hv, hrow, hnil⟩, hl, hb⟩ := h
  refine ⟨⟨v, (hg.block w.heap.size (blk_lt hv) (fun e => ?_)).trans hv, row_kept hrow hg (fun r e => (hr r e).2), hnil⟩, hl, hb.grown hg hb.size (fun k e => Nat.le_trans hB (hr k e).1)⟩
  obtain ⟨_, o, ho, hc⟩ := hr _ e.symm
  rw [hv] at ho
  cases ho
  cases hc
theorem one_new (W : World) (u0 : Value) (e : Nat) : ∀ j u, [u0][j]? = some u → (W.alloc (.cells #[u0] e)).cell? (Addr.add ⟨W.heap.size, 0, none⟩ j) = some u := by
  intro j u h
  cases j with
  | zero =>
    simp only [List.getElem?_cons_zero, Option.some.injEq] at h
    subst h
    exact (blk_cell (blk_new W (.cells #[u0] e)) 0).trans rfl
  | succ j => simp at h
theorem ap_close {w W w3 : World} {l : List Ed} {pre : List (Fin l.length)} {x : Fin l.length} {v v' : Value} {o : Obj}
    (hbx : W.heap[w.heap.size]? = some (.cells #[v] 27 (0, 0))) (hrow : W.ownsRow (w.heap.size + 1) 3 1 v pre.length (pre.map fun i => Value.int .i64 (i.val : Int)))
    (hown : w3.ownsRow (w.heap.size + 1) 3 1 v' (pre.length + 1) ((pre.map fun i => Value.int .i64 (i.val : Int)) ++ [.int .i64 (x.val : Int)])) (hg : (W.alloc o).grownBy w3 v.ownBlock) (hB : Below w.heap.size w W) (hpl : pre.length < l.length) :
    KeepsOthers W (w3.setCell ⟨w.heap.size, 0, none⟩ v') ∧ KB (w.heap.size + 1) w.heap.size W (w3.setCell ⟨w.heap.size, 0, none⟩ v') ∧ ApI w l (pre ++ [x]) (w3.setCell ⟨w.heap.size, 0, none⟩ v') := by
  have hne : some w.heap.size ≠ v.ownBlock := row_ne hrow hbx (fun cur e => by cases e)
  have hlt := blk_lt hbx
  have hsz : (W.alloc o).heap.size = W.heap.size + 1 := by simp
  have hb3 : w3.heap[w.heap.size]? = some (.cells #[v] 27 (0, 0)) := blk_grown (blk_alloc hbx o) hg hne
  have hbase : ∀ k, v.ownBlock = some k → w.heap.size + 1 ≤ k := fun k e => by
    rcases hrow.2 with ⟨rfl, _⟩ | ⟨g, cap, cur, rfl, hb, _⟩
    · cases e
    · simp only [Value.ownBlock, Option.some.injEq] at e; omega
  refine ⟨(KeepsOthers.alloc W o).trans ((KeepsOthers.of_grownBy hg (fun j o' e ho => ?_)).trans (KeepsOthers.setCell _ _ _)), ⟨?_, fun i hi hx => ?_⟩, ⟨v', blk_put hb3 0 v' rfl, ?_, fun e => by simp at e⟩, by simp; omega, ?_⟩
  · rcases hrow.2 with ⟨rfl, _⟩ | ⟨g, cap, cur, rfl, hb, hcur, _⟩
    · cases e
    · simp only [Value.ownBlock, Option.some.injEq] at e
      subst e
      have h2 := blk_alloc (o' := o) hcur
      rw [ho] at h2
      cases h2
      rfl
  · have := hg.size
    have e : (w3.setCell ⟨w.heap.size, 0, none⟩ v').heap.size = w3.heap.size := by simp
    rw [e]; omega
  · rw [Below.heap_setCell _ _ _ i hx, hg.block i (by omega) (fun e => by have := hbase i e.symm; omega)]
    exact Below.heap_alloc _ _ i (by omega)
  · have h1 : (pre ++ [x]).length = pre.length + 1 := by simp
    have h2 : ((pre ++ [x]).map fun i => Value.int .i64 (i.val : Int)) = (pre.map fun i => Value.int .i64 (i.val : Int)) ++ [.int .i64 (x.val : Int)] := by simp
    rw [h1, h2]
    exact hown.kept (row := some w.heap.size) (grownBy_setCell' _ _ _) (.inr (fun e => row_ne hown hb3 (fun cur e => by cases e) e.symm))
  · exact below_set ((below_alloc hB o).grown hg (by have := hB.size; omega) (fun k e => by have := hbase k e; omega)) (Nat.le_refl _)
set_option maxRecDepth 100000 in
set_option maxHeartbeats 4000000 in
theorem appendSeq_in (F : Fence) (n : Nat) (h113 : F.fn 113) (h114 : F.fn 114) (hro : F.round = none) (hn : 2 ≤ n) (gn gs : Nat) (nn set : Int) (l : List Ed) (A : Option Addr) (c : Nat) (w : World) (hl : l.length ≤ 40)
    (hv : ∀ k : Nat, k < l.length → 0 ≤ (rd_T72 l k).f0 ∧ (rd_T72 l k).f0 ≤ 11 ∧ 0 ≤ (rd_T72 l k).f1 ∧ (rd_T72 l k).f1 ≤ 11) (hset : 0 ≤ set) (hset2 : set < 9223372036854775808)
    (hbn : w.heap[gn]? = some (.cells #[.int .i64 nn, .slice A l.length c] 26 (0, 0))) (hbs : w.heap[gs]? = some (.cells #[.int .i64 set] 3 (0, 0)))
    (hr : Kd.C k72 w A l.length l) :
    CallsIn F n Try.prog 113 #[.slice none 0 0, .func (.func 114) #[] #[.pointer (some ⟨gn, 0, none⟩), .pointer (some ⟨gs, 0, none⟩)]] w fun e W' => ∃ v, e = .returned v ∧ W'.ownsRow (w.heap.size + 1) 3 1 v (leavF set l l.length).length ((leavF set l l.length).map fun i => Value.int .i64 (i.val : Int)) ∧ (leavF set l l.length = [] → v = .slice none 0 0) ∧ Below w.heap.size w W' := by
  have h1 : 1 ≤ n := by omega
  have hu27 := Try.underlying27
  obtain ⟨i0, hi, hz⟩ := Option.map_eq_some_iff.1 info3
  simp only [Prod.mk.injEq] at hz
  obtain ⟨hz0, hz1, hz2⟩ := hz
  have HI := Aside0.mk hi
  have HZ0 := Aside0.mk hz0
  have HZ1 := Aside0.mk hz1
  have HZ2 := Aside0.mk hz2
  have HR := Aside0.mk hr
  have HV := Aside0.mk hv
  have BN := Aside0.mk hbn
  have BS := Aside0.mk hbs
  have GN := Aside0.mk (blk_lt hbn)
  have GS := Aside0.mk (blk_lt hbs)
  have hAB : ∀ ad, A = some ad → 0 < l.length → ad.block < w.heap.size + 1 ∧ ad.block ≠ w.heap.size := fun ad ea h0 => by
    obtain ⟨ad', ea', hx0, _, _⟩ := at_T72 hr (0 : Int) (by omega) (by omega)
    rw [ea] at ea'; cases ea'
    have := World.block_lt_of_cell? w _ hx0
    rw [add_block] at this
    exact ⟨by omega, by omega⟩
  have HAB := Aside0.mk hAB
  clear hr hv hAB hi hz0 hz1 hz2 hbn hbs
  refine callsIn_of_wp_marks Try.func113 rfl h113 ?_ hro
  simp only [Try.ntmps113, List.size_toArray, List.length_cons, List.length_nil, Nat.reduceAdd, Nat.reduceSub, Array.replicate_succ, Array.replicate_zero, List.push_toArray, List.append_toArray, List.nil_append, List.cons_append]
  gi_wp2
  obtain ⟨W0, hW0⟩ : ∃ W0, w.alloc (Obj.cells #[Value.slice none 0 0] 27) = W0 := ⟨_, rfl⟩
  have hsz : W0.heap.size = w.heap.size + 1 := by rw [← hW0]; simp
  have b0 : W0.heap[w.heap.size]? = some (.cells #[.slice none 0 0] 27 (0, 0)) := by rw [← hW0]; exact blk_new _ _
  have hB0 : Below w.heap.size w W0 := by rw [← hW0]; exact below_alloc (Below.refl _ _) _
  rw [hW0]
  clear hW0
  have hst := leav_stops F (n - 1) h114 hro (by omega) (w.heap.size + 1) w.heap.size gn gs nn set l A c (by have := GN.out; omega) (by have := GN.out; omega) (by have := GS.out; omega) (by have := GS.out; omega) HAB.out hl HV.out hset hset2 W0 (by omega) (blk_below BN.out hB0) (blk_below BS.out hB0) (Kd.C_below HR.out hB0)
  refine wpIn_rangeFunc_ownF hro h1 (gf := 114) (lb := #[.pointer (some ⟨gn, 0, none⟩), .pointer (some ⟨gs, 0, none⟩)]) rfl h114 (enters_of Try.func114 (by kernel_rfl) rfl)
    hst KB.trans (keeps_kb (by omega)) (Below.refl _ _) (fun _ => rfl)
    (ApI w l) (fun _ _ _ => False) (ApI.own w l _ (by omega)) (fun _ _ _ _ _ hs _ _ => hs)
    ⟨⟨_, b0, by simp [World.ownsRow], fun _ => rfl⟩, by simp, hB0⟩
    (fun x => { tmps := #[.slice none 0 0, .func (.func 114) #[] #[.pointer (some ⟨gn, 0, none⟩), .pointer (some ⟨gs, 0, none⟩)], .pointer (some ⟨w.heap.size, 0, none⟩), undef, .slice none 0 0, .int .i64 (x.val : Int), .func (.func 114) #[] #[.pointer (some ⟨gn, 0, none⟩), .pointer (some ⟨gs, 0, none⟩)], .int .i64 (x.val : Int), undef, undef, undef, undef, undef], defers := [] }) ?assign ?body ?done ?stop
  case assign =>
    intro lp x W K hK
    gi_wp2
    exact hK
  case body =>
    rintro lp pre x W ⟨⟨v, hbx, hrow, hnil⟩, hlen, hB⟩ hpl
    have y0 : W.cell? ⟨w.heap.size, 0, none⟩ = some v := (blk_cell hbx 0).trans rfl
    have HB := Aside0.mk hB
    have HBX := Aside0.mk hbx
    have HROW := Aside0.mk hrow
    have HSZ := Aside0.mk (Nat.succ_le_of_lt (blk_lt hbx))
    clear hB hbx hrow hsz b0 hB0 hst hnil
    gi_wp2_with (gi_at_builtin; refine wpListIn_append_own _ rfl _ _ 27 rfl (w.heap.size + 1) 3 i0 (.int .i64 0) 1 8 Try.underlying27 HI.out HZ0.out HZ1.out HZ2.out rfl (by decide) v pre.length _ rfl (HROW.out.alloc _) ⟨W.heap.size, 0, none⟩ 1 1 [.int .i64 (x.val : Int)] rfl rfl (one_new _ _ _) (by simp [Value.oneCell']) (by simp [maxLen]; omega) (by omega) (by have := HSZ.out; simp; omega) ?_; intro v' w3 hown' hg3 hnil3; obtain ⟨g', cap', hv'⟩ : ∃ g' cap', v' = .slice (some ⟨g', 0, none⟩) (pre.length + 1) cap' := (by rcases hown'.2 with ⟨_, h0⟩ | ⟨g', cap', cur', h', _⟩; (exact absurd h0 (by omega)); exact ⟨g', cap', h'⟩); subst hv'; have HO' := Aside0.mk hown'; have HG3 := Aside0.mk hg3; have hb3 : w3.heap[w.heap.size]? = some (.cells #[v] 27 (0, 0)) := blk_grown (blk_alloc HBX.out _) hg3 (row_ne HROW.out HBX.out (fun cur e => by cases e)); have y3 : w3.cell? ⟨w.heap.size, 0, none⟩ = some v := (blk_cell hb3 0).trans rfl; have y3f := blk_frozen hb3 0; clear hown' hg3 hnil3 hb3)
    exact ap_close HBX.out HROW.out HO'.out HG3.out HB.out hpl
  case done =>
    rintro D ys W hD rfl ⟨⟨v, hbx, hrow, hnil⟩, hlen, hB⟩ hK
    have y0 : W.cell? ⟨w.heap.size, 0, none⟩ = some v := (blk_cell hbx 0).trans rfl
    gi_wp2
    refine ⟨by simp, .inl ⟨_, _, rfl, run_takeDeferred hK, ?_⟩⟩
    refine ⟨_, results_tmp rfl _ _ _, v, rfl, row_kept hrow (grownBy_putObj' W D _) (fun r e => by cases e; exact ⟨_, hK, rfl⟩), fun e => (hnil e), hB.trans (belowK_b (w := w) (Nat.le_refl _) W D _ _ (by omega) hK rfl rfl)⟩
  case stop =>
    rintro D c pre W _ _ h _
    exact h.elim
set_option maxRecDepth 100000 in
set_option maxHeartbeats 4000000 in
theorem collect_in (F : Fence) (n : Nat) (h84 : F.fn 84) (h113 : F.fn 113) (h114 : F.fn 114) (hro : F.round = none) (hn : 3 ≤ n) (gn gs : Nat) (nn set : Int) (l : List Ed) (A : Option Addr) (c : Nat) (w : World) (hl : l.length ≤ 40)
    (hv : ∀ k : Nat, k < l.length → 0 ≤ (rd_T72 l k).f0 ∧ (rd_T72 l k).f0 ≤ 11 ∧ 0 ≤ (rd_T72 l k).f1 ∧ (rd_T72 l k).f1 ≤ 11) (hset : 0 ≤ set) (hset2 : set < 9223372036854775808)
    (hbn : w.heap[gn]? = some (.cells #[.int .i64 nn, .slice A l.length c] 26 (0, 0))) (hbs : w.heap[gs]? = some (.cells #[.int .i64 set] 3 (0, 0)))
    (hr : Kd.C k72 w A l.length l) :
    CallsIn F n Try.prog 84 #[.func (.func 114) #[] #[.pointer (some ⟨gn, 0, none⟩), .pointer (some ⟨gs, 0, none⟩)]] w fun e W' => ∃ v, e = .returned v ∧ W'.ownsRow (w.heap.size + 1) 3 1 v (leavF set l l.length).length ((leavF set l l.length).map fun i => Value.int .i64 (i.val : Int)) ∧ (leavF set l l.length = [] → v = .slice none 0 0) ∧ Below w.heap.size w W' := by
  refine callsIn_of_wp Try.func84 rfl h84 ?_ hro
  simp only [Try.ntmps84, List.size_toArray, List.length_cons, List.length_nil, Nat.reduceAdd, Nat.reduceSub, Array.replicate_succ, Array.replicate_zero, List.push_toArray, List.append_toArray, List.nil_append, List.cons_append]
  have h1 : 1 ≤ n := by omega
  gi_wp2_with (gi_at_call 113; refine (appendSeq_in F (n - 1) h113 h114 hro (by omega) gn gs nn set l A c w hl hv hset hset2 hbn hbs hr).mono ?_; rintro e w' ⟨v, rfl, hrow, hnil, hb⟩)
  go_ret
  exact ⟨_, rfl, hrow, hnil, hb⟩
/-- 'slices.Collect(leaving(n, set))'. -/
theorem collect_calls (gn gs : Nat) (n set : Int) (l : List Ed) (A : Option Addr) (c : Nat) (w : World) (hvb : validB n l = true) (hset : 0 ≤ set) (hset2 : set < 9223372036854775808)
    (hbn : w.heap[gn]? = some (.cells #[.int .i64 n, .slice A l.length c] 26 (0, 0))) (hbs : w.heap[gs]? = some (.cells #[.int .i64 set] 3 (0, 0)))
    (hr : Kd.C k72 w A l.length l) :
    Calls Try.prog 84 #[.func (.func 114) #[] #[.pointer (some ⟨gn, 0, none⟩), .pointer (some ⟨gs, 0, none⟩)]] w fun e W' => ∃ v, e = .returned v ∧ W'.ownsRow (w.heap.size + 1) 3 1 v (leavF set l l.length).length ((leavF set l l.length).map fun i => Value.int .i64 (i.val : Int)) ∧ (leavF set l l.length = [] → v = .slice none 0 0) ∧ Below w.heap.size w W' := by
  obtain ⟨hn, hl, hk⟩ := valid_facts hvb
  exact (callsIn_wide (n := 3)).1 (collect_in Fence.wide 3 trivial trivial trivial rfl (by omega) gn gs n set l A c w hl (fun k h => by obtain ⟨a, b, c, d, _⟩ := hk k h; omega) hset hset2 hbn hbs hr)
theorem leaving_calls (nn set : Int) (l : List Ed) (A : Option Addr) (c : Nat) (w : World) :
    Calls Try.prog 85 #[.agg #[.int .i64 nn, .slice A l.length c], .int .i64 set] w fun e w' => ∃ gn gs, e = .returned (.func (.func 114) #[] #[.pointer (some ⟨gn, 0, none⟩), .pointer (some ⟨gs, 0, none⟩)]) ∧
      w'.heap[gn]? = some (.cells #[.int .i64 nn, .slice A l.length c] 26 (0, 0)) ∧ w'.heap[gs]? = some (.cells #[.int .i64 set] 3 (0, 0)) ∧ Below w.heap.size w w' := by
  refine ((callsIn_wide (n := 3)).1 (leaving_in Fence.wide 3 trivial rfl nn set l A c w)).mono ?_
  rintro e w' ⟨rfl, rfl⟩
  refine ⟨_, _, rfl, blk_alloc (blk_new _ _) _, ?_, below_alloc (below_alloc (Below.refl _ _) _) _⟩
  have h := blk_new (w.alloc (Obj.cells #[Value.int IntKind.i64 nn, Value.slice A l.length c] 26)) (Obj.cells #[Value.int IntKind.i64 set] 3)
  rwa [World.size_alloc] at h
end Go.Proofs.Ytkkakdpncogpkaa.D
end
