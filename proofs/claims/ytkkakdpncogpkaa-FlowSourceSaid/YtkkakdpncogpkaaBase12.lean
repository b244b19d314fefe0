/- Parts of the proof of a law about flows (see the law's own text): M4. Conditions: each theorem's own. -/
import Derived.WalkMore
import Derived.Deep.DeepCutAuto
import Derived.Deep.CutBlock
import Derived.Test.YtkkakdpncogpkaaBase11
section
namespace Go.Proofs.Ytkkakdpncogpkaa.D
open Go.RowKit Go.Proofs.YtkkakdpncogpkaaW.PrintWords Go.Proofs.YtkkakdpncogpkaaW.PrintLast Go.Proofs.YtkkakdpncogpkaaW.PrintMore
set_option linter.unusedVariables false
set_option linter.unusedSimpArgs false

theorem idx14 {a b : Nat} (ha : a < 14) (hb : b < 14) : a * 14 + b < 196 := by omega
theorem qfar {W : World} {base g j : Nat} {v : Value} {xs : List Int} {u : Value} (h : (Kd.int .i64).Q 3 W base (fun _ => True) v xs) (hg : g < base) : (Kd.int .i64).Q 3 (W.setCell ⟨g, j, none⟩ u) base (fun _ => True) v xs :=
  Kd.Q_mono (Kd.Q_far (Kd.Q_bound h) (fun k hk => by have := hk.2.1; show k ≠ g; omega) u) (fun _ _ => trivial)
theorem BX.over {B B' x y : Nat} {a b c : World} (h : BX B x a b) (k : BX B' y b c) (hB : B ≤ B') (hy : B ≤ y) : BX B x a c := h.trans (BX.of_below (k.below hB hy))
theorem roomL_snoc (m : List Int) (a b : Int) : ∀ (l : List (Int × Int)) (r : Int), roomL m (l ++ [(a, b)]) r = if mAt m a b < roomL m l r then mAt m a b else roomL m l r
  | [], r => by rw [List.nil_append, roomL, roomL, roomL]
  | (p, q) :: l, r => by rw [List.cons_append, roomL, roomL]; exact roomL_snoc m a b l _
theorem pushL_snoc (room a b : Int) : ∀ (l : List (Int × Int)) (m : List Int), pushL room (l ++ [(a, b)]) m = pushL room [(a, b)] (pushL room l m)
  | [], m => by rw [List.nil_append]; rfl
  | (p, q) :: l, m => by rw [List.cons_append, pushL, pushL]; exact pushL_snoc room a b l _
theorem pushL_length (room : Int) : ∀ (l : List (Int × Int)) (m : List Int), (pushL room l m).length = m.length
  | [], m => by rw [pushL]
  | (p, q) :: l, m => by rw [pushL, pushL_length room l]; unfold mSet; rw [List.length_set, List.length_set]
theorem run_index135 (l : List Int) (hl : l.length = 14) (j : Nat) (hj : j < 14) (W : World) : Sem.run Try.prog (Instr.index 135 (.agg (cellsI l)) (.int .i64 j)) W = .ok (.int .i64 (l.getD j 0)) W := by
  have hu := Try.underlying135
  have hj2 : (j : Int) < 14 := by omega
  unfold Instr.index
  go_simp
  rw [cellsI_get l j (by omega)]
  simp [List.getD, hl, hj]

theorem or_pow (j : Nat) (hj : j < 14) (r : Int) (h0 : 0 ≤ r) (h1 : r < 2 ^ j) : Go.bits .or .i64 r (2 ^ j) = r + 2 ^ j := by
  obtain ⟨n, rfl⟩ := Int.eq_ofNat_of_zero_le h0
  have h1' : n < 2 ^ j := by exact_mod_cast h1
  have hp : 2 ^ j ≤ 8192 := by
    calc 2 ^ j ≤ 2 ^ 13 := Nat.pow_le_pow_right (by decide) (by omega)
      _ = 8192 := by decide
  have e : ((2 : Int) ^ j) = ((2 ^ j : Nat) : Int) := by simp
  rw [e]
  have hor : n ||| 2 ^ j = n + 2 ^ j := by
    have := Nat.two_pow_add_eq_or_of_lt h1' 1
    rw [Nat.mul_one] at this
    rw [Nat.or_comm, ← this, Nat.add_comm]
  have k1 : (BitVec.ofInt 64 (n : Int)).toNat = n := by
    rw [BitVec.ofInt_natCast, BitVec.toNat_ofNat]; exact Nat.mod_eq_of_lt (by omega)
  have k2 : (BitVec.ofInt 64 ((2 ^ j : Nat) : Int)).toNat = 2 ^ j := by
    rw [BitVec.ofInt_natCast, BitVec.toNat_ofNat]; exact Nat.mod_eq_of_lt (by omega)
  show IntKind.i64.wrap ((BitVec.ofInt 64 (n : Int) ||| BitVec.ofInt 64 ((2 ^ j : Nat) : Int)).toNat : Int) = _
  rw [BitVec.toNat_or, k1, k2, hor, i64_w]
  unfold wrap64
  omega
theorem wrap_pow (j : Nat) (hj : j < 14) : wrap64 ((2 : Int) ^ j) = 2 ^ j := by
  have hp : 2 ^ j ≤ 8192 := by
    calc 2 ^ j ≤ 2 ^ 13 := Nat.pow_le_pow_right (by decide) (by omega)
      _ = 8192 := by decide
  have e : ((2 : Int) ^ j) = ((2 ^ j : Nat) : Int) := by simp
  rw [e]
  generalize 2 ^ j = n at hp
  unfold wrap64; omega
theorem reach_take (l : List Int) : ∀ (j i : Nat), j < l.length → reachedL (l.take (j + 1)) i = reachedL (l.take j) i + (if 0 < l.getD j 0 then 2 ^ (i + j) else 0) := by
  induction l with
  | nil => intro j i h; simp at h
  | cons x r ih =>
    intro j i h
    cases j with
    | zero => simp [reachedL, List.getD]
    | succ j =>
      have := ih j (i + 1) (by simpa using h)
      simp only [List.take_succ_cons, reachedL, List.getD_cons_succ] at this ⊢
      rw [this, show i + 1 + j = i + (j + 1) by omega]
      omega
theorem reach_bound (l : List Int) : ∀ i, 0 ≤ reachedL l i ∧ reachedL l i + 2 ^ i ≤ 2 ^ (i + l.length) := by
  induction l with
  | nil => intro i; simp [reachedL]
  | cons x r ih =>
    intro i
    obtain ⟨a, b⟩ := ih (i + 1)
    have e : i + 1 + r.length = i + (r.length + 1) := by omega
    rw [e] at b
    have e2 : (2 : Int) ^ (i + 1) = 2 ^ i + 2 ^ i := by rw [Int.pow_succ]; omega
    have hp : (0 : Int) < 2 ^ i := Int.pow_pos (by decide)
    rw [e2] at b
    rw [reachedL, List.length_cons]
    split <;> constructor <;> omega
theorem list14 (l : List Int) (h : l.length = 14) : ∃ x0 x1 x2 x3 x4 x5 x6 x7 x8 x9 x10 x11 x12 x13, l = [x0, x1, x2, x3, x4, x5, x6, x7, x8, x9, x10, x11, x12, x13] := by
  match l, h with
  | [x0, x1, x2, x3, x4, x5, x6, x7, x8, x9, x10, x11, x12, x13], _ => exact ⟨x0, x1, x2, x3, x4, x5, x6, x7, x8, x9, x10, x11, x12, x13, rfl⟩
/-- What the search keeps of its array. -/
def LastOK (last : List Int) : Prop := last.length = 14 ∧ ∀ i : Nat, i < 14 → 0 ≤ rd last i ∧ rd last i ≤ 14
theorem LastOK.set {last : List Int} (h : LastOK last) (j x : Nat) (hj : j < 14) (hx : x < 14) : LastOK (last.set j ((x : Int) + 1)) := by
  refine ⟨by rw [List.length_set]; exact h.1, fun i hi => ?_⟩
  have := h.2 i hi
  simp only [rd, Int.toNat_natCast, List.getD] at this ⊢
  rw [List.getElem?_set]
  by_cases e : j = i
  · subst e
    rw [if_pos rfl, if_pos (by rw [h.1]; exact hj)]
    simp only [Option.getD_some]; omega
  · rw [if_neg e]; exact this
theorem last0_ok (s : Nat) (hs : s < 14) : LastOK (last0 s) := by
  have h : LastOK (List.replicate 14 (0 : Int)) := ⟨by simp, fun i hi => by
    simp only [rd, Int.toNat_natCast, List.getD]
    rw [List.getElem?_replicate, if_pos hi]
    decide⟩
  exact h.set s s hs hs
set_option maxRecDepth 100000 in
set_option maxHeartbeats 4000000 in
theorem matrix_push (s t : Nat) (hs : s < 14) (ht : t < 14) (gm K : Nat) (m0 : List Int) (rv rr : Int) (rm : List Int) (w : World) (hM : w.heap[gm]? = some (.cells (cellsI m0) 154 (0, 0))) (hl : m0.length = 196)
    (h : pushF s t K m0 0 = some (rv, rr, rm)) :
    Calls Try.prog 75 #[.pointer (some ⟨gm, 0, none⟩), .int .i64 s, .int .i64 t] w fun e w' => e = .returned (.tuple #[.int .i64 rv, .int .i64 rr]) ∧ w'.heap[gm]? = some (.cells (cellsI rm) 154 (0, 0)) ∧ BX w.heap.size gm w w' := by
  have H := Aside0.mk h
  have HM := Aside0.mk hM
  clear h hM
  go_enter Try.func75, Try.ntmps75
  go_wp2
  have b0 := blk_new w (Obj.cells #[Value.pointer (some { block := gm, off := 0 })] 117)
  have b1 := blk_new (w.alloc (Obj.cells #[Value.pointer (some { block := gm, off := 0 })] 117)) (Obj.cells #[Value.int IntKind.i64 s] 3)
  have b2 := blk_new ((w.alloc (Obj.cells #[Value.pointer (some { block := gm, off := 0 })] 117)).alloc (Obj.cells #[Value.int IntKind.i64 s] 3)) (Obj.cells #[Value.int IntKind.i64 t] 3)
  rw [World.size_alloc] at b1
  rw [World.size_alloc, World.size_alloc] at b2
  replace b1 := blk_alloc b1 (Obj.cells #[Value.int IntKind.i64 t] 3)
  replace b0 := blk_alloc (blk_alloc b0 (Obj.cells #[Value.int IntKind.i64 s] 3)) (Obj.cells #[Value.int IntKind.i64 t] 3)
  have hB0 : Below w.heap.size w (((w.alloc (Obj.cells #[Value.pointer (some { block := gm, off := 0 })] 117)).alloc (Obj.cells #[Value.int IntKind.i64 s] 3)).alloc (Obj.cells #[Value.int IntKind.i64 t] 3)) := below_alloc (below_alloc (below_alloc (Below.refl _ _) _) _) _
  have hsz : (((w.alloc (Obj.cells #[Value.pointer (some { block := gm, off := 0 })] 117)).alloc (Obj.cells #[Value.int IntKind.i64 s] 3)).alloc (Obj.cells #[Value.int IntKind.i64 t] 3)).heap.size = w.heap.size + 3 := by simp
  generalize (((w.alloc (Obj.cells #[Value.pointer (some { block := gm, off := 0 })] 117)).alloc (Obj.cells #[Value.int IntKind.i64 s] 3)).alloc (Obj.cells #[Value.int IntKind.i64 t] 3)) = w0 at b0 b1 b2 hB0 hsz ⊢
  have hgm := blk_lt HM.out
  have B0 := Aside0.mk b0
  have B1 := Aside0.mk b1
  have B2 := Aside0.mk b2
  have HB0 := Aside0.mk hB0
  have HSZ := Aside0.mk hsz
  have HGM := Aside0.mk hgm
  have HM0 := Aside0.mk (blk_below HM.out HB0.out)
  clear b0 b1 b2 hB0 hsz hgm
  have hn3 : w.heap.size ≠ gm := by have := HGM.out; omega
  have HN3 := Aside0.mk hn3
  clear hn3
  generalize hg3 : w.heap.size = g3 at *
  obtain ⟨g4, hg4⟩ : ∃ g4, g4 = g3 + 1 := ⟨_, rfl⟩
  obtain ⟨g5, hg5⟩ : ∃ g5, g5 = g3 + 1 + 1 := ⟨_, rfl⟩
  rw [← hg5] at B2
  rw [← hg4] at B1
  rw [← hg5, ← hg4]
  have HGS : Aside0 (g3 < g4 ∧ g4 < g5 ∧ g5 < w0.heap.size ∧ gm < g3) := ⟨by have := HSZ.out; have := HGM.out; omega⟩
  clear hg4 hg5 HSZ HGM HN3
  go_loopg [6, 7] K (fun gg v6 v7 wr => ∃ (k : Nat) (m : List Int) (v : Int), k ≤ gg ∧ v6 = .int .i64 v ∧ v7 = .int .i64 0 ∧ Aside0 (pushF s t k m v = some (rv, rr, rm)) ∧ Aside0 (m.length = 196) ∧ Aside0 (wr.heap[gm]? = some (.cells (cellsI m) 154 (0, 0))) ∧ Aside0 (BX w0.heap.size gm w0 wr))
  case atStart => exact ⟨K, m0, 0, Nat.le_refl _, rfl, rfl, H, ⟨hl⟩, HM0, ⟨BX.refl _ _ _⟩⟩
  case round =>
    obtain ⟨k, m, v, hk, rfl, rfl, HP, HL, BM, BW⟩ := hrel
    cases k with
    | zero => exact absurd HP.out (by simp [pushF])
    | succ k =>
    have hp := HP.out
    unfold pushF at hp
    obtain ⟨lastF, hbfs, hp⟩ := Option.bind_eq_some_iff.mp hp
    have HBF := Aside0.mk hbfs
    have HP2 := Aside0.mk hp
    clear hp hbfs HP
    have y4 : wr.cell? ⟨g4, 0, none⟩ = some (.int .i64 s) := (blk_cell (BW.out.blk B1.out (by have := HGS.out; omega) (by have := HGS.out; omega)) 0).trans rfl
    have hs14 : (s : Int) < 14 := by omega
    have hwS : wrap64 ((s : Int) + 1) = (s : Int) + 1 := by unfold wrap64; omega
    have HWR : Aside0 (w0.heap.size ≤ wr.heap.size) := ⟨BW.out.size⟩
    go_step
    go_step3
    go_upto_block 2 with (first | ((with_reducible refine gate_dst (N := 8) rfl ?_); refine box_event ?hg (N := 8) ?hd (cs := cellsI (List.replicate 14 0)) (t := 135) ?hr ?_; (case hd => rfl); (case hg => rfl); (case hr => first | (go_simp; done) | (go_simp; rfl)); intro g8 hg8 w8 hbox hb; have B8 := Aside0.mk hbox; have BW8 := Aside0.mk (BW.out.stepB hb HWR.out); have BM8 := Aside0.mk (blk_below BM.out hb); have G8 := Aside0.mk (show g8 = wr.heap.size from hg8); have G8' := Aside0.mk (show g8 < w8.heap.size from blk_lt hbox); have y48 : w8.cell? ⟨g4, 0, none⟩ = some (.int .i64 s) := hb.cell (World.block_lt_of_cell? _ _ y4) ▸ y4; clear hbox hb hg8 y4) | ((with_reducible refine gate_dst (N := 17) rfl ?_); refine Kd.R_lit (Kd.int .i64) _ 3 ?hg (N := 17) ?hd (xs := ([(s : Int)] : List Int)) (inner := [.int .i64 s]) (ok := fun _ => True) (okp := fun _ => True) ?hr ?hp (fun _ hk => hk) trivial (Below.refl _ _) (Nat.le_refl _) (by simp) ?_; (case hd => rfl); (case hg => rfl); (case hr => first | (go_simp; done) | (go_simp; rfl)); (case hp => exact (Reps.one (show Kd.M (Kd.int .i64) _ _ _ (s : Int) [.int .i64 s] from rfl) (Reps.none _ _))); intro v17 w17 ho hb hg_ hnew_; clear hg_ hnew_; have HQ := Aside0.mk (Kd.Q_of_R ho); have B17 := Aside0.mk hb; have y417 : w17.cell? ⟨g4, 0, none⟩ = some (.int .i64 s) := hb.cell (World.block_lt_of_cell? _ _ y48) ▸ y48; have y817 := row_cell (blk_below B8.out hb) s (by rw [List.length_replicate]; exact hs); have y818 : w17.frozen? ⟨g8, s, none⟩ = false := blk_frozen (blk_below B8.out hb) s; have L17 := Aside0.mk (blk_below B8.out hb); generalize (List.replicate 14 (0 : Int)).getD s 0 = z8 at y817; clear ho hb y48))
    have L18 := Aside0.mk (row_put L17.out s ((s : Int) + 1))
    have Q18 := Aside0.mk (qfar (j := s) (u := .int .i64 ((s : Int) + 1)) HQ.out G8'.out)
    have X18 := Aside0.mk ((BX.of_below B17.out (x := g8)).set (.inl rfl) s (.int .i64 ((s : Int) + 1)))
    clear HQ B17 L17 y417 y817 y818
    generalize World.setCell w17 _ _ = w18 at L18 Q18 X18 ⊢
    go_step3
    go_upto_block 2 with (fail)
    go_cut [] (fun wc => Aside0 (LastOK lastF) ∧ Aside0 (wc.heap[g8]? = some (.cells (cellsI lastF) 135 (0, 0))) ∧ Aside0 (BX w8.heap.size g8 w8 wc))
    case first =>
      have Y3 : Aside0 (w8.heap[g3]? = some (.cells #[.pointer (some ⟨gm, 0, none⟩)] 117 (0, 0))) := ⟨BW8.out.blk B0.out (by have := HGS.out; omega) (by have := HGS.out; omega)⟩
      have Y5 : Aside0 (w8.heap[g5]? = some (.cells #[.int .i64 t] 3 (0, 0))) := ⟨BW8.out.blk B2.out (by have := HGS.out; omega) (by have := HGS.out; omega)⟩
      have NE : Aside0 (g3 ≠ g8 ∧ g5 ≠ g8 ∧ gm ≠ g8 ∧ g3 < w8.heap.size ∧ g5 < w8.heap.size ∧ gm < w8.heap.size) := ⟨by have := HGS.out; have := G8.out; have := HWR.out; have := G8'.out; omega⟩
      go_wp2
      go_loopg [9] 14 (fun gg v9 w2 => ∃ (k2 : Nat) (last q : List Int), k2 ≤ gg ∧ Aside0 ((Kd.int .i64).Q 3 w2 w8.heap.size (fun _ => True) v9 q) ∧ Aside0 (bfs m t k2 last q = some lastF) ∧ Aside0 (LastOK last) ∧ Aside0 (∀ y ∈ q, ∃ x : Nat, y = x ∧ x < 14) ∧ Aside0 (q.length + 14 * k2 ≤ 1000) ∧ Aside0 (w2.heap[g8]? = some (.cells (cellsI last) 135 (0, 0))) ∧ Aside0 (BX w8.heap.size g8 w8 w2))
      case atStart => exact ⟨14, _, _, Nat.le_refl _, Q18, HBF, ⟨last0_ok s hs⟩, ⟨fun y hy => by rw [List.mem_singleton] at hy; exact ⟨s, hy, hs⟩⟩, ⟨by simp⟩, ⟨by have h := L18.out; exact h⟩, X18⟩
      case round =>
        obtain ⟨k2, last, q, hk2, HQ, HBF2, HLK, HQR, HQL, L2, X2⟩ := hrel
        obtain ⟨A, c, rfl, hcap⟩ := Kd.Q_slice HQ.out
        cases q with
        | nil =>
          have e : last = lastF := by have h := HBF2.out; cases k2 <;> (unfold bfs at h; exact Option.some.inj h)
          subst e
          go_wp2
          go_meet
          case rel => exact ⟨HLK, L2, X2⟩
        | cons x q =>
          cases k2 with
          | zero => exact absurd HBF2.out (by simp [bfs])
          | succ k2 =>
          obtain ⟨x, rfl, hx⟩ := HQR.out x (List.mem_cons_self)
          have hpos : (0 : Int) < (((x : Int) :: q).length : Int) := by simp only [List.length_cons]; omega
          obtain ⟨ad, eA, hx0⟩ := Kd.at_int (Kd.Q_reads' HQ.out).2.2 (0 : Int) (by omega) hpos
          cases eA
          have hdrop := Kd.Q_drop (k := 1) HQ.out (by simp)
          have hx1 : wr.cell? ad = some (.int .i64 (x : Int)) := hx0
          clear hx0
          obtain ⟨A1, hA1⟩ : ∃ A1, A1 = (if c = 1 then some ad else some (ad.add 1)) := ⟨_, rfl⟩
          obtain ⟨c1, hc1⟩ : ∃ c1, c1 = c - 1 := ⟨_, rfl⟩
          have HQ1 : Aside0 ((Kd.int .i64).Q 3 wr w8.heap.size (fun _ => True) (.slice A1 q.length c1) q) := ⟨by rw [hA1, hc1]; exact hdrop⟩
          have HA1 := Aside0.mk hA1
          have HC1 := Aside0.mk hc1
          clear hdrop hA1 hc1
          have hc0 : 1 ≤ c := by simp only [List.length_cons] at hcap; omega
          have hcl : (((x : Int) :: q).length : Int) ≤ (c : Int) := by omega
          go_wp2_with (((with_reducible refine gate_dst (N := 29) rfl ?_); refine Kd.event_run ?hg (v := .slice A1 q.length c1) (w1 := wr) ?hr ?_; (case hg => rfl); (case hr => rw [HA1.out, HC1.out]; go_simp; intro hz; omega)))
          have HBF3 : Aside0 (nextB m t k2 (scanL m t x ((List.range 14).drop 0) last q) = some lastF) := ⟨by rw [List.drop_zero, ← bfs_succ]; exact HBF2.out⟩
          have HQL1 : Aside0 (q.length + 14 + 14 * k2 ≤ 1000) := ⟨by have h := HQL.out; simp only [List.length_cons] at h; omega⟩
          have HQR1 : Aside0 (∀ y ∈ q, ∃ x : Nat, y = x ∧ x < 14) := ⟨fun y hy => HQR.out y (List.mem_cons_of_mem _ hy)⟩
          clear hx1 hcap hc0 hcl hpos HBF2 HQL HQR HQ HA1 HC1
          go_loopg [9, 30] 14 (fun gg v9 v30 w3 => ∃ (j : Nat) (last q : List Int), j ≤ 14 ∧ 14 - j ≤ gg ∧ v30 = .int .i64 j ∧ Aside0 ((Kd.int .i64).Q 3 w3 w8.heap.size (fun _ => True) v9 q) ∧ Aside0 (nextB m t k2 (scanL m t x ((List.range 14).drop j) last q) = some lastF) ∧ Aside0 (LastOK last) ∧ Aside0 (∀ y ∈ q, ∃ x : Nat, y = x ∧ x < 14) ∧ Aside0 (q.length + (14 - j) + 14 * k2 ≤ 1000) ∧ Aside0 (w3.heap[g8]? = some (.cells (cellsI last) 135 (0, 0))) ∧ Aside0 (BX w8.heap.size g8 w8 w3))
          case atStart => exact ⟨0, last, q, by omega, by omega, rfl, HQ1, HBF3, HLK, HQR1, ⟨by have := HQL1.out; omega⟩, L2, X2⟩
          case round =>
            obtain ⟨j, last2, q2, hj, hgg, rfl, HQ3, HBF4, HLK3, HQR3, HQL3, L3, X3⟩ := hrel
            obtain ⟨A3, c3, rfl, hcap3⟩ := Kd.Q_slice HQ3.out
            by_cases hj14 : j < 14
            · obtain ⟨n1, n2, n3, n4, n5, n6⟩ := NE.out
              have hjI : (j : Int) < 14 := by omega
              have hxI : (x : Int) < 14 := by omega
              have y8 : wr.cell? ⟨g8, j, none⟩ = some (.int .i64 (last2.getD j 0)) := row_cell L3.out j (by rw [HLK3.out.1]; exact hj14)
              have y8f : wr.frozen? ⟨g8, j, none⟩ = false := blk_frozen L3.out j
              have y3 : wr.cell? ⟨g3, 0, none⟩ = some (.pointer (some ⟨gm, 0, none⟩)) := (blk_cell (X3.out.blk Y3.out n4 n1) 0).trans rfl
              have y5 : wr.cell? ⟨g5, 0, none⟩ = some (.int .i64 t) := (blk_cell (X3.out.blk Y5.out n5 n2) 0).trans rfl
              have ym : wr.cell? ⟨gm, x * 14 + j, none⟩ = some (.int .i64 (m.getD (x * 14 + j) 0)) := row_cell (X3.out.blk BM8.out n6 n3) _ (by rw [HL.out]; exact idx14 hx hj14)
              have hbf := HBF4.out
              have hdj : (List.range 14).drop j = j :: (List.range 14).drop (j + 1) := by
                rw [List.drop_eq_getElem_cons (by rw [List.length_range]; exact hj14), List.getElem_range]
              rw [hdj] at hbf
              unfold scanL at hbf
              have er : rd last2 (j : Int) = last2.getD j 0 := by simp [rd]
              have em : rd m ((x : Int) * 14 + (j : Int)) = m.getD (x * 14 + j) 0 := by rw [rd_nat]; simp [List.getD]
              rw [er, em] at hbf
              clear n1 n2 n3 n4 n5 n6 hdj er em HBF4
              generalize last2.getD j 0 = lj at y8 hbf
              generalize m.getD (x * 14 + j) 0 = mj at ym hbf
              by_cases h1 : 0 < lj
              · rw [if_pos (by simp [h1])] at hbf
                have HBF5 := Aside0.mk hbf
                clear hbf
                go_wp2
                go_roundg (14 - (j + 1))
                case measure => omega
                case rel => exact ⟨j + 1, last2, q2, by omega, by omega, by go_num, HQ3, HBF5, HLK3, HQR3, ⟨by have := HQL3.out; omega⟩, L3, X3⟩
              · by_cases h2 : mj = 0
                · rw [if_pos (by simp [h2])] at hbf
                  have HBF5 := Aside0.mk hbf
                  clear hbf
                  go_wp2
                  go_roundg (14 - (j + 1))
                  case measure => omega
                  case rel => exact ⟨j + 1, last2, q2, by omega, by omega, by go_num, HQ3, HBF5, HLK3, HQR3, ⟨by have := HQL3.out; omega⟩, L3, X3⟩
                · rw [if_neg (by simp [h1, h2])] at hbf
                  have h2b : (mj == 0) = false := by simp [h2]
                  have L4 := Aside0.mk (row_put L3.out j ((x : Int) + 1))
                  have Q4 := Aside0.mk (qfar (j := j) (u := .int .i64 ((x : Int) + 1)) HQ3.out G8'.out)
                  have X4 := Aside0.mk (X3.out.set (.inl rfl) j (.int .i64 ((x : Int) + 1)))
                  have K4 := Aside0.mk (HLK3.out.set j x hj14 hx)
                  have y5s : (wr.setCell ⟨g8, j, none⟩ (.int .i64 ((x : Int) + 1))).cell? ⟨g5, 0, none⟩ = some (.int .i64 t) := (cell_far (a := ⟨g5, 0, none⟩) (p := ⟨g8, j, none⟩) NE.out.2.1 _).trans y5
                  by_cases h3 : j = t
                  · subst h3
                    rw [if_pos rfl] at hbf
                    rw [nextB_stop] at hbf
                    have e5 : last2.set j ((x : Int) + 1) = lastF := Option.some.inj hbf
                    rw [e5] at L4 K4
                    clear hbf
                    go_wp2
                    go_meet
                    case rel => exact ⟨K4, L4, X4⟩
                  · rw [if_neg (by omega)] at hbf
                    have HBF5 := Aside0.mk hbf
                    have h3b : ((j : Int) == (t : Int)) = false := by simp; omega
                    clear hbf
                    go_wp2_with (first | ((with_reducible refine gate_store (t := 3) (p := 50) rfl ?_); refine store_event (t := 3) (p := 50) (v := ?vo) (w1 := (wr.setCell ⟨g8, j, none⟩ (.int .i64 ((x : Int) + 1)))) ?hg ?ho ?hn ?hr ?_; (case ho => rfl); (case hg => rfl); (case hn => rfl); (case hr => first | (go_simp; done) | (go_simp; rfl)); intro w5 hw; rw [← hw] at y5s L4 Q4 X4; clear hw) | ((with_reducible refine gate_builtin (b := .append) (xs := #[.tmp 54, .tmp 56]) rfl ?_); at_builtin; refine Kd.Q_append (Kd.int .i64) (w0 := w5) w8.heap.size rfl (.tmp 54) (.tmp 56) 27 3 (.int .i64 0) 8 rfl Try.underlying27 info3 rfl (by decide) (by omega) (.slice A3 q2.length c3) q2 (j : Int) [.int .i64 j] (fun _ => True) (fun _ => False) rfl rfl ?aP (fun _ hk => hk.elim) ?aF ?aO ?aB ?aS ?aL ?_; (case aP => exact rfl); (case aF => exact (fun _ _ => trivial)); (case aO => exact Q4.out); (case aB => exact Below.refl _ _); (case aS => exact X4.out.size); (case aL => have := HQL3.out; omega); intro v6 w6 ho hb6 hg6 hat6; have Q6 := Aside0.mk ho; have L6 := Aside0.mk ((hb6.block g8 G8'.out).trans L4.out); have X6 := Aside0.mk (X4.out.trans (BX.of_below hb6)); clear ho hb6 hg6 hat6))
                    go_roundg (14 - (j + 1))
                    case measure => omega
                    case rel => exact ⟨j + 1, last2.set j ((x : Int) + 1), q2 ++ [(j : Int)], by omega, by omega, by go_num, Q6, HBF5, K4, ⟨fun y hy => by rcases List.mem_append.mp hy with h | h; exact HQR3.out y h; rw [List.mem_singleton] at h; exact ⟨j, h, hj14⟩⟩, ⟨by have := HQL3.out; rw [List.length_append, List.length_singleton]; omega⟩, L6, X6⟩
            · obtain rfl : j = 14 := by omega
              have hbf := HBF4.out
              have e14 : (List.range 14).drop 14 = [] := List.drop_eq_nil_of_le (by rw [List.length_range]; exact Nat.le_refl _)
              rw [e14] at hbf
              rw [scanL, nextB_go] at hbf
              have HBF5 : Aside0 (bfs m t k2 last2 q2 = some lastF) := ⟨hbf⟩
              clear e14 hbf
              go_wp2
              go_roundg k2
              case measure => omega
              case rel => exact ⟨k2, last2, q2, Nat.le_refl _, HQ3, HBF5, HLK3, HQR3, ⟨by have := HQL3.out; omega⟩, L3, X3⟩
    case rest =>
      obtain ⟨HLK, LF, XF⟩ := hcut
      have XW : Aside0 (BX w0.heap.size gm w0 wc) := ⟨BW8.out.over XF.out BW8.out.size (by have := G8.out; have := HWR.out; omega)⟩
      have NE : Aside0 (gm ≠ g8 ∧ gm < w8.heap.size ∧ g8 < wc.heap.size) := ⟨by have := HGS.out; have := G8.out; have := HWR.out; have := G8'.out; have := XF.out.size; omega⟩
      have MC : Aside0 (wc.heap[gm]? = some (.cells (cellsI m) 154 (0, 0))) := ⟨XF.out.blk BM8.out NE.out.2.1 NE.out.1⟩
      have C3 : Aside0 (wc.heap[g3]? = some (.cells #[.pointer (some ⟨gm, 0, none⟩)] 117 (0, 0))) := ⟨XW.out.blk B0.out (by have := HGS.out; omega) (by have := HGS.out; omega)⟩
      have C4 : Aside0 (wc.heap[g4]? = some (.cells #[.int .i64 s] 3 (0, 0))) := ⟨XW.out.blk B1.out (by have := HGS.out; omega) (by have := HGS.out; omega)⟩
      have C5 : Aside0 (wc.heap[g5]? = some (.cells #[.int .i64 t] 3 (0, 0))) := ⟨XW.out.blk B2.out (by have := HGS.out; omega) (by have := HGS.out; omega)⟩
      clear L18 Q18 X18 BM8 BW8 XF BW BM B8 G8 G8' HBF
      have y5 : wc.cell? ⟨g5, 0, none⟩ = some (.int .i64 t) := (blk_cell C5.out 0).trans rfl
      have y8 : wc.cell? ⟨g8, t, none⟩ = some (.int .i64 (lastF.getD t 0)) := row_cell LF.out t (by rw [HLK.out.1]; exact ht)
      have htI : (t : Int) < 14 := by omega
      have hp := HP2.out
      have er : rd lastF (t : Int) = lastF.getD t 0 := by simp [rd]
      rw [er] at hp
      clear er HP2
      generalize lastF.getD t 0 = lt at y8 hp
      by_cases h0 : lt = 0
      · rw [if_pos h0] at hp
        have HP2 := Aside0.mk hp
        clear hp
        have h0b : (lt == 0) = true := by simp [h0]
        obtain ⟨x0, x1, x2, x3, x4, x5, x6, x7, x8, x9, x10, x11, x12, x13, hlst⟩ := list14 lastF HLK.out.1
        have LF2 := LF.out
        rw [hlst] at LF2
        have z0 : wc.cell? ⟨g8, 0, none⟩ = some (.int .i64 x0) := row_cell LF2 0 (show 0 < 14 by decide)
        have z1 : wc.cell? ⟨g8, 1, none⟩ = some (.int .i64 x1) := row_cell LF2 1 (show 1 < 14 by decide)
        have z2 : wc.cell? ⟨g8, 2, none⟩ = some (.int .i64 x2) := row_cell LF2 2 (show 2 < 14 by decide)
        have z3 : wc.cell? ⟨g8, 3, none⟩ = some (.int .i64 x3) := row_cell LF2 3 (show 3 < 14 by decide)
        have z4 : wc.cell? ⟨g8, 4, none⟩ = some (.int .i64 x4) := row_cell LF2 4 (show 4 < 14 by decide)
        have z5 : wc.cell? ⟨g8, 5, none⟩ = some (.int .i64 x5) := row_cell LF2 5 (show 5 < 14 by decide)
        have z6 : wc.cell? ⟨g8, 6, none⟩ = some (.int .i64 x6) := row_cell LF2 6 (show 6 < 14 by decide)
        have z7 : wc.cell? ⟨g8, 7, none⟩ = some (.int .i64 x7) := row_cell LF2 7 (show 7 < 14 by decide)
        have z8 : wc.cell? ⟨g8, 8, none⟩ = some (.int .i64 x8) := row_cell LF2 8 (show 8 < 14 by decide)
        have z9 : wc.cell? ⟨g8, 9, none⟩ = some (.int .i64 x9) := row_cell LF2 9 (show 9 < 14 by decide)
        have z10 : wc.cell? ⟨g8, 10, none⟩ = some (.int .i64 x10) := row_cell LF2 10 (show 10 < 14 by decide)
        have z11 : wc.cell? ⟨g8, 11, none⟩ = some (.int .i64 x11) := row_cell LF2 11 (show 11 < 14 by decide)
        have z12 : wc.cell? ⟨g8, 12, none⟩ = some (.int .i64 x12) := row_cell LF2 12 (show 12 < 14 by decide)
        have z13 : wc.cell? ⟨g8, 13, none⟩ = some (.int .i64 x13) := row_cell LF2 13 (show 13 < 14 by decide)
        have LF3 := Aside0.mk LF2
        have HLS := Aside0.mk hlst
        clear hlst LF2
        go_wp2
        go_loopg [64, 7] 14 (fun gg v64 v7 w9 => ∃ (j : Nat) (rho : Int), j ≤ 14 ∧ 14 - j ≤ gg ∧ v64 = .int .i64 j ∧ v7 = .int .i64 rho ∧ Aside0 (rho = reachedL (lastF.take j) 0) ∧ w9 = wc)
        case atStart => exact ⟨0, 0, by omega, by omega, rfl, rfl, ⟨rfl⟩, rfl⟩
        case round =>
          obtain ⟨j, rho, hj, hgg, rfl, rfl, HR, rfl⟩ := hrel
          by_cases hj14 : j < 14
          · have hjI : (j : Int) < 14 := by omega
            have hrun : ∀ W, Sem.run Try.prog (Instr.index 135 (.agg #[.int .i64 x0, .int .i64 x1, .int .i64 x2, .int .i64 x3, .int .i64 x4, .int .i64 x5, .int .i64 x6, .int .i64 x7, .int .i64 x8, .int .i64 x9, .int .i64 x10, .int .i64 x11, .int .i64 x12, .int .i64 x13]) (.int .i64 j)) W = .ok (.int .i64 (lastF.getD j 0)) W := fun W => by
              have h := run_index135 lastF HLK.out.1 j hj14 W
              rw [HLS.out] at h ⊢
              exact h
            have hst := reach_take lastF j 0 (by rw [HLK.out.1]; exact hj14)
            rw [Nat.zero_add, ← HR.out] at hst
            have hbd := reach_bound (lastF.take j) 0
            rw [← HR.out, List.length_take, HLK.out.1, Nat.min_eq_left (by omega), Nat.zero_add] at hbd
            have hor := or_pow j hj14 rho hbd.1 (by have := hbd.2; simp only [Int.pow_zero] at this; omega)
            generalize lastF.getD j 0 = xj at hrun hst
            have HST := Aside0.mk hst
            clear hst hbd
            by_cases hxj : 0 < xj
            · have HOR : Aside0 (Go.bits .or .i64 rho (2 ^ j) = rho + 2 ^ j) := ⟨hor⟩
              clear hor
              go_wp2
              go_roundg (14 - (j + 1))
              case measure => omega
              case rel => exact ⟨j + 1, _, by omega, by omega, by go_num, rfl, ⟨by rw [HST.out, if_pos hxj, wrap_pow j hj14, HOR.out]⟩, rfl⟩
            · have HOR := Aside0.mk hor
              clear hor
              go_wp2
              go_roundg (14 - (j + 1))
              case measure => omega
              case rel => exact ⟨j + 1, _, by omega, by omega, by go_num, rfl, ⟨by rw [HST.out, if_neg (Int.not_lt.mpr hxj), Int.add_zero]⟩, rfl⟩
          · obtain rfl : j = 14 := by omega
            have hrr := HR.out
            rw [← HLK.out.1, List.take_length] at hrr
            have hp2 := HP2.out
            rw [← hrr] at hp2
            simp only [Option.some.injEq, Prod.mk.injEq] at hp2
            obtain ⟨rfl, rfl, rfl⟩ := hp2
            go_wp2
            rw [Exit.noGoto_ret]
            go_ret2
            exact ⟨rfl, MC.out, by rw [hg3]; exact (BX.of_below HB0.out).trans (XW.out.mono (by have := HGS.out; omega))⟩
      · rw [if_neg h0] at hp
        obtain ⟨path, hway, hp⟩ := Option.bind_eq_some_iff.mp hp
        have HP2 := Aside0.mk hp
        have HWY := Aside0.mk hway
        clear hp hway
        have h0b : (lt == 0) = false := by simp [h0]
        obtain ⟨room, hroom⟩ : ∃ room, room = roomL m path 4611686018427387903 := ⟨_, rfl⟩
        rw [← hroom] at HP2
        have HRM := Aside0.mk hroom
        clear hroom
        obtain ⟨w15, hw15⟩ : ∃ w15, w15 = wc.alloc (Obj.cells #[Value.int IntKind.i64 4611686018427387903] 3) := ⟨_, rfl⟩
        obtain ⟨g15, hg15⟩ : ∃ g15, g15 = wc.heap.size := ⟨_, rfl⟩
        have R15 : Aside0 (w15.heap[g15]? = some (.cells #[.int .i64 (roomL m [] 4611686018427387903)] 3 (0, 0))) := ⟨by rw [hw15, hg15]; exact blk_new _ _⟩
        have HB15 : Aside0 (Below wc.heap.size wc w15) := ⟨by rw [hw15]; exact below_alloc (Below.refl _ _) _⟩
        have S15 : Aside0 (w15.heap.size = g15 + 1) := ⟨by rw [hw15, hg15]; exact World.size_alloc _ _⟩
        have N15 : Aside0 (g3 < g15 ∧ g4 < g15 ∧ g5 < g15 ∧ g8 < g15 ∧ gm < g15 ∧ g15 = wc.heap.size) := ⟨by rw [hg15]; have := blk_lt C3.out; have := blk_lt C4.out; have := blk_lt C5.out; have := NE.out.2.2; have := blk_lt MC.out; omega⟩
        have HW15 := Aside0.mk hw15
        have HG15 := Aside0.mk hg15
        clear hw15 hg15
        go_wp2_with (first | (go_at_call 109; rw [← HW15.out, ← HG15.out]; refine (along110_calls (.pointer (some ⟨g15, 0, none⟩)) (.pointer (some ⟨g3, 0, none⟩)) (fun pre W => W.heap[g15]? = some (.cells #[.int .i64 (roomL m pre 4611686018427387903)] 3 (0, 0)) ∧ BX w15.heap.size g15 w15 W) lastF s t g5 g4 g8 path HLK.out.1 (fun i hi => (HLK.out.2 i hi).2) ht HWY.out ?hJ ?hS w15 ⟨R15.out, BX.refl _ _ _⟩).mono ?_; (case hJ => (rintro pre W ⟨_, hx⟩; have := N15.out; have := S15.out; exact ⟨(blk_cell (hx.blk (blk_below C5.out HB15.out) (by omega) (by omega)) 0).trans rfl, (blk_cell (hx.blk (blk_below C4.out HB15.out) (by omega) (by omega)) 0).trans rfl, hx.blk (blk_below LF.out HB15.out) (by omega) (by omega)⟩)); (case hS => (rintro pre a b W ⟨hr, hx⟩ ha hb; have := N15.out; have := S15.out; refine (room_calls a b ha hb g15 g3 gm m _ W hr (hx.blk (blk_below C3.out HB15.out) (by omega) (by omega)) (hx.blk (blk_below MC.out HB15.out) (by omega) (by omega)) HL.out).mono ?_; rintro e W' ⟨he, hr', hx'⟩; exact ⟨he, by rw [roomL_snoc]; exact hr', hx.step hx' hx.size⟩)); rintro e w16 ⟨⟨v0, rfl⟩, hr16, hx16⟩; rw [← HRM.out] at hr16; have R16 := Aside0.mk hr16; have X16 := Aside0.mk hx16; clear hr16 hx16))
        have N16 : Aside0 (w15.heap.size ≤ w16.heap.size) := ⟨X16.out.size⟩
        have C3b : Aside0 (w16.heap[g3]? = some (.cells #[.pointer (some ⟨gm, 0, none⟩)] 117 (0, 0))) := ⟨X16.out.blk (blk_below C3.out HB15.out) (by have := N15.out; have := S15.out; omega) (by have := N15.out; omega)⟩
        have C4b : Aside0 (w16.heap[g4]? = some (.cells #[.int .i64 s] 3 (0, 0))) := ⟨X16.out.blk (blk_below C4.out HB15.out) (by have := N15.out; have := S15.out; omega) (by have := N15.out; omega)⟩
        have C5b : Aside0 (w16.heap[g5]? = some (.cells #[.int .i64 t] 3 (0, 0))) := ⟨X16.out.blk (blk_below C5.out HB15.out) (by have := N15.out; have := S15.out; omega) (by have := N15.out; omega)⟩
        have L8b : Aside0 (w16.heap[g8]? = some (.cells (cellsI lastF) 135 (0, 0))) := ⟨X16.out.blk (blk_below LF.out HB15.out) (by have := N15.out; have := S15.out; omega) (by have := N15.out; omega)⟩
        have Mb : Aside0 (w16.heap[gm]? = some (.cells (cellsI m) 154 (0, 0))) := ⟨X16.out.blk (blk_below MC.out HB15.out) (by have := N15.out; have := S15.out; omega) (by have := N15.out; omega)⟩
        go_wp2_with (first | (go_at_call 109; refine (along111_calls (.pointer (some ⟨g3, 0, none⟩)) (.pointer (some ⟨g15, 0, none⟩)) (fun pre W => W.heap[gm]? = some (.cells (cellsI (pushL room pre m)) 154 (0, 0)) ∧ BX w16.heap.size gm w16 W) lastF s t g5 g4 g8 path HLK.out.1 (fun i hi => (HLK.out.2 i hi).2) ht HWY.out ?hJ ?hS w16 ⟨Mb.out, BX.refl _ _ _⟩).mono ?_; (case hJ => (rintro pre W ⟨_, hx⟩; have := HGS.out; have := NE.out.1; exact ⟨(blk_cell (hx.blk C5b.out (blk_lt C5b.out) (by omega)) 0).trans rfl, (blk_cell (hx.blk C4b.out (blk_lt C4b.out) (by omega)) 0).trans rfl, hx.blk L8b.out (blk_lt L8b.out) (by omega)⟩)); (case hS => (rintro pre a b W ⟨hm, hx⟩ ha hb; have := HGS.out; have := N15.out; refine (push_calls a b ha hb g15 g3 gm _ room W (hx.blk R16.out (blk_lt R16.out) (by omega)) (hx.blk C3b.out (blk_lt C3b.out) (by omega)) hm (by rw [pushL_length]; exact HL.out)).mono ?_; rintro e W' ⟨he, hm', hx'⟩; exact ⟨he, by rw [pushL_snoc]; exact hm', hx.step hx' hx.size⟩)); rintro e w17 ⟨⟨v1, rfl⟩, hm17, hx17⟩; have M17 := Aside0.mk hm17; have X17 := Aside0.mk hx17; have y15 : w17.cell? ⟨g15, 0, none⟩ = some (.int .i64 room) := (blk_cell (hx17.blk R16.out (blk_lt R16.out) (by have := N15.out; omega)) 0).trans rfl; clear hm17 hx17))
        rw [Exit.noGoto_normal]
        go_wp2
        go_roundg k
        case measure => omega
        case rel =>
          refine ⟨k, pushL room path m, wrap64 (v + room), Nat.le_refl _, rfl, rfl, HP2, ⟨by rw [pushL_length]; exact HL.out⟩, M17, ⟨?_⟩⟩
          have h1 : BX w0.heap.size gm w0 w15 := XW.out.stepB HB15.out XW.out.size
          have h2 : BX w0.heap.size gm w0 w16 := h1.over X16.out h1.size (by have := N15.out; have := XW.out.size; omega)
          exact h2.trans (X17.out.mono h2.size)
end Go.Proofs.Ytkkakdpncogpkaa.D
end
