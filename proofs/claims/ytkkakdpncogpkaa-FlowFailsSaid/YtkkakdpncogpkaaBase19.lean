/- Parts of the proof of a law about flows (see the law's own text): FflowwithoutP. Conditions: each theorem's own. -/
import Derived.Test.YtkkakdpncogpkaaBase5
import Derived.Test.YtkkakdpncogpkaaBase4
import Derived.Test.YtkkakdpncogpkaaBase18
section
namespace Go.Proofs.Ytkkakdpncogpkaa.D
open Go.RowKit Go.Proofs.YtkkakdpncogpkaaW.PrintWords Go.Proofs.YtkkakdpncogpkaaW.PrintLast Go.Proofs.YtkkakdpncogpkaaW.PrintMore
attribute [local go_sem] max2_int min2_int max_two min_two max_three min_three max_four min_four   -- for this text's walks alone
set_option linter.unusedVariables false
set_option linter.unusedSimpArgs false

/-! ### flow_without: function 83 -/
def flow_withoutP.l0 : Nat → Int → Int → Int → Int → List (S72) → Option (Int × (List (S72)))
 | 0, _, _, _, _, _ => none
 | k + 1, x1, x15, x16, x107000, x107001 => if x16 < x15 then (if 0 ≤ x16 then (if (Go.bits .and .i64 (shr .i64 x1 x16) 1) = 1 then (if x16 < (x107001.length : Int) then (flow_withoutP.l0 k x1 x15 (wrap64 (x16 + 1)) x107000 (x107001.set (x16 : Int).toNat (⟨(rd_T72 x107001 x16).f0, (rd_T72 x107001 x16).f1, 0⟩ : S72))) else (none)) else (flow_withoutP.l0 k x1 x15 (wrap64 (x16 + 1)) x107000 x107001)) else (none)) else (some (x107000, x107001))
def flow_withoutP.f (k : Nat) (a0_0 : Int) (l0_1 : List (S72)) (a1 : Int) : Option (Int × (List (S72))) := (api_Edge.f l0_1).bind fun t103 => (flow_withoutP.l0 k a1 (t103.length : Int) 0 a0_0 t103)
def flow_withoutP.T1 : Bool × List (List Nat × List Nat) := (true, [([], []), ([0], [0]), ([], []), ([2], [2]), ([3], [3]), ([1, 4], [1, 4]), ([], []), ([6, 5, 4, 0, 1, 2, 3, 4, 5, 6], [5, 6])])
def flow_withoutP.B1 : List Nat := [0, 1, 0, 4, 12, 31, 0, 127]
theorem flow_withoutP.tab1 : rtab .any (opsOf Try.f83 1) = flow_withoutP.T1 := by kernel_rfl
theorem flow_withoutP.bits1 : waitsOk flow_withoutP.T1.2 flow_withoutP.B1 = true := by kernel_rfl
set_option maxHeartbeats 8000000 in
set_option maxRecDepth 100000 in
theorem flow_withoutP.calls (k : Nat) (a0_0 : Int) (A0_1 : Option Addr) (c0_1 : Nat) (l0_1 : List (S72)) (a1 : Int) (r1 : Int) (r2 : List (S72)) (w : World) (hr0_1 : Kd.C k72 w A0_1 l0_1.length l0_1) (hc0_1 : l0_1.length ≤ c0_1) (h : flow_withoutP.f k a0_0 l0_1 a1 = some (r1, r2)) :
  Calls Try.prog 83 #[.agg #[.int .i64 a0_0, .slice A0_1 l0_1.length c0_1], .int .i64 a1] w fun e w' => ∃ v1_ : Value, e = .returned (.agg #[.int .i64 r1, v1_]) ∧ Kd.R k72 72 w' w.heap.size (fun _ => True) v1_ r2 ∧ Below w.heap.size w w' := by
 have hu26 := Try.underlying26
 have HR0_1 := Aside0.mk hr0_1
 have HC0_1 := Aside0.mk hc0_1
 clear hr0_1 hc0_1
 have HB := Aside0.mk (Below.refl w.heap.size w)
 have H : ((api_Edge.f l0_1).bind fun t103 => (flow_withoutP.l0 k a1 (t103.length : Int) 0 a0_0 t103)) = some (r1, r2) := h
 clear h
 replace H := Option.bind_eq_some_iff.mp H
 obtain ⟨t103, A30, H⟩ := H
 (try dsimp only at H)
 have A3 := Aside0.mk A30
 clear A30
 have H' := Aside0.mk H
 clear H
 go_enter Try.func83, Try.ntmps83
 try go_wp2_with (first | ((with_reducible refine gate_dst (N := 2) rfl ?_); refine box_event rfl (N := 2) rfl (cs := #[.int .i64 a0_0, .slice A0_1 l0_1.length c0_1]) (t := 26) qh ?_; intro gb101 hg w4 hbox hb; have BK101 := Aside0.mk (hbox); have GW101 := qg HB hg; have GE101 := qg HB hg; replace HB := qS HB hb; clear hb hbox hg) | ((with_reducible refine gate_dst (N := 4) rfl ?_); refine box_event rfl (N := 4) rfl (cs := #[.int .i64 0, .slice none 0 0]) (t := 26) qh ?_; intro gb102 hg w5 hbox hb; have BK102 := Aside0.mk (hbox); have GW102 := qg HB hg; have GE102 := qg HB hg; replace HB := qS HB hb; have NB101_102 := qn BK101 hg; have NB102_101 := qm BK101 hg; replace BK101 := qB BK101 hb; clear hb hbox hg))
 replace BK101 := Aside0.mk (blk_drew BK101.out)
 replace BK102 := Aside0.mk (blk_drew BK102.out)
 replace HB := Aside0.mk (below_drew1 HB.out)
 refine start_ (n := 8) (S := fun w' => w'.cell? ⟨gb101, 0, none⟩ = some (.int .i64 a0_0) ∧ w'.cell? ⟨gb101, 1, none⟩ = some (.slice A0_1 l0_1.length c0_1)) (ds := []) #[false, false, false, false, false, false, false, false] qq rfl rfl ⟨(blk_cell BK101.out 0).trans rfl, (blk_cell BK101.out 1).trans rfl⟩ (fun hHeld => ?_); refine with_tabW flow_withoutP.tab1 flow_withoutP.bits1 (fun HT_ HW_ => ?_)
 generalize w5.drew = w6 at BK101 BK102 HB hHeld ⊢
 refine pure_ (i := 0) (N := some 7) (v := ?_) (a' := ?_) #[true, false, false, false, false, false, false, false] rfl rfl (any_of HT_.out qq) (fun _ _ _ h => h) (Or.inl ⟨by rfl, ?_⟩) ?_ ?_
 rotate_left
 ·
  intro w'
  go_simp
  with_reducible rfl
 rotate_left
 ·
  simp only [Act.put, List.setIfInBounds_toArray, List.set_cons_zero, List.set_cons_succ, i64_w, i32_w]
  rfl
 refine pure_ (i := 2) (N := some 9) (v := ?_) (a' := ?_) #[true, false, true, false, false, false, false, false] rfl rfl (any_of HT_.out qq) (fun _ _ _ h => h) (Or.inl ⟨by rfl, ?_⟩) ?_ ?_
 rotate_left
 ·
  intro w'
  go_simp
  with_reducible rfl
 rotate_left
 ·
  simp only [Act.put, List.setIfInBounds_toArray, List.set_cons_zero, List.set_cons_succ, i64_w, i32_w]
  rfl
 refine take_ (i := 1) (N := some 8) (v := ?_) (a' := ?_) #[true, true, true, false, false, false, false, false] rfl rfl (take_ofW HT_.out HW_.out qq) (fun _ _ _ h => h) (Or.inl ⟨by rfl, ?_⟩) hHeld ?_ ?_
 rotate_left
 ·
  rintro w' ⟨s0, s1⟩
  go_simp
  with_reducible rfl
 rotate_left
 ·
  simp only [Act.put, List.setIfInBounds_toArray, List.set_cons_zero, List.set_cons_succ, i64_w, i32_w]
  rfl
 refine take_ (i := 3) (N := some 10) (v := ?_) (a' := ?_) #[true, true, true, true, false, false, false, false] rfl rfl (take_ofW HT_.out HW_.out qq) (fun _ _ _ h => h) (Or.inl ⟨by rfl, ?_⟩) hHeld ?_ ?_
 rotate_left
 ·
  rintro w' ⟨s0, s1⟩
  go_simp
  with_reducible rfl
 rotate_left
 ·
  simp only [Act.put, List.setIfInBounds_toArray, List.set_cons_zero, List.set_cons_succ, i64_w, i32_w]
  rfl
 refine join_ (σ := Value × Nat) 1 #[true, true, true, true, true, true, true, false] (fun s_ => [(11, s_.1), (5, .pointer (some ⟨s_.2, 0, none⟩)), (12, .agg #[.int .i64 a0_0, s_.1])]) (fun s_ w' => (w'.cell? ⟨gb101, 0, none⟩ = some (.int .i64 a0_0) ∧ w'.cell? ⟨gb101, 1, none⟩ = some (.slice A0_1 l0_1.length c0_1)) ∧ (Kd.R k72 72 w' w.heap.size (fun _ => True) s_.1 t103) ∧ (w'.heap[gb101]? = some (.cells #[.int .i64 a0_0, .slice A0_1 l0_1.length c0_1] 26 (0, 0))) ∧ (w'.heap[gb102]? = some (.cells #[.int .i64 0, .slice none 0 0] 26 (0, 0))) ∧ (w'.heap[s_.2]? = some (.cells #[.int .i64 0, .slice none 0 0] 26 (0, 0))) ∧ (w.heap.size ≤ s_.2) ∧ (w.heap.size ≤ s_.2) ∧ (gb101 ≠ s_.2) ∧ (s_.2 ≠ gb101) ∧ (gb102 ≠ s_.2) ∧ (s_.2 ≠ gb102) ∧ (Below w.heap.size w w')) ?_ ?_
 rotate_left
 ·
  intro hCont
  refine two_ (i := 4) (j := 6) (Ni := some 11) (Nj := some 5) #[true, true, true, true, true, false, false, false] #[true, true, true, true, false, false, true, false] rfl rfl rfl rfl (two_of HT_.out qq) (by decide) (by decide) (fun K hK => ?_) (fun K hK => ?_)
  ·
   skip
   refine goes_ Try.func112 qq rfl #[.slice A0_1 l0_1.length c0_1] (by rfl) rfl rfl qa ?_
   with_reducible refine (api_Edge.calls _ _ l0_1 t103 _ ?side1 ?side2 A3.out).mono ?_
   (case side1 => exact qC (Kd.C_below HR0_1.out HB.out))
   (case side2 => exact HC0_1.out)
   rintro e w7 ⟨v104, rfl, ho0, hb⟩
   refine ⟨_, rfl, ?_⟩
   have HO105 := qL HB ho0
   replace BK101 := qB BK101 hb
   replace BK102 := qB BK102 hb
   replace HB := qS HB hb
   (try clear hb)
   (try clear hb2)
   (try clear hk)
   (try clear hi)
   (try clear ho0)
   obtain ⟨Ao8, co8, eo8⟩ := Kd.R_slice HO105.out
   (first | subst eo8 | (injection eo8 with f1_ f2_ f3_; have f4_ := f1_.symm; have f5_ := f3_.symm; clear f1_ f2_ f3_; subst f4_; subst f5_))
   refine hK.out _ _ ⟨(blk_cell BK101.out 0).trans rfl, (blk_cell BK101.out 1).trans rfl⟩ (fun hHeld => ?_)
   clear hK K
   refine norm_ (a' := ?_) ?_ ?_
   rotate_left
   ·
    show Act.put _ (some 11) _ = _
    simp only [Act.put, List.setIfInBounds_toArray, List.set_cons_zero, List.set_cons_succ, i64_w, i32_w]
    rfl
   refine pure_ (i := 5) (N := some 12) (v := ?_) (a' := ?_) #[true, true, true, true, true, true, false, false] rfl rfl (any_of HT_.out qq) (fun _ _ _ h => h) (Or.inl ⟨by rfl, ?_⟩) ?_ ?_
   rotate_left
   ·
    intro w'
    go_simp
    with_reducible rfl
   rotate_left
   ·
    simp only [Act.put, List.setIfInBounds_toArray, List.set_cons_zero, List.set_cons_succ, i64_w, i32_w]
    rfl
   refine one_ (i := 6) (N := some 5) #[true, true, true, true, true, true, true, false] rfl rfl (one_of HT_.out qq) (by decide) (fun K hK => ?_)
   refine box_step ?hg (N := 5) ?hd (cs := #[.int .i64 0, .slice none 0 0]) (t := 26) ?hr ?_; (case hd => rfl); (case hg => rfl); (case hr => first | (go_simp; done) | (go_simp; rfl))
   intro gb106 hg w9 hbox hb
   replace HO105 := qR HO105 hb
   have BK106 := Aside0.mk (hbox)
   have GW106 := qg HB hg
   have GE106 := qg HB hg
   replace HB := qS HB hb
   have NB101_106 := qn BK101 hg
   have NB106_101 := qm BK101 hg
   replace BK101 := qB BK101 hb
   have NB102_106 := qn BK102 hg
   have NB106_102 := qm BK102 hg
   replace BK102 := qB BK102 hb
   clear hb hbox hg
   refine hK.out _ _ ⟨(blk_cell BK101.out 0).trans rfl, (blk_cell BK101.out 1).trans rfl⟩ (fun hHeld => ?_)
   clear hK K
   refine norm_ (a' := ?_) ?_ ?_
   rotate_left
   ·
    show Act.put _ (some 5) _ = _
    simp only [Act.put, List.setIfInBounds_toArray, List.set_cons_zero, List.set_cons_succ, i64_w, i32_w]
    rfl
   exact norm_ (by simp only [putAll, Act.put, List.setIfInBounds_toArray, List.set_cons_zero, List.set_cons_succ]) (hCont (.slice Ao8 t103.length co8, gb106) _ ⟨hHeld, (qr HO105.out), (qk BK101.out), (qk BK102.out), (qk BK106.out), GW106.out, GE106.out, NB101_106.out, NB106_101.out, NB102_106.out, NB106_102.out, (qb)⟩)
  ·
   skip
   refine box_step ?hg (N := 5) ?hd (cs := #[.int .i64 0, .slice none 0 0]) (t := 26) ?hr ?_; (case hd => rfl); (case hg => rfl); (case hr => first | (go_simp; done) | (go_simp; rfl))
   intro gb106 hg w7 hbox hb
   have BK106 := Aside0.mk (hbox)
   have GW106 := qg HB hg
   have GE106 := qg HB hg
   replace HB := qS HB hb
   have NB101_106 := qn BK101 hg
   have NB106_101 := qm BK101 hg
   replace BK101 := qB BK101 hb
   have NB102_106 := qn BK102 hg
   have NB106_102 := qm BK102 hg
   replace BK102 := qB BK102 hb
   clear hb hbox hg
   refine hK.out _ _ ⟨(blk_cell BK101.out 0).trans rfl, (blk_cell BK101.out 1).trans rfl⟩ (fun hHeld => ?_)
   clear hK K
   refine norm_ (a' := ?_) ?_ ?_
   rotate_left
   ·
    show Act.put _ (some 5) _ = _
    simp only [Act.put, List.setIfInBounds_toArray, List.set_cons_zero, List.set_cons_succ, i64_w, i32_w]
    rfl
   refine one_ (i := 4) (N := some 11) #[true, true, true, true, true, false, true, false] rfl rfl (one_of HT_.out qq) (by decide) (fun K hK => ?_)
   refine goes_ Try.func112 qq rfl #[.slice A0_1 l0_1.length c0_1] (by rfl) rfl rfl qa ?_
   with_reducible refine (api_Edge.calls _ _ l0_1 t103 _ ?side1 ?side2 A3.out).mono ?_
   (case side1 => exact qC (Kd.C_below HR0_1.out HB.out))
   (case side2 => exact HC0_1.out)
   rintro e w8 ⟨v104, rfl, ho0, hb⟩
   refine ⟨_, rfl, ?_⟩
   have HO105 := qL HB ho0
   replace BK101 := qB BK101 hb
   replace BK102 := qB BK102 hb
   replace BK106 := qB BK106 hb
   replace HB := qS HB hb
   (try clear hb)
   (try clear hb2)
   (try clear hk)
   (try clear hi)
   (try clear ho0)
   obtain ⟨Ao9, co9, eo9⟩ := Kd.R_slice HO105.out
   (first | subst eo9 | (injection eo9 with f1_ f2_ f3_; have f4_ := f1_.symm; have f5_ := f3_.symm; clear f1_ f2_ f3_; subst f4_; subst f5_))
   refine hK.out _ _ ⟨(blk_cell BK101.out 0).trans rfl, (blk_cell BK101.out 1).trans rfl⟩ (fun hHeld => ?_)
   clear hK K
   refine norm_ (a' := ?_) ?_ ?_
   rotate_left
   ·
    show Act.put _ (some 11) _ = _
    simp only [Act.put, List.setIfInBounds_toArray, List.set_cons_zero, List.set_cons_succ, i64_w, i32_w]
    rfl
   refine pure_ (i := 5) (N := some 12) (v := ?_) (a' := ?_) #[true, true, true, true, true, true, true, false] rfl rfl (any_of HT_.out qq) (fun _ _ _ h => h) (Or.inl ⟨by rfl, ?_⟩) ?_ ?_
   rotate_left
   ·
    intro w'
    go_simp
    with_reducible rfl
   rotate_left
   ·
    simp only [Act.put, List.setIfInBounds_toArray, List.set_cons_zero, List.set_cons_succ, i64_w, i32_w]
    rfl
   exact norm_ (by simp only [putAll, Act.put, List.setIfInBounds_toArray, List.set_cons_zero, List.set_cons_succ]) (hCont (.slice Ao9 t103.length co9, gb106) _ ⟨hHeld, (qr HO105.out), (qk BK101.out), (qk BK102.out), (qk BK106.out), GW106.out, GE106.out, NB101_106.out, NB106_101.out, NB102_106.out, NB106_102.out, (qb)⟩)
 rintro ⟨v104, gb106⟩ w10 ⟨hS_, h0_, h1_, h2_, h3_, h4_, h5_, h6_, h7_, h8_, h9_, h10_⟩
 have n0_ : Aside0 (Kd.R k72 72 w10 w.heap.size (fun _ => True) v104 t103) := ⟨h0_⟩
 have n1_ : Aside0 (w10.heap[gb101]? = some (.cells #[.int .i64 a0_0, .slice A0_1 l0_1.length c0_1] 26 (0, 0))) := ⟨h1_⟩
 have n2_ : Aside0 (w10.heap[gb102]? = some (.cells #[.int .i64 0, .slice none 0 0] 26 (0, 0))) := ⟨h2_⟩
 have n3_ : Aside0 (w10.heap[gb106]? = some (.cells #[.int .i64 0, .slice none 0 0] 26 (0, 0))) := ⟨h3_⟩
 have n4_ : Aside0 (w.heap.size ≤ gb106) := ⟨h4_⟩
 have n5_ : Aside0 (w.heap.size ≤ gb106) := ⟨h5_⟩
 have n6_ : Aside0 (gb101 ≠ gb106) := ⟨h6_⟩
 have n7_ : Aside0 (gb106 ≠ gb101) := ⟨h7_⟩
 have n8_ : Aside0 (gb102 ≠ gb106) := ⟨h8_⟩
 have n9_ : Aside0 (gb106 ≠ gb102) := ⟨h9_⟩
 have n10_ : Aside0 (Below w.heap.size w w10) := ⟨h10_⟩
 clear BK101
 clear BK102
 clear HB
 clear h0_ h1_ h2_ h3_ h4_ h5_ h6_ h7_ h8_ h9_ h10_
 have HO105 := n0_
 have BK101 := n1_
 have BK102 := n2_
 have BK106 := n3_
 have GW106 := n4_
 have GE106 := n5_
 have NB101_106 := n6_
 have NB106_101 := n7_
 have NB102_106 := n8_
 have NB106_102 := n9_
 have HB := n10_
 clear n0_ n1_ n2_ n3_ n4_ n5_ n6_ n7_ n8_ n9_ n10_
 have hHeld : w10.cell? ⟨gb101, 0, none⟩ = some (.int .i64 a0_0) ∧ w10.cell? ⟨gb101, 1, none⟩ = some (.slice A0_1 l0_1.length c0_1) := hS_
 obtain ⟨Ao11, co11, eo11⟩ := Kd.R_slice HO105.out
 (first | subst eo11 | (injection eo11 with f1_ f2_ f3_; have f4_ := f1_.symm; have f5_ := f3_.symm; clear f1_ f2_ f3_; subst f4_; subst f5_))
 refine norm_ (a' := ?_) ?_ ?_
 rotate_left
 ·
  simp only [putAll, Act.put, List.setIfInBounds_toArray, List.set_cons_zero, List.set_cons_succ]
  rfl
 refine one_ (i := 7) (N := none) #[true, true, true, true, true, true, true, true] rfl rfl (one_of HT_.out qq) (by decide) (fun K hK => ?_)
 have hs12 : w10.cell? ⟨gb106, 0, none⟩ = some (.int .i64 0) := (blk_cell BK106.out 0).trans rfl
 have hfs12 := blk_frozen BK106.out 0
 have hns12_0 := NB101_106.out
 have hns12_1 := NB102_106.out
 have hms12_0 := NB106_101.out
 have hms12_1 := NB106_102.out
 have hs13 : w10.cell? ⟨gb106, 1, none⟩ = some (.slice none 0 0) := (blk_cell BK106.out 1).trans rfl
 have hfs13 := blk_frozen BK106.out 1
 have hns13_0 := NB101_106.out
 have hns13_1 := NB102_106.out
 have hms13_0 := NB106_101.out
 have hms13_1 := NB106_102.out
 refine skip_ (w1 := ?_) (by rfl) rfl ?_ ?_
 rotate_left
 ·
  go_simp
  rfl
 refine hK.out _ _ ⟨((cell_far (p := ⟨gb106, _, none⟩) NB101_106.out _).trans (((cell_far (p := ⟨gb106, _, none⟩) NB101_106.out _).trans (hHeld.1)))), ((cell_far (p := ⟨gb106, _, none⟩) NB101_106.out _).trans (((cell_far (p := ⟨gb106, _, none⟩) NB101_106.out _).trans (hHeld.2))))⟩ (fun hHeld => ?_)
 clear hK K
 refine done_ (done_of HT_.out qq) ?_
 have hnb14 := NB106_101.out
 have hnc14 := NB101_106.out
 have hnb15 := NB106_102.out
 have hnc15 := NB102_106.out
 obtain ⟨hcz16_0, hcz16_1, hfz16_0, hfz16_1⟩ := qc2 BK106.out
 try go_wp2
 go_loopg [16] k (fun kq v16 w' => ∃ (x16_1 : Int) (x107001_1 : List (S72)) (u107001 : Value), v16 = .int .i64 x16_1 ∧ Aside0 (flow_withoutP.l0 kq a1 (t103.length : Int) x16_1 a0_0 x107001_1 = some (r1, r2)) ∧ Aside0 (kq ≤ k) ∧ Aside0 (Kd.R k72 72 w' w.heap.size (fun _ => True) u107001 x107001_1) ∧ Aside0 (w'.heap[gb101]? = some (.cells #[.int .i64 a0_0, (.slice A0_1 l0_1.length c0_1)] 26 (0, 0))) ∧ Aside0 (w'.heap[gb102]? = some (.cells #[.int .i64 0, (.slice none 0 0)] 26 (0, 0))) ∧ Aside0 (w'.heap[gb106]? = some (.cells #[.int .i64 a0_0, u107001] 26 (0, 0))) ∧ Aside0 (Below w.heap.size w w'))
 case atStart => exact ⟨(0), (t103), (.slice Ao11 t103.length co11), (by first | rfl | (simp; done) | (simp [*]; done)), H', ⟨Nat.le_refl _⟩, ⟨by (with_reducible repeat (first | apply Kd.R_alloc | apply Kd.R_drewN | apply Kd.R_drew)); exact Kd.R_mono (Kd.R_far (p := ⟨gb106, 1, none⟩) (Kd.R_far (p := ⟨gb106, 0, none⟩) (Kd.R_types HO105.out BK106.out (by decide)) (fun _ hk => hk.2) (.int .i64 a0_0)) (fun _ hk => hk.2) (.slice Ao11 t103.length co11)) (fun _ hk => trivial)⟩, ⟨by (with_reducible repeat (first | refine blk_drewN ?_ _ | refine blk_drew ?_ | refine blk_alloc ?_ _)); refine blk_far ?_ NB101_106.out _; (with_reducible repeat (first | refine blk_drewN ?_ _ | refine blk_drew ?_ | refine blk_alloc ?_ _)); refine blk_far ?_ NB101_106.out _; (with_reducible repeat (first | refine blk_drewN ?_ _ | refine blk_drew ?_ | refine blk_alloc ?_ _)); exact BK101.out⟩, ⟨by (with_reducible repeat (first | refine blk_drewN ?_ _ | refine blk_drew ?_ | refine blk_alloc ?_ _)); refine blk_far ?_ NB102_106.out _; (with_reducible repeat (first | refine blk_drewN ?_ _ | refine blk_drew ?_ | refine blk_alloc ?_ _)); refine blk_far ?_ NB102_106.out _; (with_reducible repeat (first | refine blk_drewN ?_ _ | refine blk_drew ?_ | refine blk_alloc ?_ _)); exact BK102.out⟩, ⟨by (with_reducible repeat (first | refine blk_drewN ?_ _ | refine blk_drew ?_ | refine blk_alloc ?_ _)); refine blk_put (cs := #[.int .i64 a0_0, .slice none 0 0]) ?_ 1 _ rfl; (with_reducible repeat (first | refine blk_drewN ?_ _ | refine blk_drew ?_ | refine blk_alloc ?_ _)); refine blk_put (cs := #[.int .i64 0, .slice none 0 0]) ?_ 0 _ rfl; (with_reducible repeat (first | refine blk_drewN ?_ _ | refine blk_drew ?_ | refine blk_alloc ?_ _)); exact BK106.out⟩, ⟨qb⟩⟩
 case round =>
  clear H'
  try clear c1
  try clear p2
  try clear c8
  try clear c11
  try clear c14
  try clear c15
  try clear hcz16_0
  try clear hcz16_1
  try clear hfz16_0
  try clear hfz16_1
  obtain ⟨x16_1, x107001_1, u107001, rfl, HA, HK1, HO_107001, BK101, BK102, BK106, HB⟩ := hrel
  cases gk with
  | zero => exact absurd HA.out (by simp [flow_withoutP.l0])
  | succ k1 =>
   have H := HA.out
   clear HA
   simp only [flow_withoutP.l0] at H
   by_cases c17 : x16_1 < (t103.length : Int)
   ·
    rw [if_pos c17] at H
    have c17b0 : decide (x16_1 < (t103.length : Int)) = true := decide_eq_true c17
    clear c17
    by_cases c18 : 0 ≤ x16_1
    ·
     rw [if_pos c18] at H
     have c18b0 := eq_true c18
     have c18b1 : decide (0 ≤ x16_1) = true := decide_eq_true c18
     clear c18
     obtain ⟨ji19, hji19⟩ : ∃ j_ : Int, (shr .i64 a1 x16_1) = j_ := ⟨_, rfl⟩
     replace H : (if (Go.bits .and .i64 (ji19) 1) = 1 then (if x16_1 < (x107001_1.length : Int) then (flow_withoutP.l0 k1 a1 (t103.length : Int) (wrap64 (x16_1 + 1)) a0_0 (x107001_1.set (x16_1 : Int).toNat (⟨(rd_T72 x107001_1 x16_1).f0, (rd_T72 x107001_1 x16_1).f1, 0⟩ : S72))) else (none)) else (flow_withoutP.l0 k1 a1 (t103.length : Int) (wrap64 (x16_1 + 1)) a0_0 x107001_1)) = some (r1, r2) := by first | (rw [hji19] at H; exact H) | (simp only [hji19] at H ⊢; exact H)
     have hji19_ : (a1 / 2 ^ min x16_1.toNat 64) = ji19 := hji19
     have hji19z : x16_1 ≤ 64 → (a1 / 2 ^ x16_1.toNat) = ji19 := shr_small hji19
     by_cases c20 : (Go.bits .and .i64 (ji19) 1) = 1
     ·
      rw [if_pos c20] at H
      obtain ⟨c20b0, c20b1⟩ := qt c20
      clear c20
      by_cases c21 : x16_1 < (x107001_1.length : Int)
      ·
       rw [if_pos c21] at H
       have c21b0 : decide (x16_1 < (x107001_1.length : Int)) = true := decide_eq_true c21
       clear c21
       obtain ⟨y107, hy107⟩ : ∃ y_ : List (S72), y_ = (x107001_1.set (x16_1 : Int).toNat (⟨(rd_T72 x107001_1 x16_1).f0, (rd_T72 x107001_1 x16_1).f1, 0⟩ : S72)) := ⟨_, rfl⟩
       replace H : (flow_withoutP.l0 k1 a1 (t103.length : Int) (wrap64 (x16_1 + 1)) a0_0 y107) = some (r1, r2) := by first | (rw [hy107]; with_reducible exact H) | (have H2_ := (Option.bind_some _ _).symm.trans H; rw [hy107]; with_reducible exact H2_) | (have H2_ := (Option.bind_some _ _).symm.trans H; with_reducible exact H2_) | with_reducible exact H | (rw [hy107]; exact H) | exact H
       have Ny107 := Aside0.mk hy107
       clear hy107
       have H' := Aside0.mk H
       clear H
       have hnb23 := NB106_101.out
       have hnc23 := NB101_106.out
       have hnb24 := NB106_102.out
       have hnc24 := NB102_106.out
       obtain ⟨hcz25_0, hcz25_1, hfz25_0, hfz25_1⟩ := qc2 BK106.out
       have p22 : 0 ≤ (x16_1 : Int) := of_decide_eq_true (by first | (with_reducible assumption) | assumption)
       have q22 : (x16_1 : Int) < ((x107001_1.length : Int) : Int) := of_decide_eq_true (by first | (with_reducible assumption) | assumption)
       obtain ⟨go22, co22, eo22, gb22, gl22, cl22, HG22⟩ := Kd.R_form HO_107001.out (by omega)
       (first | cases eo22 | (injection eo22 with ea_ en_ ec_; (first | subst ea_ | (injection ea_ with ea_; subst ea_)); subst ec_; clear en_))
       have GB22 := Aside0.mk gb22
       have GG22 := Aside0.mk HG22
       clear gb22 gl22 HG22
       obtain ⟨ce22, hcl22, hM22, hcc22, hfr22⟩ := Kd.R_elem HO_107001.out z72 (x16_1 : Int) p22 q22
       obtain rfl := k72_openM hM22
       have hx22_0 : wr.cell? ⟨go22, (x16_1 : Int).toNat * 3, none⟩ = some (.int .i64 ((rd_T72 x107001_1 x16_1).f0)) := hcc22 0 _ rfl
       have hx22_1 : wr.cell? ⟨go22, (x16_1 : Int).toNat * 3 + 1, none⟩ = some (.int .i64 ((rd_T72 x107001_1 x16_1).f1)) := hcc22 1 _ rfl
       have hx22_2 : wr.cell? ⟨go22, (x16_1 : Int).toNat * 3 + 2, none⟩ = some (.int .i64 ((rd_T72 x107001_1 x16_1).f2)) := hcc22 2 _ rfl
       have hf22_0 : wr.frozen? ⟨go22, (x16_1 : Int).toNat * 3, none⟩ = false := hfr22 0
       have hf22_1 : wr.frozen? ⟨go22, (x16_1 : Int).toNat * 3 + 1, none⟩ = false := hfr22 1
       have hf22_2 : wr.frozen? ⟨go22, (x16_1 : Int).toNat * 3 + 2, none⟩ = false := hfr22 2
       clear hcl22 hcc22 hfr22 hM22
       replace p22 := eq_true p22
       replace q22 := eq_true q22
       have HX26 := Aside0.mk (show Kd.R k72 72 wr w.heap.size (fun _ => True) (.slice (some ⟨go22, 0, none⟩) x107001_1.length co22) x107001_1 from (qr HO_107001.out))
       obtain ⟨ce26, hcl26, hM26, hcc26, hfr26⟩ := Kd.R_elem HX26.out z72 (x16_1 : Int) (of_decide_eq_true (by first | (with_reducible assumption) | assumption)) (by have h_ : (x16_1 : Int) < ((x107001_1.length : Int) : Int) := of_decide_eq_true (by first | (with_reducible assumption) | assumption); first | exact h_ | (have e_ := (Kd.R_reads' HO_107001.out).1; omega) | simpa using h_)
       obtain rfl := k72_openM hM26
       have HP26 := Kd.R_seg HX26.out (x16_1 : Int) (of_decide_eq_true (by first | (with_reducible assumption) | assumption)) (by have h_ : (x16_1 : Int) < ((x107001_1.length : Int) : Int) := of_decide_eq_true (by first | (with_reducible assumption) | assumption); first | exact h_ | (have e_ := (Kd.R_reads' HO_107001.out).1; omega) | simpa using h_) (seg := [.int .i64 0]) (j := 2) hcl26 hcc26 (show 3 ≤ 3 from by decide) (x' := (⟨(rd_T72 x107001_1 x16_1).f0, (rd_T72 x107001_1 x16_1).f1, 0⟩ : S72)) (k72_mkM _ _ _ (⟨(rd_T72 x107001_1 x16_1).f0, (rd_T72 x107001_1 x16_1).f1, 0⟩ : S72) ) (fun _ hk => hk)
       have hx26_2 := hcc26 2 _ rfl
       (try simp only [show (k72).sz = 3 from rfl, Nat.mul_one, Nat.add_zero] at hx26_2)
       have hf26_2 := hfr26 2
       (try simp only [show (k72).sz = 3 from rfl, Nat.mul_one, Nat.add_zero] at hf26_2)
       clear hcl26 hcc26 hfr26 hM26
       go_wp2_with (first | ((with_reducible refine gate_store (t := 3) (p := 28) rfl ?_); refine store_event (t := 3) (p := 28) (v := ?vo_w27) (w1 := (wr.setCell ⟨go22, (x16_1 : Int).toNat * 3 + 2, none⟩ (.int .i64 0))) ?hg ?ho ?hn ?hr ?_; (case ho => rfl); (case hg => rfl); (case hn => rfl); (case hr => first | (go_simp; done) | (go_simp; rfl)); intro w27 hw; have hg : wr.grownBy w27 (some go22) := (by rw [hw]; exact HP26.2); have hp_ : Kd.R k72 72 w27 w.heap.size (fun _ => True) (.slice (some ⟨go22, 0, none⟩) x107001_1.length co22) y107 := (by rw [hw, Ny107.out]; exact HP26.1); clear HP26; replace BK101 := Aside0.mk (blk_grown (g := gb101) (o := .cells #[.int .i64 a0_0, .slice A0_1 l0_1.length c0_1] 26 (0, 0)) (qk BK101.out) hg (Kd.R_ne HO_107001.out BK101.out (by decide))); replace BK102 := Aside0.mk (blk_grown (g := gb102) (o := .cells #[.int .i64 0, .slice none 0 0] 26 (0, 0)) (qk BK102.out) hg (Kd.R_ne HO_107001.out BK102.out (by decide))); replace BK106 := Aside0.mk (blk_grown (g := gb106) (o := .cells #[.int .i64 a0_0, .slice (some ⟨go22, 0, none⟩) x107001_1.length co22] 26 (0, 0)) (qk BK106.out) hg (Kd.R_ne HO_107001.out BK106.out (by decide))); replace HO_107001 := Aside0.mk (hp_); replace HB := Aside0.mk ((by rw [hw]; exact below_set (HB.out) GB22.out : Below w.heap.size w w27)); clear hg hw hp_))
       go_roundg k1
       case measure => have := HK1.out; omega
       case rel => exact ⟨(wrap64 (x16_1 + 1)), (y107), (.slice (some ⟨go22, 0, none⟩) x107001_1.length co22), (by first | rfl | (simp; done) | (simp [*]; done)), H', ⟨by have := HK1.out; omega⟩, ⟨by (with_reducible repeat (first | apply Kd.R_alloc | apply Kd.R_drewN | apply Kd.R_drew)); exact HO_107001.out⟩, ⟨by (with_reducible repeat (first | refine blk_drewN ?_ _ | refine blk_drew ?_ | refine blk_alloc ?_ _)); exact BK101.out⟩, ⟨by (with_reducible repeat (first | refine blk_drewN ?_ _ | refine blk_drew ?_ | refine blk_alloc ?_ _)); exact BK102.out⟩, ⟨by (with_reducible repeat (first | refine blk_drewN ?_ _ | refine blk_drew ?_ | refine blk_alloc ?_ _)); exact BK106.out⟩, ⟨qb⟩⟩
      ·
       rw [if_neg c21] at H
       exact absurd H (by simp)
     ·
      rw [if_neg c20] at H
      obtain ⟨c20b0, c20b1⟩ := qf c20
      have H' := Aside0.mk H
      clear H
      go_wp2
      go_roundg k1
      case measure => have := HK1.out; omega
      case rel => exact ⟨(wrap64 (x16_1 + 1)), (x107001_1), (u107001), (by first | rfl | (simp; done) | (simp [*]; done)), H', ⟨by have := HK1.out; omega⟩, ⟨by (with_reducible repeat (first | apply Kd.R_alloc | apply Kd.R_drewN | apply Kd.R_drew)); exact HO_107001.out⟩, ⟨by (with_reducible repeat (first | refine blk_drewN ?_ _ | refine blk_drew ?_ | refine blk_alloc ?_ _)); exact BK101.out⟩, ⟨by (with_reducible repeat (first | refine blk_drewN ?_ _ | refine blk_drew ?_ | refine blk_alloc ?_ _)); exact BK102.out⟩, ⟨by (with_reducible repeat (first | refine blk_drewN ?_ _ | refine blk_drew ?_ | refine blk_alloc ?_ _)); exact BK106.out⟩, ⟨qb⟩⟩
    ·
     rw [if_neg c18] at H
     exact absurd H (by simp)
   ·
    rw [if_neg c17] at H
    have c17b0 : decide (x16_1 < (t103.length : Int)) = false := decide_eq_false c17
    clear c17
    simp only [Option.some.injEq, Prod.mk.injEq] at H
    obtain ⟨rfl, rfl⟩ := H
    have hnb28 := NB106_101.out
    have hnc28 := NB101_106.out
    have hnb29 := NB106_102.out
    have hnc29 := NB102_106.out
    obtain ⟨hcz30_0, hcz30_1, hfz30_0, hfz30_1⟩ := qc2 BK106.out
    have hnb31 := NB102_101.out
    have hnc31 := NB101_102.out
    obtain ⟨hcz32_0, hcz32_1, hfz32_0, hfz32_1⟩ := qc2 BK102.out
    obtain ⟨Ao33, co33, eo33⟩ := Kd.R_slice HO_107001.out
    subst eo33
    go_wp2
    refine bodyPost_ret (results_cell_row rfl _ _ gb102 26 #[.int .i64 a0_0, .slice Ao33 x107001_1.length co33] (0, 0) _ rfl (by (with_reducible repeat (first | refine blk_drewN ?_ _ | refine blk_drew ?_ | refine blk_alloc ?_ _)); refine blk_put (cs := #[.int .i64 a0_0, .slice none 0 0]) ?_ 1 _ rfl; (with_reducible repeat (first | refine blk_drewN ?_ _ | refine blk_drew ?_ | refine blk_alloc ?_ _)); refine blk_put (cs := #[.int .i64 0, .slice none 0 0]) ?_ 0 _ rfl; (with_reducible repeat (first | refine blk_drewN ?_ _ | refine blk_drew ?_ | refine blk_alloc ?_ _)); exact BK102.out) Try.underlying26 rfl qq) rfl ?_
    exact ⟨_, qe, by (with_reducible repeat (first | apply Kd.R_alloc | apply Kd.R_drewN | apply Kd.R_drew)); exact Kd.R_mono (Kd.R_far (p := ⟨gb102, 1, none⟩) (Kd.R_far (p := ⟨gb102, 0, none⟩) (Kd.R_types HO_107001.out BK102.out (by decide)) (fun _ hk => hk.2) (.int .i64 a0_0)) (fun _ hk => hk.2) (.slice Ao33 x107001_1.length co33)) (fun _ hk => trivial), qb⟩

end Go.Proofs.Ytkkakdpncogpkaa.D
end
