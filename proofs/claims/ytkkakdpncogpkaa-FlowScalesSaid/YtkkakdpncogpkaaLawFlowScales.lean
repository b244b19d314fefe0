/- The law FlowScales holds for every input. Conditions: none beyond the row's own. -/
import Derived.Test.YtkkakdpncogpkaaRows
import Derived.Test.YtkkakdpncogpkaaBase29
import Derived.Test.YtkkakdpncogpkaaBase2
import Derived.Test.YtkkakdpncogpkaaFlowScales3
import Derived.Test.YtkkakdpncogpkaaFlowScales1
import Derived.WalkKit
import Derived.ProofKit
import Derived.OpenShut
import Derived.ShutString
import Derived.ChangeOld
import Derived.Below
import Derived.SizedLaws
namespace Go.Proofs.Ytkkakdpncogpkaa.flowScales
open Go.ChangeShapes Go.WideShapes Go.ChangeAt Go.RowKit Go.Proofs.Ytkkakdpncogpkaa.D Go.Proofs.YtkkakdpncogpkaaW.PrintWords
set_option linter.unusedVariables false
theorem own : ownKnob Try.prog.godebug = none := by kernel_rfl
theorem laidOut : laidOutB Try.prog = true := D.fact1
set_option maxRecDepth 100000 in
theorem lifted (os : Os) (started : os.Started) (H : Type) (enc : TypeId × Value → H) :
    ReturnsInHanded {} Try.checked os 13 .any (Rows.flowScalesSpec.pre6 enc Try.prog Try.f13 Rows.flowScalesRow.domain false) (Rows.flowScalesSpec.post enc Try.prog Try.f13 false true false false) := by
  refine returnsInHanded_of_change_sized (C := Try.checked) own started (by kernel_rfl) Try.func13
    (ChangeSpec.witness6 (enc := enc) (C := Try.checked) false ⟨#[], #[.int .i64 0, .slice none 0 0, .int .i64 0, .int .i64 0, .int .i64 0, .slice none 0 0], []⟩ 8 (by kernel_rfl) (by kernel_rfl) (by kernel_rfl) (by kernel_rfl)) ?_
  intro W base args ds gs before hval0 hW hcnd hsz0 _
  have hval : ∀ (j : Nat) t v, Try.f13.params[j]? = some t → args[j]? = some v → Value.okWide Try.prog W .any base t v := hval0
  have hW' := hW
  obtain ⟨p, q, hA0, hV, rfl, hfz, hnd⟩ := hW
  have hA : DataW.TrodAll enc Try.prog W 0 (fun _ => true) true Try.f13.params.toList args.toList ds p := hA0
  rw [Try.params13] at hA hval
  obtain ⟨v0, vs0, d0, ds0, p0, q0, hargs, rfl, rfl, h0, r0⟩ := trodAll_cons hA
  obtain ⟨v1, vs1, d1, ds1, p1, q1, rfl, rfl, rfl, h1, r1⟩ := trodAll_cons r0
  obtain ⟨v2, vs2, d2, ds2, p2, q2, rfl, rfl, rfl, h2, r2⟩ := trodAll_cons r1
  obtain ⟨v3, vs3, d3, ds3, p3, q3, rfl, rfl, rfl, h3, r3⟩ := trodAll_cons r2
  obtain ⟨v4, vs4, d4, ds4, p4, q4, rfl, rfl, rfl, h4, r4⟩ := trodAll_cons r3
  obtain ⟨v5, vs5, d5, ds5, p5, q5, rfl, rfl, rfl, h5, r5⟩ := trodAll_cons r4
  obtain ⟨rfl, rfl, rfl⟩ := trodAll_nil r5
  obtain rfl : args = #[v0, v1, v2, v3, v4, v5] := by cases args; simp_all
  obtain ⟨rfl, rfl⟩ := trodVars_none hV
  obtain ⟨a0, rfl, rfl, rfl, w0⟩ := open_int Try.underlying3 (hval 0 3 v0 rfl rfl) h0
  obtain ⟨a1, len1, cap1, rfl⟩ := okWide_slice Try.underlying22 (hval 1 22 v1 rfl rfl)
  have k1 := h1
  have lt1 : ∀ x ∈ p1, x.block < W.heap.size := by obtain ⟨m, hm⟩ := k1; exact DataW.trod_lt m _ _ _ hm
  obtain ⟨z1, e1, c1, C1, w1⟩ : ∃ zs : List D.S23, zs.length = len1 ∧ len1 ≤ cap1 ∧ Kd.C D.k23 W a1 len1 zs ∧ D.AllI64 zs := by
    obtain ⟨fuel, hf⟩ := h1
    exact D.open_threes Try.underlying22 Try.underlying23 Try.underlying3 (by kernel_rfl) (by kernel_rfl) hf
  subst e1
  obtain ⟨a2, rfl, rfl, rfl, w2⟩ := open_int Try.underlying3 (hval 2 3 v2 rfl rfl) h2
  obtain ⟨a3, rfl, rfl, rfl, w3⟩ := open_int Try.underlying3 (hval 3 3 v3 rfl rfl) h3
  obtain ⟨a4, rfl, rfl, rfl, w4⟩ := open_int Try.underlying3 (hval 4 3 v4 rfl rfl) h4
  obtain ⟨a5, len5, cap5, rfl⟩ := okWide_slice Try.underlying27 (hval 5 27 v5 rfl rfl)
  have k5 := h5
  have lt5 : ∀ x ∈ p5, x.block < W.heap.size := by obtain ⟨m, hm⟩ := k5; exact DataW.trod_lt m _ _ _ hm
  obtain ⟨z5, e5, c5, C5, w5⟩ : ∃ zs : List Int, zs.length = len5 ∧ len5 ≤ cap5 ∧ Kd.C (Kd.int .i64) W a5 len5 zs ∧ ∀ x, x ∈ zs → D.I64 x := by
    obtain ⟨fuel, hf⟩ := h5
    exact D.open_intlist Try.underlying27 Try.underlying3 (by kernel_rfl) hf
  subst e5
  clear hA0 hval0 hsz0
  refine (D.dialtonelaw27_FlowScales.calls 128 a0 a1 cap1 z1 a2 a3 a4 a5 cap5 z5 true W C1 c1 C5 c5 (D.FlowScales_true a0 z1 a2 a3 a4 z5 (D.wf_i64 w0) w1 (D.wf_i64 w2) (D.wf_i64 w3) (D.wf_i64 w4) w5)).mono fun e W' ⟨he, bel⟩ => ?_
  subst he
  exact ⟨_, rfl, _, _, _, [], _, [], hW', trodAll_mk1 (shut_bool Try.underlying4 _), (trodAll_cons_mk (shut_int Try.underlying3 w0) (trodAll_cons_mk (Below.trod laidOut (by kernel_rfl) (of_decide_eq_true (by kernel_rfl)) k1 bel lt1) (trodAll_cons_mk (shut_int Try.underlying3 w2) (trodAll_cons_mk (shut_int Try.underlying3 w3) (trodAll_cons_mk (shut_int Try.underlying3 w4) (trodAll_cons_mk (Below.trod laidOut (by kernel_rfl) (of_decide_eq_true (by kernel_rfl)) k5 bel lt5) trodAll_mk0)))))), rfl, bel.frame _, fun h => by cases h⟩
theorem fact0 : (Rows.flowScalesRow.wf (OpenSpec.ofChange Rows.flowScalesSpec)) = true := by kernel_rfl
theorem fact3 : (Try.f13.params.all (Try.prog.readableRec ·)) = true := by kernel_rfl
theorem fact4 : (namedTie Try.prog Rows.flowScalesRow.named Rows.flowScalesSpec.vars) = true := by kernel_rfl
theorem fact5 : ((Rows.flowScalesRow.stops == [])) = true := by kernel_rfl
theorem fact6 : ((Try.prog.stops == [])) = true := by kernel_rfl
theorem fact7 : ((Rows.flowScalesRow.knobs == [])) = true := by kernel_rfl
theorem fact8 : ((Try.prog.stopKnobs == [])) = true := by kernel_rfl
theorem fact9 : ((Rows.flowScalesRow.inPlace == Try.prog.inPlace 13)) = true := by kernel_rfl
theorem fact10 : ((Rows.flowScalesRow.unfollowed == Try.prog.unfollowed 13)) = true := by kernel_rfl
theorem fact11 : ((Rows.flowScalesRow.recurses == Try.prog.recurses 13)) = true := by kernel_rfl
theorem fact12 : ((Rows.flowScalesRow.named == Try.prog.varsNamed 13)) = true := by kernel_rfl
theorem fact13 : ((Rows.flowScalesRow.maps == (Try.f13.params.toList ++ Rows.flowScalesSpec.plain.varTypes Try.prog).any (Try.prog.mapsRec ·))) = true := by kernel_rfl
theorem fact14 : ((Rows.flowScalesRow.ifaces == (Try.f13.params.toList ++ Rows.flowScalesSpec.plain.varTypes Try.prog).any (Try.prog.ifacesRec ·))) = true := by kernel_rfl
theorem fact15 : ((Rows.flowScalesRow.mapsOut == Try.prog.mapsAmong Try.f13.resultTypes.toList)) = true := by kernel_rfl
theorem fact16 : ((Rows.flowScalesRow.loops == (Try.f13.params.toList ++ Rows.flowScalesSpec.plain.varTypes Try.prog).any (Try.prog.loopsFrom ·))) = true := by kernel_rfl
theorem fact17 : ((Rows.flowScalesRow.wideKeys == (Try.f13.params.toList ++ Rows.flowScalesSpec.plain.varTypes Try.prog ++ Try.f13.resultTypes.toList).any (Try.prog.wideKeysFrom ·))) = true := by kernel_rfl
theorem fact18 : (Rows.flowScalesSpec.vars.all (Try.prog.varReadable ·)) = true := by kernel_rfl
theorem fact19 : (Try.f13.resultTypes.all (fun t => Try.prog.readableRec t && decide (t < Try.prog.types.size))) = true := by kernel_rfl
theorem fact20 : ((Rows.flowScalesRow.ifacesOut == Try.f13.resultTypes.toList.any (Try.prog.ifacesRec ·))) = true := by kernel_rfl
theorem fact21 : ((Rows.flowScalesRow.loopsOut == Try.f13.resultTypes.toList.any (Try.prog.loopsFrom ·))) = true := by kernel_rfl
theorem fact22 : ((Rows.flowScalesRow.plainKeys == Try.prog.plainKeys)) = true := by kernel_rfl
theorem fact23 : (Rows.flowScalesRow.shortTexts.isNone) = true := by kernel_rfl
theorem fact27 : ((Try.prog.make == some Rows.flowScalesRow.make)) = true := by kernel_rfl
theorem fact28 : (Rows.flowScalesRow.domain.isEmpty) = true := by kernel_rfl
theorem fact29 : ((Rows.flowScalesRow.pinned == Rows.flowScalesRow.pinnedBy)) = true := by kernel_rfl
theorem fact30 : ((Rows.flowScalesRow.veiled == (Try.f13.params.toList ++ Rows.flowScalesSpec.plain.varTypes Try.prog ++ Try.f13.resultTypes.toList).any (Try.prog.veiledRec ·))) = true := by kernel_rfl
theorem fact31 : (Rows.flowScalesRow.veiledFits Try.prog Try.f13.params.toList (Try.f13.params.toList ++ Rows.flowScalesSpec.plain.varTypes Try.prog ++ Try.f13.resultTypes.toList)) = true := by kernel_rfl
theorem factK : (Rows.flowScalesRow.kinds == []) = true := by kernel_rfl
theorem joined : joinedFacts Try.prog 13 Try.f13 Rows.flowScalesSpec Rows.flowScalesRow = true :=
  D.joined_of Try.prog 13 Try.f13 Rows.flowScalesSpec Rows.flowScalesRow fact0 D.fact1 D.fact2 fact3 fact4 fact5 fact6 fact7 fact8 fact9 fact10 fact11 fact12 fact13 fact14 fact15 fact16 fact17 fact18 fact19 fact20 fact21 fact22 fact23 D.fact24 D.fact25 D.fact26 fact27 fact28 factK fact29 fact30 fact31
theorem over : Rows.flowScalesRow.holds Try.pinned (OpenSpec.ofChange Rows.flowScalesSpec) :=
  OpenClaim.holds_of_wide 13 Try.f13 rfl rfl rfl rfl rfl rfl rfl ⟨rfl, rfl, rfl, rfl, rfl⟩ rfl rfl rfl rfl rfl (by kernel_rfl) Try.func13 joined
    (of_decide_eq_true (by kernel_rfl)) (by unfold Func.isWrapper; first | (rw [if_pos (by decide +kernel)]; kernel_rfl) | (rw [if_neg (by decide +kernel)]; exact ⟨rfl, rfl⟩))
    (fun os started H enc _ => lifted os started H enc)
theorem proved : Rows.FlowScalesSaid := over
end Go.Proofs.Ytkkakdpncogpkaa.flowScales
namespace Go.Proofs.Ytkkakdpncogpkaa
/-- The row, under a short name, for the claim. -/
theorem flowScales_holds : Rows.FlowScalesSaid := flowScales.proved
end Go.Proofs.Ytkkakdpncogpkaa
