/- Parts of the proof of a law about flows (see the law's own text): HClone. Conditions: each theorem's own. -/
import Derived.Test.YtkkakdpncogpkaaBase17
import Derived.Deep.CutBlock
import Derived.Lib.SliceRun
section
/- The contract of slices.Clone for edges. Conditions: the contract's own. -/
namespace Go.Proofs.Ytkkakdpncogpkaa.D
open Go.RowKit Go.Proofs.YtkkakdpncogpkaaW.PrintWords Go.Proofs.YtkkakdpncogpkaaW.PrintLast Go.Proofs.YtkkakdpncogpkaaW.PrintMore
set_option linter.unusedVariables false
set_option linter.unusedSimpArgs false
set_option maxRecDepth 100000 in
set_option maxHeartbeats 4000000 in
theorem clone112_calls (l : List Ed) (A : Option Addr) (c : Nat) (w : World) (hl : l.length ≤ 40) (hr : Kd.C k72 w A l.length l) :
    Calls Try.prog 112 #[.slice A l.length c] w fun e w' => ∃ v, e = .returned v ∧ Kd.R k72 72 w' w.heap.size (fun _ => True) v l ∧ Below w.heap.size w w' := by
  have qT : ∀ (w : World) (a : Option Addr) (n c : Nat), (binOp .eql 24 (.slice a n c) (.slice none 0 0)).run Try.prog w = .ok (.bool a.isNone) w := fun w a n c => Lib.run_eql_slice_nil w 24 72 a n c 0 0 Try.underlying24
  have HR := Aside0.mk hr
  cases A with
  | none =>
    have h0 : l = [] := by
      cases hc : l with
      | nil => rfl
      | cons x r =>
        obtain ⟨ad, e, _⟩ := at_T72 hr 0 (by omega) (by rw [hc, List.length_cons]; omega)
        cases e
    subst h0
    clear hr
    go_enter Try.func112, Try.ntmps112
    go_wp2

    go_ret
    exact ⟨_, rfl, Kd.R_nil _ _ _ _ _, Below.refl _ _⟩
  | some ad =>
    clear hr
    go_enter Try.func112, Try.ntmps112
    go_wp2_with (first | ((with_reducible refine gate_dst (N := 5) rfl ?_); refine Kd.R_lit k72 (w0 := w) w.heap.size 72 ?hg (N := 5) ?hd (xs := ([] : List Ed)) (inner := []) (ok := fun _ => True) (okp := fun _ => True) ?hr ?hp (fun _ hk => hk) trivial (Below.refl _ _) (Nat.le_refl _) (by simp) ?_; (case hd => rfl); (case hg => rfl); (case hr => first | (go_simp; done) | (go_simp; rfl)); (case hp => exact (Reps.none _ _)); intro v5 w5 ho hb hg_ hnew_; have R5 := Aside0.mk ho; have HB5 := Aside0.mk hb; clear ho hb hg_ hnew_) | ((with_reducible refine gate_builtin (b := .append) (xs := #[.tmp 5, .tmp 6]) rfl ?_); at_builtin; refine Kd.R_append_rows k72 (w0 := w) w.heap.size rfl (.tmp 5) (.tmp 6) 24 72 (.agg #[(.int .i64 0), (.int .i64 0), (.int .i64 0)]) 24 rfl Try.underlying24 info72 rfl (by decide) (by omega) v5 [] l _ _ _ (fun _ => True) (fun _ => False) rfl rfl ?aO ?aR (fun _ _ h => h) (fun _ h => h.elim) ?aF ?aB ?aS ?aL ?_; (case aR => exact Kd.C_below HR.out HB5.out); (case aB => exact HB5.out); (case aF => exact (fun _ _ => trivial)); (case aO => exact R5.out); (case aS => exact HB5.out.size); (case aL => simp only [List.length_nil]; omega); intro v7 w7 ho hb hg hat; have R7 := Aside0.mk ho; have HB7 := Aside0.mk hb; clear ho hb hg hat))

    go_ret
    exact ⟨_, rfl, R7.out, HB7.out⟩
/-- The copy of a list of edges (the name is what the print tool makes of 'slices.Clone[[]dialtone/api.Edge,dialtone/api.Edge]'). -/
def api_Edge.f (l : List Ed) : Option (List Ed) := if l.length ≤ 40 then some l else none
theorem api_Edge.calls (A0 : Option Addr) (c0 : Nat) (l0 r : List Ed) (w : World) (hr0 : Kd.C k72 w A0 l0.length l0) (hc0 : l0.length ≤ c0) (h : api_Edge.f l0 = some r) :
    Calls Try.prog 112 #[.slice A0 l0.length c0] w fun e w' => ∃ v0_ : Value, e = .returned v0_ ∧ Kd.R k72 72 w' w.heap.size (fun _ => True) v0_ r ∧ Below w.heap.size w w' := by
  unfold api_Edge.f at h
  split at h
  · obtain rfl := Option.some.inj h
    exact clone112_calls l0 A0 c0 w (by assumption) hr0
  · cases h
end Go.Proofs.Ytkkakdpncogpkaa.D
end
