/- Parts of the proof of a law about flows (see the law's own text): HSort. Conditions: each theorem's own. -/
import Derived.Test.YtkkakdpncogpkaaBase1
import Derived.Test.YtkkakdpncogpkaaBase17
import Derived.Test.YtkkakdpncogpkaaBase15
import Derived.Test.YtkkakdpncogpkaaBase10
import Derived.Deep.QuietTactic
import Derived.BigQuiet
section
/- The contract of slices.SortFunc over the indices of edges, with flow.Worst's comparison. Conditions: the contract's own. -/
namespace Go.Proofs.Ytkkakdpncogpkaa.D
open Go.RowKit Go.Proofs.YtkkakdpncogpkaaW.PrintWords Go.Proofs.YtkkakdpncogpkaaW.PrintLast Go.Proofs.YtkkakdpncogpkaaW.PrintMore
set_option linter.unusedVariables false
set_option linter.unusedSimpArgs false
set_option maxRecDepth 100000 in
set_option maxHeartbeats 4000000 in
theorem cmp87 (l : List Ed) (A : Option Addr) (c g4 : Nat) (i j : Fin l.length) (w W : World) (blk : Nat) (hkeep : ∀ p : Addr, p.block < w.heap.size → p.block ≠ blk → W.cell? p = w.cell? p) (hA : ∀ ad, A = some ad → ad.block ≠ blk) (hb : W.cell? ⟨g4, 1, none⟩ = some (.slice A l.length c)) (hr : Kd.C k72 w A l.length l)
    (hcap : ∀ k : Nat, k < l.length → 0 ≤ (rd_T72 l k).f2 ∧ (rd_T72 l k).f2 ≤ 10000) :
    Calls Try.prog 87 #[.int .i64 (i.val : Int), .int .i64 (j.val : Int), .pointer (some ⟨g4, 0, none⟩)] W fun e w' => e = .returned (.int .i64 (cfF l i j)) ∧ ∃ q, w' = W.drewN q := by
  have hu26 := Try.underlying26
  have hu72 := Try.underlying72
  have hi := i.isLt
  have hj := j.isLt
  obtain ⟨ad, ea, hx0, hx1, hx2⟩ := at_T72 hr (i.val : Int) (by omega) (by omega)
  obtain ⟨ad', ea', hy0, hy1, hy2⟩ := at_T72 hr (j.val : Int) (by omega) (by omega)
  cases ea
  cases ea'
  simp only [Int.toNat_natCast] at hx0 hx1 hx2 hy0 hy1 hy2
  have hab := hA ad rfl
  replace hx2 := (hkeep _ (World.block_lt_of_cell? w _ hx2) (by show (Addr.add _ _).block ≠ _; rw [add_block]; exact hab)).trans hx2
  replace hy2 := (hkeep _ (World.block_lt_of_cell? w _ hy2) (by show (Addr.add _ _).block ≠ _; rw [add_block]; exact hab)).trans hy2
  clear hx0 hx1 hy0 hy1 hkeep hA hab
  have b1 := hcap i.val hi
  have b2 := hcap j.val hj
  have HC : Aside0 (cfF l i j = (rd_T72 l (j.val : Int)).f2 - (rd_T72 l (i.val : Int)).f2) := ⟨rfl⟩
  clear hr hcap
  generalize (rd_T72 l (i.val : Int)).f2 = ci at *
  generalize (rd_T72 l (j.val : Int)).f2 = cj at *
  have HB := Aside0.mk (And.intro b1 b2)
  clear b1 b2
  go_enter Try.func87, Try.ntmps87
  go_wp2
  go_quiet (fail)
  go_wp2
  go_ret
  exact ⟨by rw [HC.out, wrap64_small (by have := HB.out; omega) (by have := HB.out; omega)]; rfl, _, rfl⟩
def encF (l : List Ed) (i : Fin l.length) : Value := .int .i64 (i.val : Int)
theorem keep_sort {α : Type} [Inhabited α] (enc : α → Value) (w : World) (blk off m : Nat) (dk : Array α) (os : Array Obj) : BX w.heap.size blk w (Go.Proofs.sortWorld enc w blk off m dk os) := by
  refine ⟨rfl, rfl, rfl, ?_, fun k hk hx => ?_⟩
  · simp [Go.Proofs.sortWorld, Go.Sort.grow, Go.Sort.putRow, Go.Sort.mapBlock, Go.Sort.ahead]
  · unfold Go.Proofs.sortWorld
    rw [Go.Sort.heap_grow_old _ _ (by simp [Go.Sort.putRow, Go.Sort.mapBlock, Go.Sort.ahead]; exact hk)]
    simp only [Go.Sort.putRow, Go.Sort.mapBlock, Go.Sort.ahead]
    rw [Array.getElem?_modify, if_neg (fun e => hx e.symm)]
theorem swoF (l : List Ed) : Go.Sort.SWO (Go.Proofs.ltOf (cfF l)) := by
  have e : ∀ x y, Go.Proofs.ltOf (cfF l) x y = decide ((rd_T72 l (y.val : Int)).f2 - (rd_T72 l (x.val : Int)).f2 < 0) := fun _ _ => rfl
  refine ⟨fun x => ?_, fun x y z h1 h2 => ?_, fun x y z h1 h2 => ?_⟩
  · rw [e]; exact decide_eq_false (by omega)
  · rw [e] at h1 h2 ⊢
    have a := of_decide_eq_true h1
    have b := of_decide_eq_true h2
    exact decide_eq_true (by omega)
  · rw [e] at h1 h2 ⊢
    have a := of_decide_eq_false h1
    have b := of_decide_eq_false h2
    exact decide_eq_false (by omega)
theorem sort_calls (n : Int) (l : List Ed) (A : Option Addr) (c g4 : Nat) (i : Fin l.length) (r : List (Fin l.length)) (blk cap base : Nat) (w : World)
    (h26 : w.heap[g4]? = some (.cells #[.int .i64 n, .slice A l.length c] 26 (0, 0))) (hr : Kd.C k72 w A l.length l) (hcap : ∀ k : Nat, k < l.length → 0 ≤ (rd_T72 l k).f2 ∧ (rd_T72 l k).f2 ≤ 10000)
    (hrow : w.ownsRow base 3 1 (.slice (some ⟨blk, 0, none⟩) (i :: r).length cap) (i :: r).length ((i :: r).map (encF l)))
    (hA : ∀ ad, A = some ad → ad.block ≠ blk) (hlen : (i :: r).length ≤ 40) :
    Calls Try.prog 86 #[.slice (some ⟨blk, 0, none⟩) (i :: r).length cap, .func (.func 87) #[] #[.pointer (some ⟨g4, 0, none⟩)]] w fun e w' =>
      e = .returned (.tuple #[]) ∧ (∀ j (h : j < (sortedF l (i :: r)).length), w'.cell? ⟨blk, j, none⟩ = some (encF l (sortedF l (i :: r))[j])) ∧ BX w.heap.size blk w w' := by
  letI : Inhabited (Fin l.length) := ⟨i⟩
  obtain ⟨hlen1, h0 | ⟨g, cap', cur, hv, hbase, hcur, hcap1, hcap2, hsz, htake⟩⟩ := hrow
  · exact absurd h0.1 (by intro e; cases e)
  · simp only [Value.slice.injEq, Option.some.injEq, Addr.mk.injEq, and_true, true_and] at hv
    obtain ⟨rfl, rfl⟩ := hv
    have hg4 : g4 ≠ blk := blk_ne h26 hcur (by decide)
    have hblk := blk_lt hcur
    have hH : Go.Sort.Holds (encF l) w blk 0 (i :: r).toArray := by
      intro j hj
      have hj' : j < (i :: r).length := by simpa using hj
      refine ⟨?_, blk_frozen hcur _⟩
      rw [Nat.zero_add, blk_cell hcur]
      have h1 : ((i :: r).map (encF l))[j]? = some (encF l (i :: r)[j]) := by rw [List.getElem?_map, List.getElem?_eq_getElem hj']; rfl
      rw [← htake, List.getElem?_take] at h1
      rw [if_pos (by omega)] at h1
      rw [← Array.getElem?_toList, h1]
      congr 1
      rw [getElem!_pos (i :: r).toArray j (by simpa using hj')]
      simp
    have hsize : (i :: r).toArray.size = (i :: r).length := by simp
    have hcmp : Go.Proofs.CmpReads Try.prog 87 #[.pointer (some ⟨g4, 0, none⟩)] (encF l) (cfF l) blk 0 (i :: r).toArray.size w := by
      intro m os dk hdk x y
      have hk := keep_sort (encF l) w blk 0 m dk os
      refine cmp87 l A c g4 x y w _ blk (fun p hp hx => ?_) hA ?_ hr hcap
      · unfold World.cell?
        rw [hk.block _ hp hx]
      · exact (blk_cell (hk.blk h26 (blk_lt h26) hg4) 1).trans rfl
    have h := slices_SortFunc_eq (encF l) (fun _ => rfl) (cfF l) (swoF l) 87 #[.pointer (some ⟨g4, 0, none⟩)] blk 0 cap (i :: r).toArray w (enters_of Try.func87 (by kernel_rfl) rfl) hcmp.lays hH hblk (by rw [hsize]; omega)
    rw [hsize] at h
    refine h.mono ?_
    rintro e w' ⟨rfl, m, os, rfl⟩
    refine ⟨rfl, fun j hj => ?_, keep_sort _ _ _ _ _ _ _⟩
    have hps := Go.Sort.pdq_sorts (Go.Proofs.ltOf (cfF l)) (swoF l) (i :: r).toArray 0 (i :: r).toArray.size (Lib.bitLen (i :: r).toArray.size) true true (Nat.zero_le _) (Nat.le_refl _) (Or.inl rfl)
    have hsz2 := hps.1.1
    have e1 : sortedF l (i :: r) = (Go.Sort.pdq (Go.Proofs.ltOf (cfF l)) (i :: r).toArray 0 (i :: r).toArray.size (Lib.bitLen (i :: r).toArray.size) true true).toList := by unfold sortedF; rfl
    have hj2 : j < (Go.Sort.pdq (Go.Proofs.ltOf (cfF l)) (i :: r).toArray 0 (i :: r).toArray.size (Lib.bitLen (i :: r).toArray.size) true true).size := by rw [e1] at hj; simpa using hj
    have h2 := (holds_sortWorld (encF l) w blk 0 m (i :: r).toArray _ os hblk hH hsz2 j hj2).1
    rw [Nat.zero_add] at h2
    refine h2.trans ?_
    congr 2
    rw [getElem!_pos _ j hj2]
    simp [e1]
end Go.Proofs.Ytkkakdpncogpkaa.D
end
