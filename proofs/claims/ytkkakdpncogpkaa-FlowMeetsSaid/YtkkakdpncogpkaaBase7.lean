/- Parts of the proof of a law about flows (see the law's own text): HPure, HOnesP. Conditions: each theorem's own. -/
import Derived.Test.YtkkakdpncogpkaaBase4
import Derived.Sort.Defs
import Derived.Lib.BitFns
section
/- The plain functions of the package flow's own parts: what the hand-proved contracts say. Conditions: none. -/
namespace Go.Proofs.Ytkkakdpncogpkaa.D
open Go.RowKit Go.Proofs.YtkkakdpncogpkaaW.PrintWords
set_option linter.unusedVariables false

abbrev Ed := S72

/-- An edge is good in a net of n nodes. -/
def goodE (n : Int) (e : Ed) : Bool := decide (0 ≤ e.f0) && decide (e.f0 ≤ n - 1) && (decide (0 ≤ e.f1) && decide (e.f1 ≤ n - 1)) && decide (e.f0 ≠ e.f1) && (decide (0 ≤ e.f2) && decide (e.f2 ≤ 10000))
/-- A net is valid. -/
def validB (n : Int) (es : List Ed) : Bool := (decide (0 ≤ n) && decide (n ≤ 12)) && decide (es.length ≤ 40) && es.all (goodE n)
def pairB (n : Int) (es : List Ed) (s t : Int) : Bool := validB n es && (decide (0 ≤ s) && decide (s ≤ n - 1)) && (decide (0 ≤ t) && decide (t ≤ n - 1)) && decide (s ≠ t)

def flow_Valid.f (n : Int) (es : List Ed) : Option Bool := some (validB n es)

/-- A set has a node. -/
def hasN (set i : Int) : Bool := decide (set / 2 ^ i.toNat % 2 = 1)
/-- An edge leaves a set. -/
def leavesE (set : Int) (e : Ed) : Bool := hasN set e.f0 && !hasN set e.f1
def sumCap : List Ed → Int
  | [] => 0
  | e :: r => e.f2 + sumCap r
def capL (es : List Ed) (set : Int) : Int := sumCap (es.filter (leavesE set))
def flow_capacity.f (n : Int) (es : List Ed) (set : Int) : Option Int := if validB n es && (decide (0 ≤ set) && decide (set < 9223372036854775808)) then some (capL es set) else none

/-- The edges without those that a set of numbers has. -/
def withoutL (failed : Int) : List Ed → Nat → List Ed
  | [], _ => []
  | e :: r, i => (if hasN failed i then ⟨e.f0, e.f1, 0⟩ else e) :: withoutL failed r (i + 1)
def flow_without.f (n : Int) (es : List Ed) (failed : Int) : Option (Int × List Ed) := if validB n es && (decide (0 ≤ failed) && decide (failed < 9223372036854775808)) then some (n, withoutL failed es 0) else none

/-! The matrix: 14 rows of 14 numbers, in a list of 196. -/
def mAt (m : List Int) (a b : Int) : Int := rd m (a * 14 + b)
def mSet (m : List Int) (a b v : Int) : List Int := m.set (a * 14 + b).toNat v
def openL : List Ed → List Int → List Int
  | [], m => m
  | e :: r, m => openL r (mSet m e.f0 e.f1 (wrap64 (mAt m e.f0 e.f1 + e.f2)))
def zeros196 : List Int := List.replicate 196 0
def openM (es : List Ed) : List Int := openL es zeros196

/-- One row of the search: from the node 'at_', over the nodes of a list. -/
def scanL (m : List Int) (t at_ : Int) : List Nat → List Int → List Int → Bool × List Int × List Int
  | [], last, q => (false, last, q)
  | x :: r, last, q =>
    if 0 < rd last x || rd m (at_ * 14 + x) == 0 then scanL m t at_ r last q
    else if (x : Int) = t then (true, last.set x (at_ + 1), q)
    else scanL m t at_ r (last.set x (at_ + 1)) (q ++ [(x : Int)])
/-- The search: it ends with what was reached (none: too few rounds). -/
def bfs (m : List Int) (t : Int) : Nat → List Int → List Int → Option (List Int)
  | _, last, [] => some last
  | 0, _, _ :: _ => none
  | k + 1, last, x :: q => if (scanL m t x (List.range 14) last q).1 = true then some (scanL m t x (List.range 14) last q).2.1 else bfs m t k (scanL m t x (List.range 14) last q).2.1 (scanL m t x (List.range 14) last q).2.2
/-- What follows one row of the search. -/
def nextB (m : List Int) (t : Int) (k : Nat) (r : Bool × List Int × List Int) : Option (List Int) := if r.1 = true then some r.2.1 else bfs m t k r.2.1 r.2.2
theorem bfs_succ (m : List Int) (t : Int) (k : Nat) (last : List Int) (x : Int) (q : List Int) : bfs m t (k + 1) last (x :: q) = nextB m t k (scanL m t x (List.range 14) last q) := by rw [bfs, nextB]
theorem nextB_stop (m : List Int) (t : Int) (k : Nat) (last q : List Int) : nextB m t k (true, last, q) = some last := by rw [nextB]; exact if_pos rfl
theorem nextB_go (m : List Int) (t : Int) (k : Nat) (last q : List Int) : nextB m t k (false, last, q) = bfs m t k last q := by rw [nextB]; exact if_neg Bool.false_ne_true
def last0 (s : Int) : List Int := (List.replicate 14 (0 : Int)).set s.toNat (s + 1)
/-- The way back. -/
def way (last : List Int) (s : Int) : Nat → Int → Option (List (Int × Int))
  | 0, at_ => if at_ = s then some [] else none
  | k + 1, at_ => if at_ = s then some [] else if rd last at_ ≤ 0 then none else (way last s k (rd last at_ - 1)).map fun l => (rd last at_ - 1, at_) :: l
def roomL (m : List Int) : List (Int × Int) → Int → Int
  | [], r => r
  | (a, b) :: l, r => roomL m l (if mAt m a b < r then mAt m a b else r)
def pushL (room : Int) : List (Int × Int) → List Int → List Int
  | [], m => m
  | (a, b) :: l, m => pushL room l (mSet (mSet m a b (wrap64 (mAt m a b - room))) b a (wrap64 (mAt (mSet m a b (wrap64 (mAt m a b - room))) b a + room)))
def reachedL : List Int → Nat → Int
  | [], _ => 0
  | x :: r, i => (if 0 < x then 2 ^ i else 0) + reachedL r (i + 1)
/-- Push: what flows, the nodes that can still be reached, the matrix behind it. -/
def pushF (s t : Int) : Nat → List Int → Int → Option (Int × Int × List Int)
  | 0, _, _ => none
  | k + 1, m, v =>
    (bfs m t 14 (last0 s) [s]).bind fun last =>
      if rd last t = 0 then some (v, reachedL last 0, m)
      else (way last s 14 t).bind fun l => pushF s t k (pushL (roomL m l 4611686018427387903) l m) (wrap64 (v + roomL m l 4611686018427387903))

/-- What is used of the matrix of a net. -/
def usedL (c m : List Int) : List Int := List.zipWith (fun x y => if wrap64 (x - y) < 0 then 0 else wrap64 (x - y)) c m
def takeL : List Ed → List Int → List Int
  | [], _ => []
  | e :: r, u => (if mAt u e.f0 e.f1 < e.f2 then mAt u e.f0 e.f1 else e.f2) :: takeL r (mSet u e.f0 e.f1 (wrap64 (mAt u e.f0 e.f1 - (if mAt u e.f0 e.f1 < e.f2 then mAt u e.f0 e.f1 else e.f2))))
def amountsL (es : List Ed) (m : List Int) : List Int := takeL es (usedL (openM es) m)

def flow_Max.f (n : Int) (es : List Ed) (s t : Int) : Option (List Int × Int × Int) :=
  if pairB n es s t then (pushF s t 400001 (openM es) 0).bind fun r => some (amountsL es r.2.2, r.2.1, 0) else some ([], 0, 270)

def sumL : List Int → Int
  | [] => 0
  | x :: r => x + sumL r
def supplyB (n : Int) (es : List Ed) (l : List Int) : Bool := validB n es && decide ((l.length : Int) = n) && l.all (fun x => decide (-100000 ≤ x) && decide (x ≤ 100000)) && decide (sumL l = 0)
/-- The supplies laid into a matrix: the nodes 12 and 13 supply and need. -/
def supM : List Int → Nat → List Int → List Int
  | [], _, m => m
  | x :: r, i, m => supM r (i + 1) (if 0 < x then mSet m 12 i x else mSet m i 13 (-x))
def posSum : List Int → Int
  | [] => 0
  | x :: r => (if 0 < x then x else 0) + posSum r
def flow_Meet.f (n : Int) (es : List Ed) (l : List Int) : Option (Bool × List Int × Int × Int) :=
  if supplyB n es l then
    (pushF 12 13 1200001 (supM l 0 (openM es)) 0).bind fun r =>
      if r.1 < posSum l then some (false, [], r.2.1 % 2 ^ n.toNat, 0) else some (true, amountsL es r.2.2, 0, 0)
  else some (false, [], 0, 270)

/-- The indices of the edges that leave a set. -/
def leavingL (set : Int) : List Ed → Nat → List Nat
  | [], _ => []
  | e :: r, i => if leavesE set e then i :: leavingL set r (i + 1) else leavingL set r (i + 1)
/-- How many bits are 1. -/
def onesN : Nat → Nat → Int
  | 0, _ => 0
  | d + 1, x => (x % 2 : Nat) + onesN d (x / 2)
def bits_OnesCount.f (a : Int) : Option Int := if (decide (0 ≤ a) && decide (a < 1099511627776)) = true then some (onesN 40 a.toNat) else none

end Go.Proofs.Ytkkakdpncogpkaa.D
end
section
/- How many bits are 1: the sums of bytes. Conditions: none. -/
namespace Go.Proofs.Ytkkakdpncogpkaa.D
def f1 (b : Nat) : Nat := ((b / 2) &&& 85) + (b &&& 85)
def f2 (b : Nat) : Nat := ((b / 4) &&& 51) + (b &&& 51)
def f3 (b : Nat) : Nat := (b / 16 + b) &&& 15
set_option maxRecDepth 100000 in
theorem byte3_ones : ∀ b, b < 256 → ((f3 (f2 (f1 b)) : Nat) : Int) = onesN 8 b := by decide +kernel
set_option maxRecDepth 100000 in
theorem byte3_le : ∀ b, b < 256 → f1 b < 256 ∧ f2 (f1 b) ≤ 68 ∧ f2 (f1 b) % 16 ≤ 4 ∧ f3 (f2 (f1 b)) ≤ 8 := by decide +kernel
set_option maxRecDepth 100000 in
theorem low1 : ∀ b, b < 256 → ∀ c, c < 2 → (b / 2 + 128 * c) &&& 85 = (b / 2) &&& 85 := by decide +kernel
set_option maxRecDepth 100000 in
theorem low2 : ∀ b, b < 256 → ∀ c, c < 4 → (b / 4 + 64 * c) &&& 51 = (b / 4) &&& 51 := by decide +kernel
set_option maxRecDepth 100000 in
theorem low3 : ∀ b, b < 256 → ∀ c, c < 16 → (b / 16 + 16 * c + b) &&& 15 = (b / 16 + b) &&& 15 := by decide +kernel
theorem and_split (lo hi m M : Nat) (h : lo < 256) (hm : m < 256) : (lo + 256 * hi) &&& (m + 256 * M) = (lo &&& m) + 256 * (hi &&& M) := by
  have h1 := Nat.and_div_two_pow (a := lo + 256 * hi) (b := m + 256 * M) (n := 8)
  have h2 := Nat.and_mod_two_pow (a := lo + 256 * hi) (b := m + 256 * M) (n := 8)
  have e : (2 : Nat) ^ 8 = 256 := rfl
  rw [e] at h1 h2
  rw [show (lo + 256 * hi) / 256 = hi by omega, show (m + 256 * M) / 256 = M by omega] at h1
  rw [show (lo + 256 * hi) % 256 = lo by omega, show (m + 256 * M) % 256 = m by omega] at h2
  rw [← h1, ← h2]
  omega
def valB : List Nat → Nat
  | [] => 0
  | b :: r => b + 256 * valB r
def rep (m : Nat) : Nat → Nat
  | 0 => 0
  | n + 1 => m + 256 * rep m n
theorem step1 : ∀ (l : List Nat) (n : Nat), l.length ≤ n → (∀ b, b ∈ l → b < 256) → ((valB l / 2) &&& rep 85 n) + (valB l &&& rep 85 n) = valB (l.map f1)
  | [], n, _, _ => by simp [valB]
  | b :: r, 0, h, _ => by simp at h
  | b :: r, n + 1, h, hb => by
    have h0 := hb b List.mem_cons_self
    have ih := step1 r n (by simpa using h) (fun x hx => hb x (List.mem_cons_of_mem _ hx))
    have e : (b + 256 * valB r) / 2 = (b / 2 + 128 * (valB r % 2)) + 256 * (valB r / 2) := by omega
    simp only [valB, rep, List.map_cons]
    rw [e, and_split _ _ _ _ (by omega) (by omega), and_split _ _ _ _ h0 (by omega), low1 b h0 _ (by omega), ← ih, f1]
    omega
theorem step2 : ∀ (l : List Nat) (n : Nat), l.length ≤ n → (∀ b, b ∈ l → b < 256) → ((valB l / 4) &&& rep 51 n) + (valB l &&& rep 51 n) = valB (l.map f2)
  | [], n, _, _ => by simp [valB]
  | b :: r, 0, h, _ => by simp at h
  | b :: r, n + 1, h, hb => by
    have h0 := hb b List.mem_cons_self
    have ih := step2 r n (by simpa using h) (fun x hx => hb x (List.mem_cons_of_mem _ hx))
    have e : (b + 256 * valB r) / 4 = (b / 4 + 64 * (valB r % 4)) + 256 * (valB r / 4) := by omega
    simp only [valB, rep, List.map_cons]
    rw [e, and_split _ _ _ _ (by omega) (by omega), and_split _ _ _ _ h0 (by omega), low2 b h0 _ (by omega), ← ih, f2]
    omega
theorem step3 : ∀ (l : List Nat) (n : Nat), l.length ≤ n → (∀ b, b ∈ l → b ≤ 68 ∧ b % 16 ≤ 4) → (valB l / 16 + valB l) &&& rep 15 n = valB (l.map f3)
  | [], n, _, _ => by simp [valB]
  | b :: r, 0, h, _ => by simp at h
  | b :: r, n + 1, h, hb => by
    have h0 := hb b List.mem_cons_self
    have ih := step3 r n (by simpa using h) (fun x hx => hb x (List.mem_cons_of_mem _ hx))
    have hr : valB r % 16 ≤ 4 := by
      cases r with
      | nil => simp [valB]
      | cons c r' => have := hb c (List.mem_cons_of_mem _ List.mem_cons_self); simp only [valB]; omega
    have e : (b + 256 * valB r) / 16 + (b + 256 * valB r) = (b / 16 + 16 * (valB r % 16) + b) + 256 * (valB r / 16 + valB r) := by omega
    simp only [valB, rep, List.map_cons]
    rw [e, and_split _ _ _ _ (by omega) (by omega), low3 b (by omega) _ (by omega), ← ih, f3]
theorem ones_split (d x : Nat) : onesN (d + 8) x = onesN 8 (x % 256) + onesN d (x / 256) := by
  simp only [onesN, Nat.div_div_eq_div_mul, Nat.reduceMul]
  omega
end Go.Proofs.Ytkkakdpncogpkaa.D
end
