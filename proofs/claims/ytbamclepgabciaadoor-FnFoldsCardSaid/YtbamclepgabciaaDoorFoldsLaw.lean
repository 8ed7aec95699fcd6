/- The reference's pile of folded leaves, pages of both sides, schemes: plain Lean. Of folds that may be there are 341 lists: what is asked of them is reckoned one by one. -/
import Derived.Test.YtbamclepgabciaaDoorFold2
import Derived.Lib.ItoaLen
namespace Go.Proofs.YtbamclepgabciaaDoor.Ai
open Go Go.Proofs
set_option linter.unusedSimpArgs false
set_option linter.unusedVariables false

def allN : Nat → List (List Fold)
  | 0 => [[]]
  | n + 1 => [] :: (allN n).flatMap fun r => [((1 : Int), true) :: r, ((1 : Int), false) :: r, ((2 : Int), true) :: r, ((2 : Int), false) :: r]
/-! ### The reference's pile -/
def imTurnL (p : List Int) : List Int := p.reverse.map fun x => -x
def imLayL (a b : List Int) (o : Bool) : List Int := if o then b ++ a else a ++ b
def at2 (p : List (List Int)) (i : Nat) : List Int := (p[i]?).getD []
def imStep (s : List (List Int) × Nat × Nat) (f : Fold) : List (List Int) × Nat × Nat :=
  if f.1 = 1 then ((List.range s.2.2).flatMap fun y => (List.range (s.2.1 / 2)).map fun k => imLayL (at2 s.1 (y * s.2.1 + k)) (imTurnL (at2 s.1 (y * s.2.1 + s.2.1 - 1 - k))) f.2, s.2.1 / 2, s.2.2)
  else ((List.range (s.2.2 / 2)).flatMap fun y => (List.range s.2.1).map fun k => imLayL (at2 s.1 (y * s.2.1 + k)) (imTurnL (at2 s.1 ((s.2.2 - 1 - y) * s.2.1 + k))) f.2, s.2.1, s.2.2 / 2)
def imInit (fs : List Fold) : List (List Int) × Nat × Nat := ((List.range (2 ^ wide fs * 2 ^ high fs)).map fun i => [((i : Nat) : Int) + 1], 2 ^ wide fs, 2 ^ high fs)
def imState (fs : List Fold) (i : Nat) : List (List Int) × Nat × Nat := (fs.take i).foldl imStep (imInit fs)
def imPileL (fs : List Fold) : List Int := at2 (imState fs fs.length).1 0
def stOk (fs : List Fold) (i : Nat) : Bool :=
  let s := imState fs i
  decide (s.1.length = s.2.1 * s.2.2) && decide (1 ≤ s.2.1) && decide (s.2.1 ≤ 16) && decide (1 ≤ s.2.2) && decide (s.2.2 ≤ 16) && s.1.all (fun p => decide (p.length ≤ 16) && p.all fun x => decide (-16 ≤ x) && decide (x ≤ 16))
def leafI (x : Leaf) : Int := if x.2 then x.1 + 1 else -(x.1 + 1)
def chk1 (fs : List Fold) : Bool := (List.range (fs.length + 1)).all (stOk fs) && decide (imPileL fs = (foldedF fs).map leafI)

/-! ### Pages of both sides -/
def goP (front : Bool) : List Leaf → Nat → List Int → List Int
  | [], _, acc => acc
  | x :: r, i, acc => goP front r (i + 1) (acc.set x.1.toNat (if (x.2 == front) = true then 2 * (i : Int) + 1 else 2 * (i : Int) + 2))
def pagesL (fs : List Fold) (front : Bool) : List Int := goP front (foldedF fs) 0 (List.replicate (foldedF fs).length 0)
def goS (front : Bool) : List Int → Nat → List Int → List Int
  | [], _, acc => acc
  | x :: r, n, acc => goS front r (n + 1) (acc.set (x.natAbs - 1) (if (decide (0 ≤ x) == front) = true then 2 * (n : Int) + 1 else 2 * (n : Int) + 2))
def sidesL (fs : List Fold) (front : Bool) : List Int := goS front (imPileL fs) 0 (List.replicate (imPileL fs).length 0)
def chk2 (fs : List Fold) : Bool :=
  decide (sidesL fs true = pagesL fs true) && decide (sidesL fs false = pagesL fs false) && decide ((imPileL fs).map (fun x => (x.natAbs : Int) - 1) = (foldedF fs).map (·.1)) &&
  (foldedF fs).all (fun x => decide (0 ≤ x.1) && decide (x.1 < ((foldedF fs).length : Int))) && (imPileL fs).all (fun x => decide (x ≠ 0) && decide (x.natAbs ≤ (imPileL fs).length))
def findP (page : Int) : List Int → List Int → Nat → Int × Bool × Bool
  | a :: fa, b :: fb, i => if a = page ∨ b = page then ((i : Int), decide (a = page), true) else findP page fa fb (i + 1)
  | _, _, _ => (0, false, false)
def chk3 (fs : List Fold) : Bool := (List.range (2 * 2 ^ fs.length)).all fun k => decide (findP ((k : Int) + 1) (pagesL fs true) (pagesL fs false) 0 = placeF fs ((k : Int) + 1))

/-! ### A scheme as text -/
def dg (n : Int) : List UInt8 := if n < 10 then [UInt8.ofNat (48 + n.toNat)] else [UInt8.ofNat (48 + n.toNat / 10), UInt8.ofNat (48 + n.toNat % 10)]
def joinC : List Int → List UInt8
  | [] => []
  | [x] => dg x
  | x :: y :: r => dg x ++ 44 :: joinC (y :: r)
def schI (c : Nat) : Nat → List Int → List UInt8
  | 0, _ => []
  | k + 1, l => if l = [] then [] else (joinC (l.take c) ++ [47]) ++ schI c k (l.drop c)
def schS (c : Nat) : List Int → Nat → List UInt8
  | [], _ => []
  | x :: r, i => dg x ++ (if i % c = c - 1 then 47 else 44) :: schS c r (i + 1)
def schL (fs : List Fold) : List UInt8 := schS (2 ^ wide fs) (pagesL fs true) 0
def chk4 (fs : List Fold) : Bool := decide (schI (2 ^ wide fs) 16 (pagesL fs true) = schL fs) && (pagesL fs true).all (fun x => decide (1 ≤ x) && decide (x ≤ 32)) && (pagesL fs false).all (fun x => decide (1 ≤ x) && decide (x ≤ 32)) &&
  decide ((pagesL fs true).length = 2 ^ wide fs * 2 ^ high fs) && decide ((pagesL fs false).length = 2 ^ fs.length) && decide ((pagesL fs true).length = 2 ^ fs.length)

/-! ### What the law asks -/
def lowAt (fs : List Fold) (i : Nat) : Int := min ((pagesL fs true).getD i 0) ((pagesL fs false).getD i 0)
def metAt (fs : List Fold) (i : Nat) : List Bool := ((List.range i).map (lowAt fs)).foldl (fun m l => m.set l.toNat true) (List.replicate (2 * 2 ^ fs.length + 1) false)
def chk5 (fs : List Fold) : Bool := (List.range (2 ^ fs.length)).all fun i =>
  let a := (pagesL fs true).getD i 0; let b := (pagesL fs false).getD i 0
  decide (1 ≤ lowAt fs i) && decide (max a b ≤ 2 * (2 ^ fs.length : Nat)) && decide (max a b = lowAt fs i + 1) && decide (lowAt fs i % 2 = 1) && decide ((metAt fs i)[(lowAt fs i).toNat]? = some false) &&
  decide (((foldedF fs).map (·.1))[(lowAt fs i / 2).toNat]? = some (i : Int)) && decide (placeF fs a = ((i : Int), true, true)) && decide (placeF fs b = ((i : Int), false, true))

set_option maxRecDepth 100000 in
theorem all1 : (allN 4).all chk1 = true := by decide +kernel
set_option maxRecDepth 100000 in
theorem all2 : (allN 4).all chk2 = true := by decide +kernel
set_option maxRecDepth 100000 in
theorem all3 : (allN 4).all chk3 = true := by decide +kernel
set_option maxRecDepth 100000 in
theorem all4 : (allN 4).all chk4 = true := by decide +kernel
set_option maxRecDepth 100000 in
theorem all5 : (allN 4).all chk5 = true := by decide +kernel
theorem allN_mem : ∀ (n : Nat) (fs : List Fold), fs.all okFold = true → fs.length ≤ n → fs ∈ allN n
  | 0, fs, _, h => by
    have e : fs = [] := List.length_eq_zero_iff.1 (by omega)
    rw [e]; simp [allN]
  | n + 1, [], _, _ => by simp [allN]
  | n + 1, (k, o) :: r, h, hl => by
    rw [List.all_cons, Bool.and_eq_true] at h
    have hr := allN_mem n r h.2 (by simpa using hl)
    have hk : k = 1 ∨ k = 2 := by simpa [okFold] using h.1
    rw [allN]
    refine List.mem_cons_of_mem _ (List.mem_flatMap.2 ⟨r, hr, ?_⟩)
    rcases hk with rfl | rfl <;> cases o <;> simp
theorem good_all {fs : List Fold} (h : goodF fs = true) {p : List Fold → Bool} (hp : (allN 4).all p = true) : p fs = true := by
  rw [goodF, Bool.and_eq_true, decide_eq_true_eq] at h
  exact List.all_eq_true.1 hp fs (allN_mem 4 fs h.1 h.2)
end Go.Proofs.YtbamclepgabciaaDoor.Ai
