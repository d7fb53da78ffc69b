/- Plain definitions and laws of the jets: valves, pulses, what is hit. No program in sight. -/
import Derived.Test.YtaaoeiffpldjmaaMem
namespace Go.Proofs.Ytaaoeiffpldjmaa
namespace Jt

structure Valve where
  delay : Int
  hold : Int
  rest : Int
/-- A pulse: from, to. -/
abbrev Win := Int × Int

def chk (v : Valve) : Int := if v.delay < 0 ∨ 1000 < v.delay ∨ v.hold < 1 ∨ 100 < v.hold ∨ v.rest < 0 ∨ 100 < v.rest then 1 else 0
/-- The error of the steps behind p. -/
def srt : Option Int → List Int → Int
  | _, [] => 0
  | p, h :: r => if h < 0 ∨ 1048576 < h then 1 else if (match p with | none => false | some q => decide (h < q)) then 9 else srt (some h) r
def check (v : Valve) (l : List Int) : Int := if chk v ≠ 0 then chk v else if 512 < l.length then 8 else srt none l
def need (v : Valve) (h : Int) : Win := (h + v.delay, h + v.delay + v.hold)
/-- One more detection. -/
def add (v : Valve) (out : List Win) (h : Int) : List Win :=
  match out.getLast? with
  | some w => if (need v h).1 < w.2 ∨ (need v h).1 - w.2 < v.rest then out.dropLast ++ [(w.1, (need v h).2)] else out ++ [need v h]
  | none => [need v h]
def plan (v : Valve) (l : List Int) : List Win × Int := if check v l ≠ 0 then ([], check v l) else (l.foldl (add v) [], 0)
def isOpen (l : List Win) (s : Int) : Bool := l.any fun w => decide (w.1 ≤ s ∧ s < w.2)
def coversOne (l : List Win) (v : Valve) (h : Int) : Bool := decide (0 ≤ h ∧ h ≤ 1048576) && (List.range v.hold.toNat).all fun i => isOpen l (h + v.delay + (i : Int))
def covers (l : List Win) (v : Valve) (hits : List Int) : Bool := decide (chk v = 0) && hits.all (coversOne l v)
def steps (l : List Win) : Int × Int :=
  if 512 < l.length then (0, 8) else if l.any (fun w => decide (w.1 < 0 ∨ w.2 < w.1 ∨ 2097152 < w.2)) then (0, 1) else ((l.map fun w => w.2 - w.1).sum, 0)
def hitsFrom (l : List Win) (v : Valve) : Nat → List Int → List Int
  | _, [] => []
  | i, h :: r => if isOpen l (h + v.delay) then (i : Int) :: hitsFrom l v (i + 1) r else hitsFrom l v (i + 1) r
def hits (l : List Win) (v : Valve) (p : List Int) : List Int × Int := if check v p ≠ 0 then ([], check v p) else (hitsFrom l v 0 p, 0)
end Jt
end Go.Proofs.Ytaaoeiffpldjmaa
