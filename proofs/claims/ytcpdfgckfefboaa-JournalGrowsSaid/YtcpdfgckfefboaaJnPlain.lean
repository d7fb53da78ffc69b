/- Plain definitions of the journal: events, their bytes, what is read. No program in sight. -/
import Derived.Test.YtcpdfgckfefboaaCrcAll
import Derived.Test.YtcpdfgckfefboaaCrcLaws
namespace Go.Proofs.Ytcpdfgckfefboaa
/-- A fact that no tactic looks into. -/
structure Bx (p : Prop) : Prop where
  out : p
namespace Jn
structure Ev where
  kind : Int
  at_ : Int
  a : Int
  b : Int
  c : Int
  d : Int
  mix : List Int
deriving DecidableEq
def zero : Ev := ⟨0, 0, 0, 0, 0, 0, []⟩
def badK (n : Int) : Prop := n < 1 ∨ 17 < n
def badT (n : Int) : Prop := n < 0 ∨ 3155759999 < n
def badN (n : Int) : Prop := n < -1000000000000 ∨ 1000000000000 < n
def badM (n : Int) : Prop := n < 0 ∨ 1073741824 < n
instance (n : Int) : Decidable (badK n) := by unfold badK; infer_instance
instance (n : Int) : Decidable (badT n) := by unfold badT; infer_instance
instance (n : Int) : Decidable (badN n) := by unfold badN; infer_instance
instance (n : Int) : Decidable (badM n) := by unfold badM; infer_instance
def check (e : Ev) : Int :=
  if badK e.kind then 21 else if badT e.at_ then 1 else if badN e.a ∨ badN e.b ∨ badN e.c ∨ badN e.d then 1 else if 16 < e.mix.length then 18 else if e.mix.any (fun n => decide (badM n)) then 1 else 0
def bytes (e : Ev) : List UInt8 := Wp.putI e.kind ++ Wp.putI e.at_ ++ Wp.putI e.a ++ Wp.putI e.b ++ Wp.putI e.c ++ Wp.putI e.d ++ Wp.putN e.mix
def put (e : Ev) : List UInt8 × Int := if check e ≠ 0 then ([], check e) else (bytes e, 0)
/-- n integers at the front: what they are, what is left, the error. -/
def ints : Nat → List UInt8 → List Int × List UInt8 × Int
  | 0, l => ([], l, 0)
  | n + 1, l => if (Wp.takeI l).2.2 ≠ 0 then ([], [], (Wp.takeI l).2.2) else
      ((Wp.takeI l).1 :: (ints n (l.drop (Wp.takeI l).2.1)).1, (ints n (l.drop (Wp.takeI l).2.1)).2.1, (ints n (l.drop (Wp.takeI l).2.1)).2.2)
def ev (x : List Int) (m : List Int) : Ev := ⟨x.getD 0 0, x.getD 1 0, x.getD 2 0, x.getD 3 0, x.getD 4 0, x.getD 5 0, m⟩
def get (l : List UInt8) : Ev × Int :=
  if (ints 6 l).2.2 ≠ 0 then (zero, (ints 6 l).2.2) else
  if (Wp.takeN (ints 6 l).2.1 16).2.2 ≠ 0 then (zero, (Wp.takeN (ints 6 l).2.1 16).2.2) else
  if (Wp.takeN (ints 6 l).2.1 16).2.1 < (ints 6 l).2.1.length then (zero, 3) else
  if check (ev (ints 6 l).1 (Wp.takeN (ints 6 l).2.1 16).1) ≠ 0 then (zero, check (ev (ints 6 l).1 (Wp.takeN (ints 6 l).2.1 16).1)) else (ev (ints 6 l).1 (Wp.takeN (ints 6 l).2.1 16).1, 0)
def app (b : List UInt8) (e : Ev) : List UInt8 × Int := if check e ≠ 0 then ([], check e) else (b ++ Cr.frame (bytes e), 0)
/-- The events from place p on, behind those in acc, of which the last one's moment is t. -/
def rec : Nat → List UInt8 → Nat → Int → List Ev → List Ev × Nat
  | 0, _, p, _, acc => (acc, p)
  | f + 1, b, p, t, acc =>
    if (Cr.opn (b.drop p)).2.2 ≠ 0 then (acc, p) else
    if (get (Cr.opn (b.drop p)).1).2 ≠ 0 ∨ (get (Cr.opn (b.drop p)).1).1.at_ < t then (acc, p) else
    rec f b (p + (Cr.opn (b.drop p)).2.1) (get (Cr.opn (b.drop p)).1).1.at_ (acc ++ [(get (Cr.opn (b.drop p)).1).1])
def recover (b : List UInt8) : List Ev × Nat := rec (b.length + 1) b 0 0 []
end Jn
/-- An event, whose masses are read through a slice. -/
def Jn.Ev.val (e : Jn.Ev) (A : Option Addr) (n cap : Nat) : Value := .agg #[.int .i64 e.kind, .int .i64 e.at_, .int .i64 e.a, .int .i64 e.b, .int .i64 e.c, .int .i64 e.d, .slice A n cap]
end Go.Proofs.Ytcpdfgckfefboaa
