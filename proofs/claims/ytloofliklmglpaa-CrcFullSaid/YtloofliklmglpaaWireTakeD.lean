/- The walk of TakeList. -/
import Derived.Test.YtloofliklmglpaaWireTakeC
namespace Go.Proofs.Ytloofliklmglpaa
open Go.RowKit

theorem info_int : (Try.prog.info? 3).map (fun i => (i.zero, i.size, i.bytes)) = some (some (.int .i64 0), 1, 8) := by kernel_rfl

/-- The call returns a list of its own, a number of bytes and an error. -/
def RetList (w : World) (r : List Int × Nat × Int) (e : Ending) (w' : World) : Prop :=
  ∃ A n cap, e = .returned (.tuple #[.slice A n cap, .int .i64 (r.2.1 : Int), .int .i64 r.2.2]) ∧ n = r.1.length ∧ w'.ownsRow w.heap.size 3 1 (.slice A n cap) n (iv r.1) ∧ Below w.heap.size w w'

theorem RetList.fail {w w' : World} {r : List Int × Nat × Int} {e : Int} (h : r = ([], 0, e)) (hb : Below w.heap.size w w') :
    RetList w r (.returned (.tuple #[.slice none 0 0, .int .i64 0, .int .i64 e])) w' := by
  subst h
  exact ⟨none, 0, 0, rfl, rfl, World.ownsRow_nil _ _ _ _, hb⟩

namespace Wp
theorem takeI_nil : takeI [] = (0, 0, 4) := by simp [takeI, takeU, tk]
theorem goList_ok (l : List UInt8) (n p : Nat) (acc : List Int) (x : Int) (k : Nat) (h : takeI (l.drop p) = (x, k, 0)) : goList l (n + 1) p acc = goList l n (p + k) (acc ++ [x]) := by
  rw [goList, h]; simp
theorem goList_bad (l : List UInt8) (n p : Nat) (acc : List Int) (x : Int) (k : Nat) (e : Int) (h : takeI (l.drop p) = (x, k, e)) (he : e ≠ 0) : goList l (n + 1) p acc = ([], 0, e) := by
  rw [goList, h]; simp [he]
end Wp
theorem iv_snoc (l : List Int) (n : Int) : iv l ++ [Value.int .i64 n] = iv (l ++ [n]) := by simp [iv]

end Go.Proofs.Ytloofliklmglpaa
