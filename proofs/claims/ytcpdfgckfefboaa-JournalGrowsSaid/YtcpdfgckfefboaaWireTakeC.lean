/- The walk of TakeText. -/
import Derived.Test.YtcpdfgckfefboaaWireTakeB
namespace Go.Proofs.Ytcpdfgckfefboaa
open Go.RowKit

namespace Wp
theorem takeL_bd (l : List UInt8) (most : Int) : (takeL l most).2.1 ≤ l.length ∧ ((takeL l most).2.2 = 0 → 1 ≤ (takeL l most).2.1) ∧ 0 ≤ (takeL l most).1 ∧ ((takeL l most).2.2 = 0 → (takeL l most).1 ≤ most) := by
  have h1 := takeU_bd l
  unfold takeL
  split
  · rename_i h
    split
    · simp
    · rename_i h2
      simp only
      exact ⟨h1.1, fun _ => h1.2 h, by omega, fun _ => by omega⟩
  · rename_i h
    simp [h]
end Wp

theorem ret_taket {u : ByteArray} {k : Nat} {e : Int} {u' : ByteArray} {k' e' : Int} {p : List UInt8 × Nat × Int} (h : p = (u.data.toList, k, e)) (hu : u' = u) (hk : k' = k) (he : e' = e) :
    Ending.returned (.tuple #[.string u', .int .i64 k', .int .i64 e']) = .returned (.tuple #[.string ⟨p.1.toArray⟩, .int .i64 (p.2.1 : Int), .int .i64 p.2.2]) := by
  rw [h, hu, hk, he]

theorem Rd.window {w : World} {A : Option Addr} {l : List UInt8} (h : Rd w A (bv l)) (k m cap : Nat) (hc : l.length ≤ cap) (hck : cap ≠ k) : Rd w (A.map fun x => x.add k) (bv ((l.drop k).take m)) := by
  have h1 := (h.drop k cap (by rw [bv_length]; exact hc)).take m
  rw [if_neg hck] at h1
  rw [bv_take, bv_drop]
  exact h1

end Go.Proofs.Ytcpdfgckfefboaa
