/- The walk of Get. -/
import Derived.Test.YtcpdfgckfefboaaJnRead
import Derived.Defers
import Derived.Recover
namespace Go.Proofs.Ytcpdfgckfefboaa
open Go.RowKit

set_option maxRecDepth 100000 in
set_option maxHeartbeats 1600000 in
theorem catch_idle (p q : Addr) (w : World) :
    CallsD Try.prog 37 #[.pointer (some p), .pointer (some q)] .returning w fun e u' w' => e = .returned (.tuple #[]) ∧ u' = .returning ∧ w = w' := by
  have hnil : ∀ w : World, (binOp BinOp.eql 20 .nilIface .nilIface).run Try.prog w = .ok (.bool true) w := fun _ => by kernel_rfl
  refine callsD_of_wpS Try.func37 rfl fun c₀ cs hu => ?_
  apply wpS_seq
  apply wpS_region
  simp [wpOpsS, go_sem, recoverD, hu, Try.ntmps37, Exit.thenS]
  refine wpS_of_wp ?_
  rw [show (#[Value.pointer (some p), Value.pointer (some q)] ++ (Array.replicate 12 undef).setIfInBounds 3 Value.nilIface : Array Value) = #[.pointer (some p), .pointer (some q), undef, undef, undef, .nilIface, undef, undef, undef, undef, undef, undef, undef, undef] from rfl]
  go_wp2
  cases c₀
  simp_all [bodyPostS, results, Try.results37]

/-- The named results laid anew: no event, and the error. -/
def zeroed (w : World) (b c : Nat) (er : Int) : World := (((((((w.setCell ⟨b, 0, none⟩ (.int .i64 0)).setCell ⟨b, 1, none⟩ (.int .i64 0)).setCell ⟨b, 2, none⟩ (.int .i64 0)).setCell ⟨b, 3, none⟩ (.int .i64 0)).setCell ⟨b, 4, none⟩ (.int .i64 0)).setCell ⟨b, 5, none⟩ (.int .i64 0)).setCell ⟨b, 6, none⟩ (.slice none 0 0)).setCell ⟨c, 0, none⟩ (.int .i64 er)
theorem zeroed_below (w : World) (b c : Nat) (er : Int) (h : b ≤ c) : Below b w (zeroed w b c er) :=
  (((((((((Below.refl b w).setCell (p := ⟨b, 0, none⟩) (Nat.le_refl _) _).setCell (p := ⟨b, 1, none⟩) (Nat.le_refl _) _).setCell (p := ⟨b, 2, none⟩) (Nat.le_refl _) _).setCell (p := ⟨b, 3, none⟩) (Nat.le_refl _) _).setCell (p := ⟨b, 4, none⟩) (Nat.le_refl _) _).setCell (p := ⟨b, 5, none⟩) (Nat.le_refl _) _).setCell (p := ⟨b, 6, none⟩) (Nat.le_refl _) _).setCell (p := ⟨c, 0, none⟩) h _)

set_option maxRecDepth 100000 in
set_option maxHeartbeats 1600000 in
theorem catch_thrown (b c : Nat) (hbc : b ≠ c) (er : Int) (older : List PanicEntry) (w : World) (v0 v1 v2 v3 v4 v5 v6 u0 : Value) (z0 : w.cell? ⟨b, 0, none⟩ = some v0) (z1 : w.cell? ⟨b, 1, none⟩ = some v1) (z2 : w.cell? ⟨b, 2, none⟩ = some v2)
    (z3 : w.cell? ⟨b, 3, none⟩ = some v3) (z4 : w.cell? ⟨b, 4, none⟩ = some v4) (z5 : w.cell? ⟨b, 5, none⟩ = some v5) (z6 : w.cell? ⟨b, 6, none⟩ = some v6) (zc : w.cell? ⟨c, 0, none⟩ = some u0)
    (f0 : ∀ j, w.frozen? ⟨b, j, none⟩ = false) (f1 : w.frozen? ⟨c, 0, none⟩ = false) :
    CallsD Try.prog 37 #[.pointer (some ⟨b, 0, none⟩), .pointer (some ⟨c, 0, none⟩)] (.panicking ({ v := .iface 62 (.agg #[.int .i64 er]), recovered := false } :: older)) w fun e u' w' => e = .returned (.tuple #[]) ∧ u' = .panicking ({ v := .iface 62 (.agg #[.int .i64 er]), recovered := true } :: older) ∧ ((zeroed w b c er).alloc (.cells #[.int .i64 er] 62)).drew = w' := by
  refine callsD_of_wpS Try.func37 rfl fun c₀ cs hu => ?_
  apply wpS_seq
  apply wpS_region
  simp [wpOpsS, go_sem, recoverD, hu, Try.ntmps37, Exit.thenS]
  have hnil : ∀ w : World, (binOp BinOp.eql 20 (.iface 62 (.agg #[.int .i64 er])) .nilIface).run Try.prog w = .ok (.bool false) w := fun _ => by kernel_rfl
  have hta : ∀ w : World, (Instr.typeAssert (.iface 62 (.agg #[.int .i64 er])) 20 62 true).run Try.prog w = .ok (.tuple #[.agg #[.int .i64 er], .bool true]) w := fun _ => by kernel_rfl
  refine wpS_of_wp ?_
  rw [show (#[Value.pointer (some ⟨b, 0, none⟩), Value.pointer (some ⟨c, 0, none⟩)] ++ (Array.replicate 12 undef).setIfInBounds 3 (Value.iface 62 (.agg #[.int .i64 er])) : Array Value) = #[.pointer (some ⟨b, 0, none⟩), .pointer (some ⟨c, 0, none⟩), undef, undef, undef, (.iface 62 (.agg #[.int .i64 er])), undef, undef, undef, undef, undef, undef, undef, undef] from rfl]
  have hb1 := World.block_lt_of_cell? w _ z0
  have hc1 := World.block_lt_of_cell? w _ zc
  simp only at hb1 hc1
  go_wp2
  go_region
  all_goals
    go_wp2
    cases c₀
    simp_all [bodyPostS, results, Try.results37, zeroed]
end Go.Proofs.Ytcpdfgckfefboaa
