/- Windows in memory; the walks of Steps, and of the reference's, of within and of Same. -/
import Derived.Test.YtaaoeiffpldjmaaJetCheck
namespace Go.Proofs.Ytaaoeiffpldjmaa
open Go.RowKit

namespace Jt
/-- A slice's elements, two cells each. -/
def Wins (w : World) (A : Option Addr) (l : List Win) : Prop := ∀ k p, l[k]? = some p → ∃ b off, A = some ⟨b, off, none⟩ ∧ b < w.heap.size ∧
  w.cell? ⟨b, off + k * 2, none⟩ = some (.int .i64 p.1) ∧ w.cell? ⟨b, off + k * 2 + 1, none⟩ = some (.int .i64 p.2)
theorem Wins.below {w w' : World} {A : Option Addr} {l : List Win} (h : Wins w A l) {B : Nat} (hB : w.heap.size ≤ B) (hb : Below B w w') : Wins w' A l := by
  intro k p hk
  obtain ⟨b, off, rfl, hlt, c0, c1⟩ := h k p hk
  have hs := hb.size
  refine ⟨b, off, rfl, by omega, ?_, ?_⟩
  all_goals (rw [hb.cell (show b < B by omega)]; assumption)
theorem Wins.to {w w' : World} {A : Option Addr} {l : List Win} (h : Wins w A l) (hb : Below w.heap.size w w') : Wins w' A l := h.below (Nat.le_refl _) hb
theorem Wins.nil (w : World) (A : Option Addr) : Wins w A [] := fun k p h => by simp at h
def cells (l : List Win) : List Value := l.flatMap fun p => [.int .i64 p.1, .int .i64 p.2]
theorem cells_cons (a : Win) (r : List Win) : cells (a :: r) = .int .i64 a.1 :: .int .i64 a.2 :: cells r := rfl
theorem cells_append (a b : List Win) : cells (a ++ b) = cells a ++ cells b := by simp [cells]
theorem cells_length : ∀ l : List Win, (cells l).length = l.length * 2 := by
  intro l
  induction l with
  | nil => rfl
  | cons a r ih => rw [cells_cons]; simp [ih]; omega
theorem cells_at : ∀ (l : List Win) (k : Nat) (p : Win), l[k]? = some p → (cells l)[k * 2]? = some (.int .i64 p.1) ∧ (cells l)[k * 2 + 1]? = some (.int .i64 p.2) := by
  intro l
  induction l with
  | nil => intro k p h; simp at h
  | cons a r ih =>
    intro k p h
    cases k with
    | zero => simp at h; subst h; rw [cells_cons]; simp
    | succ k =>
      simp only [List.getElem?_cons_succ] at h
      rw [cells_cons, show (k + 1) * 2 = k * 2 + 2 by omega]
      simpa using ih k p h
theorem wins_new (W : World) (n : Nat) (l : List Win) (hn : n = W.heap.size) : Wins (W.alloc (.cells (cells l).toArray 44)) (some ⟨n, 0, none⟩) l := by
  subst hn
  intro k p hk
  obtain ⟨h0, h1⟩ := cells_at l k p hk
  refine ⟨W.heap.size, 0, rfl, by simp, ?_, ?_⟩
  all_goals
    unfold World.cell?
    rw [heap_alloc_new]
    simp only [Nat.zero_add]
    simpa
theorem own_wins {w : World} {B : Nat} {e : TypeId} {A : Option Addr} {n cap : Nat} {l : List Win} (h : w.ownsRow B e 2 (.slice A n cap) n (cells l)) : Wins w A l := by
  intro k p hk
  obtain ⟨h0, h1⟩ := cells_at l k p hk
  have hkl : k < l.length := (List.getElem?_eq_some_iff.1 hk).1
  have hlen := cells_length l
  rcases h.2 with ⟨_, hx⟩ | ⟨g, cap', cur, hv, _, hg, hnc, _, hcs, htake⟩
  · have hl := h.1
    rw [hlen] at hl
    omega
  · have hn : n * 2 = l.length * 2 := by rw [← hlen]; exact h.1.symm
    simp only [Value.slice.injEq] at hv
    obtain ⟨rfl, _, rfl⟩ := hv
    have hw : ∀ j, j < n * 2 → w.cell? ⟨g, j, none⟩ = (cells l)[j]? := fun j hj => World.ownsRow.cellAt h j hj
    have h2 := hw (k * 2) (by omega)
    have h3 := hw (k * 2 + 1) (by omega)
    refine ⟨g, 0, rfl, World.block_lt_of_cell? w _ (h2.trans h0), ?_, ?_⟩
    · rw [Nat.zero_add]; exact h2.trans h0
    · rw [Nat.zero_add]; exact h3.trans h1
/-- The number of steps: what the loop has so far. -/
def bad (p : Win) : Prop := p.1 < 0 ∨ p.2 < p.1 ∨ 2097152 < p.2
instance (p : Win) : Decidable (bad p) := by unfold bad; infer_instance
theorem steps_eq (l : List Win) (h : ¬ 512 < l.length) : steps l = if l.any (fun p => decide (bad p)) then (0, 1) else ((l.map fun p => p.2 - p.1).sum, 0) := by
  unfold steps
  rw [if_neg h]
  rfl
theorem steps_bad (l : List Win) (k : Nat) (p : Win) (h : ¬ 512 < l.length) (hk : l[k]? = some p) (hb : bad p) : steps l = (0, 1) := by
  rw [steps_eq l h, if_pos]
  rw [List.any_eq_true]
  exact ⟨p, List.mem_of_getElem? hk, by simpa using hb⟩
theorem steps_good (l : List Win) (h : ¬ 512 < l.length) (hb : ∀ p ∈ l, ¬ bad p) : steps l = ((l.map fun p => p.2 - p.1).sum, 0) := by
  rw [steps_eq l h, if_neg]
  rw [List.any_eq_true]
  rintro ⟨p, hp, hq⟩
  exact hb p hp (by simpa using hq)
def part (l : List Win) (k : Nat) : Int := ((l.take k).map fun p => p.2 - p.1).sum
theorem part_succ (l : List Win) (k : Nat) (p : Win) (hk : l[k]? = some p) : part l (k + 1) = part l k + (p.2 - p.1) := by
  unfold part
  rw [List.take_add_one, hk]
  simp
theorem good_succ {l : List Win} {k : Nat} {p : Win} (h : ∀ q ∈ l.take k, ¬ bad q) (hk : l[k]? = some p) (hp : ¬ bad p) : ∀ q ∈ l.take (k + 1), ¬ bad q := by
  intro q hq
  rw [List.take_add_one, hk] at hq
  simp at hq
  rcases hq with h1 | rfl
  · exact h q (by simpa using h1)
  · exact hp
end Jt
end Go.Proofs.Ytaaoeiffpldjmaa
