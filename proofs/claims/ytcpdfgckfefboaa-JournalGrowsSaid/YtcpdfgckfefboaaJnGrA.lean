/- An append of events as a step of a region that draws its order. -/
import Derived.Test.YtcpdfgckfefboaaJnWrA
import Derived.Laws.AppendOwnNone
namespace Go.Proofs.Ytcpdfgckfefboaa
open Go.RowKit
theorem own7_rd {w : World} {B : Nat} {A : Option Addr} {n cap : Nat} {L : List Jn.Er} (h : w.ownsRow B 35 7 (.slice A n cap) n (Jn.ecells L)) : Rd w A (Jn.ecells L) := by
  intro k u hk
  have hl := h.1
  have hkl : k < (Jn.ecells L).length := (List.getElem?_eq_some_iff.1 hk).1
  obtain ⟨g, hA, _, hgl⟩ := own7_someW h (by omega)
  subst hA
  refine ⟨g, 0, rfl, hgl, ?_⟩
  rw [Nat.zero_add, World.ownsRow.cellAt h k (by omega)]
  exact hk
theorem own7_none {w : World} {B : Nat} {e : TypeId} {A : Option Addr} {n cap : Nat} {xs : List Value} (h : w.ownsRow B e 7 (.slice A n cap) n xs) (hA : A = none) : cap = 0 := by
  rcases h.2 with ⟨hv, _⟩ | ⟨g, cap', cur, hv, _⟩
  · injection hv
  · injection hv with h1
    rw [hA] at h1
    cases h1
theorem ecells_one (L : List Jn.Er) : ∀ u ∈ Jn.ecells L, u.oneCell' = true := by
  intro u hu
  unfold Jn.ecells at hu
  obtain ⟨x, _, hx⟩ := List.mem_flatMap.1 hu
  simp [Jn.ecell] at hx
  rcases hx with rfl | rfl | rfl | rfl | rfl | rfl | rfl <;> rfl
section
variable {w : World} {ops : Array Oper} {o : Oper} {a : Act} {K : Act → World → Prop} {Q : Exit → Act → World → Prop} {E : Prop}
theorem step_appE (hgd : o.guard = none) (s x : Operand) (ho : o.op = .call { callee := .builtin .append, args := #[s, x], argTypes := #[22, 22] })
    (B : Nat) (v : Value) (n : Nat) (L : List Jn.Er) (hs : a.eval s = v) (hown : w.ownsRow B 35 7 v n (Jn.ecells L))
    (A0 : Option Addr) (m c : Nat) (L2 : List Jn.Er) (hx : a.eval x = .slice A0 m c) (hm : L2.length = m) (hc0 : A0 = none → c = 0) (hrd : Rd w A0 (Jn.ecells L2))
    (hn : n + m ≤ 100000000) (hbase : B ≤ w.heap.size) (nm : Nat) (hnm : nm = n + m)
    (h : ∀ A cap w', w'.ownsRow B 35 7 (.slice A nm cap) nm (Jn.ecells (L ++ L2)) → w.grownBy w' v.ownBlock → Below B w w' → K (a.put o.dst (.slice A nm cap)) w') :
    if Region.wanted o (yielded ops a.tmps) = true then Oper.wp Try.prog o a w K Q else E := by
  obtain ⟨i0, hi, hz0, hz1, hz2⟩ := info_partsE info_ev
  have hw : Region.wanted o (yielded ops a.tmps) = true := by simp [Region.wanted, hgd]
  rw [if_pos hw]
  subst hnm
  cases A0 with
  | none =>
    have hy : L2 = [] := by
      cases L2 with
      | nil => rfl
      | cons y r =>
        obtain ⟨_, _, hA, _⟩ := hrd 0 (.int .i64 y.1.kind) rfl
        cases hA
    subst hy
    have hm0 : m = 0 := by simpa using hm.symm
    subst hm0
    have hcz := hc0 rfl
    subst hcz
    have hrun := run_append_owned_none (P := Try.prog) (w := w) B 22 o.type 35 i0 7 Try.underlying22 hi v n (Jn.ecells L) hown
    obtain ⟨A, cap, hv⟩ := own7_form hown
    subst hv
    unfold Oper.wp
    simp [execOp, ho, resolve, invoke, builtin, hs, hx, hrun, Result.andThen]
    exact h A cap w (by simpa using hown) ⟨rfl, rfl, rfl, Nat.le_refl _, fun _ _ _ => rfl⟩ (Below.refl _ _)
  | some ad =>
    refine wp_append_own w s x 22 ho B 35 i0 _ 7 72 Try.underlying22 hi hz0 hz1 hz2 rfl (by decide) v n (Jn.ecells L) hs hown ad m c (Jn.ecells L2) hx (by rw [Jn.ecells_length, hm]) (fun j y hj => by
      obtain ⟨b, off, hA, _, hc⟩ := hrd j y hj
      injection hA with hA
      subst hA
      rw [addr_add]; exact hc) (ecells_one L2) (by unfold maxLen; omega) (by omega) hbase ?_
    intro v' w' ho' hg _
    obtain ⟨A, cap, rfl⟩ := own7_form ho'
    refine h A cap w' ?_ hg (own7_below hown hg hbase)
    rw [Jn.ecells_append]
    exact ho'
end
end Go.Proofs.Ytcpdfgckfefboaa
