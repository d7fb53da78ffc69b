/- Plain laws of one more detection; an append as a step of a region that draws its order. -/
import Derived.Test.YtaaoeiffpldjmaaJetLaws
import Derived.Laws.AppendOwnNone
namespace Go.Proofs.Ytaaoeiffpldjmaa
open Go.RowKit
namespace Jt
def has (w x : Win) : Bool := decide (x.1 ≤ w.1 ∧ w.2 ≤ x.2)
theorem inv_fold2 {v : Valve} (hd : 0 ≤ v.delay ∧ v.delay ≤ 1000) (hh : 1 ≤ v.hold ∧ v.hold ≤ 100) (hr : 0 ≤ v.rest) (rest : List Int) : ∀ (l pre : List Int) (acc : List Win), (∀ h ∈ l, 0 ≤ h ∧ h ≤ 1048576) → (l ++ rest).Pairwise (· ≤ ·) → Inv v pre (l ++ rest) acc → Inv v (pre ++ l) rest (l.foldl (add v) acc) := by
  intro l
  induction l with
  | nil => intro pre acc _ _ I; simpa using I
  | cons h r ih =>
    intro pre acc hb hs I
    have := ih (pre ++ [h]) (add v acc h) (fun g hg => hb g (List.mem_cons_of_mem _ hg)) (List.pairwise_cons.1 hs).2 (I.add hd hh hr (hb h List.mem_cons_self) hs)
    rw [List.append_assoc] at this
    exact this
theorem more_plan {v : Valve} {l : List Int} {m : Int} (h : check v l = 0) (h2 : check v (l ++ [m]) = 0) : ∀ w ∈ (plan v l).1, (plan v (l ++ [m])).1.any (has w) = true := by
  intro w hw
  rw [plan_ok h] at hw
  rw [plan_ok h2, List.foldl_append]
  simp only [List.foldl_cons, List.foldl_nil] at hw ⊢
  obtain ⟨h0, _, hs⟩ := check_zero h2
  obtain ⟨hd, hh, hr⟩ := chk_zero (d := v.delay) (h := v.hold) (r := v.rest) h0
  have hall := srt_all hs
  have I := inv_fold2 (v := v) hd hh hr.1 [m] l [] [] (fun g hg => hall g (List.mem_append_left _ hg)) (srt_pair hs).1 (Inv.nil _ _)
  generalize l.foldl (add v) [] = acc at hw I
  rw [List.any_eq_true]
  rcases List.eq_nil_or_concat acc with rfl | ⟨i, ⟨x, y⟩, rfl⟩
  · simp at hw
  · rw [List.concat_eq_append] at hw I ⊢
    have hle := I.le (x, y) (by simp) m (by simp)
    simp only at hle
    by_cases hj : (m + v.delay) < y ∨ (m + v.delay) - y < v.rest
    · rw [add_join v i x y m hj]
      rcases List.mem_append.1 hw with h3 | h3
      · exact ⟨w, List.mem_append_left _ h3, by simp [has]⟩
      · simp only [List.mem_singleton] at h3
        subst h3
        exact ⟨_, List.mem_append_right _ (List.mem_singleton.2 rfl), by simp [has]; omega⟩
    · rw [add_new v i x y m (by omega) (by omega)]
      exact ⟨w, List.mem_append_left _ hw, by simp [has]⟩
theorem srt_vals : ∀ (p : Option Int) (l : List Int), srt p l = 0 ∨ srt p l = 1 ∨ srt p l = 9
  | _, [] => .inl rfl
  | p, h :: r => by
    by_cases hx : h < 0 ∨ 1048576 < h
    · exact .inr (.inl (srt_range p h r hx))
    · cases p with
      | none => rw [srt_next none h r (by omega) (by omega) (fun q hq => by cases hq)]; exact srt_vals (some h) r
      | some q =>
        by_cases hq : h < q
        · exact .inr (.inr (srt_order q h r (by omega) (by omega) hq))
        · rw [srt_next (some q) h r (by omega) (by omega) (fun q' hq' => by cases hq'; exact hq)]; exact srt_vals (some h) r
theorem more_err {v : Valve} {l : List Int} (m : Int) (h : check v l = 0) (hl : l.length ≤ 500) : check v (l ++ [m]) = 0 ∨ check v (l ++ [m]) = 1 ∨ check v (l ++ [m]) = 9 := by
  obtain ⟨h0, _, _⟩ := check_zero h
  unfold check
  rw [if_neg (by omega), if_neg (by rw [List.length_append, List.length_singleton]; omega)]
  exact srt_vals none _
end Jt

section
variable {P : Program} {w : World} {ops : Array Oper} {o : Oper} {a : Act} {K : Act → World → Prop} {Q : Exit → Act → World → Prop} {E : Prop}
/-- append of a slice that reads as a list to an owned row: as a step of a region that draws. -/
theorem step_appN (hgd : o.guard = none) (s x : Operand) (t : TypeId) (ho : o.op = .call { callee := .builtin .append, args := #[s, x], argTypes := #[t, t] })
    (B : Nat) (e : TypeId) (i : TypeInfo) (z : Value) (bytes : Nat) (ht : P.underlying t = some (.slice e)) (hi : P.info? e = some i) (hz : i.zero = some z)
    (hsize : i.size = 1) (hby : i.bytes = bytes) (hzs : z.cells.size = 1)
    (v : Value) (n : Nat) (xs : List Value) (hs : a.eval s = v) (hown : w.ownsRow B e 1 v n xs)
    (A0 : Option Addr) (m c : Nat) (ys : List Value) (hx : a.eval x = .slice A0 m c) (hm : ys.length = m) (hc0 : A0 = none → c = 0) (hrd : Rd w A0 ys) (h1 : ∀ u ∈ ys, u.oneCell' = true)
    (h63 : n + m ≤ maxLen) (hbytes : (n + m) * bytes ≤ 140737488355328) (hbase : B ≤ w.heap.size) (nm : Nat) (hnm : nm = n + m)
    (h : ∀ A cap w', w'.ownsRow B e 1 (.slice A nm cap) nm (xs ++ ys) → (∀ p u, w.cell? p = some u → some p.block ≠ v.ownBlock → w'.cell? p = some u) → Below B w w' → K (a.put o.dst (.slice A nm cap)) w') :
    if Region.wanted o (yielded ops a.tmps) = true then Oper.wp P o a w K Q else E := by
  have hw : Region.wanted o (yielded ops a.tmps) = true := by simp [Region.wanted, hgd]
  rw [if_pos hw]
  subst hnm
  cases A0 with
  | none =>
    have hy : ys = [] := by
      cases ys with
      | nil => rfl
      | cons y r =>
        obtain ⟨_, _, hA, _⟩ := hrd 0 y rfl
        cases hA
    subst hy
    have hm0 : m = 0 := by simpa using hm.symm
    subst hm0
    have hcz := hc0 rfl
    subst hcz
    have hrun := run_append_owned_none (P := P) (w := w) B t o.type e i 1 ht hi v n xs hown
    obtain ⟨A, cap, hv, hc⟩ := own_form hown
    subst hv
    unfold Oper.wp
    simp [execOp, ho, resolve, invoke, builtin, hs, hx, hrun, Result.andThen]
    exact h A cap w (by simpa using hown) (fun p u hp _ => hp) (Below.refl _ _)
  | some ad =>
    refine wp_append_own w s x t ho B e i z 1 bytes ht hi hz hsize hby hzs (by decide) v n xs hs hown ad m c ys hx (by rw [hm, Nat.mul_one]) (fun j y hj => by
      obtain ⟨b, off, hA, _, hc⟩ := hrd j y hj
      injection hA with hA
      subst hA
      rw [addr_add]; exact hc) h1 h63 hbytes hbase ?_
    intro v' w' ho' hg _
    obtain ⟨A, cap, rfl, hc⟩ := own_form ho'
    exact h A cap w' ho' (fun p u hp hne => hg.cell hp hne) (own_below hown hg hbase)
end
end Go.Proofs.Ytaaoeiffpldjmaa
