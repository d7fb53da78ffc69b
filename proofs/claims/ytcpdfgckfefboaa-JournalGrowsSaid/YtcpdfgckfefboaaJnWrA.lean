/- Rows for written: an owned row of events whose masses came in, beside an owned row of integers. -/
import Derived.Test.YtcpdfgckfefboaaJnAppC
import Derived.Test.YtcpdfgckfefboaaJnGreat
namespace Go.Proofs.Ytcpdfgckfefboaa
open Go.RowKit
theorem own_apartN {w w' : World} {B1 B2 s1 s2 : Nat} {e1 e2 : TypeId} {vc v : Value} {n1 n2 : Nat} {xs1 xs2 : List Value} (hc : w.ownsRow B1 e1 s1 vc n1 xs1) (hv : w.ownsRow B2 e2 s2 v n2 xs2) (hne : e1 ≠ e2) (hg : w.grownBy w' v.ownBlock) : w'.ownsRow B1 e1 s1 vc n1 xs1 := by
  refine ⟨hc.1, ?_⟩
  rcases hc.2 with h0 | ⟨g, cap, cur, rfl, hB, hh, h1, h2, h3, h4⟩
  · exact .inl h0
  · have hlt := (hc.lt g rfl).2
    have hx : some g ≠ v.ownBlock := by
      intro e
      rcases hv.2 with ⟨rfl, _⟩ | ⟨g2, cap2, cur2, rfl, _, hh2, _⟩
      · simp [Value.ownBlock] at e
      · have hgg : g = g2 := by simpa [Value.ownBlock] using e
        subst hgg
        rw [hh] at hh2
        injection hh2 with hh2
        injection hh2 with _ he
        exact hne he
    exact .inr ⟨g, cap, cur, rfl, hB, by rw [hg.block g hlt hx]; exact hh, h1, h2, h3, h4⟩
theorem Rd.grown {w w' : World} {A : Option Addr} {xs : List Value} (h : Rd w A xs) {ob : Option Nat} (hg : w.grownBy w' ob) (hne : ∀ a, A = some a → some a.block ≠ ob) : Rd w' A xs := by
  intro k u hk
  obtain ⟨b, off, hA, hlt, hc⟩ := h k u hk
  exact ⟨b, off, hA, Nat.lt_of_lt_of_le hlt hg.size, (World.cell?_of_block (a := ⟨b, off + k, none⟩) (hg.block b hlt (hne _ hA))).trans hc⟩
theorem own_block {w : World} {B s : Nat} {e : TypeId} {v : Value} {n : Nat} {xs : List Value} (h : w.ownsRow B e s v n xs) {b : Nat} (hb : w.heap.size ≤ b) : some b ≠ v.ownBlock := fun he => by
  have := (h.lt b he.symm).2
  omega
theorem own7_cap {w : World} {B : Nat} {e : TypeId} {A : Option Addr} {n cap : Nat} {xs : List Value} (h : w.ownsRow B e 7 (.slice A n cap) n xs) : n ≤ cap := by
  rcases h.2 with ⟨hv, h0⟩ | ⟨g, cap', cur, hv, _, hg, hn, hm, _, _⟩
  · injection hv with _ _ hc
    subst hc h0
    exact Nat.le_refl _
  · injection hv with _ _ hc
    subst hc
    exact hn
theorem own7_someW {w : World} {B : Nat} {e : TypeId} {A : Option Addr} {n cap : Nat} {xs : List Value} (h : w.ownsRow B e 7 (.slice A n cap) n xs) (hn : 0 < n) : ∃ g, A = some ⟨g, 0, none⟩ ∧ B ≤ g ∧ g < w.heap.size := by
  rcases h.2 with ⟨_, h0⟩ | ⟨g, cap', cur, hv, hB, hg, _⟩
  · omega
  · injection hv with hA
    exact ⟨g, hA, hB, by
      rcases Nat.lt_or_ge g w.heap.size with h1 | h1
      · exact h1
      · rw [Array.getElem?_eq_none h1] at hg; cases hg⟩
namespace Jn
/-- The masses can be read. -/
def GoodR (w : World) (L : List Er) : Prop := ∀ x ∈ L, x.2.2.1 = x.1.mix.length ∧ (x.2.1 = none → x.2.2.2 = 0) ∧ Rd w x.2.1 (iv x.1.mix)
theorem GoodR.nil (w : World) : GoodR w [] := fun x h => by simp at h
theorem GoodR.to {w w' : World} {L : List Er} (h : GoodR w L) (hb : Below w.heap.size w w') : GoodR w' L := fun x hx => by
  obtain ⟨h1, h2, h3⟩ := h x hx
  exact ⟨h1, h2, h3.to hb⟩
theorem GoodR.snoc {w : World} {L : List Er} {x : Er} (h : GoodR w L) (hx : x.2.2.1 = x.1.mix.length ∧ (x.2.1 = none → x.2.2.2 = 0) ∧ Rd w x.2.1 (iv x.1.mix)) : GoodR w (L ++ [x]) := fun y hy => by
  rcases List.mem_append.1 hy with h1 | h1
  · exact h y h1
  · rw [List.mem_singleton.1 h1]; exact hx
theorem own7_evsR {w : World} {B : Nat} {A : Option Addr} {n cap : Nat} {L : List Er} (h : w.ownsRow B 35 7 (.slice A n cap) n (ecells L)) (hG : GoodR w L) : Evs w A (L.map (·.1)) := by
  intro k e hk
  rw [List.getElem?_map] at hk
  obtain ⟨x, hx, rfl⟩ := Option.map_eq_some_iff.1 hk
  have hkl : k < L.length := (List.getElem?_eq_some_iff.1 hx).1
  have hlen := ecells_length L
  obtain ⟨g1, g2, g3⟩ := hG x (List.mem_of_getElem? hx)
  have hn : n * 7 = L.length * 7 := by rw [← hlen]; exact h.1.symm
  obtain ⟨g, hA, _, hgl⟩ := own7_someW h (by omega)
  subst hA
  have hw : ∀ j v, (ecell x)[j]? = some v → w.cell? ⟨g, 0 + k * 7 + j, none⟩ = some v := fun j v hj => by
    have hj7 : j < 7 := by
      have := (List.getElem?_eq_some_iff.1 hj).1
      simpa [ecell] using this
    rw [Nat.zero_add]
    exact (World.ownsRow.cellAt h (k * 7 + j) (by omega)).trans (ecells_at L k x hx j v hj)
  refine ⟨g, 0, rfl, hgl, x.2.1, x.2.2.1, x.2.2.2, ?_, hw 1 _ rfl, hw 2 _ rfl, hw 3 _ rfl, hw 4 _ rfl, hw 5 _ rfl, hw 6 _ rfl, g1, g2, g3⟩
  have := hw 0 _ rfl
  simpa using this
end Jn
section
variable {w : World} {ops : Array Oper} {rest : List Oper} {o : Oper} {a : Act} {Q : Exit → Act → World → Prop}
/-- append of one event to an owned row of events, and no other block is touched. -/
theorem wpList_appER (hgd : o.guard = none) (s x : Operand) (ho : o.op = .call { callee := .builtin .append, args := #[s, x], argTypes := #[22, 22] })
    (B : Nat) (v : Value) (n : Nat) (L : List Jn.Er) (hs : a.eval s = v) (hown : w.ownsRow B 35 7 v n (Jn.ecells L))
    (ad : Addr) (c : Nat) (y : Jn.Er) (hx : a.eval x = .slice (some ad) 1 c) (hnew : ∀ j u, (Jn.ecell y)[j]? = some u → w.cell? (ad.add j) = some u)
    (hn : n ≤ 100000000) (hbase : B ≤ w.heap.size)
    (h : ∀ A cap w', w'.ownsRow B 35 7 (.slice A (n + 1) cap) (n + 1) (Jn.ecells (L ++ [y])) → w.grownBy w' v.ownBlock → Below B w w' → wpList Try.prog ops Q rest (a.put o.dst (.slice A (n + 1) cap)) w') : wpList Try.prog ops Q (o :: rest) a w := by
  obtain ⟨i0, hi, hz0, hz1, hz2⟩ := info_partsE info_ev
  refine wpList_append_own w hgd s x 22 ho B 35 i0 _ 7 72 Try.underlying22 hi hz0 hz1 hz2 rfl (by decide) v n (Jn.ecells L) hs hown ad 1 c (Jn.ecell y) hx rfl hnew (by
    intro u hu
    simp [Jn.ecell] at hu
    rcases hu with rfl | rfl | rfl | rfl | rfl | rfl | rfl <;> rfl) (by unfold maxLen; omega) (by omega) hbase ?_
  intro v' w' ho' hg _
  obtain ⟨A, cap, rfl⟩ := own7_form ho'
  refine h A cap w' ?_ hg (own7_below hown hg hbase)
  rw [Jn.ecells_append]
  have e : Jn.ecells [y] = Jn.ecell y := by simp [Jn.ecells]
  rw [e]
  exact ho'
end
namespace Jn
theorem put1_skip {es : List Ev} {e : Ev} (h : e.at_ < lastAt 0 es) : put1 es e = es := by unfold put1; rw [if_pos (.inl h)]
theorem put1_bad {es : List Ev} {e : Ev} (h : check e ≠ 0) : put1 es e = es := by unfold put1; rw [if_pos (.inr h)]
theorem put1_ok {es : List Ev} {e : Ev} (h : check e = 0) (ht : es = [] ∨ lastAt 0 es ≤ e.at_) : put1 es e = es ++ [e] := by
  have h1 : 0 ≤ e.at_ := by
    have := (check_ok h).2.1
    unfold badT at this
    omega
  have h2 : lastAt 0 es ≤ e.at_ := by
    rcases ht with rfl | ht
    · exact h1
    · exact ht
  unfold put1
  rw [if_neg (by
    intro hx
    rcases hx with hx | hx
    · omega
    · exact hx h)]
theorem last_erW {L : List Er} {es : List Ev} (h : L.map (·.1) = es) (hn : 0 < es.length) : ∃ x : Er, x.1.at_ = lastAt 0 es ∧ L[es.length - 1]? = some x := by
  have hl : L.length = es.length := by rw [← h]; simp
  have hlt : es.length - 1 < L.length := by omega
  refine ⟨L[es.length - 1], ?_, List.getElem?_eq_getElem hlt⟩
  rw [lastAt_last es hn 0]
  have h2 : (L.map (·.1))[es.length - 1]? = some (L[es.length - 1]).1 := by rw [List.getElem?_map, List.getElem?_eq_getElem hlt]; rfl
  rw [h] at h2
  rw [List.getElem?_eq_getElem (by omega)] at h2
  rw [Option.some.inj h2]
end Jn
end Go.Proofs.Ytcpdfgckfefboaa
