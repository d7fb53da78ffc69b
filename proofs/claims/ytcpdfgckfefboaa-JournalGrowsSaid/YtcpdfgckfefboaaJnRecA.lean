/- Own rows of events. -/
import Derived.Test.YtcpdfgckfefboaaJnEvs
namespace Go.Proofs.Ytcpdfgckfefboaa
open Go.RowKit
theorem info_ev : (Try.prog.info? 35).map (fun i => (i.zero, i.size, i.bytes)) = some (some (.agg #[.int .i64 0, .int .i64 0, .int .i64 0, .int .i64 0, .int .i64 0, .int .i64 0, .slice none 0 0]), 7, 72) := by kernel_rfl
theorem info_partsE {P : Program} {t : TypeId} {z : Value} {s b : Nat} (h : (P.info? t).map (fun i => (i.zero, i.size, i.bytes)) = some (some z, s, b)) :
    ∃ i, P.info? t = some i ∧ i.zero = some z ∧ i.size = s ∧ i.bytes = b := by
  rcases hi : P.info? t with _ | i
  · rw [hi] at h; cases h
  · rw [hi] at h
    simp only [Option.map_some, Option.some.injEq, Prod.mk.injEq] at h
    exact ⟨i, rfl, h.1, h.2.1, h.2.2⟩
namespace Jn
/-- An event and the slice of its masses. -/
abbrev Er := Ev × Option Addr × Nat × Nat
def ecell (x : Er) : List Value := [.int .i64 x.1.kind, .int .i64 x.1.at_, .int .i64 x.1.a, .int .i64 x.1.b, .int .i64 x.1.c, .int .i64 x.1.d, .slice x.2.1 x.2.2.1 x.2.2.2]
def ecells (L : List Er) : List Value := L.flatMap ecell
theorem ecells_append (a b : List Er) : ecells (a ++ b) = ecells a ++ ecells b := by simp [ecells]
theorem ecells_length : ∀ L : List Er, (ecells L).length = L.length * 7 := by
  intro L
  induction L with
  | nil => rfl
  | cons a r ih =>
    rw [show ecells (a :: r) = ecell a ++ ecells r from rfl, List.length_append, ih, List.length_cons]
    simp [ecell]
    omega
theorem ecells_at : ∀ (L : List Er) (k : Nat) (x : Er), L[k]? = some x → ∀ j v, (ecell x)[j]? = some v → (ecells L)[k * 7 + j]? = some v := by
  intro L
  induction L with
  | nil => intro k x h; simp at h
  | cons a r ih =>
    intro k x h j v hj
    have hj7 : j < 7 := by
      have := (List.getElem?_eq_some_iff.1 hj).1
      simpa [ecell] using this
    rw [show ecells (a :: r) = ecell a ++ ecells r from rfl]
    cases k with
    | zero =>
      simp at h
      subst h
      rw [Nat.zero_mul, Nat.zero_add, List.getElem?_append_left (by simp [ecell]; omega)]
      exact hj
    | succ k =>
      simp only [List.getElem?_cons_succ] at h
      rw [List.getElem?_append_right (by simp [ecell]; omega)]
      have e : (k + 1) * 7 + j - (ecell a).length = k * 7 + j := by simp [ecell]; omega
      rw [e]
      exact ih k x h j v hj
/-- The masses can be read, and lie in blocks of integers. -/
def Good (w : World) (L : List Er) : Prop := ∀ x ∈ L, x.2.2.1 = x.1.mix.length ∧ (x.2.1 = none → x.2.2.2 = 0) ∧ Rd w x.2.1 (iv x.1.mix) ∧ Ints w x.2.1
theorem Good.nil (w : World) : Good w [] := fun x h => by simp at h
theorem Good.to {w w' : World} {L : List Er} (h : Good w L) (hb : Below w.heap.size w w') : Good w' L := fun x hx => by
  obtain ⟨h1, h2, h3, h4⟩ := h x hx
  exact ⟨h1, h2, h3.to hb, h4.to hb⟩
theorem Good.snoc {w : World} {L : List Er} {x : Er} (h : Good w L) (hx : x.2.2.1 = x.1.mix.length ∧ (x.2.1 = none → x.2.2.2 = 0) ∧ Rd w x.2.1 (iv x.1.mix) ∧ Ints w x.2.1) : Good w (L ++ [x]) := fun y hy => by
  rcases List.mem_append.1 hy with h1 | h1
  · exact h y h1
  · rw [List.mem_singleton.1 h1]; exact hx
theorem Good.grown {w w' : World} {L : List Er} {B : Nat} {v : Value} {n : Nat} {xs : List Value} (h : Good w L) (ho : w.ownsRow B 35 7 v n xs) (hg : w.grownBy w' v.ownBlock) : Good w' L := fun x hx => by
  obtain ⟨h1, h2, h3, h4⟩ := h x hx
  have hk : ∀ a, x.2.1 = some a → w'.heap[a.block]? = w.heap[a.block]? := fun a ha => by
    obtain ⟨c, f, hc⟩ := h4 a ha
    have hlt : a.block < w.heap.size := by
      rcases Nat.lt_or_ge a.block w.heap.size with h1 | h1
      · exact h1
      · rw [Array.getElem?_eq_none h1] at hc; cases hc
    refine hg.block a.block hlt (fun he => ?_)
    rcases ho.2 with ⟨hv, _⟩ | ⟨g, cap', cur, hv, hB, hgc, _⟩
    · rw [hv] at he; simp [Value.ownBlock] at he
    · rw [hv] at he
      simp [Value.ownBlock] at he
      rw [he, hgc] at hc
      cases hc
  exact ⟨h1, h2, h3.off hg.size hk, h4.off hk⟩
theorem own7_evs {w : World} {B : Nat} {A : Option Addr} {n cap : Nat} {L : List Er} (h : w.ownsRow B 35 7 (.slice A n cap) n (ecells L)) (hG : Good w L) : Evs w A (L.map (·.1)) := by
  intro k e hk
  rw [List.getElem?_map] at hk
  obtain ⟨x, hx, rfl⟩ := Option.map_eq_some_iff.1 hk
  have hkl : k < L.length := (List.getElem?_eq_some_iff.1 hx).1
  have hlen := ecells_length L
  obtain ⟨g1, g2, g3, g4⟩ := hG x (List.mem_of_getElem? hx)
  rcases h.2 with ⟨_, h0⟩ | ⟨g, cap', cur, hv, _, hg, hnc, _, hcs, htake⟩
  · have := h.1
    rw [hlen] at this
    omega
  · have hn : n * 7 = L.length * 7 := by rw [← hlen]; exact h.1.symm
    injection hv with hA _ hc
    subst hA hc
    have hw : ∀ j v, (ecell x)[j]? = some v → w.cell? ⟨g, 0 + k * 7 + j, none⟩ = some v := fun j v hj => by
      have hj7 : j < 7 := by
        have := (List.getElem?_eq_some_iff.1 hj).1
        simpa [ecell] using this
      rw [Nat.zero_add]
      exact (World.ownsRow.cellAt h (k * 7 + j) (by omega)).trans (ecells_at L k x hx j v hj)
    refine ⟨g, 0, rfl, (h.lt g rfl).2, x.2.1, x.2.2.1, x.2.2.2, ?_, hw 1 _ rfl, hw 2 _ rfl, hw 3 _ rfl, hw 4 _ rfl, hw 5 _ rfl, hw 6 _ rfl, g1, g2, g3⟩
    have := hw 0 _ rfl
    simpa using this
end Jn
theorem own7_kept {w w' : World} {B : Nat} {e : TypeId} {v : Value} {n : Nat} {xs : List Value} (h : w.ownsRow B e 7 v n xs) (hb : Below w.heap.size w w') : w'.ownsRow B e 7 v n xs := by
  refine ⟨h.1, ?_⟩
  rcases h.2 with hv | ⟨g, cap', cur, rfl, hB, hg, hn, hm, h1, h2⟩
  · exact .inl hv
  · have hlt : g < w.heap.size := (h.lt g rfl).2
    exact .inr ⟨g, cap', cur, rfl, hB, by rw [hb.block g hlt]; exact hg, hn, hm, h1, h2⟩
theorem own7_form {w : World} {B : Nat} {e : TypeId} {v : Value} {n : Nat} {xs : List Value} (h : w.ownsRow B e 7 v n xs) : ∃ A cap, v = .slice A n cap := by
  rcases h.2 with ⟨rfl, rfl⟩ | ⟨g, cap', cur, rfl, _, hg, hn, hm, _, _⟩
  · exact ⟨none, 0, rfl⟩
  · exact ⟨_, cap', rfl⟩
theorem own7_below {w w' : World} {B : Nat} {e : TypeId} {v : Value} {n : Nat} {xs : List Value} (h : w.ownsRow B e 7 v n xs) (hg : w.grownBy w' v.ownBlock) (hB : B ≤ w.heap.size) : Below B w w' :=
  (Below.refl B w).grown hg hB (fun k hk => (h.lt k hk).1)
section
variable {w : World} {ops : Array Oper} {rest : List Oper} {o : Oper} {a : Act} {Q : Exit → Act → World → Prop}
/-- append of one event to an owned row of events. -/
theorem wpList_appE (hgd : o.guard = none) (s x : Operand) (ho : o.op = .call { callee := .builtin .append, args := #[s, x], argTypes := #[22, 22] })
    (B : Nat) (v : Value) (n : Nat) (L : List Jn.Er) (hs : a.eval s = v) (hown : w.ownsRow B 35 7 v n (Jn.ecells L)) (hG : Jn.Good w L)
    (ad : Addr) (c : Nat) (y : Jn.Er) (hx : a.eval x = .slice (some ad) 1 c) (hnew : ∀ j u, (Jn.ecell y)[j]? = some u → w.cell? (ad.add j) = some u)
    (hy : y.2.2.1 = y.1.mix.length ∧ (y.2.1 = none → y.2.2.2 = 0) ∧ Rd w y.2.1 (iv y.1.mix) ∧ Ints w y.2.1)
    (hn : n ≤ 100000000) (hbase : B ≤ w.heap.size)
    (h : ∀ A cap w', w'.ownsRow B 35 7 (.slice A (n + 1) cap) (n + 1) (Jn.ecells (L ++ [y])) → Jn.Good w' (L ++ [y]) → w.grownBy w' v.ownBlock → Below B w w' → wpList Try.prog ops Q rest (a.put o.dst (.slice A (n + 1) cap)) w') : wpList Try.prog ops Q (o :: rest) a w := by
  obtain ⟨i0, hi, hz0, hz1, hz2⟩ := info_partsE info_ev
  refine wpList_append_own w hgd s x 22 ho B 35 i0 _ 7 72 Try.underlying22 hi hz0 hz1 hz2 rfl (by decide) v n (Jn.ecells L) hs hown ad 1 c (Jn.ecell y) hx rfl hnew (by
    intro u hu
    simp [Jn.ecell] at hu
    rcases hu with rfl | rfl | rfl | rfl | rfl | rfl | rfl <;> rfl) (by unfold maxLen; omega) (by omega) hbase ?_
  intro v' w' ho' hg _
  obtain ⟨A, cap, rfl⟩ := own7_form ho'
  refine h A cap w' ?_ ((hG.snoc hy).grown hown hg) hg (own7_below hown hg hbase)
  rw [Jn.ecells_append]
  have e : Jn.ecells [y] = Jn.ecell y := by simp [Jn.ecells]
  rw [e]
  exact ho'
end
end Go.Proofs.Ytcpdfgckfefboaa
