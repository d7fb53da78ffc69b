/- The walks of All, and of the reference's All. -/
import Derived.Test.YtcpdfgckfefboaaCrcOpen
namespace Go.Proofs.Ytcpdfgckfefboaa
open Go.RowKit

/-- The value is a slice that holds these bytes. -/
def Holds (w : World) (v : Value) (l : List UInt8) : Prop := ∃ A n cap, v = .slice A n cap ∧ n = l.length ∧ n ≤ cap ∧ (A = none → cap = 0) ∧ Rd w A (bv l)
def HoldsAll (w : World) (vs : List Value) (ls : List (List UInt8)) : Prop := vs.length = ls.length ∧ ∀ (k : Nat) v l, vs[k]? = some v → ls[k]? = some l → Holds w v l
theorem Holds.to {w w' : World} {v : Value} {l : List UInt8} (h : Holds w v l) (hb : Below w.heap.size w w') : Holds w' v l := by
  obtain ⟨A, n, cap, h1, h2, h3, h4, h5⟩ := h
  exact ⟨A, n, cap, h1, h2, h3, h4, h5.to hb⟩
theorem HoldsAll.to {w w' : World} {vs : List Value} {ls : List (List UInt8)} (h : HoldsAll w vs ls) (hb : Below w.heap.size w w') : HoldsAll w' vs ls := ⟨h.1, fun k v l h1 h2 => (h.2 k v l h1 h2).to hb⟩
theorem HoldsAll.nil (w : World) : HoldsAll w [] [] := ⟨rfl, fun k v l h => by simp at h⟩
theorem HoldsAll.snoc {w : World} {vs : List Value} {ls : List (List UInt8)} {v : Value} {l : List UInt8} (h : HoldsAll w vs ls) (hv : Holds w v l) : HoldsAll w (vs ++ [v]) (ls ++ [l]) := by
  refine ⟨by simp [h.1], fun k u m h1 h2 => ?_⟩
  by_cases hk : k < vs.length
  · rw [List.getElem?_append_left hk] at h1
    rw [List.getElem?_append_left (by rw [← h.1]; exact hk)] at h2
    exact h.2 k u m h1 h2
  · rw [List.getElem?_append_right (by omega)] at h1
    rw [List.getElem?_append_right (by rw [← h.1]; omega)] at h2
    have h3 := (List.getElem?_eq_some_iff.1 h1).1
    simp only [List.length_singleton] at h3
    have hk0 : k - vs.length = 0 := by omega
    rw [hk0] at h1
    rw [← h.1, hk0] at h2
    simp at h1 h2
    rw [← h1, ← h2]
    exact hv

/-- The same of rows of the call's own. -/
def OwnsAll (w : World) (B : Nat) (vs : List Value) (ls : List (List UInt8)) : Prop := vs.length = ls.length ∧ ∀ (k : Nat) v l, vs[k]? = some v → ls[k]? = some l → w.ownsRow B 5 1 v l.length (bv l)
theorem own_apart {w w' : World} {B1 B2 : Nat} {e1 e2 : TypeId} {vc v : Value} {n1 n2 : Nat} {xs1 xs2 : List Value} (hc : w.ownsRow B1 e1 1 vc n1 xs1) (hv : w.ownsRow B2 e2 1 v n2 xs2) (hne : e1 ≠ e2) (hg : w.grownBy w' v.ownBlock) : w'.ownsRow B1 e1 1 vc n1 xs1 := by
  refine ⟨hc.1, ?_⟩
  rcases hc.2 with h0 | ⟨g, cap, cur, rfl, hB, hh, h1, h2, h3, h4⟩
  · exact .inl h0
  · have hlt := (hc.lt g rfl).2
    have hx : some g ≠ v.ownBlock := by
      intro e
      rcases hv.2 with ⟨rfl, _⟩ | ⟨g2, cap2, cur2, rfl, _, hh2, _⟩
      · simp [Value.ownBlock] at e
      · have hgg : g = g2 := by simpa [Value.ownBlock] using e
        subst hgg
        rw [hh] at hh2
        injection hh2 with hh2
        injection hh2 with _ he
        exact hne he
    exact .inr ⟨g, cap, cur, rfl, hB, by rw [hg.block g hlt hx]; exact hh, h1, h2, h3, h4⟩
theorem own_base {w : World} {B B' : Nat} {e : TypeId} {v : Value} {n : Nat} {xs : List Value} (h : w.ownsRow B' e 1 v n xs) (hB : B ≤ B') : w.ownsRow B e 1 v n xs := by
  refine ⟨h.1, ?_⟩
  rcases h.2 with h0 | ⟨g, cap, cur, rfl, hb, h1⟩
  · exact .inl h0
  · exact .inr ⟨g, cap, cur, rfl, Nat.le_trans hB hb, h1⟩
theorem OwnsAll.nil (w : World) (B : Nat) : OwnsAll w B [] [] := ⟨rfl, fun k v l h => by simp at h⟩
theorem OwnsAll.kept {w w' : World} {B : Nat} {vs : List Value} {ls : List (List UInt8)} (h : OwnsAll w B vs ls) (hb : Below w.heap.size w w') : OwnsAll w' B vs ls := ⟨h.1, fun k v l h1 h2 => own_kept (h.2 k v l h1 h2) hb⟩
theorem OwnsAll.apart {w w' : World} {B B2 : Nat} {e2 : TypeId} {vs : List Value} {ls : List (List UInt8)} {v : Value} {n2 : Nat} {xs2 : List Value} (h : OwnsAll w B vs ls) (hv : w.ownsRow B2 e2 1 v n2 xs2) (hne : 5 ≠ e2) (hg : w.grownBy w' v.ownBlock) : OwnsAll w' B vs ls :=
  ⟨h.1, fun k v l h1 h2 => own_apart (h.2 k v l h1 h2) hv hne hg⟩
theorem OwnsAll.snoc {w : World} {B : Nat} {vs : List Value} {ls : List (List UInt8)} {v : Value} {l : List UInt8} (h : OwnsAll w B vs ls) (hv : w.ownsRow B 5 1 v l.length (bv l)) : OwnsAll w B (vs ++ [v]) (ls ++ [l]) := by
  refine ⟨by simp [h.1], fun k u m h1 h2 => ?_⟩
  by_cases hk : k < vs.length
  · rw [List.getElem?_append_left hk] at h1
    rw [List.getElem?_append_left (by rw [← h.1]; exact hk)] at h2
    exact h.2 k u m h1 h2
  · rw [List.getElem?_append_right (by omega)] at h1
    rw [List.getElem?_append_right (by rw [← h.1]; omega)] at h2
    have h3 := (List.getElem?_eq_some_iff.1 h1).1
    simp only [List.length_singleton] at h3
    have hk0 : k - vs.length = 0 := by omega
    rw [hk0] at h1
    rw [← h.1, hk0] at h2
    simp at h1 h2
    rw [← h1, ← h2]
    exact hv
theorem OwnsAll.holds {w : World} {B : Nat} {vs : List Value} {ls : List (List UInt8)} (h : OwnsAll w B vs ls) : HoldsAll w vs ls := ⟨h.1, fun k v l h1 h2 => by
  have ho := h.2 k v l h1 h2
  obtain ⟨A, cap, rfl, hc⟩ := own_form ho
  exact ⟨A, l.length, cap, rfl, rfl, hc, fun hA => own_none ho hA, own_rd ho⟩⟩

section
variable {P : Program} {w : World} {ops : Array Oper} {rest : List Oper} {o : Oper} {a : Act} {Q : Exit → Act → World → Prop}
/-- append of one value to an owned row, and no other block is touched. -/
theorem wpList_app1g (hgd : o.guard = none) (s x : Operand) (t : TypeId) (ho : o.op = .call { callee := .builtin .append, args := #[s, x], argTypes := #[t, t] })
    (B : Nat) (e : TypeId) (i : TypeInfo) (z : Value) (bytes : Nat) (ht : P.underlying t = some (.slice e)) (hi : P.info? e = some i) (hz : i.zero = some z)
    (hsize : i.size = 1) (hby : i.bytes = bytes) (hzs : z.cells.size = 1)
    (v : Value) (n : Nat) (xs : List Value) (hs : a.eval s = v) (hown : w.ownsRow B e 1 v n xs)
    (ad : Addr) (c : Nat) (u : Value) (hx : a.eval x = .slice (some ad) 1 c) (hnew : w.cell? ad = some u) (h1 : u.oneCell' = true)
    (h63 : n + 1 ≤ maxLen) (hbytes : (n + 1) * bytes ≤ 140737488355328) (hbase : B ≤ w.heap.size)
    (h : ∀ A cap w', w'.ownsRow B e 1 (.slice A (n + 1) cap) (n + 1) (xs ++ [u]) → w.grownBy w' v.ownBlock → Below B w w' → wpList P ops Q rest (a.put o.dst (.slice A (n + 1) cap)) w') : wpList P ops Q (o :: rest) a w := by
  refine wpList_append_own w hgd s x t ho B e i z 1 bytes ht hi hz hsize hby hzs (by decide) v n xs hs hown ad 1 c [u] hx rfl (fun j y hj => by
    have hj0 : j = 0 := by
      have := (List.getElem?_eq_some_iff.1 hj).1
      simpa using this
    subst hj0
    simp at hj
    subst hj
    simpa [Addr.add] using hnew) (by simpa using h1) h63 hbytes hbase ?_
  intro v' w' ho' hg _
  obtain ⟨A, cap, rfl, hc⟩ := own_form ho'
  exact h A cap w' ho' hg (own_below hown hg hbase)
end

namespace Cr
/-- The contents from at on, behind those in acc. -/
def al : Nat → List UInt8 → Nat → List (List UInt8) → List (List UInt8) × Nat
  | 0, _, at_, acc => (acc, at_)
  | f + 1, b, at_, acc => if at_ < b.length then (if (opn (b.drop at_)).2.2 = 0 then al f b (at_ + (opn (b.drop at_)).2.1) (acc ++ [(opn (b.drop at_)).1]) else (acc, at_)) else (acc, at_)
def all (b : List UInt8) : List (List UInt8) × Nat := al (b.length + 1) b 0 []
theorem opn_bd (b : List UInt8) : (opn b).2.1 ≤ b.length ∧ ((opn b).2.2 = 0 → 5 ≤ (opn b).2.1 ∧ (opn b).1.length + 4 ≤ (opn b).2.1) := by
  have hb := Wp.takeU_bd b
  unfold opn
  split
  · rename_i h
    have := hb.2 h
    split
    · simp
    · split
      · simp
      · split
        · simp only [List.length_take, List.length_drop]; omega
        · simp
  · rename_i h
    exact ⟨by simp, fun h2 => absurd h2 h⟩
theorem al_ok (f : Nat) (b : List UInt8) (p : Nat) (acc : List (List UInt8)) (c : List UInt8) (k : Nat) (h : opn (b.drop p) = (c, k, 0)) (hp : p < b.length) : al (f + 1) b p acc = al f b (p + k) (acc ++ [c]) := by
  rw [al, if_pos hp, h]; simp
theorem al_bad (f : Nat) (b : List UInt8) (p : Nat) (acc : List (List UInt8)) (c : List UInt8) (k : Nat) (e : Int) (h : opn (b.drop p) = (c, k, e)) (he : e ≠ 0) : al (f + 1) b p acc = (acc, p) := by
  rw [al, h]; simp [he]
theorem al_end (f : Nat) (b : List UInt8) (p : Nat) (acc : List (List UInt8)) (hp : ¬ p < b.length) : al f b p acc = (acc, p) := by
  cases f with
  | zero => rfl
  | succ f => rw [al, if_neg hp]
end Cr

/-- A slice from q on. -/
theorem rd_from {w : World} {A : Option Addr} {cap q : Nat} {r : List UInt8} (h : Rd w A (bv r)) (hc : r.length ≤ cap) (hq : cap ≠ q) : Rd w (A.map fun x => x.add q) (bv (r.drop q)) := by
  have := h.drop q cap (by rw [bv_length]; exact hc)
  rw [if_neg hq] at this
  rw [bv_drop]
  exact this
theorem below_keep {B B' : Nat} {w w' : World} (h : Below B w w') (hB : B' ≤ B) : Below B' w w' := h.mono hB
theorem info_bytes : (Try.prog.info? 23).map (fun i => (i.zero, i.size, i.bytes)) = some (some (.slice none 0 0), 1, 24) := by kernel_rfl

/-- The call returns a list of contents of its own and a length. -/
def RetAll (w : World) (r : List (List UInt8) × Nat) (e : Ending) (w' : World) : Prop :=
  ∃ A n cap vs, e = .returned (.tuple #[.slice A n cap, .int .i64 (r.2 : Int)]) ∧ n = r.1.length ∧ w'.ownsRow w.heap.size 23 1 (.slice A n cap) n vs ∧ HoldsAll w' vs r.1 ∧ Below w.heap.size w w'
theorem RetAll.mk {w w' : World} {r : List (List UInt8) × Nat} {A : Option Addr} {n cap p : Nat} {vs : List Value} {acc : List (List UInt8)} (h : r = (acc, p)) (hn : n = acc.length) (ho : w'.ownsRow w.heap.size 23 1 (.slice A n cap) n vs) (hh : HoldsAll w' vs acc) (hb : Below w.heap.size w w') :
    RetAll w r (.returned (.tuple #[.slice A n cap, .int .i64 (p : Int)])) w' := by
  subst h
  exact ⟨A, n, cap, vs, rfl, hn, ho, hh, hb⟩

end Go.Proofs.Ytcpdfgckfefboaa
