/- How the arguments of this seat's laws read: integers, lists of integers, valves, lists of windows. -/
import Derived.Test.YtaaoeiffpldjmaaJetAwake
import Derived.OpenShut
import Derived.ShutString
import Derived.ChangeOld
import Derived.Deep.Slices
namespace Go.Proofs.Ytaaoeiffpldjmaa
open Go.ChangeShapes Go.WideShapes Go.ChangeAt Go.RowKit
open Go.ChangeMaps (open_string shut_string)

theorem own : ownKnob Try.prog.godebug = none := by kernel_rfl
theorem laidOut : laidOutB Try.prog = true := by kernel_rfl

theorem take1 {α : Type} {cs : List α} {j : Nat} {v : α} (h : (cs.drop j).take 1 = [v]) : cs[j]? = some v := by
  have : ((cs.drop j).take 1)[0]? = some v := by rw [h]; rfl
  rw [List.getElem?_take_of_lt (by omega), List.getElem?_drop] at this
  simpa using this

theorem add_spot (b off i : Nat) : (⟨b, off, none⟩ : Addr).add i = ⟨b, off + i, none⟩ := by unfold Addr.add; split <;> simp_all
theorem cellsInt : Try.prog.cellsOf 3 = 1 := by kernel_rfl

def I64 (l : List Int) : Prop := ∀ n ∈ l, -9223372036854775808 ≤ n ∧ n ≤ 9223372036854775807
/-- A slice of integers that came in. -/
structure IntsIn (w : World) (A : Option Addr) (n cap : Nat) (l : List Int) : Prop where
  len : n = l.length
  room : n ≤ cap
  nil : A = none → cap = 0
  i64 : I64 l
  reads : Rd w A (iv l)

/-- Cells that each hold something of a kind, read as a list. -/
theorem rd_of {α : Type} [Inhabited α] {W : World} {ad : Addr} {len : Nat} (g : α → Value) (good : α → Prop) (h : ∀ i, i < len → ∃ x : α, good x ∧ W.cell? (ad.add i) = some (g x)) :
    ∃ l : List α, len = l.length ∧ (∀ x ∈ l, good x) ∧ Rd W (some ad) (l.map g) := by
  obtain ⟨f, hf⟩ := Deep.choose_lt h
  refine ⟨(List.range len).map f, by simp, ?_, ?_⟩
  · intro x hx
    obtain ⟨i, hi, rfl⟩ := List.mem_map.1 hx
    exact (hf i (List.mem_range.1 hi)).1
  · intro k u hk
    have hkl : k < len := by
      have := (List.getElem?_eq_some_iff.1 hk).1
      simpa using this
    have hu : u = g (f k) := by
      rw [List.getElem?_map, List.getElem?_map, List.getElem?_range hkl] at hk
      exact (Option.some.inj hk).symm
    subst hu
    obtain ⟨b, off, spot⟩ := ad
    have hs : spot = none := by
      have := World.cell?_spot (hf 0 (by omega)).2
      simpa [Addr.add] using this
    subst hs
    have hc := (hf k hkl).2
    rw [add_spot] at hc
    exact ⟨b, off, rfl, World.block_lt_of_cell? W _ hc, hc⟩

section
variable {H : Type} {enc : TypeId × Value → H} {W : World} {base : Nat} {spare : Nat → Bool} {held : Bool}

/-- The cells of a slice of which each element is one cell. -/
theorem row_of {T E : TypeId} (hT : Try.prog.underlying T = some (.slice E)) (hE : Try.prog.cellsOf E = 1) {v : Value} {fuel : Nat} {y : DataW H × List MemPlace}
    (hf : DataW.trod enc Try.prog W base spare held fuel T [v] = some y) :
    ∃ (A : Option Addr) (n cap : Nat), v = .slice A n cap ∧ n ≤ cap ∧ (A = none → cap = 0) ∧ (n = 0 ∨ ∃ ad, A = some ad ∧ ∀ i, i < n → ∃ u m x, W.cell? (ad.add i) = some u ∧ DataW.trod enc Try.prog W base spare held m E [u] = some x) := by
  rcases Deep.open_slice hT hf with ⟨hcs, _⟩ | ⟨ad, len, cap, m, n, D, Pl, hcs, hle, hl, _, hm, _, hi⟩
  · obtain rfl : v = _ := by simpa using hcs
    exact ⟨none, 0, 0, rfl, Nat.le_refl _, fun _ => rfl, .inl rfl⟩
  · obtain rfl : v = _ := by simpa using hcs
    have hml : len ≤ m := by rw [hm]; split <;> omega
    refine ⟨some ad, len, cap, rfl, by omega, (fun h => by cases h), .inr ⟨ad, rfl, fun i hil => ?_⟩⟩
    obtain ⟨cs', hc, ht⟩ := hi i (by omega)
    rw [hE] at hc
    obtain ⟨_, hlen, hat⟩ := World.cells?_some hc
    match cs', hlen with
    | [u], _ =>
      have := hat 0 (by omega)
      simp only [Deep.add_add, Nat.mul_one, Nat.add_zero, List.getElem?_cons_zero] at this
      exact ⟨u, _, _, this, ht⟩

theorem ints_of {v : Value} {fuel : Nat} {y : DataW H × List MemPlace} (hf : DataW.trod enc Try.prog W base spare held fuel 24 [v] = some y) :
    ∃ (A : Option Addr) (n cap : Nat) (l : List Int), v = .slice A n cap ∧ IntsIn W A n cap l := by
  obtain ⟨A, n, cap, rfl, h1, h2, h3⟩ := row_of Try.underlying24 cellsInt hf
  rcases h3 with rfl | ⟨ad, rfl, hi⟩
  · exact ⟨A, 0, cap, [], rfl, rfl, h1, h2, (fun x hx => by simp at hx), Rd.nil _ _⟩
  · obtain ⟨l, hl, hg, hr⟩ := rd_of (W := W) (ad := ad) (len := n) (fun c : Int => Value.int .i64 c) (fun c => -9223372036854775808 ≤ c ∧ c ≤ 9223372036854775807) (by
      intro i hil
      obtain ⟨u, m, x, hc, ht⟩ := hi i hil
      obtain ⟨a, k0, _, w0⟩ := DataW.trod_int Try.underlying3 ht
      obtain rfl : u = _ := by simpa using k0
      exact ⟨a, bounds_i64 w0, hc⟩)
    exact ⟨some ad, n, cap, l, rfl, hl, h1, h2, hg, hr⟩

theorem open_intl {v : Value} {d : DataW H} {ps : List MemPlace} {b0 : Nat} {r : Reach} (hval : Value.okWide Try.prog W r b0 24 v) (h : DataW.Trod enc Try.prog W base spare held 24 v d ps) :
    ∃ (A : Option Addr) (n cap : Nat) (l : List Int), v = .slice A n cap ∧ IntsIn W A n cap l := by
  obtain ⟨a, len, cap, rfl⟩ := okWide_slice Try.underlying24 hval
  obtain ⟨fuel, hf⟩ := h
  exact ints_of (v := .slice a len cap) hf

theorem cellsW : Try.prog.cellsOf 44 = 2 := by kernel_rfl
theorem cellsVv : Try.prog.cellsOf 23 = 3 := by kernel_rfl

/-- Two cells that read as a window hold one. -/
theorem win_cells {fuel : Nat} {cs : List Value} {x : DataW H × List MemPlace} (h : DataW.trod enc Try.prog W base spare held fuel 44 cs = some x) :
    ∃ p : Jt.Win, cs[0]? = some (.int .i64 p.1) ∧ cs[1]? = some (.int .i64 p.2) := by
  obtain ⟨xs, n, _, _, _, hlen, hf⟩ := DataW.trod_struct Try.underlying44 h
  have hx : ∀ i, i < 2 → ∃ y, xs[i]? = some y := fun i hi => ⟨_, List.getElem?_eq_getElem (by rw [hlen]; exact hi)⟩
  obtain ⟨y0, e0⟩ := hx 0 (by omega)
  obtain ⟨y1, e1⟩ := hx 1 (by omega)
  have g0 : DataW.trod enc Try.prog W base spare held n 3 ((cs.drop 0).take (Try.prog.cellsOf 3)) = xs[0]? := hf 0 _ rfl
  have g1 : DataW.trod enc Try.prog W base spare held n 3 ((cs.drop 1).take (Try.prog.cellsOf 3)) = xs[1]? := hf 1 _ rfl
  rw [e0, cellsInt] at g0
  rw [e1, cellsInt] at g1
  obtain ⟨a, k0, _, _⟩ := DataW.trod_int Try.underlying3 g0
  obtain ⟨b, k1, _, _⟩ := DataW.trod_int Try.underlying3 g1
  exact ⟨(a, b), take1 k0, take1 k1⟩

/-- A slice of windows that came in. -/
structure WinsIn (w : World) (A : Option Addr) (n : Nat) (l : List Jt.Win) : Prop where
  len : n = l.length
  reads : Jt.Wins w A l

theorem open_wins {v : Value} {d : DataW H} {ps : List MemPlace} {b0 : Nat} {r : Reach} (hval : Value.okWide Try.prog W r b0 27 v) (h : DataW.Trod enc Try.prog W base spare held 27 v d ps) :
    ∃ (A : Option Addr) (n cap : Nat) (l : List Jt.Win), v = .slice A n cap ∧ WinsIn W A n l := by
  obtain ⟨a, len, cap, rfl⟩ := okWide_slice Try.underlying27 hval
  obtain ⟨fuel, hf⟩ := h
  rcases Deep.open_slice Try.underlying27 hf with ⟨hcs, _⟩ | ⟨ad, len', cap', m, n, D, Pl, hcs, _, hl, _, hm, _, hi⟩
  · simp [Value.cells] at hcs
    obtain ⟨rfl, rfl, rfl⟩ := hcs
    exact ⟨none, 0, 0, [], rfl, rfl, fun k p h => by simp at h⟩
  · simp [Value.cells] at hcs
    obtain ⟨rfl, rfl, rfl⟩ := hcs
    have hml : len ≤ m := by rw [hm]; split <;> omega
    have hp : ∀ i, i < len → ∃ p : Jt.Win, W.cell? (ad.add (i * 2 + 0)) = some (.int .i64 p.1) ∧ W.cell? (ad.add (i * 2 + 1)) = some (.int .i64 p.2) := by
      intro i hil
      obtain ⟨cs', hc, ht⟩ := hi i (by omega)
      rw [cellsW] at hc
      obtain ⟨_, _, hat⟩ := World.cells?_some hc
      obtain ⟨p, k0, k1⟩ := win_cells ht
      simp only [Deep.add_add] at hat
      exact ⟨p, (hat 0 (by omega)).trans k0, (hat 1 (by omega)).trans k1⟩
    obtain ⟨f, hfp⟩ := Deep.choose_lt hp
    refine ⟨some ad, len, cap, (List.range len).map f, rfl, by simp, ?_⟩
    intro k p hk
    have hkl : k < len := by
      have := (List.getElem?_eq_some_iff.1 hk).1
      simpa using this
    have hpk : p = f k := by
      rw [List.getElem?_map, List.getElem?_range hkl] at hk
      exact (Option.some.inj hk).symm
    subst hpk
    obtain ⟨k0, k1⟩ := hfp k hkl
    obtain ⟨b, off, spot⟩ := ad
    have hs : spot = none := by
      have := World.cell?_spot (hfp 0 (by omega)).1
      simpa [Addr.add] using this
    subst hs
    simp only [add_spot, Nat.add_zero] at k0 k1
    have hblk : b < W.heap.size := World.block_lt_of_cell? W _ k0
    refine ⟨b, off, rfl, hblk, k0, ?_⟩
    rw [Nat.add_assoc]; exact k1

theorem open_valve {v : Value} {d : DataW H} {ps : List MemPlace} {b0 : Nat} {r : Reach} (hval : Value.okWide Try.prog W r b0 23 v) (h : DataW.Trod enc Try.prog W base spare held 23 v d ps) :
    ∃ x y z : Int, v = .agg #[.int .i64 x, .int .i64 y, .int .i64 z] := by
  obtain ⟨cs, rfl, hsz⟩ := okWide_struct Try.underlying23 hval
  rw [cellsVv] at hsz
  obtain ⟨fuel, hf⟩ := h
  have hl : (Value.agg cs).cells.toList = cs.toList := by simp [Value.cells]
  rw [hl] at hf
  obtain ⟨xs, n, _, _, _, hlen, hff⟩ := DataW.trod_struct Try.underlying23 hf
  have hx : ∀ i, i < 3 → ∃ y, xs[i]? = some y := fun i hi => ⟨_, List.getElem?_eq_getElem (by rw [hlen]; exact hi)⟩
  obtain ⟨y0, e0⟩ := hx 0 (by omega)
  obtain ⟨y1, e1⟩ := hx 1 (by omega)
  obtain ⟨y2, e2⟩ := hx 2 (by omega)
  have g0 : DataW.trod enc Try.prog W base spare held n 3 ((cs.toList.drop 0).take (Try.prog.cellsOf 3)) = xs[0]? := hff 0 _ rfl
  have g1 : DataW.trod enc Try.prog W base spare held n 3 ((cs.toList.drop 1).take (Try.prog.cellsOf 3)) = xs[1]? := hff 1 _ rfl
  have g2 : DataW.trod enc Try.prog W base spare held n 3 ((cs.toList.drop 2).take (Try.prog.cellsOf 3)) = xs[2]? := hff 2 _ rfl
  rw [e0, cellsInt] at g0
  rw [e1, cellsInt] at g1
  rw [e2, cellsInt] at g2
  obtain ⟨a, k0, _, _⟩ := DataW.trod_int Try.underlying3 g0
  obtain ⟨b, k1, _, _⟩ := DataW.trod_int Try.underlying3 g1
  obtain ⟨c, k2, _, _⟩ := DataW.trod_int Try.underlying3 g2
  have k0 := take1 k0
  have k1 := take1 k1
  have k2 := take1 k2
  obtain ⟨l⟩ := cs
  refine ⟨a, b, c, ?_⟩
  match l, hsz with
  | [c0, c1, c2], _ =>
    simp at k0 k1 k2
    subst k0 k1 k2
    rfl
end
namespace Jt
theorem from_len (l : List Win) (v : Valve) : ∀ (k : Nat) (p : List Int), (hitsFrom l v k p).length ≤ p.length := by
  intro k p
  induction p generalizing k with
  | nil => simp [hitsFrom]
  | cons h r ih =>
    have := ih (k + 1)
    by_cases ho : isOpen l (h + v.delay) = true
    · rw [from_open _ _ _ _ _ ho]; simp; omega
    · rw [from_shut _ _ _ _ _ (by simpa using ho)]; simp; omega
theorem hits_len (l : List Win) (v : Valve) (p : List Int) : (hits l v p).1.length ≤ p.length := by
  unfold hits
  split
  · simp
  · exact from_len l v 0 p
theorem add_len (v : Valve) (acc : List Win) (h : Int) : (add v acc h).length ≤ acc.length + 1 := by
  rcases List.eq_nil_or_concat acc with rfl | ⟨i, ⟨x, y⟩, rfl⟩
  · rw [add_first]; simp
  · rw [List.concat_eq_append]
    by_cases hj : (h + v.delay) < y ∨ (h + v.delay) - y < v.rest
    · rw [add_join v i x y h hj]; simp
    · rw [add_new v i x y h (by omega) (by omega)]; simp
theorem fold_len (v : Valve) : ∀ (l : List Int) (acc : List Win), (l.foldl (add v) acc).length ≤ acc.length + l.length := by
  intro l
  induction l with
  | nil => intro acc; simp
  | cons h r ih =>
    intro acc
    have h1 := ih (add v acc h)
    have h2 := add_len v acc h
    simp only [List.foldl_cons, List.length_cons]
    omega
theorem plan_len (v : Valve) (l : List Int) : (plan v l).1.length ≤ l.length := by
  unfold plan
  split
  · simp
  · have := fold_len v l []; simpa using this
end Jt
end Go.Proofs.Ytaaoeiffpldjmaa
