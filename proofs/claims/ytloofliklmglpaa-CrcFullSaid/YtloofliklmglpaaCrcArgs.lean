/- How the arguments of this seat's laws read: integers, strings, bytes, lists of integers, a value of each kind. -/
import Derived.Test.YtloofliklmglpaaCrcAwake
import Derived.OpenShut
import Derived.ShutString
import Derived.ChangeOld
import Derived.Deep.Slices
namespace Go.Proofs.Ytloofliklmglpaa
open Go.ChangeShapes Go.WideShapes Go.ChangeAt Go.RowKit
open Go.ChangeMaps (open_string shut_string)

/-- A slice of bytes that came in. -/
structure BytesIn (w : World) (A : Option Addr) (n cap : Nat) (l : List UInt8) : Prop where
  len : n = l.length
  room : n ≤ cap
  nil : A = none → cap = 0
  reads : Rd w A (bv l)

theorem own : ownKnob Try.prog.godebug = none := by kernel_rfl
theorem laidOut : laidOutB Try.prog = true := by kernel_rfl

theorem take1 {α : Type} {cs : List α} {j : Nat} {v : α} (h : (cs.drop j).take 1 = [v]) : cs[j]? = some v := by
  have : ((cs.drop j).take 1)[0]? = some v := by rw [h]; rfl
  rw [List.getElem?_take_of_lt (by omega), List.getElem?_drop] at this
  simpa using this

theorem add_spot (b off i : Nat) : (⟨b, off, none⟩ : Addr).add i = ⟨b, off + i, none⟩ := by unfold Addr.add; split <;> simp_all
theorem cellsU8 : Try.prog.cellsOf 5 = 1 := by kernel_rfl
theorem cellsInt : Try.prog.cellsOf 3 = 1 := by kernel_rfl

/-- Cells that each hold something of a kind, read as a list. -/
theorem rd_of {α : Type} [Inhabited α] {W : World} {ad : Addr} {len : Nat} (g : α → Value) (good : α → Prop) (h : ∀ i, i < len → ∃ x : α, good x ∧ W.cell? (ad.add i) = some (g x)) :
    ∃ l : List α, len = l.length ∧ (∀ x ∈ l, good x) ∧ Rd W (some ad) (l.map g) := by
  obtain ⟨f, hf⟩ := Deep.choose_lt h
  refine ⟨(List.range len).map f, by simp, ?_, ?_⟩
  · intro x hx
    obtain ⟨i, hi, rfl⟩ := List.mem_map.1 hx
    exact (hf i (List.mem_range.1 hi)).1
  · intro k u hk
    have hkl : k < len := by
      have := (List.getElem?_eq_some_iff.1 hk).1
      simpa using this
    have hu : u = g (f k) := by
      rw [List.getElem?_map, List.getElem?_map, List.getElem?_range hkl] at hk
      exact (Option.some.inj hk).symm
    subst hu
    obtain ⟨b, off, spot⟩ := ad
    have hs : spot = none := by
      have := World.cell?_spot (hf 0 (by omega)).2
      simpa [Addr.add] using this
    subst hs
    have hc := (hf k hkl).2
    rw [add_spot] at hc
    exact ⟨b, off, rfl, World.block_lt_of_cell? W _ hc, hc⟩

section
variable {H : Type} {enc : TypeId × Value → H} {W : World} {base : Nat} {spare : Nat → Bool} {held : Bool}

/-- The cells of a slice of which each element is one cell. -/
theorem row_of {T E : TypeId} (hT : Try.prog.underlying T = some (.slice E)) (hE : Try.prog.cellsOf E = 1) {v : Value} {fuel : Nat} {y : DataW H × List MemPlace}
    (hf : DataW.trod enc Try.prog W base spare held fuel T [v] = some y) :
    ∃ (A : Option Addr) (n cap : Nat), v = .slice A n cap ∧ n ≤ cap ∧ (A = none → cap = 0) ∧ (n = 0 ∨ ∃ ad, A = some ad ∧ ∀ i, i < n → ∃ u m x, W.cell? (ad.add i) = some u ∧ DataW.trod enc Try.prog W base spare held m E [u] = some x) := by
  rcases Deep.open_slice hT hf with ⟨hcs, _⟩ | ⟨ad, len, cap, m, n, D, Pl, hcs, hle, hl, _, hm, _, hi⟩
  · obtain rfl : v = _ := by simpa using hcs
    exact ⟨none, 0, 0, rfl, Nat.le_refl _, fun _ => rfl, .inl rfl⟩
  · obtain rfl : v = _ := by simpa using hcs
    have hml : len ≤ m := by rw [hm]; split <;> omega
    refine ⟨some ad, len, cap, rfl, by omega, (fun h => by cases h), .inr ⟨ad, rfl, fun i hil => ?_⟩⟩
    obtain ⟨cs', hc, ht⟩ := hi i (by omega)
    rw [hE] at hc
    obtain ⟨_, hlen, hat⟩ := World.cells?_some hc
    match cs', hlen with
    | [u], _ =>
      have := hat 0 (by omega)
      simp only [Deep.add_add, Nat.mul_one, Nat.add_zero, List.getElem?_cons_zero] at this
      exact ⟨u, _, _, this, ht⟩

theorem bytes_of {v : Value} {fuel : Nat} {y : DataW H × List MemPlace} (hf : DataW.trod enc Try.prog W base spare held fuel 22 [v] = some y) :
    ∃ (A : Option Addr) (n cap : Nat) (l : List UInt8), v = .slice A n cap ∧ BytesIn W A n cap l := by
  obtain ⟨A, n, cap, rfl, h1, h2, h3⟩ := row_of Try.underlying22 cellsU8 hf
  rcases h3 with rfl | ⟨ad, rfl, hi⟩
  · exact ⟨A, 0, cap, [], rfl, rfl, h1, h2, Rd.nil _ _⟩
  · obtain ⟨l, hl, _, hr⟩ := rd_of (W := W) (ad := ad) (len := n) (fun c : UInt8 => Value.int .u8 (c.toNat : Int)) (fun _ => True) (by
      intro i hil
      obtain ⟨u, m, x, hc, ht⟩ := hi i hil
      obtain ⟨a, k0, _, w0⟩ := DataW.trod_int Try.underlying5 ht
      obtain rfl : u = _ := by simpa using k0
      have wl := bounds_u8 w0
      refine ⟨UInt8.ofNat a.toNat, trivial, ?_⟩
      rw [hc]
      congr 2
      simp
      omega)
    exact ⟨some ad, n, cap, l, rfl, hl, h1, h2, hr⟩

theorem open_bytes {v : Value} {d : DataW H} {ps : List MemPlace} {b0 : Nat} {r : Reach} (hval : Value.okWide Try.prog W r b0 22 v) (h : DataW.Trod enc Try.prog W base spare held 22 v d ps) :
    ∃ (A : Option Addr) (n cap : Nat) (l : List UInt8), v = .slice A n cap ∧ BytesIn W A n cap l := by
  obtain ⟨a, len, cap, rfl⟩ := okWide_slice Try.underlying22 hval
  obtain ⟨fuel, hf⟩ := h
  exact bytes_of (v := .slice a len cap) hf

theorem cellsS : Try.prog.cellsOf 9 = 1 := by kernel_rfl
theorem cellsU64 : Try.prog.cellsOf 47 = 1 := by kernel_rfl
theorem cellsL : Try.prog.cellsOf 42 = 1 := by kernel_rfl

end

end Go.Proofs.Ytloofliklmglpaa
