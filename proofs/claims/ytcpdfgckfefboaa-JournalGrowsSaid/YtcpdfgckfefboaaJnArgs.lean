/- How the arguments of this seat's laws read: bytes, events, lists of events. -/
import Derived.Test.YtcpdfgckfefboaaJnGreat
import Derived.OpenShut
import Derived.ShutString
import Derived.ChangeOld
import Derived.Deep.Slices
namespace Go.Proofs.Ytcpdfgckfefboaa
open Go.ChangeShapes Go.WideShapes Go.ChangeAt Go.RowKit
open Go.ChangeMaps (open_string shut_string)

/-- A slice of bytes that came in. -/
structure BytesIn (w : World) (A : Option Addr) (n cap : Nat) (l : List UInt8) : Prop where
  len : n = l.length
  room : n ≤ cap
  nil : A = none → cap = 0
  reads : Rd w A (bv l)

theorem own : ownKnob Try.prog.godebug = none := by kernel_rfl
theorem laidOut : laidOutB Try.prog = true := by kernel_rfl

theorem take1 {α : Type} {cs : List α} {j : Nat} {v : α} (h : (cs.drop j).take 1 = [v]) : cs[j]? = some v := by
  have : ((cs.drop j).take 1)[0]? = some v := by rw [h]; rfl
  rw [List.getElem?_take_of_lt (by omega), List.getElem?_drop] at this
  simpa using this

theorem add_spot (b off i : Nat) : (⟨b, off, none⟩ : Addr).add i = ⟨b, off + i, none⟩ := by unfold Addr.add; split <;> simp_all
theorem cellsU8 : Try.prog.cellsOf 5 = 1 := by kernel_rfl
theorem cellsInt : Try.prog.cellsOf 3 = 1 := by kernel_rfl
theorem cellsMix : Try.prog.cellsOf 33 = 1 := by kernel_rfl
theorem cellsEv : Try.prog.cellsOf 35 = 7 := by kernel_rfl

/-- Cells that each hold something of a kind, read as a list. -/
theorem rd_of {α : Type} [Inhabited α] {W : World} {ad : Addr} {len : Nat} (g : α → Value) (good : α → Prop) (h : ∀ i, i < len → ∃ x : α, good x ∧ W.cell? (ad.add i) = some (g x)) :
    ∃ l : List α, len = l.length ∧ (∀ x ∈ l, good x) ∧ Rd W (some ad) (l.map g) := by
  obtain ⟨f, hf⟩ := Deep.choose_lt h
  refine ⟨(List.range len).map f, by simp, ?_, ?_⟩
  · intro x hx
    obtain ⟨i, hi, rfl⟩ := List.mem_map.1 hx
    exact (hf i (List.mem_range.1 hi)).1
  · intro k u hk
    have hkl : k < len := by
      have := (List.getElem?_eq_some_iff.1 hk).1
      simpa using this
    have hu : u = g (f k) := by
      rw [List.getElem?_map, List.getElem?_map, List.getElem?_range hkl] at hk
      exact (Option.some.inj hk).symm
    subst hu
    obtain ⟨b, off, spot⟩ := ad
    have hs : spot = none := by
      have := World.cell?_spot (hf 0 (by omega)).2
      simpa [Addr.add] using this
    subst hs
    have hc := (hf k hkl).2
    rw [add_spot] at hc
    exact ⟨b, off, rfl, World.block_lt_of_cell? W _ hc, hc⟩

section
variable {H : Type} {enc : TypeId × Value → H} {W : World} {base : Nat} {spare : Nat → Bool} {held : Bool}

/-- The cells of a slice of which each element is one cell. -/
theorem row_of {T E : TypeId} (hT : Try.prog.underlying T = some (.slice E)) (hE : Try.prog.cellsOf E = 1) {v : Value} {fuel : Nat} {y : DataW H × List MemPlace}
    (hf : DataW.trod enc Try.prog W base spare held fuel T [v] = some y) :
    ∃ (A : Option Addr) (n cap : Nat), v = .slice A n cap ∧ n ≤ cap ∧ (A = none → cap = 0) ∧ (n = 0 ∨ ∃ ad, A = some ad ∧ ∀ i, i < n → ∃ u m x, W.cell? (ad.add i) = some u ∧ DataW.trod enc Try.prog W base spare held m E [u] = some x) := by
  rcases Deep.open_slice hT hf with ⟨hcs, _⟩ | ⟨ad, len, cap, m, n, D, Pl, hcs, hle, hl, _, hm, _, hi⟩
  · obtain rfl : v = _ := by simpa using hcs
    exact ⟨none, 0, 0, rfl, Nat.le_refl _, fun _ => rfl, .inl rfl⟩
  · obtain rfl : v = _ := by simpa using hcs
    have hml : len ≤ m := by rw [hm]; split <;> omega
    refine ⟨some ad, len, cap, rfl, by omega, (fun h => by cases h), .inr ⟨ad, rfl, fun i hil => ?_⟩⟩
    obtain ⟨cs', hc, ht⟩ := hi i (by omega)
    rw [hE] at hc
    obtain ⟨_, hlen, hat⟩ := World.cells?_some hc
    match cs', hlen with
    | [u], _ =>
      have := hat 0 (by omega)
      simp only [Deep.add_add, Nat.mul_one, Nat.add_zero, List.getElem?_cons_zero] at this
      exact ⟨u, _, _, this, ht⟩

theorem bytes_of {v : Value} {fuel : Nat} {y : DataW H × List MemPlace} (hf : DataW.trod enc Try.prog W base spare held fuel 23 [v] = some y) :
    ∃ (A : Option Addr) (n cap : Nat) (l : List UInt8), v = .slice A n cap ∧ BytesIn W A n cap l := by
  obtain ⟨A, n, cap, rfl, h1, h2, h3⟩ := row_of Try.underlying23 cellsU8 hf
  rcases h3 with rfl | ⟨ad, rfl, hi⟩
  · exact ⟨A, 0, cap, [], rfl, rfl, h1, h2, Rd.nil _ _⟩
  · obtain ⟨l, hl, _, hr⟩ := rd_of (W := W) (ad := ad) (len := n) (fun c : UInt8 => Value.int .u8 (c.toNat : Int)) (fun _ => True) (by
      intro i hil
      obtain ⟨u, m, x, hc, ht⟩ := hi i hil
      obtain ⟨a, k0, _, w0⟩ := DataW.trod_int Try.underlying5 ht
      obtain rfl : u = _ := by simpa using k0
      have wl := bounds_u8 w0
      refine ⟨UInt8.ofNat a.toNat, trivial, ?_⟩
      rw [hc]
      congr 2
      simp
      omega)
    exact ⟨some ad, n, cap, l, rfl, hl, h1, h2, hr⟩

theorem open_bytes {v : Value} {d : DataW H} {ps : List MemPlace} {b0 : Nat} {r : Reach} (hval : Value.okWide Try.prog W r b0 23 v) (h : DataW.Trod enc Try.prog W base spare held 23 v d ps) :
    ∃ (A : Option Addr) (n cap : Nat) (l : List UInt8), v = .slice A n cap ∧ BytesIn W A n cap l := by
  obtain ⟨a, len, cap, rfl⟩ := okWide_slice Try.underlying23 hval
  obtain ⟨fuel, hf⟩ := h
  exact bytes_of (v := .slice a len cap) hf


/-- A slice of integers that came in. -/
theorem mix_of {v : Value} {fuel : Nat} {y : DataW H × List MemPlace} (hf : DataW.trod enc Try.prog W base spare held fuel 33 [v] = some y) :
    ∃ (A : Option Addr) (n cap : Nat) (l : List Int), v = .slice A n cap ∧ n = l.length ∧ (A = none → cap = 0) ∧ Rd W A (iv l) := by
  obtain ⟨A, n, cap, rfl, h1, h2, h3⟩ := row_of Try.underlying33 cellsInt hf
  rcases h3 with rfl | ⟨ad, rfl, hi⟩
  · exact ⟨A, 0, cap, [], rfl, rfl, h2, Rd.nil _ _⟩
  · obtain ⟨l, hl, _, hr⟩ := rd_of (W := W) (ad := ad) (len := n) (fun c : Int => Value.int .i64 c) (fun _ => True) (by
      intro i hil
      obtain ⟨u, m, x, hc, ht⟩ := hi i hil
      obtain ⟨a, k0, _, w0⟩ := DataW.trod_int Try.underlying3 ht
      obtain rfl : u = _ := by simpa using k0
      exact ⟨a, trivial, hc⟩)
    exact ⟨some ad, n, cap, l, rfl, hl, h2, hr⟩

/-- No cell reads as a slice. -/
theorem row_nil {T E : TypeId} (hT : Try.prog.underlying T = some (.slice E)) {fuel : Nat} {y : DataW H × List MemPlace}
    (hf : DataW.trod enc Try.prog W base spare held fuel T [] = some y) : ∃ (A : Option Addr) (n cap : Nat), ([] : List Value) = [.slice A n cap] := by
  rcases Deep.open_slice hT hf with ⟨hcs, _⟩ | ⟨ad, len, cap, m, n, D, Pl, hcs, _⟩
  · exact ⟨_, _, _, hcs⟩
  · exact ⟨_, _, _, hcs⟩

/-- An event that came in. -/
structure EvIn (w : World) (E : Jn.Ev) (A : Option Addr) (n cap : Nat) : Prop where
  len : n = E.mix.length
  nil : A = none → cap = 0
  reads : Rd w A (iv E.mix)
/-- Seven cells that read as an event hold one. -/
theorem ev_cells {fuel : Nat} {cs : List Value} {x : DataW H × List MemPlace} (h : DataW.trod enc Try.prog W base spare held fuel 35 cs = some x) :
    ∃ (E : Jn.Ev) (A : Option Addr) (n cap : Nat), EvIn W E A n cap ∧ cs[0]? = some (.int .i64 E.kind) ∧ cs[1]? = some (.int .i64 E.at_) ∧ cs[2]? = some (.int .i64 E.a) ∧ cs[3]? = some (.int .i64 E.b) ∧ cs[4]? = some (.int .i64 E.c) ∧ cs[5]? = some (.int .i64 E.d) ∧ cs[6]? = some (.slice A n cap) := by
  obtain ⟨xs, n, _, _, _, hlen, hf⟩ := DataW.trod_struct Try.underlying35 h
  have hx : ∀ i, i < 7 → ∃ y, xs[i]? = some y := fun i hi => ⟨_, List.getElem?_eq_getElem (by rw [hlen]; exact hi)⟩
  obtain ⟨y0, e0⟩ := hx 0 (by omega)
  obtain ⟨y1, e1⟩ := hx 1 (by omega)
  obtain ⟨y2, e2⟩ := hx 2 (by omega)
  obtain ⟨y3, e3⟩ := hx 3 (by omega)
  obtain ⟨y4, e4⟩ := hx 4 (by omega)
  obtain ⟨y5, e5⟩ := hx 5 (by omega)
  obtain ⟨y6, e6⟩ := hx 6 (by omega)
  have g0 : DataW.trod enc Try.prog W base spare held n 3 ((cs.drop 0).take (Try.prog.cellsOf 3)) = xs[0]? := hf 0 _ rfl
  have g1 : DataW.trod enc Try.prog W base spare held n 3 ((cs.drop 1).take (Try.prog.cellsOf 3)) = xs[1]? := hf 1 _ rfl
  have g2 : DataW.trod enc Try.prog W base spare held n 3 ((cs.drop 2).take (Try.prog.cellsOf 3)) = xs[2]? := hf 2 _ rfl
  have g3 : DataW.trod enc Try.prog W base spare held n 3 ((cs.drop 3).take (Try.prog.cellsOf 3)) = xs[3]? := hf 3 _ rfl
  have g4 : DataW.trod enc Try.prog W base spare held n 3 ((cs.drop 4).take (Try.prog.cellsOf 3)) = xs[4]? := hf 4 _ rfl
  have g5 : DataW.trod enc Try.prog W base spare held n 3 ((cs.drop 5).take (Try.prog.cellsOf 3)) = xs[5]? := hf 5 _ rfl
  have g6 : DataW.trod enc Try.prog W base spare held n 33 ((cs.drop 6).take (Try.prog.cellsOf 33)) = xs[6]? := hf 6 _ rfl
  rw [e0, cellsInt] at g0
  rw [e1, cellsInt] at g1
  rw [e2, cellsInt] at g2
  rw [e3, cellsInt] at g3
  rw [e4, cellsInt] at g4
  rw [e5, cellsInt] at g5
  rw [e6, cellsMix] at g6
  obtain ⟨a0, k0, _, _⟩ := DataW.trod_int Try.underlying3 g0
  obtain ⟨a1, k1, _, _⟩ := DataW.trod_int Try.underlying3 g1
  obtain ⟨a2, k2, _, _⟩ := DataW.trod_int Try.underlying3 g2
  obtain ⟨a3, k3, _, _⟩ := DataW.trod_int Try.underlying3 g3
  obtain ⟨a4, k4, _, _⟩ := DataW.trod_int Try.underlying3 g4
  obtain ⟨a5, k5, _, _⟩ := DataW.trod_int Try.underlying3 g5
  have h6 : ∃ c6, (cs.drop 6).take 1 = [c6] := by
    rcases hd : (cs.drop 6).take 1 with _ | ⟨c6, r⟩
    · rw [hd] at g6
      obtain ⟨A, m, cap, hcs⟩ := row_nil Try.underlying33 g6
      cases hcs
    · have hl : ((cs.drop 6).take 1).length ≤ 1 := by rw [List.length_take]; omega
      rw [hd] at hl
      match r, hl with
      | [], _ => exact ⟨c6, rfl⟩
  obtain ⟨c6, hc6⟩ := h6
  rw [hc6] at g6
  obtain ⟨A, m, cap, l, rfl, hm, hcp, hrd⟩ := mix_of g6
  exact ⟨⟨a0, a1, a2, a3, a4, a5, l⟩, A, m, cap, ⟨hm, hcp, hrd⟩, take1 k0, take1 k1, take1 k2, take1 k3, take1 k4, take1 k5, take1 hc6⟩

theorem open_event {v : Value} {d : DataW H} {ps : List MemPlace} {b0 : Nat} {r : Reach} (hval : Value.okWide Try.prog W r b0 35 v) (h : DataW.Trod enc Try.prog W base spare held 35 v d ps) :
    ∃ (E : Jn.Ev) (A : Option Addr) (n cap : Nat), v = E.val A n cap ∧ EvIn W E A n cap := by
  obtain ⟨cs, rfl, hsz⟩ := okWide_struct Try.underlying35 hval
  rw [cellsEv] at hsz
  obtain ⟨fuel, hf⟩ := h
  have hl : (Value.agg cs).cells.toList = cs.toList := by simp [Value.cells]
  rw [hl] at hf
  obtain ⟨E, A, n, cap, hin, k0, k1, k2, k3, k4, k5, k6⟩ := ev_cells hf
  refine ⟨E, A, n, cap, ?_, hin⟩
  obtain ⟨l⟩ := cs
  match l, hsz with
  | [c0, c1, c2, c3, c4, c5, c6], _ =>
    simp at k0 k1 k2 k3 k4 k5 k6
    subst k0 k1 k2 k3 k4 k5 k6
    rfl

/-- A slice of events that came in. -/
structure EvsIn (w : World) (A : Option Addr) (n cap : Nat) (l : List Jn.Ev) : Prop where
  len : n = l.length
  reads : Jn.Evs w A l

theorem open_events {v : Value} {d : DataW H} {ps : List MemPlace} {b0 : Nat} {r : Reach} (hval : Value.okWide Try.prog W r b0 22 v) (h : DataW.Trod enc Try.prog W base spare held 22 v d ps) :
    ∃ (A : Option Addr) (n cap : Nat) (l : List Jn.Ev), v = .slice A n cap ∧ EvsIn W A n cap l := by
  obtain ⟨a, len, cap, rfl⟩ := okWide_slice Try.underlying22 hval
  obtain ⟨fuel, hf⟩ := h
  rcases Deep.open_slice Try.underlying22 hf with ⟨hcs, _⟩ | ⟨ad, len', cap', m, n, D, Pl, hcs, _, hl, _, hm, _, hi⟩
  · simp [Value.cells] at hcs
    obtain ⟨rfl, rfl, rfl⟩ := hcs
    exact ⟨none, 0, 0, [], rfl, rfl, fun k p h => by simp at h⟩
  · simp [Value.cells] at hcs
    obtain ⟨rfl, rfl, rfl⟩ := hcs
    have hml : len ≤ m := by rw [hm]; split <;> omega
    have hp : ∀ i, i < len → ∃ E : Jn.Ev, ∃ (A : Option Addr) (n cap : Nat), EvIn W E A n cap ∧ W.cell? (ad.add (i * 7 + 0)) = some (.int .i64 E.kind) ∧ W.cell? (ad.add (i * 7 + 1)) = some (.int .i64 E.at_) ∧ W.cell? (ad.add (i * 7 + 2)) = some (.int .i64 E.a) ∧ W.cell? (ad.add (i * 7 + 3)) = some (.int .i64 E.b) ∧ W.cell? (ad.add (i * 7 + 4)) = some (.int .i64 E.c) ∧ W.cell? (ad.add (i * 7 + 5)) = some (.int .i64 E.d) ∧ W.cell? (ad.add (i * 7 + 6)) = some (.slice A n cap) := by
      intro i hil
      obtain ⟨cs', hc, ht⟩ := hi i (by omega)
      rw [cellsEv] at hc
      obtain ⟨_, _, hat⟩ := World.cells?_some hc
      obtain ⟨E, A, n, cap, hin, k0, k1, k2, k3, k4, k5, k6⟩ := ev_cells ht
      simp only [Deep.add_add] at hat
      exact ⟨E, A, n, cap, hin, (hat 0 (by omega)).trans k0, (hat 1 (by omega)).trans k1, (hat 2 (by omega)).trans k2, (hat 3 (by omega)).trans k3, (hat 4 (by omega)).trans k4, (hat 5 (by omega)).trans k5, (hat 6 (by omega)).trans k6⟩
    haveI : Inhabited Jn.Ev := ⟨Jn.zero⟩
    obtain ⟨f, hfp⟩ := Deep.choose_lt hp
    refine ⟨some ad, len, cap, (List.range len).map f, rfl, by simp, ?_⟩
    intro k p hk
    have hkl : k < len := by
      have := (List.getElem?_eq_some_iff.1 hk).1
      simpa using this
    have hpk : p = f k := by
      rw [List.getElem?_map, List.getElem?_range hkl] at hk
      exact (Option.some.inj hk).symm
    subst hpk
    obtain ⟨A, n, cap, hin, k0, k1, k2, k3, k4, k5, k6⟩ := hfp k hkl
    obtain ⟨b, off, spot⟩ := ad
    have hs : spot = none := by
      obtain ⟨A', n', cap', _, j0, _⟩ := hfp 0 (by omega)
      have := World.cell?_spot j0
      simpa [Addr.add] using this
    subst hs
    simp only [add_spot, Nat.add_zero] at k0 k1 k2 k3 k4 k5 k6
    have hblk : b < W.heap.size := World.block_lt_of_cell? W _ k0
    refine ⟨b, off, rfl, hblk, A, n, cap, k0, ?_, ?_, ?_, ?_, ?_, ?_, hin.len, hin.nil, hin.reads⟩
    · rw [Nat.add_assoc]; exact k1
    · rw [Nat.add_assoc]; exact k2
    · rw [Nat.add_assoc]; exact k3
    · rw [Nat.add_assoc]; exact k4
    · rw [Nat.add_assoc]; exact k5
    · rw [Nat.add_assoc]; exact k6
end
end Go.Proofs.Ytcpdfgckfefboaa
