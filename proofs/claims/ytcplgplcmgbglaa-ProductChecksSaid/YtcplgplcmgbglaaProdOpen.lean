/- How the arguments of this seat's laws read: integers, strings, products, lists of products. -/
import Derived.Test.YtcplgplcmgbglaaProdLaws
import Derived.OpenShut
import Derived.ShutString
import Derived.ChangeOld
import Derived.Deep.Slices
namespace Go.Proofs.Ytcplgplcmgbglaa
open Go.ChangeShapes Go.WideShapes Go.ChangeAt Go.RowKit
open Go.ChangeMaps (open_string shut_string)

theorem own : ownKnob Try.prog.godebug = none := by kernel_rfl
theorem laidOut : laidOutB Try.prog = true := by kernel_rfl

theorem take1 {α : Type} {cs : List α} {j : Nat} {v : α} (h : (cs.drop j).take 1 = [v]) : cs[j]? = some v := by
  have : ((cs.drop j).take 1)[0]? = some v := by rw [h]; rfl
  rw [List.getElem?_take_of_lt (by omega), List.getElem?_drop] at this
  simpa using this

theorem add_spot (b off i : Nat) : (⟨b, off, none⟩ : Addr).add i = ⟨b, off + i, none⟩ := by unfold Addr.add; split <;> simp_all

namespace Pd
instance : Inhabited Prod := ⟨⟨ByteArray.empty, 0, 0, 0, 0⟩⟩
theorem cells1 : Try.prog.cellsOf 9 = 1 := by kernel_rfl
theorem cells2 : Try.prog.cellsOf 3 = 1 := by kernel_rfl
theorem cellsP : Try.prog.cellsOf 36 = 5 := by kernel_rfl

section
variable {H : Type} {enc : TypeId × Value → H} {W : World} {base : Nat} {spare : Nat → Bool} {held : Bool}

/-- Five cells that read as a product hold one. -/
theorem prod_cells {fuel : Nat} {cs : List Value} {x : DataW H × List MemPlace} (h : DataW.trod enc Try.prog W base spare held fuel 36 cs = some x) :
    ∃ p : Prod, p.fit ∧ cs[0]? = some (.string p.code) ∧ cs[1]? = some (.int .i64 p.producer) ∧ cs[2]? = some (.int .i64 p.deposit) ∧ cs[3]? = some (.int .i64 p.material) ∧ cs[4]? = some (.int .i64 p.grams) := by
  obtain ⟨xs, n, _, _, _, hlen, hf⟩ := DataW.trod_struct Try.underlying36 h
  have hx : ∀ i, i < 5 → ∃ y, xs[i]? = some y := fun i hi => ⟨_, List.getElem?_eq_getElem (by rw [hlen]; exact hi)⟩
  obtain ⟨y0, e0⟩ := hx 0 (by omega)
  obtain ⟨y1, e1⟩ := hx 1 (by omega)
  obtain ⟨y2, e2⟩ := hx 2 (by omega)
  obtain ⟨y3, e3⟩ := hx 3 (by omega)
  obtain ⟨y4, e4⟩ := hx 4 (by omega)
  have g0 : DataW.trod enc Try.prog W base spare held n 9 ((cs.drop 0).take (Try.prog.cellsOf 9)) = xs[0]? := hf 0 _ rfl
  have g1 : DataW.trod enc Try.prog W base spare held n 3 ((cs.drop 1).take (Try.prog.cellsOf 3)) = xs[1]? := hf 1 _ rfl
  have g2 : DataW.trod enc Try.prog W base spare held n 3 ((cs.drop 2).take (Try.prog.cellsOf 3)) = xs[2]? := hf 2 _ rfl
  have g3 : DataW.trod enc Try.prog W base spare held n 3 ((cs.drop 3).take (Try.prog.cellsOf 3)) = xs[3]? := hf 3 _ rfl
  have g4 : DataW.trod enc Try.prog W base spare held n 3 ((cs.drop 4).take (Try.prog.cellsOf 3)) = xs[4]? := hf 4 _ rfl
  rw [e0] at g0
  rw [e1] at g1
  rw [e2] at g2
  rw [e3] at g3
  rw [e4] at g4
  rw [cells1] at g0
  rw [cells2] at g1 g2 g3 g4
  obtain ⟨s, k0, _, w0⟩ := DataW.trod_string Try.underlying9 g0
  obtain ⟨a, k1, _, w1⟩ := DataW.trod_int Try.underlying3 g1
  obtain ⟨b, k2, _, w2⟩ := DataW.trod_int Try.underlying3 g2
  obtain ⟨c, k3, _, w3⟩ := DataW.trod_int Try.underlying3 g3
  obtain ⟨d, k4, _, w4⟩ := DataW.trod_int Try.underlying3 g4
  exact ⟨⟨s, a, b, c, d⟩, ⟨w0, w1, w2, w3, w4⟩, take1 k0, take1 k1, take1 k2, take1 k3, take1 k4⟩

theorem open_prods {v : Value} {d : DataW H} {ps : List MemPlace} {b0 : Nat} {r : Reach} (hval : Value.okWide Try.prog W r b0 28 v) (h : DataW.Trod enc Try.prog W base spare held 28 v d ps) :
    ∃ (A : Option Addr) (cap : Nat) (l : List Prod), v = .slice A l.length cap ∧ Prods W A l := by
  obtain ⟨a, len, cap, rfl⟩ := okWide_slice Try.underlying28 hval
  obtain ⟨fuel, hf⟩ := h
  rcases Deep.open_slice Try.underlying28 hf with ⟨hcs, _⟩ | ⟨ad, len', cap', m, n, D, Pl, hcs, _, hl, _, hm, _, hi⟩
  · simp [Value.cells] at hcs
    obtain ⟨rfl, rfl, rfl⟩ := hcs
    exact ⟨none, 0, [], rfl, fun k p h => by simp at h⟩
  · simp [Value.cells] at hcs
    obtain ⟨rfl, rfl, rfl⟩ := hcs
    have hml : len ≤ m := by rw [hm]; split <;> omega
    have hp : ∀ i, i < len → ∃ p : Prod, p.fit ∧ W.cell? (ad.add (i * 5 + 0)) = some (.string p.code) ∧ W.cell? (ad.add (i * 5 + 1)) = some (.int .i64 p.producer) ∧ W.cell? (ad.add (i * 5 + 2)) = some (.int .i64 p.deposit) ∧ W.cell? (ad.add (i * 5 + 3)) = some (.int .i64 p.material) ∧ W.cell? (ad.add (i * 5 + 4)) = some (.int .i64 p.grams) := by
      intro i hil
      obtain ⟨cs', hc, ht⟩ := hi i (by omega)
      rw [cellsP] at hc
      obtain ⟨_, _, hat⟩ := World.cells?_some hc
      obtain ⟨p, hfit, k0, k1, k2, k3, k4⟩ := prod_cells ht
      simp only [Deep.add_add] at hat
      exact ⟨p, hfit, (hat 0 (by omega)).trans k0, (hat 1 (by omega)).trans k1, (hat 2 (by omega)).trans k2, (hat 3 (by omega)).trans k3, (hat 4 (by omega)).trans k4⟩
    obtain ⟨f, hfp⟩ := Deep.choose_lt hp
    refine ⟨some ad, cap, (List.range len).map f, by simp, ?_⟩
    intro k p hk
    have hkl : k < len := by
      have := (List.getElem?_eq_some_iff.1 hk).1
      simpa using this
    have hpk : p = f k := by
      rw [List.getElem?_map, List.getElem?_range hkl] at hk
      exact (Option.some.inj hk).symm
    subst hpk
    obtain ⟨hfit, k0, k1, k2, k3, k4⟩ := hfp k hkl
    obtain ⟨b, off, spot⟩ := ad
    have hs : spot = none := by
      have := World.cell?_spot (hfp 0 (by omega)).2.1
      simpa [Addr.add] using this
    subst hs
    simp only [add_spot, Nat.add_zero] at k0 k1 k2 k3 k4
    have hblk : b < W.heap.size := World.block_lt_of_cell? W _ k0
    refine ⟨b, off, rfl, hblk, hfit, k0, ?_, ?_, ?_, ?_⟩
    all_goals (rw [Nat.add_assoc]; assumption)
theorem open_prod {v : Value} {d : DataW H} {ps : List MemPlace} {b0 : Nat} {r : Reach} (hval : Value.okWide Try.prog W r b0 36 v) (h : DataW.Trod enc Try.prog W base spare held 36 v d ps) :
    ∃ p : Prod, v = p.val ∧ p.fit := by
  obtain ⟨cs, rfl, hsz⟩ := okWide_struct Try.underlying36 hval
  rw [cellsP] at hsz
  obtain ⟨fuel, hf⟩ := h
  obtain ⟨p, hfit, k0, k1, k2, k3, k4⟩ := prod_cells hf
  have hl : (Value.agg cs).cells.toList = cs.toList := by simp [Value.cells]
  rw [hl] at k0 k1 k2 k3 k4
  obtain ⟨l⟩ := cs
  refine ⟨p, ?_, hfit⟩
  match l, hsz with
  | [c0, c1, c2, c3, c4], _ =>
    simp at k0 k1 k2 k3 k4
    subst k0 k1 k2 k3 k4
    rfl
end
end Pd
end Go.Proofs.Ytcplgplcmgbglaa
