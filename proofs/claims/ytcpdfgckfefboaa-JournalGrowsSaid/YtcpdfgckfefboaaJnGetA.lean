/- What holds in the loop of Get. -/
import Derived.Test.YtcpdfgckfefboaaJnGet
namespace Go.Proofs.Ytcpdfgckfefboaa
open Go.RowKit
namespace Jn
theorem ints_bad {n : Nat} {l : List UInt8} (h : (Wp.takeI l).2.2 ≠ 0) : (ints (n + 1) l).2.2 = (Wp.takeI l).2.2 := by
  simp only [ints]
  rw [if_pos h]
theorem ints_ok {n : Nat} {l : List UInt8} (h : (Wp.takeI l).2.2 = 0) : ints (n + 1) l = ((Wp.takeI l).1 :: (ints n (l.drop (Wp.takeI l).2.1)).1, (ints n (l.drop (Wp.takeI l).2.1)).2.1, (ints n (l.drop (Wp.takeI l).2.1)).2.2) := by
  simp only [ints]
  rw [if_neg (by omega)]
end Jn
structure GetInv (w wr : World) (l : List UInt8) (k : Nat) (xs : List Int) (rest : List UInt8) : Prop where
  below : Below w.heap.size w wr
  size : w.heap.size + 4 ≤ wr.heap.size
  o0 : wr.cell? ⟨w.heap.size, 0, none⟩ = some (.int .i64 0)
  o1 : wr.cell? ⟨w.heap.size, 1, none⟩ = some (.int .i64 0)
  o2 : wr.cell? ⟨w.heap.size, 2, none⟩ = some (.int .i64 0)
  o3 : wr.cell? ⟨w.heap.size, 3, none⟩ = some (.int .i64 0)
  o4 : wr.cell? ⟨w.heap.size, 4, none⟩ = some (.int .i64 0)
  o5 : wr.cell? ⟨w.heap.size, 5, none⟩ = some (.int .i64 0)
  o6 : wr.cell? ⟨w.heap.size, 6, none⟩ = some (.slice none 0 0)
  er : wr.cell? ⟨w.heap.size + 1, 0, none⟩ = some (.int .i64 0)
  fo : ∀ j, wr.frozen? ⟨w.heap.size, j, none⟩ = false
  fe : wr.frozen? ⟨w.heap.size + 1, 0, none⟩ = false
  rdr : Rdr wr (w.heap.size + 2) rest
  arr : ∀ j, j < 6 → wr.cell? ⟨w.heap.size + 3, j, none⟩ = some (.int .i64 (xs.getD j 0))
  fa : ∀ j, wr.frozen? ⟨w.heap.size + 3, j, none⟩ = false
  xl : xs.length = k
  rl : rest.length ≤ l.length
  i0 : (Jn.ints 6 l).2.2 = (Jn.ints (6 - k) rest).2.2
  i1 : (Jn.ints 6 l).1 = xs ++ (Jn.ints (6 - k) rest).1
  i2 : (Jn.ints 6 l).2.1 = (Jn.ints (6 - k) rest).2.1

theorem cell_far (w : World) (b j : Nat) (v : Value) (p : Addr) (h : p.block ≠ b) : (w.setCell ⟨b, j, none⟩ v).cell? p = w.cell? p := World.cell?_of_block (Below.heap_setCell w ⟨b, j, none⟩ v p.block h)
theorem GetInv.step {w wr : World} {l : List UInt8} {k : Nat} {xs : List Int} {rest : List UInt8} (I : GetInv w wr l k xs rest) (hk : k < 6) (he : (Wp.takeI rest).2.2 = 0) (sv : Value) (hr : Rdr (wr.setCell ⟨w.heap.size + 2, 0, none⟩ sv) (w.heap.size + 2) (rest.drop (Wp.takeI rest).2.1)) :
    GetInv w ((wr.setCell ⟨w.heap.size + 2, 0, none⟩ sv).setCell ⟨w.heap.size + 3, k, none⟩ (.int .i64 (Wp.takeI rest).1)) l (k + 1) (xs ++ [(Wp.takeI rest).1]) (rest.drop (Wp.takeI rest).2.1) := by
  have hb := (I.below.setCell (p := ⟨w.heap.size + 2, 0, none⟩) (by simp) sv).setCell (p := ⟨w.heap.size + 3, k, none⟩) (by simp) (.int .i64 (Wp.takeI rest).1)
  have h2 : ∀ p : Addr, p.block ≠ w.heap.size + 2 → p.block ≠ w.heap.size + 3 → ((wr.setCell ⟨w.heap.size + 2, 0, none⟩ sv).setCell ⟨w.heap.size + 3, k, none⟩ (.int .i64 (Wp.takeI rest).1)).cell? p = wr.cell? p := fun p hp hq => (cell_far _ _ _ _ p hq).trans (cell_far _ _ _ _ p hp)
  have hf : ∀ p : Addr, ((wr.setCell ⟨w.heap.size + 2, 0, none⟩ sv).setCell ⟨w.heap.size + 3, k, none⟩ (.int .i64 (Wp.takeI rest).1)).frozen? p = wr.frozen? p := fun p => by simp
  have hs : ∀ (w : World) (p : Addr) (v : Value), (w.setCell p v).heap.size = w.heap.size := fun w p v => by simp [World.setCell]
  have h6 : 6 - k = (6 - (k + 1)) + 1 := by omega
  have hii := Jn.ints_ok (n := 6 - (k + 1)) he
  refine ⟨hb, by rw [hs, hs]; exact I.size, ?_, ?_, ?_, ?_, ?_, ?_, ?_, ?_, fun j => (hf _).trans (I.fo j), (hf _).trans I.fe, ?_, ?_, fun j => (hf _).trans (I.fa j), by simp [I.xl], by have := I.rl; rw [List.length_drop]; omega, ?_, ?_, ?_⟩
  · exact (h2 _ (by simp) (by simp)).trans I.o0
  · exact (h2 _ (by simp) (by simp)).trans I.o1
  · exact (h2 _ (by simp) (by simp)).trans I.o2
  · exact (h2 _ (by simp) (by simp)).trans I.o3
  · exact (h2 _ (by simp) (by simp)).trans I.o4
  · exact (h2 _ (by simp) (by simp)).trans I.o5
  · exact (h2 _ (by simp) (by simp)).trans I.o6
  · exact (h2 _ (by simp) (by simp)).trans I.er
  · obtain ⟨A, n, cap, g1, g2, g3, g5, g6, g7⟩ := hr.here
    refine ⟨⟨A, n, cap, (cell_far _ _ _ _ _ (by simp)).trans g1, g2, g3, g5, ?_, g7⟩, (hf _).trans I.rdr.free, by rw [hs, hs]; exact I.rdr.lt⟩
    exact g6.underB (B := w.heap.size + 2) g7 ((Below.refl _ _).setCell (p := ⟨w.heap.size + 3, k, none⟩) (by simp) _)
  · intro j hj
    by_cases hjk : j = k
    · subst hjk
      rw [World.cell?_setCell_same _ _ _ ((cell_far _ _ _ _ _ (by simp)).trans (I.arr j hj))]
      rw [List.getD_eq_getElem?_getD, List.getElem?_append_right (by rw [I.xl]; exact Nat.le_refl _), I.xl]
      simp
    · rw [World.cell?_setCell_other _ _ _ _ (by simp; try omega), cell_far _ _ _ _ _ (by simp), I.arr j hj]
      congr 2
      rw [List.getD_eq_getElem?_getD, List.getD_eq_getElem?_getD]
      rcases Nat.lt_or_ge j xs.length with h1 | h1
      · rw [List.getElem?_append_left h1]
      · rw [List.getElem?_eq_none h1, List.getElem?_eq_none (by rw [List.length_append, List.length_singleton]; have := I.xl; omega)]
  · rw [I.i0, h6, hii]
  · rw [I.i1, h6, hii]; simp
  · rw [I.i2, h6, hii]
theorem heap_alloc_size (w : World) (o : Obj) : (w.alloc o).heap.size = w.heap.size + 1 := by simp
theorem heap_four (w : World) (o0 o1 o2 o3 : Obj) : ((((w.alloc o0).alloc o1).alloc o2).alloc o3).heap[w.heap.size]? = some o0 ∧ ((((w.alloc o0).alloc o1).alloc o2).alloc o3).heap[w.heap.size + 1]? = some o1 ∧
    ((((w.alloc o0).alloc o1).alloc o2).alloc o3).heap[w.heap.size + 2]? = some o2 ∧ ((((w.alloc o0).alloc o1).alloc o2).alloc o3).heap[w.heap.size + 3]? = some o3 := by
  have e1 : (w.alloc o0).heap.size = w.heap.size + 1 := heap_alloc_size _ _
  have e2 : ((w.alloc o0).alloc o1).heap.size = w.heap.size + 2 := by rw [heap_alloc_size, e1]
  have e3 : (((w.alloc o0).alloc o1).alloc o2).heap.size = w.heap.size + 3 := by rw [heap_alloc_size, e2]
  refine ⟨?_, ?_, ?_, ?_⟩
  · rw [heap_alloc_old _ _ (by omega), heap_alloc_old _ _ (by omega), heap_alloc_old _ _ (by omega), heap_alloc_new]
  · rw [heap_alloc_old _ _ (by omega), heap_alloc_old _ _ (by omega), ← e1, heap_alloc_new]
  · rw [heap_alloc_old _ _ (by omega), ← e2, heap_alloc_new]
  · rw [← e3, heap_alloc_new]
theorem GetInv.start (w : World) (A : Option Addr) (n cap : Nat) (l : List UInt8) (hn : n = l.length) (hc : n ≤ cap) (h0 : A = none → cap = 0) (hr : Rd w A (bv l)) :
    GetInv w ((((w.alloc (.cells #[.int .i64 0, .int .i64 0, .int .i64 0, .int .i64 0, .int .i64 0, .int .i64 0, .slice none 0 0] 35)).alloc (.cells #[.int .i64 0] 36)).alloc (.cells #[.slice A n cap] 65)).alloc (.cells #[.int .i64 0, .int .i64 0, .int .i64 0, .int .i64 0, .int .i64 0, .int .i64 0] 58)) l 0 [] l := by
  have hb : Below w.heap.size w ((((w.alloc (.cells #[.int .i64 0, .int .i64 0, .int .i64 0, .int .i64 0, .int .i64 0, .int .i64 0, .slice none 0 0] 35)).alloc (.cells #[.int .i64 0] 36)).alloc (.cells #[.slice A n cap] 65)).alloc (.cells #[.int .i64 0, .int .i64 0, .int .i64 0, .int .i64 0, .int .i64 0, .int .i64 0] 58)) :=
    ((((Below.refl _ w).alloc (by simp) _).alloc (by simp) _).alloc (by simp; omega) _).alloc (by simp; omega) _
  have hA : l ≠ [] → ∀ a, A = some a → a.block < w.heap.size := fun hne a ha => by
    cases l with
    | nil => exact absurd rfl hne
    | cons c r =>
      obtain ⟨b, off, hA', hlt, _⟩ := hr 0 _ rfl
      rw [ha] at hA'
      cases hA'
      exact hlt
  refine ⟨hb, by simp, ?_, ?_, ?_, ?_, ?_, ?_, ?_, ?_, fun j => ?_, ?_, ⟨⟨A, n, cap, ?_, hn, hc, h0, hr.to hb, fun hne a ha => by have := hA hne a ha; omega⟩, ?_, by simp⟩, fun j => ?_, fun j => ?_, rfl, Nat.le_refl _, rfl, rfl, rfl⟩
  all_goals
    obtain ⟨q0, q1, q2, q3⟩ := heap_four w (.cells #[.int .i64 0, .int .i64 0, .int .i64 0, .int .i64 0, .int .i64 0, .int .i64 0, .slice none 0 0] 35) (.cells #[.int .i64 0] 36) (.cells #[.slice A n cap] 65) (.cells #[.int .i64 0, .int .i64 0, .int .i64 0, .int .i64 0, .int .i64 0, .int .i64 0] 58)
    generalize ((((w.alloc (.cells #[.int .i64 0, .int .i64 0, .int .i64 0, .int .i64 0, .int .i64 0, .int .i64 0, .slice none 0 0] 35)).alloc (.cells #[.int .i64 0] 36)).alloc (.cells #[.slice A n cap] 65)).alloc (.cells #[.int .i64 0, .int .i64 0, .int .i64 0, .int .i64 0, .int .i64 0, .int .i64 0] 58)) = W at q0 q1 q2 q3 ⊢
  · simp [World.cell?, q0]
  · simp [World.cell?, q0]
  · simp [World.cell?, q0]
  · simp [World.cell?, q0]
  · simp [World.cell?, q0]
  · simp [World.cell?, q0]
  · simp [World.cell?, q0]
  · simp [World.cell?, q1]
  · simp [World.frozen?, q0]
  · simp [World.frozen?, q1]
  · simp [World.cell?, q2]
  · simp [World.frozen?, q2]
  · intro hj
    have h6 : j = 0 ∨ j = 1 ∨ j = 2 ∨ j = 3 ∨ j = 4 ∨ j = 5 := by omega
    rcases h6 with rfl | rfl | rfl | rfl | rfl | rfl <;> simp [World.cell?, q3]
  · simp [World.frozen?, q3]
end Go.Proofs.Ytcpdfgckfefboaa
