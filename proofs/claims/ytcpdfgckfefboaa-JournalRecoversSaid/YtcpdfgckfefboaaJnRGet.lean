/- The walk of the reference's Get. -/
import Derived.Test.YtcpdfgckfefboaaJnRChk
import Derived.Test.YtcpdfgckfefboaaJnAwake
import Derived.Deep.RegionHeld
namespace Go.Proofs.Ytcpdfgckfefboaa
open Go.RowKit
/-- What holds in the loop: the result lies in block w.heap.size, the six integers in the next one. -/
structure RGInv (w wr : World) (l : List UInt8) (k : Nat) (xs : List Int) (p : Nat) : Prop where
  below : Below w.heap.size w wr
  size : wr.heap.size = w.heap.size + 2
  o0 : wr.cell? ⟨w.heap.size, 0, none⟩ = some (.int .i64 0)
  o1 : wr.cell? ⟨w.heap.size, 1, none⟩ = some (.int .i64 0)
  o2 : wr.cell? ⟨w.heap.size, 2, none⟩ = some (.int .i64 0)
  o3 : wr.cell? ⟨w.heap.size, 3, none⟩ = some (.int .i64 0)
  o4 : wr.cell? ⟨w.heap.size, 4, none⟩ = some (.int .i64 0)
  o5 : wr.cell? ⟨w.heap.size, 5, none⟩ = some (.int .i64 0)
  o6 : wr.cell? ⟨w.heap.size, 6, none⟩ = some (.slice none 0 0)
  fo : ∀ j, wr.frozen? ⟨w.heap.size, j, none⟩ = false
  arr : ∀ j, j < 6 → wr.cell? ⟨w.heap.size + 1, j, none⟩ = some (.int .i64 (xs.getD j 0))
  fa : ∀ j, wr.frozen? ⟨w.heap.size + 1, j, none⟩ = false
  xl : xs.length = k
  pl : p ≤ l.length
  i0 : (Jn.ints 6 l).2.2 = (Jn.ints (6 - k) (l.drop p)).2.2
  i1 : (Jn.ints 6 l).1 = xs ++ (Jn.ints (6 - k) (l.drop p)).1
  i2 : (Jn.ints 6 l).2.1 = (Jn.ints (6 - k) (l.drop p)).2.1
theorem RGInv.step {w wr : World} {l : List UInt8} {k : Nat} {xs : List Int} {p : Nat} (I : RGInv w wr l k xs p) (hk : k < 6) (x : Int) (j : Nat) (ht : Wp.takeI (l.drop p) = (x, j, 0)) :
    RGInv w (wr.setCell ⟨w.heap.size + 1, k, none⟩ (.int .i64 x)) l (k + 1) (xs ++ [x]) (p + j) := by
  have hb := I.below.setCell (p := ⟨w.heap.size + 1, k, none⟩) (by simp) (.int .i64 x)
  have h2 : ∀ q : Addr, q.block ≠ w.heap.size + 1 → (wr.setCell ⟨w.heap.size + 1, k, none⟩ (.int .i64 x)).cell? q = wr.cell? q := fun q hq => cell_far _ _ _ _ q hq
  have hf : ∀ q : Addr, (wr.setCell ⟨w.heap.size + 1, k, none⟩ (.int .i64 x)).frozen? q = wr.frozen? q := fun q => by simp
  have h6 : 6 - k = (6 - (k + 1)) + 1 := by omega
  have hii := Jn.ints_ok (n := 6 - (k + 1)) (l := l.drop p) (by rw [ht])
  rw [ht] at hii
  simp only [List.drop_drop] at hii
  have hbd := (Wp.takeI_bd (l.drop p)).1
  rw [ht, List.length_drop] at hbd
  simp only at hbd
  have hpl := I.pl
  refine ⟨hb, by rw [set_size]; exact I.size, ?_, ?_, ?_, ?_, ?_, ?_, ?_, fun j => (hf _).trans (I.fo j), ?_, fun j => (hf _).trans (I.fa j), by simp [I.xl], by omega, ?_, ?_, ?_⟩
  · exact (h2 _ (by simp)).trans I.o0
  · exact (h2 _ (by simp)).trans I.o1
  · exact (h2 _ (by simp)).trans I.o2
  · exact (h2 _ (by simp)).trans I.o3
  · exact (h2 _ (by simp)).trans I.o4
  · exact (h2 _ (by simp)).trans I.o5
  · exact (h2 _ (by simp)).trans I.o6
  · intro i hi
    by_cases hik : i = k
    · subst hik
      rw [World.cell?_setCell_same _ _ _ (I.arr i hi)]
      rw [List.getD_eq_getElem?_getD, List.getElem?_append_right (by rw [I.xl]; exact Nat.le_refl _), I.xl]
      simp
    · rw [World.cell?_setCell_other _ _ _ _ (by simp; try omega), I.arr i hi]
      congr 2
      rw [List.getD_eq_getElem?_getD, List.getD_eq_getElem?_getD]
      rcases Nat.lt_or_ge i xs.length with h1 | h1
      · rw [List.getElem?_append_left h1]
      · rw [List.getElem?_eq_none h1, List.getElem?_eq_none (by rw [List.length_append, List.length_singleton]; have := I.xl; omega)]
  · rw [I.i0, h6, hii]
  · rw [I.i1, h6, hii]; simp
  · rw [I.i2, h6, hii]
theorem RGInv.start (w : World) (l : List UInt8) : RGInv w ((w.alloc (.cells #[.int .i64 0, .int .i64 0, .int .i64 0, .int .i64 0, .int .i64 0, .int .i64 0, .slice none 0 0] 35)).alloc (.cells #[.int .i64 0, .int .i64 0, .int .i64 0, .int .i64 0, .int .i64 0, .int .i64 0] 3)) l 0 [] 0 := by
  have e1 : (w.alloc (.cells #[.int .i64 0, .int .i64 0, .int .i64 0, .int .i64 0, .int .i64 0, .int .i64 0, .slice none 0 0] 35)).heap.size = w.heap.size + 1 := by simp
  have q0 : ((w.alloc (.cells #[.int .i64 0, .int .i64 0, .int .i64 0, .int .i64 0, .int .i64 0, .int .i64 0, .slice none 0 0] 35)).alloc (.cells #[.int .i64 0, .int .i64 0, .int .i64 0, .int .i64 0, .int .i64 0, .int .i64 0] 3)).heap[w.heap.size]? = some (.cells #[.int .i64 0, .int .i64 0, .int .i64 0, .int .i64 0, .int .i64 0, .int .i64 0, .slice none 0 0] 35) := by
    rw [heap_alloc_old _ _ (by omega), heap_alloc_new]
  have q1 : ((w.alloc (.cells #[.int .i64 0, .int .i64 0, .int .i64 0, .int .i64 0, .int .i64 0, .int .i64 0, .slice none 0 0] 35)).alloc (.cells #[.int .i64 0, .int .i64 0, .int .i64 0, .int .i64 0, .int .i64 0, .int .i64 0] 3)).heap[w.heap.size + 1]? = some (.cells #[.int .i64 0, .int .i64 0, .int .i64 0, .int .i64 0, .int .i64 0, .int .i64 0] 3) := by
    rw [← e1, heap_alloc_new]
  have hb : Below w.heap.size w ((w.alloc (.cells #[.int .i64 0, .int .i64 0, .int .i64 0, .int .i64 0, .int .i64 0, .int .i64 0, .slice none 0 0] 35)).alloc (.cells #[.int .i64 0, .int .i64 0, .int .i64 0, .int .i64 0, .int .i64 0, .int .i64 0] 3)) := ((Below.refl _ w).alloc (by simp) _).alloc (by simp) _
  have hs : ((w.alloc (.cells #[.int .i64 0, .int .i64 0, .int .i64 0, .int .i64 0, .int .i64 0, .int .i64 0, .slice none 0 0] 35)).alloc (.cells #[.int .i64 0, .int .i64 0, .int .i64 0, .int .i64 0, .int .i64 0, .int .i64 0] 3)).heap.size = w.heap.size + 2 := by simp
  generalize (w.alloc (.cells #[.int .i64 0, .int .i64 0, .int .i64 0, .int .i64 0, .int .i64 0, .int .i64 0, .slice none 0 0] 35)).alloc (.cells #[.int .i64 0, .int .i64 0, .int .i64 0, .int .i64 0, .int .i64 0, .int .i64 0] 3) = W at q0 q1 hb hs ⊢
  refine ⟨hb, hs, ?_, ?_, ?_, ?_, ?_, ?_, ?_, fun j => ?_, ?_, fun j => ?_, rfl, by omega, by rw [List.drop_zero], by rw [List.drop_zero]; rfl, by rw [List.drop_zero]⟩
  · simp [World.cell?, q0]
  · simp [World.cell?, q0]
  · simp [World.cell?, q0]
  · simp [World.cell?, q0]
  · simp [World.cell?, q0]
  · simp [World.cell?, q0]
  · simp [World.cell?, q0]
  · simp [World.frozen?, q0]
  · intro j hj
    have h6 : j = 0 ∨ j = 1 ∨ j = 2 ∨ j = 3 ∨ j = 4 ∨ j = 5 := by omega
    rcases h6 with rfl | rfl | rfl | rfl | rfl | rfl <;> simp [World.cell?, q1]
  · simp [World.frozen?, q1]
/-- The result's cells, as they stand before the end. -/
structure ROut (w wr : World) : Prop where
  below : Below w.heap.size w wr
  lt : w.heap.size < wr.heap.size
  o0 : wr.cell? ⟨w.heap.size, 0, none⟩ = some (.int .i64 0)
  o1 : wr.cell? ⟨w.heap.size, 1, none⟩ = some (.int .i64 0)
  o2 : wr.cell? ⟨w.heap.size, 2, none⟩ = some (.int .i64 0)
  o3 : wr.cell? ⟨w.heap.size, 3, none⟩ = some (.int .i64 0)
  o4 : wr.cell? ⟨w.heap.size, 4, none⟩ = some (.int .i64 0)
  o5 : wr.cell? ⟨w.heap.size, 5, none⟩ = some (.int .i64 0)
  o6 : wr.cell? ⟨w.heap.size, 6, none⟩ = some (.slice none 0 0)
  fo : ∀ j, wr.frozen? ⟨w.heap.size, j, none⟩ = false
theorem RGInv.outs {w wr : World} {l : List UInt8} {k : Nat} {xs : List Int} {p : Nat} (I : RGInv w wr l k xs p) : ROut w wr :=
  ⟨I.below, by have := I.size; omega, I.o0, I.o1, I.o2, I.o3, I.o4, I.o5, I.o6, I.fo⟩
theorem ROut.to {w wr w' : World} (I : ROut w wr) (hb : Below wr.heap.size wr w') : ROut w w' := by
  have hc : ∀ j, w'.cell? ⟨w.heap.size, j, none⟩ = wr.cell? ⟨w.heap.size, j, none⟩ := fun j => hb.cell (p := ⟨w.heap.size, j, none⟩) I.lt
  have hf : ∀ j, w'.frozen? ⟨w.heap.size, j, none⟩ = wr.frozen? ⟨w.heap.size, j, none⟩ := fun j => frozen_below hb (p := ⟨w.heap.size, j, none⟩) I.lt
  exact ⟨on I.below hb, Nat.lt_of_lt_of_le I.lt hb.size, (hc _).trans I.o0, (hc _).trans I.o1, (hc _).trans I.o2, (hc _).trans I.o3, (hc _).trans I.o4, (hc _).trans I.o5, (hc _).trans I.o6, fun j => (hf _).trans (I.fo j)⟩
theorem ROut.wrote {w wr : World} (I : ROut w wr) (x0 x1 x2 x3 x4 x5 x6 : Value) : (laid wr w.heap.size x0 x1 x2 x3 x4 x5 x6).cell? ⟨w.heap.size, 0, none⟩ = some x0 ∧ (laid wr w.heap.size x0 x1 x2 x3 x4 x5 x6).cell? ⟨w.heap.size, 1, none⟩ = some x1 ∧ (laid wr w.heap.size x0 x1 x2 x3 x4 x5 x6).cell? ⟨w.heap.size, 2, none⟩ = some x2 ∧ (laid wr w.heap.size x0 x1 x2 x3 x4 x5 x6).cell? ⟨w.heap.size, 3, none⟩ = some x3 ∧ (laid wr w.heap.size x0 x1 x2 x3 x4 x5 x6).cell? ⟨w.heap.size, 4, none⟩ = some x4 ∧ (laid wr w.heap.size x0 x1 x2 x3 x4 x5 x6).cell? ⟨w.heap.size, 5, none⟩ = some x5 ∧ (laid wr w.heap.size x0 x1 x2 x3 x4 x5 x6).cell? ⟨w.heap.size, 6, none⟩ = some x6 ∧ Below w.heap.size w (laid wr w.heap.size x0 x1 x2 x3 x4 x5 x6) := by
  obtain ⟨l0, l1, l2, l3, l4, l5, l6⟩ := laid_cells wr w.heap.size x0 x1 x2 x3 x4 x5 x6 _ _ _ _ _ _ _ I.o0 I.o1 I.o2 I.o3 I.o4 I.o5 I.o6
  exact ⟨l0, l1, l2, l3, l4, l5, l6, laid_below I.below _ (Nat.le_refl _) _ _ _ _ _ _ _⟩
namespace Jn
theorem get_bad1 {l : List UInt8} {er : Int} (h : (ints 6 l).2.2 = er) (he : er ≠ 0) : get l = (zero, er) := by
  unfold get
  rw [h, if_pos he]
theorem get_bad2 {l r : List UInt8} {xs : List Int} {er : Int} (h : ints 6 l = (xs, r, 0)) (ht : (Wp.takeN r 16).2.2 = er) (he : er ≠ 0) : get l = (zero, er) := by
  unfold get
  rw [h]
  simp only
  rw [if_neg (by simp), ht, if_pos he]
theorem get_bad3 {l r : List UInt8} {xs m : List Int} {k : Nat} (h : ints 6 l = (xs, r, 0)) (ht : Wp.takeN r 16 = (m, k, 0)) (hk : k < r.length) : get l = (zero, 3) := by
  unfold get
  rw [h]
  simp only
  rw [if_neg (by simp), ht]
  simp only
  rw [if_neg (by simp), if_pos hk]
theorem get_last {l r : List UInt8} {xs m : List Int} {k : Nat} (h : ints 6 l = (xs, r, 0)) (ht : Wp.takeN r 16 = (m, k, 0)) (hk : ¬ k < r.length) : get l = if check (ev xs m) ≠ 0 then (zero, check (ev xs m)) else (ev xs m, 0) := by
  unfold get
  rw [h]
  simp only
  rw [if_neg (by simp), ht]
  simp only
  rw [if_neg (by simp), if_neg hk]
end Jn

set_option maxRecDepth 100000 in
set_option maxHeartbeats 6400000 in
theorem rget_any (A : Option Addr) (n cap : Nat) (l : List UInt8) (hn : n = l.length) (hcap : n ≤ cap) (w : World) (hr : Rd w A (bv l)) (hl : l.length ≤ 1000000) :
    Calls Try.prog 24 #[.slice A n cap] w (RetEv w (Jn.get l)) := by
  have HI := Lib.hid (RGInv.start w l)
  have HR := Lib.hid hr
  have HN : Bx (n = l.length) := ⟨hn⟩
  have hnl : n ≤ 1000000 := by omega
  clear hn hr hl
  go_enter Try.func24, Try.ntmps24
  go_wp2
  generalize (w.alloc (.cells #[.int .i64 0, .int .i64 0, .int .i64 0, .int .i64 0, .int .i64 0, .int .i64 0, .slice none 0 0] 35)).alloc (.cells #[.int .i64 0, .int .i64 0, .int .i64 0, .int .i64 0, .int .i64 0, .int .i64 0] 3) = w0 at HI ⊢
  go_loopw [5, 6] (fun q i wr => ∃ (k p : Nat) (xs : List Int), k ≤ 6 ∧ p ≤ n ∧ i = .int .i64 (k : Int) ∧ q = .int .i64 (p : Int) ∧ Bx (RGInv w wr l k xs p)) (fun _ i _ => 6 - (intOf i).toNat)
  case atStart => exact ⟨0, 0, [], by omega, by omega, rfl, rfl, ⟨HI.out⟩⟩
  case round =>
    obtain ⟨k, p, xs, hk, hp, rfl, rfl, HG⟩ := hrel
    have hrd : Rd wr (if cap = p then A else A.map fun x => x.add p) (bv (l.drop p)) := by
      have := (HR.out.below (Nat.le_refl _) HG.out.below).drop p cap (by rw [bv_length, ← HN.out]; exact hcap)
      rw [← bv_drop] at this
      exact this
    have hdl : n - p = (l.drop p).length := by rw [List.length_drop, HN.out]
    by_cases hlt : k < 6
    · have hki : (k : Int) < 6 := by omega
      have HT := Lib.hid (rtakeint_any (if cap = p then A else A.map fun x => x.add p) (n - p) (cap - p) (l.drop p) hdl wr hrd (by rw [List.length_drop, ← HN.out]; omega))
      have hbd := Wp.takeI_bd (l.drop p)
      rw [List.length_drop, ← HN.out] at hbd
      have HE : Bx ((Wp.takeI (l.drop p)).2.2 ≠ 0 → Jn.get l = (Jn.zero, (Wp.takeI (l.drop p)).2.2)) := ⟨fun h => Jn.get_bad1 (by rw [HG.out.i0, show 6 - k = (6 - (k + 1)) + 1 by omega, Jn.ints_bad h]) h⟩
      have HST : Bx ((Wp.takeI (l.drop p)).2.2 = 0 → RGInv w (wr.setCell ⟨w.heap.size + 1, k, none⟩ (.int .i64 (Wp.takeI (l.drop p)).1)) l (k + 1) (xs ++ [(Wp.takeI (l.drop p)).1]) (p + (Wp.takeI (l.drop p)).2.1)) := ⟨fun h => HG.out.step hlt _ _ (by rw [← h])⟩
      have hx : wr.cell? ⟨w.heap.size + 1, k, none⟩ = some (.int .i64 (xs.getD k 0)) := HG.out.arr k hlt
      have hfx : wr.frozen? ⟨w.heap.size + 1, k, none⟩ = false := HG.out.fa k
      generalize xs.getD k 0 = xk at hx
      rcases hti : Wp.takeI (l.drop p) with ⟨x, j, er⟩
      rw [hti] at HT HE HST hbd
      simp only at HT HE HST hbd
      obtain ⟨hj1, hj2, _, _⟩ := hbd
      have hpn : (p : Int) ≤ (n : Int) := by omega
      by_cases her : er = 0
      · subst her
        have hj0 := hj2 rfl
        have hck : cap ≠ p := by omega
        rw [if_neg hck] at HT
        have HS2 := Lib.hid (HST.out rfl)
        have hpj : p + j ≤ n := by omega
        clear HST HE hrd hdl hti hj2
        go_wp2_with fail
        refine (HT.out).mono ?_
        rintro e w' ⟨rfl, rfl⟩
        go_wp2
        go_roundw
        case rel => exact ⟨k + 1, p + j, xs ++ [x], by omega, by omega, by go_num, by go_num, ⟨HS2.out⟩⟩
        case measure => simp [intOf]; omega
      · have HF : Bx (Jn.get l = (Jn.zero, er)) := ⟨HE.out her⟩
        have herf : (er == 0) = false := beq_f her
        have hern : (er != 0) = true := by simp [her]
        have HO : Bx (ROut w wr) := ⟨HG.out.outs⟩
        obtain ⟨_, _, o0, o1, o2, o3, o4, o5, o6, fo⟩ := HG.out.outs
        have f0 := fo 0
        have f1 := fo 1
        have f2 := fo 2
        have f3 := fo 3
        have f4 := fo 4
        have f5 := fo 5
        have f6 := fo 6
        clear HST HE hrd hdl hti hj2 her fo hx hfx
        by_cases hck : cap = p
        · have hpn2 : n = p := by omega
          subst hck
          subst hpn2
          rw [if_pos rfl, Nat.sub_self] at HT
          go_wp2_with fail
          refine (HT.out).mono ?_
          rintro e w' ⟨rfl, rfl⟩
          go_wp2
          clear o0 o1 o2 o3 o4 o5 o6 f0 f1 f2 f3 f4 f5 f6
          show bodyPost _ _ _ _ _ (laid wr w.heap.size (.int .i64 0) (.int .i64 0) (.int .i64 0) (.int .i64 0) (.int .i64 0) (.int .i64 0) (.slice none 0 0))
          obtain ⟨l0, l1, l2, l3, l4, l5, l6, hbl⟩ := HO.out.wrote (.int .i64 0) (.int .i64 0) (.int .i64 0) (.int .i64 0) (.int .i64 0) (.int .i64 0) (.slice none 0 0)
          have HBL := Lib.hid hbl
          clear hbl
          generalize laid wr w.heap.size (.int .i64 0) (.int .i64 0) (.int .i64 0) (.int .i64 0) (.int .i64 0) (.int .i64 0) (.slice none 0 0) = wF at l0 l1 l2 l3 l4 l5 l6 HBL ⊢
          exact bodyPost_ret (v := .tuple #[.agg #[.int .i64 0, .int .i64 0, .int .i64 0, .int .i64 0, .int .i64 0, .int .i64 0, .slice none 0 0], .int .i64 er]) (by simp [results, Try.results24, go_sem, l0, l1, l2, l3, l4, l5, l6]) rfl (RetEv.fail HF.out HBL.out)
        · rw [if_neg hck] at HT
          go_wp2_with fail
          refine (HT.out).mono ?_
          rintro e w' ⟨rfl, rfl⟩
          go_wp2
          clear o0 o1 o2 o3 o4 o5 o6 f0 f1 f2 f3 f4 f5 f6
          show bodyPost _ _ _ _ _ (laid wr w.heap.size (.int .i64 0) (.int .i64 0) (.int .i64 0) (.int .i64 0) (.int .i64 0) (.int .i64 0) (.slice none 0 0))
          obtain ⟨l0, l1, l2, l3, l4, l5, l6, hbl⟩ := HO.out.wrote (.int .i64 0) (.int .i64 0) (.int .i64 0) (.int .i64 0) (.int .i64 0) (.int .i64 0) (.slice none 0 0)
          have HBL := Lib.hid hbl
          clear hbl
          generalize laid wr w.heap.size (.int .i64 0) (.int .i64 0) (.int .i64 0) (.int .i64 0) (.int .i64 0) (.int .i64 0) (.slice none 0 0) = wF at l0 l1 l2 l3 l4 l5 l6 HBL ⊢
          exact bodyPost_ret (v := .tuple #[.agg #[.int .i64 0, .int .i64 0, .int .i64 0, .int .i64 0, .int .i64 0, .int .i64 0, .slice none 0 0], .int .i64 er]) (by simp [results, Try.results24, go_sem, l0, l1, l2, l3, l4, l5, l6]) rfl (RetEv.fail HF.out HBL.out)
    · have hk6 : k = 6 := by omega
      subst hk6
      have hki : ¬ ((6 : Nat) : Int) < 6 := by omega
      have hxl := HG.out.xl
      obtain ⟨x0, x1, x2, x3, x4, x5, rfl⟩ : ∃ x0 x1 x2 x3 x4 x5, xs = [x0, x1, x2, x3, x4, x5] := by
        match xs, hxl with
        | [x0, x1, x2, x3, x4, x5], _ => exact ⟨x0, x1, x2, x3, x4, x5, rfl⟩
      have HIN : Bx (Jn.ints 6 l = ([x0, x1, x2, x3, x4, x5], l.drop p, 0)) := ⟨by
        have e0 := HG.out.i0
        have e1 := HG.out.i1
        have e2 := HG.out.i2
        have hz : Jn.ints (6 - 6) (l.drop p) = ([], l.drop p, 0) := rfl
        rw [hz] at e0 e1 e2
        exact Prod.ext (by rw [e1]; rfl) (Prod.ext e2 e0)⟩
      have ha : ∀ j, j < 6 → wr.cell? ⟨w.heap.size + 1, j, none⟩ = some (.int .i64 ([x0, x1, x2, x3, x4, x5].getD j 0)) := HG.out.arr
      have hsz := HG.out.size
      have HSM : Bx (∀ wx, Below wr.heap.size wr wx → wx.cell? ⟨w.heap.size + 1, 0, none⟩ = some (.int .i64 x0) ∧ wx.cell? ⟨w.heap.size + 1, 1, none⟩ = some (.int .i64 x1) ∧ wx.cell? ⟨w.heap.size + 1, 2, none⟩ = some (.int .i64 x2) ∧ wx.cell? ⟨w.heap.size + 1, 3, none⟩ = some (.int .i64 x3) ∧ wx.cell? ⟨w.heap.size + 1, 4, none⟩ = some (.int .i64 x4) ∧ wx.cell? ⟨w.heap.size + 1, 5, none⟩ = some (.int .i64 x5)) := ⟨fun wx hw => by
        have hc : ∀ j, wx.cell? ⟨w.heap.size + 1, j, none⟩ = wr.cell? ⟨w.heap.size + 1, j, none⟩ := fun j => hw.cell (p := ⟨w.heap.size + 1, j, none⟩) (by simp only; omega)
        exact ⟨(hc 0).trans (ha 0 (by omega)), (hc 1).trans (ha 1 (by omega)), (hc 2).trans (ha 2 (by omega)), (hc 3).trans (ha 3 (by omega)), (hc 4).trans (ha 4 (by omega)), (hc 5).trans (ha 5 (by omega))⟩⟩
      have HOO : Bx (ROut w wr) := ⟨HG.out.outs⟩
      have HT := Lib.hid (rtakelist_any (if cap = p then A else A.map fun x => x.add p) (n - p) (cap - p) (l.drop p) hdl (by omega) 16 (by decide) (by decide) wr hrd (by rw [List.length_drop, ← HN.out]; omega))
      have hpn : (p : Int) ≤ (n : Int) := by omega
      have HB2 : Bx ((Wp.takeN (l.drop p) 16).2.2 ≠ 0 → Jn.get l = (Jn.zero, (Wp.takeN (l.drop p) 16).2.2)) := ⟨fun h => Jn.get_bad2 HIN.out rfl h⟩
      have HB3 : Bx (∀ m k, Wp.takeN (l.drop p) 16 = (m, k, 0) → k < n - p → Jn.get l = (Jn.zero, 3)) := ⟨fun m k h hk => Jn.get_bad3 HIN.out h (by rw [List.length_drop, ← HN.out]; exact hk)⟩
      have HB4 : Bx (∀ m k, Wp.takeN (l.drop p) 16 = (m, k, 0) → ¬ k < n - p → Jn.get l = if Jn.check ⟨x0, x1, x2, x3, x4, x5, m⟩ ≠ 0 then (Jn.zero, Jn.check ⟨x0, x1, x2, x3, x4, x5, m⟩) else (⟨x0, x1, x2, x3, x4, x5, m⟩, 0)) := ⟨fun m k h hk => Jn.get_last HIN.out h (by rw [List.length_drop, ← HN.out]; exact hk)⟩
      have HBD : Bx (∀ m k, Wp.takeN (l.drop p) 16 = (m, k, 0) → 1 ≤ k ∧ k ≤ n - p ∧ m.length ≤ k) := ⟨fun m k h => by
        obtain ⟨h1, h2⟩ := Wp.takeN_form h
        have h3 := congrArg List.length h1
        rw [List.length_take, List.length_drop, ← HN.out] at h3
        have h4 := Jn.putN_ge m
        have h5 := (Wp.varint_len m.length).1
        have h6 : (Wp.varint m.length).length ≤ (Wp.putN m).length := by unfold Wp.putN; rw [List.length_append]; omega
        omega⟩
      clear ha hxl hrd hdl
      rcases htn : Wp.takeN (l.drop p) 16 with ⟨m, j, e2⟩
      rw [htn] at HT HB2 HB3 HB4 HBD
      simp only at HT HB2
      clear htn HG
      by_cases he : e2 = 0
      · subst he
        obtain ⟨hj1, hj2, hm⟩ := HBD.out m j rfl
        have hck : cap ≠ p := by omega
        rw [if_neg hck] at HT
        go_wp2_with fail
        refine (HT.out).mono ?_
        rintro e w1 ⟨A1, n1, cap1, rfl, hn1, ho1, hb1⟩
        simp only at hn1 ho1
        have HO : Bx (ROut w w1) := ⟨HOO.out.to hb1⟩
        have HB1 : Bx (Below wr.heap.size wr w1) := ⟨hb1⟩
        have HO1 := Lib.hid ho1
        have HN1 : Bx (n1 = m.length) := ⟨hn1⟩
        have hjn : (j : Int) ≤ (n : Int) := by omega
        clear hb1 ho1 hn1 hck
        by_cases hpj : p + j = n
        · have HGE := Lib.hid (HB4.out m j rfl (by omega))
          have hpt : ((p : Int) + (j : Int) == (n : Int)) = true := by simp; omega
          have hpf : ((p : Int) + (j : Int) != (n : Int)) = false := by simp; omega
          clear HB2 HB3 HB4 HBD hpj
          have HK0 : Bx (∀ wx, Below w1.heap.size w1 wx → wx.cell? ⟨w.heap.size + 1, 0, none⟩ = some (.int .i64 x0) ∧ wx.cell? ⟨w.heap.size + 1, 1, none⟩ = some (.int .i64 x1) ∧ wx.cell? ⟨w.heap.size + 1, 2, none⟩ = some (.int .i64 x2) ∧ wx.cell? ⟨w.heap.size + 1, 3, none⟩ = some (.int .i64 x3) ∧ wx.cell? ⟨w.heap.size + 1, 4, none⟩ = some (.int .i64 x4) ∧ wx.cell? ⟨w.heap.size + 1, 5, none⟩ = some (.int .i64 x5)) := ⟨fun wx hw => HSM.out wx (on HB1.out hw)⟩
          have HD0 : Bx (Below w1.heap.size w1 w1.drew) := ⟨(Below.refl _ _).drew⟩
          go_upto_region 16 with fail
          go_region_held (fun wx => wx.cell? ⟨w.heap.size + 1, 0, none⟩ = some (.int .i64 x0) ∧ wx.cell? ⟨w.heap.size + 1, 1, none⟩ = some (.int .i64 x1) ∧ wx.cell? ⟨w.heap.size + 1, 2, none⟩ = some (.int .i64 x2) ∧ wx.cell? ⟨w.heap.size + 1, 3, none⟩ = some (.int .i64 x3) ∧ wx.cell? ⟨w.heap.size + 1, 4, none⟩ = some (.int .i64 x4) ∧ wx.cell? ⟨w.heap.size + 1, 5, none⟩ = some (.int .i64 x5))
            (first | exact HK0.out _ HD0.out | exact HK0.out _ (HD0.out.alloc (Nat.le_refl _) _)) (first | (fail))
          have HBA : Bx (Below w1.heap.size w1 ((w1.alloc (.cells #[.int .i64 x0, .int .i64 x1, .int .i64 x2, .int .i64 x3, .int .i64 x4, .int .i64 x5, .slice A1 n1 cap1] 35)).drew)) := ⟨(below_new w1 _).drew⟩
          have HVA : Bx (EvAt ((w1.alloc (.cells #[.int .i64 x0, .int .i64 x1, .int .i64 x2, .int .i64 x3, .int .i64 x4, .int .i64 x5, .slice A1 n1 cap1] 35)).drew) w1.heap.size x0 x1 x2 x3 x4 x5 A1 n1 cap1) := ⟨(EvAt.new w1 x0 x1 x2 x3 x4 x5 A1 n1 cap1 35 _).to (Below.refl _ _).drew⟩
          have HCK := Lib.hid (rcheck_any ⟨x0, x1, x2, x3, x4, x5, m⟩ A1 n1 cap1 HN1.out ((w1.alloc (.cells #[.int .i64 x0, .int .i64 x1, .int .i64 x2, .int .i64 x3, .int .i64 x4, .int .i64 x5, .slice A1 n1 cap1] 35)).drew) ((own_rd HO1.out).to HBA.out) (by show m.length ≤ _; omega))
          have HAT : Bx (∀ a, A1 = some a → w.heap.size + 2 ≤ a.block) := ⟨fun a ha => by have := own_at HO1.out a ha; omega⟩
          generalize Jn.check ⟨x0, x1, x2, x3, x4, x5, m⟩ = c at HCK HGE
          unfold Jn.Ev.val at HCK
          simp only at HCK
          clear HK0 HD0 HSM HT
          go_wp2_with fail
          refine (HCK.out).mono ?_
          rintro e wC ⟨rfl, hbC⟩
          have HOC : Bx (ROut w wC) := ⟨(HO.out.to HBA.out).to hbC⟩
          have HVC : Bx (EvAt wC w1.heap.size x0 x1 x2 x3 x4 x5 A1 n1 cap1) := ⟨HVA.out.to hbC⟩
          have HRC : Bx (Rd wC A1 (iv m)) := ⟨((own_rd HO1.out).to HBA.out).to hbC⟩
          have HIC : Bx (Ints wC A1) := ⟨((own_ints HO1.out).to HBA.out).to hbC⟩
          clear hbC
          by_cases hc : c = 0
          · subst hc
            have HGF : Bx (Jn.get l = (⟨x0, x1, x2, x3, x4, x5, m⟩, 0)) := ⟨by rw [HGE.out, if_neg (by simp)]⟩
            obtain ⟨c0, c1, c2, c3, c4, c5, c6, _⟩ := HVC.out
            obtain ⟨_, _, o0, o1, o2, o3, o4, o5, o6, fo⟩ := HOC.out
            have f0 := fo 0
            have f1 := fo 1
            have f2 := fo 2
            have f3 := fo 3
            have f4 := fo 4
            have f5 := fo 5
            have f6 := fo 6
            clear fo
            clear HGE
            go_wp2
            clear o0 o1 o2 o3 o4 o5 o6 f0 f1 f2 f3 f4 f5 f6 c0 c1 c2 c3 c4 c5 c6
            show bodyPost _ _ _ _ _ (laid wC w.heap.size (.int .i64 x0) (.int .i64 x1) (.int .i64 x2) (.int .i64 x3) (.int .i64 x4) (.int .i64 x5) (.slice A1 n1 cap1))
            obtain ⟨l0, l1, l2, l3, l4, l5, l6, hbl⟩ := HOC.out.wrote (.int .i64 x0) (.int .i64 x1) (.int .i64 x2) (.int .i64 x3) (.int .i64 x4) (.int .i64 x5) (.slice A1 n1 cap1)
            have hfar : ∀ k, k ≠ w.heap.size → (laid wC w.heap.size (.int .i64 x0) (.int .i64 x1) (.int .i64 x2) (.int .i64 x3) (.int .i64 x4) (.int .i64 x5) (.slice A1 n1 cap1)).heap[k]? = wC.heap[k]? := fun k hk => laid_far wC w.heap.size k _ _ _ _ _ _ _ hk
            have HRL := Lib.hid (HRC.out.off (Nat.le_of_eq (laid_size wC w.heap.size (.int .i64 x0) (.int .i64 x1) (.int .i64 x2) (.int .i64 x3) (.int .i64 x4) (.int .i64 x5) (.slice A1 n1 cap1)).symm) (fun a ha => hfar a.block (by have := HAT.out a ha; omega)))
            have HIL := Lib.hid (HIC.out.off (fun a ha => hfar a.block (by have := HAT.out a ha; omega)))
            have HBL := Lib.hid hbl
            clear hbl hfar
            generalize laid wC w.heap.size (.int .i64 x0) (.int .i64 x1) (.int .i64 x2) (.int .i64 x3) (.int .i64 x4) (.int .i64 x5) (.slice A1 n1 cap1) = wF at l0 l1 l2 l3 l4 l5 l6 HBL HRL HIL ⊢
            refine bodyPost_ret (v := .tuple #[.agg #[.int .i64 x0, .int .i64 x1, .int .i64 x2, .int .i64 x3, .int .i64 x4, .int .i64 x5, .slice A1 n1 cap1], .int .i64 0]) (by simp [results, Try.results24, go_sem, l0, l1, l2, l3, l4, l5, l6]) rfl ?_
            rw [HGF.out]
            exact ⟨A1, n1, cap1, rfl, HN1.out, own_none HO1.out, HRL.out, HIL.out, HBL.out⟩
          · have HF : Bx (Jn.get l = (Jn.zero, c)) := ⟨by rw [HGE.out, if_pos hc]⟩
            have hcf : (c == 0) = false := beq_f hc
            have hcn : (c != 0) = true := by simp [hc]
            obtain ⟨_, _, o0, o1, o2, o3, o4, o5, o6, fo⟩ := HOC.out
            have f0 := fo 0
            have f1 := fo 1
            have f2 := fo 2
            have f3 := fo 3
            have f4 := fo 4
            have f5 := fo 5
            have f6 := fo 6
            clear fo
            clear HGE hc
            go_wp2
            clear o0 o1 o2 o3 o4 o5 o6 f0 f1 f2 f3 f4 f5 f6
            show bodyPost _ _ _ _ _ (laid wC w.heap.size (.int .i64 0) (.int .i64 0) (.int .i64 0) (.int .i64 0) (.int .i64 0) (.int .i64 0) (.slice none 0 0))
            obtain ⟨l0, l1, l2, l3, l4, l5, l6, hbl⟩ := HOC.out.wrote (.int .i64 0) (.int .i64 0) (.int .i64 0) (.int .i64 0) (.int .i64 0) (.int .i64 0) (.slice none 0 0)
            have HBL := Lib.hid hbl
            clear hbl
            generalize laid wC w.heap.size (.int .i64 0) (.int .i64 0) (.int .i64 0) (.int .i64 0) (.int .i64 0) (.int .i64 0) (.slice none 0 0) = wF at l0 l1 l2 l3 l4 l5 l6 HBL ⊢
            exact bodyPost_ret (v := .tuple #[.agg #[.int .i64 0, .int .i64 0, .int .i64 0, .int .i64 0, .int .i64 0, .int .i64 0, .slice none 0 0], .int .i64 c]) (by simp [results, Try.results24, go_sem, l0, l1, l2, l3, l4, l5, l6]) rfl (RetEv.fail HF.out HBL.out)
        · have HF : Bx (Jn.get l = (Jn.zero, 3)) := ⟨HB3.out m j rfl (by omega)⟩
          have hpt : ((p : Int) + (j : Int) == (n : Int)) = false := by simp; omega
          have hpf : ((p : Int) + (j : Int) != (n : Int)) = true := by simp; omega
          clear HB2 HB3 HB4 HBD hpj HT HSM
          obtain ⟨_, _, o0, o1, o2, o3, o4, o5, o6, fo⟩ := HO.out
          have f0 := fo 0
          have f1 := fo 1
          have f2 := fo 2
          have f3 := fo 3
          have f4 := fo 4
          have f5 := fo 5
          have f6 := fo 6
          clear fo
          go_wp2
          clear o0 o1 o2 o3 o4 o5 o6 f0 f1 f2 f3 f4 f5 f6
          show bodyPost _ _ _ _ _ (laid w1 w.heap.size (.int .i64 0) (.int .i64 0) (.int .i64 0) (.int .i64 0) (.int .i64 0) (.int .i64 0) (.slice none 0 0))
          obtain ⟨l0, l1, l2, l3, l4, l5, l6, hbl⟩ := HO.out.wrote (.int .i64 0) (.int .i64 0) (.int .i64 0) (.int .i64 0) (.int .i64 0) (.int .i64 0) (.slice none 0 0)
          have HBL := Lib.hid hbl
          clear hbl
          generalize laid w1 w.heap.size (.int .i64 0) (.int .i64 0) (.int .i64 0) (.int .i64 0) (.int .i64 0) (.int .i64 0) (.slice none 0 0) = wF at l0 l1 l2 l3 l4 l5 l6 HBL ⊢
          exact bodyPost_ret (v := .tuple #[.agg #[.int .i64 0, .int .i64 0, .int .i64 0, .int .i64 0, .int .i64 0, .int .i64 0, .slice none 0 0], .int .i64 3]) (by simp [results, Try.results24, go_sem, l0, l1, l2, l3, l4, l5, l6]) rfl (RetEv.fail HF.out HBL.out)
      · have HF : Bx (Jn.get l = (Jn.zero, e2)) := ⟨HB2.out he⟩
        have hef : (e2 == 0) = false := beq_f he
        have hen : (e2 != 0) = true := by simp [he]
        clear HB2 HB3 HB4 HBD he HSM
        by_cases hck : cap = p
        · have hpn2 : n = p := by omega
          subst hck
          subst hpn2
          rw [if_pos rfl, Nat.sub_self] at HT
          go_wp2_with fail
          refine (HT.out).mono ?_
          rintro e w1 ⟨A1, n1, cap1, rfl, hn1, ho1, hb1⟩
          have HO : Bx (ROut w w1) := ⟨HOO.out.to hb1⟩
          clear hn1 ho1 hb1
          obtain ⟨_, _, o0, o1, o2, o3, o4, o5, o6, fo⟩ := HO.out
          have f0 := fo 0
          have f1 := fo 1
          have f2 := fo 2
          have f3 := fo 3
          have f4 := fo 4
          have f5 := fo 5
          have f6 := fo 6
          clear fo
          go_wp2
          clear o0 o1 o2 o3 o4 o5 o6 f0 f1 f2 f3 f4 f5 f6
          show bodyPost _ _ _ _ _ (laid w1 w.heap.size (.int .i64 0) (.int .i64 0) (.int .i64 0) (.int .i64 0) (.int .i64 0) (.int .i64 0) (.slice none 0 0))
          obtain ⟨l0, l1, l2, l3, l4, l5, l6, hbl⟩ := HO.out.wrote (.int .i64 0) (.int .i64 0) (.int .i64 0) (.int .i64 0) (.int .i64 0) (.int .i64 0) (.slice none 0 0)
          have HBL := Lib.hid hbl
          clear hbl
          generalize laid w1 w.heap.size (.int .i64 0) (.int .i64 0) (.int .i64 0) (.int .i64 0) (.int .i64 0) (.int .i64 0) (.slice none 0 0) = wF at l0 l1 l2 l3 l4 l5 l6 HBL ⊢
          exact bodyPost_ret (v := .tuple #[.agg #[.int .i64 0, .int .i64 0, .int .i64 0, .int .i64 0, .int .i64 0, .int .i64 0, .slice none 0 0], .int .i64 e2]) (by simp [results, Try.results24, go_sem, l0, l1, l2, l3, l4, l5, l6]) rfl (RetEv.fail HF.out HBL.out)
        · rw [if_neg hck] at HT
          go_wp2_with fail
          refine (HT.out).mono ?_
          rintro e w1 ⟨A1, n1, cap1, rfl, hn1, ho1, hb1⟩
          have HO : Bx (ROut w w1) := ⟨HOO.out.to hb1⟩
          clear hn1 ho1 hb1
          obtain ⟨_, _, o0, o1, o2, o3, o4, o5, o6, fo⟩ := HO.out
          have f0 := fo 0
          have f1 := fo 1
          have f2 := fo 2
          have f3 := fo 3
          have f4 := fo 4
          have f5 := fo 5
          have f6 := fo 6
          clear fo
          go_wp2
          clear o0 o1 o2 o3 o4 o5 o6 f0 f1 f2 f3 f4 f5 f6
          show bodyPost _ _ _ _ _ (laid w1 w.heap.size (.int .i64 0) (.int .i64 0) (.int .i64 0) (.int .i64 0) (.int .i64 0) (.int .i64 0) (.slice none 0 0))
          obtain ⟨l0, l1, l2, l3, l4, l5, l6, hbl⟩ := HO.out.wrote (.int .i64 0) (.int .i64 0) (.int .i64 0) (.int .i64 0) (.int .i64 0) (.int .i64 0) (.slice none 0 0)
          have HBL := Lib.hid hbl
          clear hbl
          generalize laid w1 w.heap.size (.int .i64 0) (.int .i64 0) (.int .i64 0) (.int .i64 0) (.int .i64 0) (.int .i64 0) (.slice none 0 0) = wF at l0 l1 l2 l3 l4 l5 l6 HBL ⊢
          exact bodyPost_ret (v := .tuple #[.agg #[.int .i64 0, .int .i64 0, .int .i64 0, .int .i64 0, .int .i64 0, .int .i64 0, .slice none 0 0], .int .i64 e2]) (by simp [results, Try.results24, go_sem, l0, l1, l2, l3, l4, l5, l6]) rfl (RetEv.fail HF.out HBL.out)
end Go.Proofs.Ytcpdfgckfefboaa
