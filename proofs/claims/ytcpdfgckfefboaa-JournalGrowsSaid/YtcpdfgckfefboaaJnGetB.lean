/- The walk of Get. -/
import Derived.Test.YtcpdfgckfefboaaJnGetA
import Derived.Deep.RegionHeld
import Derived.Deep.CutRange
import Derived.StillTailTactics
namespace Go.Proofs.Ytcpdfgckfefboaa
open Go.RowKit
/-- The call returns an event, whose masses can be read, and an error. -/
def RetEv (w : World) (p : Jn.Ev × Int) (e : Ending) (w' : World) : Prop :=
  ∃ A n cap, e = .returned (.tuple #[p.1.val A n cap, .int .i64 p.2]) ∧ n = p.1.mix.length ∧ (A = none → cap = 0) ∧ Rd w' A (iv p.1.mix) ∧ Ints w' A ∧ Below w.heap.size w w'

theorem RetEv.fail {w w' : World} {p : Jn.Ev × Int} {c : Int} (h : p = (Jn.zero, c)) (hb : Below w.heap.size w w') :
    RetEv w p (.returned (.tuple #[.agg #[.int .i64 0, .int .i64 0, .int .i64 0, .int .i64 0, .int .i64 0, .int .i64 0, .slice none 0 0], .int .i64 c])) w' := by
  subst h
  exact ⟨none, 0, 0, rfl, rfl, fun _ => rfl, Rd.nil _ _, Ints.none _, hb⟩
theorem Jn.putN_ge (z : List Int) : z.length ≤ (Wp.putN z).length := by
  unfold Wp.putN
  rw [List.length_append]
  have h : ∀ z : List Int, z.length ≤ (z.flatMap Wp.putI).length := by
    intro z
    induction z with
    | nil => simp
    | cons a r ih =>
      have h1 : 1 ≤ (Wp.putI a).length := (Wp.varint_len _).1
      rw [List.flatMap_cons, List.length_append, List.length_cons]
      omega
  have := h z
  omega
theorem leaves_tmps {P : Program} {fn : Func} {t t' : Array Value} {R : Ending → World → Prop} (h : results fn t = results fn t') : ∀ (ds : List Deferred) (u : FrameMode) (w : World), Leaves P fn t R ds u w → Leaves P fn t' R ds u w
  | [], .returning, w, hl => by obtain ⟨v, h1, h2⟩ := hl; exact ⟨v, by rw [← h]; exact h1, h2⟩
  | [], .panicking _, _, hl => hl
  | [], .run, _, hl => hl.elim
  | d :: ds, u, w, hl => by
    obtain ⟨hu, fv, cap, f, args, h1, h2, hc⟩ := hl
    refine ⟨hu, fv, cap, f, args, h1, h2, hc.mono ?_⟩
    intro e u' w' he
    cases e with
    | returned v => exact leaves_tmps h ds _ _ he
    | panicked c => exact leaves_tmps h ds _ _ he
    | outgrown => exact he
theorem panic_inv {K : Act → World → Prop} {R : Ending → World → Prop} {d : Nat} {v : Value} (h2 : d ≠ 2) (h3 : d ≠ 3) (c : List PanicEntry) (a : Act) (w : World)
    (h : Exit.then K (bodyPostD Try.prog Try.f23 R) (.panic c) (a.put (some d) v) w) : Exit.then K (bodyPostD Try.prog Try.f23 R) (.panic c) a w := by
  refine leaves_tmps ?_ a.defers (.panicking c) w h
  simp only [Act.put]
  simp [results, Try.results23]
  rw [Array.getElem?_setIfInBounds_ne h2, Array.getElem?_setIfInBounds_ne h3]
/-- The code leaves in the common way, and then Q holds. -/
def quietly (Q : Exit → Act → World → Prop) : Exit → Act → World → Prop
  | .normal, a, w => Q .normal a w
  | _, _, _ => False
theorem quietly_out {Q : Exit → Act → World → Prop} {e : Exit} {a : Act} {w : World} (h : quietly Q e a w) : Q e a w := by
  cases e with
  | normal => exact h
  | _ => exact h.elim
theorem addr_off {b i j : Nat} (h : i ≠ j) : (⟨b, i, none⟩ : Addr) ≠ ⟨b, j, none⟩ := fun e => h (by injection e)
theorem far_set (w : World) (a p : Addr) (v : Value) (h : p ≠ a) : (w.setCell a v).cell? p = w.cell? p := World.cell?_setCell_other w a p v (Ne.symm h)
/-- Seven cells laid. -/
def laid (w : World) (b : Nat) (x0 x1 x2 x3 x4 x5 x6 : Value) : World := ((((((w.setCell ⟨b, 0, none⟩ x0).setCell ⟨b, 1, none⟩ x1).setCell ⟨b, 2, none⟩ x2).setCell ⟨b, 3, none⟩ x3).setCell ⟨b, 4, none⟩ x4).setCell ⟨b, 5, none⟩ x5).setCell ⟨b, 6, none⟩ x6
theorem zeroed_laid (w : World) (b c : Nat) (er : Int) : zeroed w b c er = (laid w b (.int .i64 0) (.int .i64 0) (.int .i64 0) (.int .i64 0) (.int .i64 0) (.int .i64 0) (.slice none 0 0)).setCell ⟨c, 0, none⟩ (.int .i64 er) := rfl
theorem laid_cells (w : World) (b : Nat) (x0 x1 x2 x3 x4 x5 x6 v0 v1 v2 v3 v4 v5 v6 : Value) (z0 : w.cell? ⟨b, 0, none⟩ = some v0) (z1 : w.cell? ⟨b, 1, none⟩ = some v1) (z2 : w.cell? ⟨b, 2, none⟩ = some v2) (z3 : w.cell? ⟨b, 3, none⟩ = some v3) (z4 : w.cell? ⟨b, 4, none⟩ = some v4) (z5 : w.cell? ⟨b, 5, none⟩ = some v5) (z6 : w.cell? ⟨b, 6, none⟩ = some v6) :
    (laid w b x0 x1 x2 x3 x4 x5 x6).cell? ⟨b, 0, none⟩ = some x0 ∧ (laid w b x0 x1 x2 x3 x4 x5 x6).cell? ⟨b, 1, none⟩ = some x1 ∧ (laid w b x0 x1 x2 x3 x4 x5 x6).cell? ⟨b, 2, none⟩ = some x2 ∧ (laid w b x0 x1 x2 x3 x4 x5 x6).cell? ⟨b, 3, none⟩ = some x3 ∧ (laid w b x0 x1 x2 x3 x4 x5 x6).cell? ⟨b, 4, none⟩ = some x4 ∧ (laid w b x0 x1 x2 x3 x4 x5 x6).cell? ⟨b, 5, none⟩ = some x5 ∧ (laid w b x0 x1 x2 x3 x4 x5 x6).cell? ⟨b, 6, none⟩ = some x6 := by
  unfold laid
  refine ⟨?_, ?_, ?_, ?_, ?_, ?_, ?_⟩
  · rw [far_set _ _ _ _ (addr_off (by decide : 0 ≠ 6)), far_set _ _ _ _ (addr_off (by decide : 0 ≠ 5)), far_set _ _ _ _ (addr_off (by decide : 0 ≠ 4)), far_set _ _ _ _ (addr_off (by decide : 0 ≠ 3)), far_set _ _ _ _ (addr_off (by decide : 0 ≠ 2)), far_set _ _ _ _ (addr_off (by decide : 0 ≠ 1))]
    exact World.cell?_setCell_same _ _ _ (by exact z0)
  · rw [far_set _ _ _ _ (addr_off (by decide : 1 ≠ 6)), far_set _ _ _ _ (addr_off (by decide : 1 ≠ 5)), far_set _ _ _ _ (addr_off (by decide : 1 ≠ 4)), far_set _ _ _ _ (addr_off (by decide : 1 ≠ 3)), far_set _ _ _ _ (addr_off (by decide : 1 ≠ 2))]
    exact World.cell?_setCell_same _ _ _ (by rw [far_set _ _ _ _ (addr_off (by decide : 1 ≠ 0))]; exact z1)
  · rw [far_set _ _ _ _ (addr_off (by decide : 2 ≠ 6)), far_set _ _ _ _ (addr_off (by decide : 2 ≠ 5)), far_set _ _ _ _ (addr_off (by decide : 2 ≠ 4)), far_set _ _ _ _ (addr_off (by decide : 2 ≠ 3))]
    exact World.cell?_setCell_same _ _ _ (by rw [far_set _ _ _ _ (addr_off (by decide : 2 ≠ 1)), far_set _ _ _ _ (addr_off (by decide : 2 ≠ 0))]; exact z2)
  · rw [far_set _ _ _ _ (addr_off (by decide : 3 ≠ 6)), far_set _ _ _ _ (addr_off (by decide : 3 ≠ 5)), far_set _ _ _ _ (addr_off (by decide : 3 ≠ 4))]
    exact World.cell?_setCell_same _ _ _ (by rw [far_set _ _ _ _ (addr_off (by decide : 3 ≠ 2)), far_set _ _ _ _ (addr_off (by decide : 3 ≠ 1)), far_set _ _ _ _ (addr_off (by decide : 3 ≠ 0))]; exact z3)
  · rw [far_set _ _ _ _ (addr_off (by decide : 4 ≠ 6)), far_set _ _ _ _ (addr_off (by decide : 4 ≠ 5))]
    exact World.cell?_setCell_same _ _ _ (by rw [far_set _ _ _ _ (addr_off (by decide : 4 ≠ 3)), far_set _ _ _ _ (addr_off (by decide : 4 ≠ 2)), far_set _ _ _ _ (addr_off (by decide : 4 ≠ 1)), far_set _ _ _ _ (addr_off (by decide : 4 ≠ 0))]; exact z4)
  · rw [far_set _ _ _ _ (addr_off (by decide : 5 ≠ 6))]
    exact World.cell?_setCell_same _ _ _ (by rw [far_set _ _ _ _ (addr_off (by decide : 5 ≠ 4)), far_set _ _ _ _ (addr_off (by decide : 5 ≠ 3)), far_set _ _ _ _ (addr_off (by decide : 5 ≠ 2)), far_set _ _ _ _ (addr_off (by decide : 5 ≠ 1)), far_set _ _ _ _ (addr_off (by decide : 5 ≠ 0))]; exact z5)
  · exact World.cell?_setCell_same _ _ _ (by rw [far_set _ _ _ _ (addr_off (by decide : 6 ≠ 5)), far_set _ _ _ _ (addr_off (by decide : 6 ≠ 4)), far_set _ _ _ _ (addr_off (by decide : 6 ≠ 3)), far_set _ _ _ _ (addr_off (by decide : 6 ≠ 2)), far_set _ _ _ _ (addr_off (by decide : 6 ≠ 1)), far_set _ _ _ _ (addr_off (by decide : 6 ≠ 0))]; exact z6)
theorem laid_far (w : World) (b k : Nat) (x0 x1 x2 x3 x4 x5 x6 : Value) (h : k ≠ b) : (laid w b x0 x1 x2 x3 x4 x5 x6).heap[k]? = w.heap[k]? := by
  unfold laid
  rw [Below.heap_setCell _ _ _ _ h, Below.heap_setCell _ _ _ _ h, Below.heap_setCell _ _ _ _ h, Below.heap_setCell _ _ _ _ h, Below.heap_setCell _ _ _ _ h, Below.heap_setCell _ _ _ _ h, Below.heap_setCell _ _ _ _ h]
theorem set_size (w : World) (p : Addr) (v : Value) : (w.setCell p v).heap.size = w.heap.size := by simp [World.setCell]
theorem laid_size (w : World) (b : Nat) (x0 x1 x2 x3 x4 x5 x6 : Value) : (laid w b x0 x1 x2 x3 x4 x5 x6).heap.size = w.heap.size := by
  unfold laid
  rw [set_size, set_size, set_size, set_size, set_size, set_size, set_size]
theorem laid_frozen (w : World) (b : Nat) (x0 x1 x2 x3 x4 x5 x6 : Value) (p : Addr) : (laid w b x0 x1 x2 x3 x4 x5 x6).frozen? p = w.frozen? p := by
  unfold laid
  rw [World.frozen?_setCell, World.frozen?_setCell, World.frozen?_setCell, World.frozen?_setCell, World.frozen?_setCell, World.frozen?_setCell, World.frozen?_setCell]
theorem laid_below {w wr : World} {B : Nat} (h : Below B w wr) (b : Nat) (hb : B ≤ b) (x0 x1 x2 x3 x4 x5 x6 : Value) : Below B w (laid wr b x0 x1 x2 x3 x4 x5 x6) :=
  ((((((h.setCell (p := ⟨b, 0, none⟩) hb _).setCell (p := ⟨b, 1, none⟩) hb _).setCell (p := ⟨b, 2, none⟩) hb _).setCell (p := ⟨b, 3, none⟩) hb _).setCell (p := ⟨b, 4, none⟩) hb _).setCell (p := ⟨b, 5, none⟩) hb _).setCell (p := ⟨b, 6, none⟩) hb _
theorem Rd.off {w w' : World} {A : Option Addr} {xs : List Value} (h : Rd w A xs) (hs : w.heap.size ≤ w'.heap.size) (hk : ∀ a, A = some a → w'.heap[a.block]? = w.heap[a.block]?) : Rd w' A xs := by
  intro k u hu
  obtain ⟨b, off, hA, hlt, hc⟩ := h k u hu
  exact ⟨b, off, hA, by omega, (World.cell?_of_block (a := ⟨b, off + k, none⟩) (hk ⟨b, off, none⟩ hA)).trans hc⟩
/-- The named results stand in their variables. -/
structure Door (w wr : World) : Prop where
  below : Below w.heap.size w wr
  size : w.heap.size + 2 ≤ wr.heap.size
  out : ∃ v0 v1 v2 v3 v4 v5 v6, wr.cell? ⟨w.heap.size, 0, none⟩ = some v0 ∧ wr.cell? ⟨w.heap.size, 1, none⟩ = some v1 ∧ wr.cell? ⟨w.heap.size, 2, none⟩ = some v2 ∧ wr.cell? ⟨w.heap.size, 3, none⟩ = some v3 ∧ wr.cell? ⟨w.heap.size, 4, none⟩ = some v4 ∧ wr.cell? ⟨w.heap.size, 5, none⟩ = some v5 ∧ wr.cell? ⟨w.heap.size, 6, none⟩ = some v6
  er : wr.cell? ⟨w.heap.size + 1, 0, none⟩ = some (.int .i64 0)
  fo : ∀ j, wr.frozen? ⟨w.heap.size, j, none⟩ = false
  fe : wr.frozen? ⟨w.heap.size + 1, 0, none⟩ = false
theorem Door.to {w wr w' : World} (D : Door w wr) (hb : Below wr.heap.size wr w') : Door w w' := by
  obtain ⟨v0, v1, v2, v3, v4, v5, v6, z0, z1, z2, z3, z4, z5, z6⟩ := D.out
  have hs := D.size
  have hc : ∀ (b j : Nat), b < wr.heap.size → w'.cell? ⟨b, j, none⟩ = wr.cell? ⟨b, j, none⟩ := fun b j h => hb.cell (p := ⟨b, j, none⟩) h
  have hf : ∀ (b j : Nat), b < wr.heap.size → w'.frozen? ⟨b, j, none⟩ = wr.frozen? ⟨b, j, none⟩ := fun b j h => frozen_below hb (p := ⟨b, j, none⟩) h
  exact ⟨D.below.trans (hb.mono D.below.size), by have := hb.size; omega, ⟨v0, v1, v2, v3, v4, v5, v6, (hc _ _ (by omega)).trans z0, (hc _ _ (by omega)).trans z1, (hc _ _ (by omega)).trans z2, (hc _ _ (by omega)).trans z3, (hc _ _ (by omega)).trans z4, (hc _ _ (by omega)).trans z5, (hc _ _ (by omega)).trans z6⟩,
    (hc _ _ (by omega)).trans D.er, fun j => (hf _ _ (by omega)).trans (D.fo j), (hf _ _ (by omega)).trans D.fe⟩
theorem GetInv.door {w wr : World} {l : List UInt8} {k : Nat} {xs : List Int} {rest : List UInt8} (I : GetInv w wr l k xs rest) : Door w wr :=
  ⟨I.below, by have := I.size; omega, ⟨_, _, _, _, _, _, _, I.o0, I.o1, I.o2, I.o3, I.o4, I.o5, I.o6⟩, I.er, I.fo, I.fe⟩
theorem door_bad {w wr : World} (D : Door w wr) (er : Int) :
    CallsD Try.prog 37 #[.pointer (some ⟨w.heap.size, 0, none⟩), .pointer (some ⟨w.heap.size + 1, 0, none⟩)] (.panicking (thrown er)) wr fun e u' w' => e = .returned (.tuple #[]) ∧ u' = .panicking [{ v := .iface 62 (.agg #[.int .i64 er]), recovered := true }] ∧
      w'.cell? ⟨w.heap.size, 0, none⟩ = some (.int .i64 0) ∧ w'.cell? ⟨w.heap.size, 1, none⟩ = some (.int .i64 0) ∧ w'.cell? ⟨w.heap.size, 2, none⟩ = some (.int .i64 0) ∧ w'.cell? ⟨w.heap.size, 3, none⟩ = some (.int .i64 0) ∧ w'.cell? ⟨w.heap.size, 4, none⟩ = some (.int .i64 0) ∧ w'.cell? ⟨w.heap.size, 5, none⟩ = some (.int .i64 0) ∧ w'.cell? ⟨w.heap.size, 6, none⟩ = some (.slice none 0 0) ∧ w'.cell? ⟨w.heap.size + 1, 0, none⟩ = some (.int .i64 er) ∧ Below w.heap.size w w' := by
  unfold thrown
  obtain ⟨v0, v1, v2, v3, v4, v5, v6, z0, z1, z2, z3, z4, z5, z6⟩ := D.out
  have hne : w.heap.size ≠ w.heap.size + 1 := by omega
  have HT := catch_thrown w.heap.size (w.heap.size + 1) hne er [] wr v0 v1 v2 v3 v4 v5 v6 _ z0 z1 z2 z3 z4 z5 z6 D.er D.fo D.fe
  refine HT.mono ?_
  clear HT
  rintro e u' w' ⟨rfl, rfl, rfl⟩
  have hb : Below w.heap.size w (((zeroed wr w.heap.size (w.heap.size + 1) er).alloc (.cells #[.int .i64 er] 62)).drew) :=
    (((D.below.trans (zeroed_below wr w.heap.size (w.heap.size + 1) er (by omega))).alloc (by have := (zeroed_below wr w.heap.size (w.heap.size + 1) er (by omega)).size; have := D.size; omega) _).drew)
  have hs : (zeroed wr w.heap.size (w.heap.size + 1) er).heap.size = wr.heap.size := by
    have hs1 : ∀ (w : World) (p : Addr) (v : Value), (w.setCell p v).heap.size = w.heap.size := fun w p v => by simp [World.setCell]
    unfold zeroed
    rw [hs1, hs1, hs1, hs1, hs1, hs1, hs1, hs1]
  have hsz := D.size
  obtain ⟨h0, h1, h2, h3, h4, h5, h6⟩ := laid_cells wr w.heap.size (.int .i64 0) (.int .i64 0) (.int .i64 0) (.int .i64 0) (.int .i64 0) (.int .i64 0) (.slice none 0 0) v0 v1 v2 v3 v4 v5 v6 z0 z1 z2 z3 z4 z5 z6
  have g7 : (zeroed wr w.heap.size (w.heap.size + 1) er).cell? ⟨w.heap.size + 1, 0, none⟩ = some (.int .i64 er) := by
    rw [zeroed_laid]
    exact World.cell?_setCell_same _ _ _ ((World.cell?_of_block (a := ⟨w.heap.size + 1, 0, none⟩) (laid_far wr w.heap.size (w.heap.size + 1) _ _ _ _ _ _ _ (Ne.symm hne))).trans D.er)
  have gg : ∀ (j : Nat) (v : Value), (laid wr w.heap.size (.int .i64 0) (.int .i64 0) (.int .i64 0) (.int .i64 0) (.int .i64 0) (.int .i64 0) (.slice none 0 0)).cell? ⟨w.heap.size, j, none⟩ = some v → (zeroed wr w.heap.size (w.heap.size + 1) er).cell? ⟨w.heap.size, j, none⟩ = some v := fun j v h => by
    rw [zeroed_laid]
    exact (World.cell?_of_block (a := ⟨w.heap.size, j, none⟩) (Below.heap_setCell _ _ _ _ hne)).trans h
  have g0 := gg 0 _ h0
  have g1 := gg 1 _ h1
  have g2 := gg 2 _ h2
  have g3 := gg 3 _ h3
  have g4 := gg 4 _ h4
  have g5 := gg 5 _ h5
  have g6 := gg 6 _ h6
  clear gg h0 h1 h2 h3 h4 h5 h6
  generalize zeroed wr w.heap.size (w.heap.size + 1) er = wz at hb hs g0 g1 g2 g3 g4 g5 g6 g7 ⊢
  have hc : ∀ p : Addr, p.block < wr.heap.size → ((wz.alloc (.cells #[.int .i64 er] 62)).drew).cell? p = wz.cell? p := fun p hp => World.cell?_alloc_lt wz _ p (by rw [hs]; exact hp)
  refine ⟨rfl, rfl, ?_, ?_, ?_, ?_, ?_, ?_, ?_, ?_, hb⟩
  all_goals rw [hc _ (by simp only; omega)]
  · exact g0
  · exact g1
  · exact g2
  · exact g3
  · exact g4
  · exact g5
  · exact g6
  · exact g7

set_option maxRecDepth 100000 in
set_option maxHeartbeats 6400000 in
theorem get_any (A : Option Addr) (n cap : Nat) (l : List UInt8) (hn : n = l.length) (hcap : n ≤ cap) (h0 : A = none → cap = 0) (w : World) (hr : Rd w A (bv l)) (hl : l.length ≤ 1000000000000) :
    Calls Try.prog 23 #[.slice A n cap] w (RetEv w (Jn.get l)) := by
  have hmf : ∀ (fn : Fn) (first cap : Array Value) (w : World), (Instr.makeFunc fn first cap).run Try.prog w = .ok (.func fn first cap) w := fun _ _ _ _ => rfl
  have HI := Lib.hid (GetInv.start w A n cap l hn hcap h0 hr)
  clear hn hcap h0 hr
  go_enter_defers Try.func23, Try.ntmps23
  go_wp2
  rw [show w.heap.size + 1 + 1 + 1 = w.heap.size + 3 from rfl, show w.heap.size + 1 + 1 = w.heap.size + 2 from rfl]
  go_loopw [18] (fun i wr => ∃ (k : Nat) (xs : List Int) (rest : List UInt8), k ≤ 6 ∧ i = .int .i64 (k : Int) ∧ GetInv w wr l k xs rest) (fun i _ => 6 - (intOf i).toNat)
  case atStart => exact ⟨0, [], l, by omega, rfl, HI.out⟩
  case round =>
    obtain ⟨k, xs, rest, hk, rfl, hI⟩ := hrel
    have HG := Lib.hid hI
    clear hI
    by_cases hlt : k < 6
    · have hki : (k : Int) < 6 := by omega
      by_cases he : (Wp.takeI rest).2.2 = 0
      · have HN := Lib.hid (number_ok (w.heap.size + 2) rest wr HG.out.rdr (by have := HG.out.rl; omega) he)
        have HE := Lib.hid he
        have hfr : ∀ sv, (wr.setCell ⟨w.heap.size + 2, 0, none⟩ sv).frozen? ⟨w.heap.size + 3, k, none⟩ = false := fun sv => by simp [HG.out.fa k]
        have hcl : ∀ sv, (wr.setCell ⟨w.heap.size + 2, 0, none⟩ sv).cell? ⟨w.heap.size + 3, k, none⟩ = some (.int .i64 (xs.getD k 0)) := fun sv => (cell_far _ _ _ _ _ (by simp)).trans (HG.out.arr k hlt)
        clear he
        go_wp2_with fail
        refine (HN.out).mono ?_
        rintro e w' ⟨rfl, hrd, sv, rfl⟩
        have HR := Lib.hid hrd
        have hfr' := hfr sv
        have hcl' := hcl sv
        clear hrd hfr hcl
        have HST := Lib.hid (HG.out.step hlt HE.out sv HR.out)
        go_wp2
        go_roundw
        case rel => exact ⟨k + 1, _, _, by omega, by go_num, HST.out⟩
        case measure => simp [intOf]; omega
      · have HN := Lib.hid (number_bad (w.heap.size + 2) rest wr HG.out.rdr (by have := HG.out.rl; omega) he)
        have HF := Lib.hid (show Jn.get l = (Jn.zero, (Wp.takeI rest).2.2) by
          have h6 : 6 - k = (6 - (k + 1)) + 1 := by omega
          have hx : (Jn.ints 6 l).2.2 = (Wp.takeI rest).2.2 := by rw [HG.out.i0, h6, Jn.ints_bad he]
          unfold Jn.get
          rw [if_pos (by rw [hx]; exact he), hx])
        generalize (Wp.takeI rest).2.2 = er at HN HF
        clear he
        go_wp2_with fail
        refine (HN.out).mono ?_
        rintro e w' ⟨rfl, rfl⟩
        go_wp2
        refine leaves_cons (f := 37) (args := #[.pointer (some ⟨w.heap.size, 0, none⟩), .pointer (some ⟨w.heap.size + 1, 0, none⟩)]) (by simp) (by simp [go_sem]) ?_
        refine (door_bad HG.out.door er).mono ?_
        rintro e u' w2 ⟨rfl, rfl, g0, g1, g2, g3, g4, g5, g6, g7, hb⟩
        have HX := Lib.hid (RetEv.fail HF.out hb)
        clear hb
        simp [Leaves, settle, results, Try.results23, go_sem, g0, g1, g2, g3, g4, g5, g6, g7]
        exact HX.out
    · have hk6 : k = 6 := by omega
      subst hk6
      have hki : ¬ ((6 : Nat) : Int) < 6 := by omega
      have hxl := HG.out.xl
      obtain ⟨x0, x1, x2, x3, x4, x5, rfl⟩ : ∃ x0 x1 x2 x3 x4 x5, xs = [x0, x1, x2, x3, x4, x5] := by
        match xs, hxl with
        | [x0, x1, x2, x3, x4, x5], _ => exact ⟨x0, x1, x2, x3, x4, x5, rfl⟩
      have HIN := Lib.hid (show Jn.ints 6 l = ([x0, x1, x2, x3, x4, x5], rest, 0) by
        have e0 := HG.out.i0
        have e1 := HG.out.i1
        have e2 := HG.out.i2
        have hz : Jn.ints (6 - 6) rest = ([], rest, 0) := rfl
        rw [hz] at e0 e1 e2
        exact Prod.ext (by rw [e1]; rfl) (Prod.ext e2 e0))
      have ha : ∀ j, j < 6 → wr.cell? ⟨w.heap.size + 3, j, none⟩ = some (.int .i64 ([x0, x1, x2, x3, x4, x5].getD j 0)) := HG.out.arr
      have a0 : wr.cell? ⟨w.heap.size + 3, 0, none⟩ = some (.int .i64 x0) := ha 0 (by omega)
      have a1 : wr.cell? ⟨w.heap.size + 3, 1, none⟩ = some (.int .i64 x1) := ha 1 (by omega)
      have a2 : wr.cell? ⟨w.heap.size + 3, 2, none⟩ = some (.int .i64 x2) := ha 2 (by omega)
      have a3 : wr.cell? ⟨w.heap.size + 3, 3, none⟩ = some (.int .i64 x3) := ha 3 (by omega)
      have a4 : wr.cell? ⟨w.heap.size + 3, 4, none⟩ = some (.int .i64 x4) := ha 4 (by omega)
      have a5 : wr.cell? ⟨w.heap.size + 3, 5, none⟩ = some (.int .i64 x5) := ha 5 (by omega)
      have HSM := Lib.hid (fun (wx : World) (h : wx.heap[w.heap.size + 3]? = wr.heap[w.heap.size + 3]?) => And.intro ((World.cell?_of_block (a := ⟨w.heap.size + 3, 0, none⟩) h).trans a0) (And.intro ((World.cell?_of_block (a := ⟨w.heap.size + 3, 1, none⟩) h).trans a1) (And.intro ((World.cell?_of_block (a := ⟨w.heap.size + 3, 2, none⟩) h).trans a2) (And.intro ((World.cell?_of_block (a := ⟨w.heap.size + 3, 3, none⟩) h).trans a3) (And.intro ((World.cell?_of_block (a := ⟨w.heap.size + 3, 4, none⟩) h).trans a4) ((World.cell?_of_block (a := ⟨w.heap.size + 3, 5, none⟩) h).trans a5))))))
      have hsz := HG.out.size
      have HRD := Lib.hid (HG.out.rdr.to ((Below.refl _ wr).drew))
      have hrl : rest.length ≤ 1000000000000 := by have := HG.out.rl; omega
      clear ha hxl
      by_cases he : (Wp.takeN rest 16).2.2 = 0
      · have HX := Lib.hid (mix_ok (w.heap.size + 2) rest wr.drew HRD.out hrl he)
        have HTN := Lib.hid (show Wp.takeN rest 16 = ((Wp.takeN rest 16).1, (Wp.takeN rest 16).2.1, 0) by rw [← he])
        generalize (Wp.takeN rest 16).1 = m at HX HTN
        generalize (Wp.takeN rest 16).2.1 = kk at HX HTN
        obtain ⟨z0, z1, z2, z3, z4, z5, z6, z7, z8, z9⟩ : wr.cell? ⟨w.heap.size, 0, none⟩ = some (.int .i64 0) ∧ wr.cell? ⟨w.heap.size, 1, none⟩ = some (.int .i64 0) ∧ wr.cell? ⟨w.heap.size, 2, none⟩ = some (.int .i64 0) ∧ wr.cell? ⟨w.heap.size, 3, none⟩ = some (.int .i64 0) ∧ wr.cell? ⟨w.heap.size, 4, none⟩ = some (.int .i64 0) ∧ wr.cell? ⟨w.heap.size, 5, none⟩ = some (.int .i64 0) ∧ wr.cell? ⟨w.heap.size, 6, none⟩ = some (.slice none 0 0) ∧ wr.cell? ⟨w.heap.size + 1, 0, none⟩ = some (.int .i64 0) ∧ (∀ j, wr.frozen? ⟨w.heap.size, j, none⟩ = false) ∧ wr.frozen? ⟨w.heap.size + 1, 0, none⟩ = false :=
          ⟨HG.out.o0, HG.out.o1, HG.out.o2, HG.out.o3, HG.out.o4, HG.out.o5, HG.out.o6, HG.out.er, HG.out.fo, HG.out.fe⟩
        have HZ := Lib.hid (fun (wx : World) (h : wx.heap[w.heap.size]? = wr.heap[w.heap.size]?) => And.intro ((World.cell?_of_block (a := ⟨w.heap.size, 0, none⟩) h).trans z0) (And.intro ((World.cell?_of_block (a := ⟨w.heap.size, 1, none⟩) h).trans z1) (And.intro ((World.cell?_of_block (a := ⟨w.heap.size, 2, none⟩) h).trans z2) (And.intro ((World.cell?_of_block (a := ⟨w.heap.size, 3, none⟩) h).trans z3) (And.intro ((World.cell?_of_block (a := ⟨w.heap.size, 4, none⟩) h).trans z4) (And.intro ((World.cell?_of_block (a := ⟨w.heap.size, 5, none⟩) h).trans z5) (And.intro ((World.cell?_of_block (a := ⟨w.heap.size, 6, none⟩) h).trans z6) (fun j => (World.frozen?_of_block (a := ⟨w.heap.size, j, none⟩) h).trans (z8 j)))))))))
        have HZ1 := Lib.hid (fun (wx : World) (h : wx.heap[w.heap.size + 1]? = wr.heap[w.heap.size + 1]?) => And.intro ((World.cell?_of_block (a := ⟨w.heap.size + 1, 0, none⟩) h).trans z7) ((World.frozen?_of_block (a := ⟨w.heap.size + 1, 0, none⟩) h).trans z9))
        clear z0 z1 z2 z3 z4 z5 z6 z7 z8 z9 he a0 a1 a2 a3 a4 a5
        have HS0 := Lib.hid (HSM.out wr.drew rfl)
        go_upto_region 10 with fail
        refine wp_mono (Q := quietly _) ?_ (fun e a w h => quietly_out h)
        go_region_held (fun wx => wx.cell? ⟨w.heap.size + 3, 0, none⟩ = some (.int .i64 x0) ∧ wx.cell? ⟨w.heap.size + 3, 1, none⟩ = some (.int .i64 x1) ∧ wx.cell? ⟨w.heap.size + 3, 2, none⟩ = some (.int .i64 x2) ∧ wx.cell? ⟨w.heap.size + 3, 3, none⟩ = some (.int .i64 x3) ∧ wx.cell? ⟨w.heap.size + 3, 4, none⟩ = some (.int .i64 x4) ∧ wx.cell? ⟨w.heap.size + 3, 5, none⟩ = some (.int .i64 x5))
          (first | with_reducible exact HS2.out | with_reducible exact HS1.out | with_reducible exact HS0.out) (first
          | (go_at_call 39; refine (HX.out).mono ?_; rintro e w1 ⟨A1, n1, cap1, rfl, hn1, hc1, hr1, hrd1, hb1, hk1, hat1, hit1⟩; have HIT1 := Lib.hid hit1; have HN1 := Lib.hid hn1; have HC1 := Lib.hid hc1; have HR1 := Lib.hid hr1; have HRD1 := Lib.hid hrd1; have HB1 := Lib.hid hb1; have HKK := Lib.hid hk1; have HAT1 := Lib.hid hat1; have HK1 := Lib.hid (hk1 (w.heap.size + 3) (by show _ < wr.heap.size; omega) (by omega)); obtain ⟨z0, z1, z2, z3, z4, z5, z6, z8⟩ := HZ.out w1 (hk1 w.heap.size (by show _ < wr.heap.size; omega) (by omega)); have HK2 := Lib.hid ((laid_far w1 w.heap.size (w.heap.size + 3) (.int .i64 x0) (.int .i64 x1) (.int .i64 x2) (.int .i64 x3) (.int .i64 x4) (.int .i64 x5) (.slice A1 n1 cap1) (by omega)).trans HK1.out); have HS1 := Lib.hid (HSM.out w1 HK1.out); have HS2 := Lib.hid (HSM.out (((((((w1.setCell ⟨w.heap.size, 0, none⟩ (.int .i64 x0)).setCell ⟨w.heap.size, 1, none⟩ (.int .i64 x1)).setCell ⟨w.heap.size, 2, none⟩ (.int .i64 x2)).setCell ⟨w.heap.size, 3, none⟩ (.int .i64 x3)).setCell ⟨w.heap.size, 4, none⟩ (.int .i64 x4)).setCell ⟨w.heap.size, 5, none⟩ (.int .i64 x5)).setCell ⟨w.heap.size, 6, none⟩ (.slice A1 n1 cap1)) HK2.out); clear hn1 hc1 hr1 hrd1 hb1 hk1 hat1 hit1))
        obtain ⟨wS, hwS⟩ : ∃ wS, wS = laid w1 w.heap.size (.int .i64 x0) (.int .i64 x1) (.int .i64 x2) (.int .i64 x3) (.int .i64 x4) (.int .i64 x5) (.slice A1 n1 cap1) := ⟨_, rfl⟩
        show quietly _ _ _ (laid w1 w.heap.size (.int .i64 x0) (.int .i64 x1) (.int .i64 x2) (.int .i64 x3) (.int .i64 x4) (.int .i64 x5) (.slice A1 n1 cap1))
        rw [← hwS]
        simp only [quietly, Exit.then]
        rename_i hKK hHH
        refine hKK _ _ ?_
        clear hHH hKK
        obtain ⟨s0, s1, s2, s3, s4, s5, s6⟩ := laid_cells w1 w.heap.size (.int .i64 x0) (.int .i64 x1) (.int .i64 x2) (.int .i64 x3) (.int .i64 x4) (.int .i64 x5) (.slice A1 n1 cap1) _ _ _ _ _ _ _ z0 z1 z2 z3 z4 z5 z6
        rw [← hwS] at s0 s1 s2 s3 s4 s5 s6
        have hbig : w.heap.size + 4 ≤ w1.heap.size := by have := HB1.out.size; have h2 : wr.drew.heap.size = wr.heap.size := rfl; omega
        have hsS : wS.heap.size = w1.heap.size := by rw [hwS, laid_size]
        have hfar : ∀ k, k ≠ w.heap.size → wS.heap[k]? = w1.heap[k]? := fun k hk => by rw [hwS]; exact laid_far w1 w.heap.size k _ _ _ _ _ _ _ hk
        have hz1 := HZ1.out w1 (HKK.out (w.heap.size + 1) (by show _ < wr.heap.size; omega) (by omega))
        have e0 : wS.cell? ⟨w.heap.size + 1, 0, none⟩ = some (.int .i64 0) := (World.cell?_of_block (a := ⟨w.heap.size + 1, 0, none⟩) (hfar (w.heap.size + 1) (by omega))).trans hz1.1
        have e1 : wS.frozen? ⟨w.heap.size + 1, 0, none⟩ = false := (World.frozen?_of_block (a := ⟨w.heap.size + 1, 0, none⟩) (hfar (w.heap.size + 1) (by omega))).trans hz1.2
        have e2 : ∀ j, wS.frozen? ⟨w.heap.size, j, none⟩ = false := fun j => by rw [hwS, laid_frozen]; exact z8 j
        have hbS : Below w.heap.size w wS := by
          rw [hwS]
          exact laid_below ((HG.out.below.drew).trans (HB1.out.mono (by omega))) _ (Nat.le_refl _) _ _ _ _ _ _ _
        have HBS := Lib.hid hbS
        have HDO0 := Lib.hid (show Door w wS from ⟨hbS, by omega, ⟨_, _, _, _, _, _, _, s0, s1, s2, s3, s4, s5, s6⟩, e0, e2, e1⟩)
        have HRM := Lib.hid (show Rd wS A1 (iv m) from HR1.out.off (by omega) (fun a ha => hfar a.block (by have h3 : wr.heap.size ≤ a.block := HAT1.out a ha; omega)))
        have HIS := Lib.hid (show Ints wS A1 from HIT1.out.off (fun a ha => hfar a.block (by have h3 : wr.heap.size ≤ a.block := HAT1.out a ha; omega)))
        obtain ⟨Ar, nr, capr, r1, r2, r3, r5, r6, r7⟩ := HRD1.out.here
        have r1' : wS.cell? ⟨w.heap.size + 2, 0, none⟩ = some (.slice Ar nr capr) := (World.cell?_of_block (a := ⟨w.heap.size + 2, 0, none⟩) (hfar (w.heap.size + 2) (by omega))).trans r1
        have HNR := Lib.hid r2
        have HCK := Lib.hid (check_any ⟨x0, x1, x2, x3, x4, x5, m⟩ A1 n1 cap1 HN1.out wS HRM.out (by
          obtain ⟨hx1, hx2⟩ := Wp.takeN_form HTN.out
          have hx3 := congrArg List.length hx1
          rw [List.length_take] at hx3
          have hx4 := Jn.putN_ge m
          show m.length ≤ 1000000000000
          omega))
        have HSC := Lib.hid (And.intro s0 (And.intro s1 (And.intro s2 (And.intro s3 (And.intro s4 (And.intro s5 s6))))))
        have HLN := Lib.hid hsS
        have hE1 := Lib.hid e0
        have hE2 := Lib.hid e2
        have hE3 := Lib.hid e1
        clear hwS hfar hz1 hbS r1 r2 r3 r5 r6 r7 z0 z1 z2 z3 z4 z5 z6 z8 e0 e1 e2 s0 s1 s2 s3 s4 s5 s6 hsS hbig hki hlt hk hrl hl
        by_cases hnr : 0 < nr
        · have hnr' : (0 : Int) < (nr : Int) := by omega
          have HF := Lib.hid (show Jn.get l = (Jn.zero, 3) by
            have hlt : (Wp.takeN rest 16).2.1 < rest.length := by
              have := HNR.out
              rw [List.length_drop] at this
              rw [HTN.out]
              simp only
              omega
            unfold Jn.get
            rw [HIN.out]
            simp only
            rw [if_neg (by simp), if_neg (by rw [HTN.out]; simp), if_pos hlt])
          have HFX : Bx _ := ⟨HF.out⟩
          clear hnr HI HG HIN HSM HRD HX HTN HZ HZ1 HKK HK1 HK2 HS1 HS2 HS0 HAT1 HB1 HRD1 HR1 HC1 HN1 HBS HRM HNR HCK HSC HLN hE1 hE2 hE3 HF hsz
          go_wp2
          refine leaves_cons (f := 37) (args := #[.pointer (some ⟨w.heap.size, 0, none⟩), .pointer (some ⟨w.heap.size + 1, 0, none⟩)]) (by simp) (by simp [go_sem]) ?_
          refine (door_bad HDO0.out _).mono ?_
          rintro e u' w2 ⟨rfl, rfl, g0, g1, g2, g3, g4, g5, g6, g7, hb⟩
          have HXX := Lib.hid (RetEv.fail HFX.out hb)
          clear hb
          simp [Leaves, settle, results, Try.results23, go_sem, g0, g1, g2, g3, g4, g5, g6, g7]
          exact HXX.out
        · have hnr0 : nr = 0 := by omega
          subst hnr0
          unfold Jn.Ev.val at HCK
          simp only at HCK
          have HGE := Lib.hid (show Jn.get l = if Jn.check ⟨x0, x1, x2, x3, x4, x5, m⟩ ≠ 0 then (Jn.zero, Jn.check ⟨x0, x1, x2, x3, x4, x5, m⟩) else (⟨x0, x1, x2, x3, x4, x5, m⟩, 0) by
            have hlt : ¬ (Wp.takeN rest 16).2.1 < rest.length := by
              have := HNR.out
              rw [List.length_drop] at this
              rw [HTN.out]
              simp only
              omega
            unfold Jn.get
            rw [HIN.out]
            simp only
            rw [if_neg (by simp), if_neg (by rw [HTN.out]; simp), if_neg hlt, HTN.out]
            rfl)
          generalize Jn.check ⟨x0, x1, x2, x3, x4, x5, m⟩ = c at HCK HGE
          have HGX : Bx _ := ⟨HGE.out⟩
          have HMX : Bx (n1 = m.length) := ⟨HN1.out⟩
          have HATX : Bx (∀ a, A1 = some a → w.heap.size + 2 ≤ a.block) := ⟨fun a ha => by have h3 : wr.heap.size ≤ a.block := HAT1.out a ha; omega⟩
          clear hnr HI HG HIN HSM HRD HX HTN HZ HZ1 HKK HK1 HK2 HS1 HS2 HS0 HAT1 HB1 HRD1 HR1 HN1 HNR HLN HGE hsz
          obtain ⟨s0, s1, s2, s3, s4, s5, s6⟩ := HSC.out
          go_wp2_with fail
          refine (HCK.out).mono ?_
          rintro e wC ⟨rfl, hbC⟩
          have HDC := Lib.hid (HDO0.out.to hbC)
          have HBC := Lib.hid hbC
          by_cases hc : c = 0
          · subst hc
            have hsz := HDO0.out.size
            have t0 := (hbC.cell (p := ⟨w.heap.size, 0, none⟩) (by simp only; omega)).trans s0
            have t1 := (hbC.cell (p := ⟨w.heap.size, 1, none⟩) (by simp only; omega)).trans s1
            have t2 := (hbC.cell (p := ⟨w.heap.size, 2, none⟩) (by simp only; omega)).trans s2
            have t3 := (hbC.cell (p := ⟨w.heap.size, 3, none⟩) (by simp only; omega)).trans s3
            have t4 := (hbC.cell (p := ⟨w.heap.size, 4, none⟩) (by simp only; omega)).trans s4
            have t5 := (hbC.cell (p := ⟨w.heap.size, 5, none⟩) (by simp only; omega)).trans s5
            have t6 := (hbC.cell (p := ⟨w.heap.size, 6, none⟩) (by simp only; omega)).trans s6
            have f0 := HDC.out.fo 0
            have f1 := HDC.out.fo 1
            have f2 := HDC.out.fo 2
            have f3 := HDC.out.fo 3
            have f4 := HDC.out.fo 4
            have f5 := HDC.out.fo 5
            have f6 := HDC.out.fo 6
            have ff := HDC.out.fe
            have fe := HDC.out.er
            clear hbC s0 s1 s2 s3 s4 s5 s6 hsz
            have HT := Lib.hid (And.intro t0 (And.intro t1 (And.intro t2 (And.intro t3 (And.intro t4 (And.intro t5 t6))))))
            go_wp2
            clear t0 t1 t2 t3 t4 t5 t6 f0 f1 f2 f3 f4 f5 f6 ff fe
            show bodyPostD _ _ _ _ _ ((laid wC w.heap.size (.int .i64 x0) (.int .i64 x1) (.int .i64 x2) (.int .i64 x3) (.int .i64 x4) (.int .i64 x5) (.slice A1 n1 cap1)).setCell ⟨w.heap.size + 1, 0, none⟩ (.int .i64 0))
            obtain ⟨wF, hwF⟩ : ∃ wF, wF = (laid wC w.heap.size (.int .i64 x0) (.int .i64 x1) (.int .i64 x2) (.int .i64 x3) (.int .i64 x4) (.int .i64 x5) (.slice A1 n1 cap1)).setCell ⟨w.heap.size + 1, 0, none⟩ (.int .i64 0) := ⟨_, rfl⟩
            rw [← hwF]
            obtain ⟨t0, t1, t2, t3, t4, t5, t6⟩ := HT.out
            obtain ⟨l0, l1, l2, l3, l4, l5, l6⟩ := laid_cells wC w.heap.size (.int .i64 x0) (.int .i64 x1) (.int .i64 x2) (.int .i64 x3) (.int .i64 x4) (.int .i64 x5) (.slice A1 n1 cap1) _ _ _ _ _ _ _ t0 t1 t2 t3 t4 t5 t6
            have hfar : ∀ k, k ≠ w.heap.size → k ≠ w.heap.size + 1 → wF.heap[k]? = wC.heap[k]? := fun k hk hk1 => by rw [hwF, Below.heap_setCell _ _ _ _ hk1]; exact laid_far wC w.heap.size k _ _ _ _ _ _ _ hk
            have hne : w.heap.size ≠ w.heap.size + 1 := by omega
            have hsame : ∀ j, wF.cell? ⟨w.heap.size, j, none⟩ = (laid wC w.heap.size (.int .i64 x0) (.int .i64 x1) (.int .i64 x2) (.int .i64 x3) (.int .i64 x4) (.int .i64 x5) (.slice A1 n1 cap1)).cell? ⟨w.heap.size, j, none⟩ := fun j => by rw [hwF]; exact cell_far _ _ _ _ _ hne
            have g0 := (hsame 0).trans l0
            have g1 := (hsame 1).trans l1
            have g2 := (hsame 2).trans l2
            have g3 := (hsame 3).trans l3
            have g4 := (hsame 4).trans l4
            have g5 := (hsame 5).trans l5
            have g6 := (hsame 6).trans l6
            have g7 : wF.cell? ⟨w.heap.size + 1, 0, none⟩ = some (.int .i64 0) := by
              rw [hwF]
              exact World.cell?_setCell_same _ _ _ ((World.cell?_of_block (a := ⟨w.heap.size + 1, 0, none⟩) (laid_far wC w.heap.size (w.heap.size + 1) _ _ _ _ _ _ _ (Ne.symm hne))).trans HDC.out.er)
            have hsF : wF.heap.size = wC.heap.size := by rw [hwF, set_size, laid_size]
            have HRF := Lib.hid (show Rd wF A1 (iv m) from (HRM.out.to HBC.out).off (by omega) (fun a ha => hfar a.block (by have := HATX.out a ha; omega) (by have := HATX.out a ha; omega)))
            have HIF := Lib.hid (show Ints wF A1 from (HIS.out.to HBC.out).off (fun a ha => hfar a.block (by have := HATX.out a ha; omega) (by have := HATX.out a ha; omega)))
            have HBF := Lib.hid (show Below w.heap.size w wF by
              rw [hwF]
              exact (laid_below HDC.out.below _ (Nat.le_refl _) _ _ _ _ _ _ _).setCell (p := ⟨w.heap.size + 1, 0, none⟩) (by simp) _)
            have HGF : Bx (Jn.get l = (⟨x0, x1, x2, x3, x4, x5, m⟩, 0)) := ⟨by rw [HGX.out, if_neg (by simp)]⟩
            clear hwF hfar hsame l0 l1 l2 l3 l4 l5 l6 t0 t1 t2 t3 t4 t5 t6 hsF HT HGX
            refine leaves_cons (f := 37) (args := #[.pointer (some ⟨w.heap.size, 0, none⟩), .pointer (some ⟨w.heap.size + 1, 0, none⟩)]) (by simp) (by simp [go_sem]) ?_
            refine (catch_idle ⟨w.heap.size, 0, none⟩ ⟨w.heap.size + 1, 0, none⟩ wF).mono ?_
            rintro e u' w2 ⟨rfl, rfl, rfl⟩
            have HXX := Lib.hid (show RetEv w (Jn.get l) (.returned (.tuple #[.agg #[.int .i64 x0, .int .i64 x1, .int .i64 x2, .int .i64 x3, .int .i64 x4, .int .i64 x5, .slice A1 n1 cap1], .int .i64 0])) wF from by
              rw [HGF.out]
              exact ⟨A1, n1, cap1, rfl, HMX.out, HC1.out, HRF.out, HIF.out, HBF.out⟩)
            simp [Leaves, settle, results, Try.results23, go_sem, g0, g1, g2, g3, g4, g5, g6, g7]
            exact HXX.out
          · have hcf : (c == 0) = false := beq_f hc
            have HFX : Bx (Jn.get l = (Jn.zero, c)) := ⟨by rw [HGX.out, if_pos hc]⟩
            clear hc hbC s0 s1 s2 s3 s4 s5 s6 HSC HGX HMX hE1 hE2 hE3 HRM HC1 HCK
            go_wp2
            refine leaves_cons (f := 37) (args := #[.pointer (some ⟨w.heap.size, 0, none⟩), .pointer (some ⟨w.heap.size + 1, 0, none⟩)]) (by simp) (by simp [go_sem]) ?_
            refine (door_bad HDC.out c).mono ?_
            rintro e u' w2 ⟨rfl, rfl, g0, g1, g2, g3, g4, g5, g6, g7, hb⟩
            have HXX := Lib.hid (RetEv.fail HFX.out hb)
            clear hb
            simp [Leaves, settle, results, Try.results23, go_sem, g0, g1, g2, g3, g4, g5, g6, g7]
            exact HXX.out
      · have HX := Lib.hid (mix_bad (w.heap.size + 2) rest wr.drew HRD.out hrl he)
        have HF : Bx (Jn.get l = (Jn.zero, (Wp.takeN rest 16).2.2)) := ⟨by
          unfold Jn.get
          rw [HIN.out]
          simp only
          rw [if_neg (by simp), if_pos he]⟩
        generalize (Wp.takeN rest 16).2.2 = er at HX HF
        have HS0 := Lib.hid (HSM.out wr.drew rfl)
        have HD := Lib.hid (HG.out.door.to ((Below.refl _ wr).drew))
        clear he a0 a1 a2 a3 a4 a5
        go_upto_region 10 with fail
        refine wp_region_held_drew (S := fun wx => wx.cell? ⟨w.heap.size + 3, 0, none⟩ = some (.int .i64 x0) ∧ wx.cell? ⟨w.heap.size + 3, 1, none⟩ = some (.int .i64 x1) ∧ wx.cell? ⟨w.heap.size + 3, 2, none⟩ = some (.int .i64 x2) ∧ wx.cell? ⟨w.heap.size + 3, 3, none⟩ = some (.int .i64 x3) ∧ wx.cell? ⟨w.heap.size + 3, 4, none⟩ = some (.int .i64 x4) ∧ wx.cell? ⟨w.heap.size + 3, 5, none⟩ = some (.int .i64 x5)) (by kernel_rfl) HS0.out (fun hHeld => ?_)
        refine wpAnyH_take (i := 0) (v := (.pointer (some ⟨w.heap.size + 3, 0, none⟩))) rfl (by kernel_rfl) (by kernel_rfl) (by kernel_rfl) (fun c a w h => panic_inv (by decide) (by decide) c a w h) (Or.inl ⟨by rfl, ?_⟩) hHeld ?_
        · intro wx hSw
          try dsimp only at hSw
          obtain ⟨q0, q1, q2, q3, q4, q5⟩ := hSw
          go_simp
        try simp only [Act.put, List.setIfInBounds_toArray]
        refine wpAnyH_take (i := 1) (v := (.int .i64 x0)) rfl (by kernel_rfl) (by kernel_rfl) (by kernel_rfl) (fun c a w h => panic_inv (by decide) (by decide) c a w h) (Or.inl ⟨by rfl, ?_⟩) hHeld ?_
        · intro wx hSw
          try dsimp only at hSw
          obtain ⟨q0, q1, q2, q3, q4, q5⟩ := hSw
          go_simp
        try simp only [Act.put]
        refine wpAnyH_take (i := 2) (v := (.pointer (some ⟨w.heap.size + 3, 1, none⟩))) rfl (by kernel_rfl) (by kernel_rfl) (by kernel_rfl) (fun c a w h => panic_inv (by decide) (by decide) c a w h) (Or.inl ⟨by rfl, ?_⟩) hHeld ?_
        · intro wx hSw
          try dsimp only at hSw
          obtain ⟨q0, q1, q2, q3, q4, q5⟩ := hSw
          go_simp
        try simp only [Act.put]
        refine wpAnyH_take (i := 3) (v := (.int .i64 x1)) rfl (by kernel_rfl) (by kernel_rfl) (by kernel_rfl) (fun c a w h => panic_inv (by decide) (by decide) c a w h) (Or.inl ⟨by rfl, ?_⟩) hHeld ?_
        · intro wx hSw
          try dsimp only at hSw
          obtain ⟨q0, q1, q2, q3, q4, q5⟩ := hSw
          go_simp
        try simp only [Act.put]
        refine wpAnyH_take (i := 4) (v := (.pointer (some ⟨w.heap.size + 3, 2, none⟩))) rfl (by kernel_rfl) (by kernel_rfl) (by kernel_rfl) (fun c a w h => panic_inv (by decide) (by decide) c a w h) (Or.inl ⟨by rfl, ?_⟩) hHeld ?_
        · intro wx hSw
          try dsimp only at hSw
          obtain ⟨q0, q1, q2, q3, q4, q5⟩ := hSw
          go_simp
        try simp only [Act.put]
        refine wpAnyH_take (i := 5) (v := (.int .i64 x2)) rfl (by kernel_rfl) (by kernel_rfl) (by kernel_rfl) (fun c a w h => panic_inv (by decide) (by decide) c a w h) (Or.inl ⟨by rfl, ?_⟩) hHeld ?_
        · intro wx hSw
          try dsimp only at hSw
          obtain ⟨q0, q1, q2, q3, q4, q5⟩ := hSw
          go_simp
        try simp only [Act.put]
        refine wpAnyH_take (i := 6) (v := (.pointer (some ⟨w.heap.size + 3, 3, none⟩))) rfl (by kernel_rfl) (by kernel_rfl) (by kernel_rfl) (fun c a w h => panic_inv (by decide) (by decide) c a w h) (Or.inl ⟨by rfl, ?_⟩) hHeld ?_
        · intro wx hSw
          try dsimp only at hSw
          obtain ⟨q0, q1, q2, q3, q4, q5⟩ := hSw
          go_simp
        try simp only [Act.put]
        refine wpAnyH_take (i := 7) (v := (.int .i64 x3)) rfl (by kernel_rfl) (by kernel_rfl) (by kernel_rfl) (fun c a w h => panic_inv (by decide) (by decide) c a w h) (Or.inl ⟨by rfl, ?_⟩) hHeld ?_
        · intro wx hSw
          try dsimp only at hSw
          obtain ⟨q0, q1, q2, q3, q4, q5⟩ := hSw
          go_simp
        try simp only [Act.put]
        refine wpAnyH_take (i := 8) (v := (.pointer (some ⟨w.heap.size + 3, 4, none⟩))) rfl (by kernel_rfl) (by kernel_rfl) (by kernel_rfl) (fun c a w h => panic_inv (by decide) (by decide) c a w h) (Or.inl ⟨by rfl, ?_⟩) hHeld ?_
        · intro wx hSw
          try dsimp only at hSw
          obtain ⟨q0, q1, q2, q3, q4, q5⟩ := hSw
          go_simp
        try simp only [Act.put]
        refine wpAnyH_take (i := 9) (v := (.int .i64 x4)) rfl (by kernel_rfl) (by kernel_rfl) (by kernel_rfl) (fun c a w h => panic_inv (by decide) (by decide) c a w h) (Or.inl ⟨by rfl, ?_⟩) hHeld ?_
        · intro wx hSw
          try dsimp only at hSw
          obtain ⟨q0, q1, q2, q3, q4, q5⟩ := hSw
          go_simp
        try simp only [Act.put]
        refine wpAnyH_take (i := 10) (v := (.pointer (some ⟨w.heap.size + 3, 5, none⟩))) rfl (by kernel_rfl) (by kernel_rfl) (by kernel_rfl) (fun c a w h => panic_inv (by decide) (by decide) c a w h) (Or.inl ⟨by rfl, ?_⟩) hHeld ?_
        · intro wx hSw
          try dsimp only at hSw
          obtain ⟨q0, q1, q2, q3, q4, q5⟩ := hSw
          go_simp
        try simp only [Act.put]
        refine wpAnyH_take (i := 11) (v := (.int .i64 x5)) rfl (by kernel_rfl) (by kernel_rfl) (by kernel_rfl) (fun c a w h => panic_inv (by decide) (by decide) c a w h) (Or.inl ⟨by rfl, ?_⟩) hHeld ?_
        · intro wx hSw
          try dsimp only at hSw
          obtain ⟨q0, q1, q2, q3, q4, q5⟩ := hSw
          go_simp
        try simp only [Act.put]
        refine wpAnyH_take (i := 12) (v := (.func (.func 39) #[.pointer (some ⟨w.heap.size + 2, 0, none⟩)] #[])) rfl (by kernel_rfl) (by kernel_rfl) (by kernel_rfl) (fun c a w h => panic_inv (by decide) (by decide) c a w h) (Or.inl ⟨by rfl, ?_⟩) hHeld ?_
        · intro wx hSw
          try dsimp only at hSw
          obtain ⟨q0, q1, q2, q3, q4, q5⟩ := hSw
          go_simp
        try simp only [Act.put]
        refine wpAnyH_ready (rs := [13]) (by kernel_rfl) (by simp) ?_
        refine AllReadyH.cons rfl (fun K' hK => ?_) AllReadyH.nil
        go_simp
        refine (HX.out).mono ?_
        rintro e w2 ⟨rfl, hb2⟩
        have HDB := Lib.hid (HD.out.to hb2)
        clear hb2 HI HG HIN HSM HRD HX HS0 HD hK hHeld hsz hrl hl
        show bodyPostD _ _ _ (Exit.panic (thrown er)) _ _
        refine leaves_cons (f := 37) (args := #[.pointer (some ⟨w.heap.size, 0, none⟩), .pointer (some ⟨w.heap.size + 1, 0, none⟩)]) (by simp) (by simp [go_sem]) ?_
        refine (door_bad HDB.out er).mono ?_
        rintro e u' w3 ⟨rfl, rfl, g0, g1, g2, g3, g4, g5, g6, g7, hb⟩
        have HXX := Lib.hid (RetEv.fail HF.out hb)
        clear hb
        simp [Leaves, settle, results, Try.results23, go_sem, g0, g1, g2, g3, g4, g5, g6, g7]
        exact HXX.out
end Go.Proofs.Ytcpdfgckfefboaa
