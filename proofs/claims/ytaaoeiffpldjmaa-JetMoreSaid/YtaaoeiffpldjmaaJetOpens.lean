/- The walks of open, and of the reference's within. -/
import Derived.Test.YtaaoeiffpldjmaaJetSteps
namespace Go.Proofs.Ytaaoeiffpldjmaa
open Go.RowKit

namespace Jt
def inWin (s : Int) (p : Win) : Bool := decide (p.1 ≤ s ∧ s < p.2)
theorem isOpen_eq (l : List Win) (s : Int) : isOpen l s = l.any (inWin s) := rfl
theorem any_snoc {α : Type} (l : List α) (f : α → Bool) (k : Nat) (p : α) (h : l[k]? = some p) : (l.take (k + 1)).any f = ((l.take k).any f || f p) := by
  rw [List.take_add_one, h]; simp
def idx (l : List Win) (s : Int) : Option Nat := l.findIdx? (inWin s)
def idxI : Option Nat → Int | some k => k | none => -1
theorem idx_found (l : List Win) (c : Int) (k : Nat) (p : Win) (h : l[k]? = some p) (hn : (l.take k).any (inWin c) = false) (hs : inWin c p = true) : idx l c = some k := by
  have hk : k < l.length := by
    rcases Nat.lt_or_ge k l.length with h1 | h1
    · exact h1
    · rw [List.getElem?_eq_none h1] at h; cases h
  unfold idx
  rw [List.findIdx?_eq_some_iff_getElem]
  have hp : l[k] = p := by rw [List.getElem?_eq_getElem hk] at h; exact Option.some.inj h
  refine ⟨hk, by rw [hp]; exact hs, fun j hj => ?_⟩
  rw [List.any_eq_false] at hn
  have : l[j] ∈ l.take k := by
    rw [List.mem_iff_getElem]
    exact ⟨j, by rw [List.length_take]; omega, by rw [List.getElem_take]⟩
  exact hn _ this
theorem idx_none (l : List Win) (c : Int) (hn : l.any (inWin c) = false) : idx l c = none := by
  unfold idx
  rw [List.findIdx?_eq_none_iff]
  rw [List.any_eq_false] at hn
  intro x hx
  simpa using hn x hx
theorem any_true (l : List Win) (c : Int) (k : Nat) (p : Win) (h : l[k]? = some p) (hs : inWin c p = true) : isOpen l c = true := by
  rw [isOpen_eq, List.any_eq_true]
  exact ⟨p, List.mem_of_getElem? h, hs⟩
theorem isOpen_idx (l : List Win) (c : Int) : isOpen l c = decide (0 ≤ idxI (idx l c)) := by
  rw [isOpen_eq]
  unfold idx
  rcases h : l.findIdx? (inWin c) with _ | k
  · rw [List.findIdx?_eq_none_iff] at h
    have : l.any (inWin c) = false := by
      rw [List.any_eq_false]
      intro x hx
      simp [h x hx]
    rw [this]; rfl
  · rw [List.findIdx?_eq_some_iff_getElem] at h
    obtain ⟨hk, hs, _⟩ := h
    rw [show l.any (inWin c) = true from List.any_eq_true.2 ⟨_, List.getElem_mem hk, hs⟩]
    unfold idxI
    simp
theorem idxI_range (l : List Win) (c : Int) : -1 ≤ idxI (idx l c) := by
  rcases idx l c with _ | k
  · decide
  · unfold idxI; simp only; omega
end Jt

set_option maxRecDepth 100000 in
set_option maxHeartbeats 1600000 in
/-- The function literal of open: does the window hold the step that the captured variable holds? -/
theorem open1_any (x y s : Int) (b : Nat) (w : World) (hc : w.cell? ⟨b, 0, none⟩ = some (.int .i64 s)) (hb : b < w.heap.size) :
    Calls Try.prog 33 #[.agg #[.int .i64 x, .int .i64 y], .pointer (some ⟨b, 0, none⟩)] w fun e w' => e = .returned (.bool (Jt.inWin s (x, y))) ∧ w.alloc (.cells #[.int .i64 x, .int .i64 y] 44) = w' := by
  have hc' : (w.alloc (.cells #[.int .i64 x, .int .i64 y] 44)).cell? ⟨b, 0, none⟩ = some (.int .i64 s) := by
    rw [World.cell?_alloc_lt _ _ _ hb]; exact hc
  by_cases h1 : x ≤ s
  · by_cases h2 : s < y
    · have HF := Lib.hid (show Jt.inWin s (x, y) = true by unfold Jt.inWin; simp [h1, h2])
      go_enter Try.func33, Try.ntmps33
      go_wp2
      go_ret
      exact ⟨ret_bool HF.out.symm, rfl⟩
    · have HF := Lib.hid (show Jt.inWin s (x, y) = false by unfold Jt.inWin; simp [h2])
      go_enter Try.func33, Try.ntmps33
      go_wp2
      go_ret
      exact ⟨ret_bool HF.out.symm, rfl⟩
  · have HF := Lib.hid (show Jt.inWin s (x, y) = false by unfold Jt.inWin; simp [h1])
    go_enter Try.func33, Try.ntmps33
    go_wp2
    go_ret
    exact ⟨ret_bool HF.out.symm, rfl⟩

set_option maxRecDepth 100000 in
set_option maxHeartbeats 1600000 in
theorem index_any (A : Option Addr) (cap : Nat) (l : List Jt.Win) (c : Int) (b : Nat) (w : World) (hP : Jt.Wins w A l) (hm : l.length ≤ 9223372036854775807) (hc : w.cell? ⟨b, 0, none⟩ = some (.int .i64 c)) (hb : b < w.heap.size) :
    Calls Try.prog 34 #[.slice A l.length cap, .func (.func 33) #[] #[.pointer (some ⟨b, 0, none⟩)]] w
      fun e w' => e = .returned (.int .i64 (Jt.idxI (Jt.idx l c))) ∧ Below w.heap.size w w' := by
  have HP := Lib.hid hP
  clear hP
  go_enter Try.func34, Try.ntmps34
  go_wp2
  go_loopw [8] (fun i wr => ∃ k : Nat, k ≤ l.length ∧ i = .int .i64 k ∧ (l.take k).any (Jt.inWin c) = false ∧ Below w.heap.size w wr) (fun i _ => l.length - (intOf i).toNat)
  case atStart => exact ⟨0, by omega, rfl, rfl, Below.refl _ _⟩
  case round =>
    obtain ⟨k, hk, rfl, hn, hbw⟩ := hrel
    have HN := Lib.hid hn
    have HB := Lib.hid hbw
    have hsz := hbw.size
    clear hn
    by_cases hlt : k < l.length
    · obtain ⟨p, hp⟩ := get_of_lt hlt
      obtain ⟨b2, off, rfl, hlt2, c0, c1⟩ := (HP.out.below (Nat.le_refl _) hbw) k p hp
      have HK := Lib.hid hp
      have hcr : wr.cell? ⟨b, 0, none⟩ = some (.int .i64 c) := by rw [hbw.cell hb]; exact hc
      clear hbw hp hc
      obtain ⟨x, y⟩ := p
      simp only at c0 c1
      have HCall := Lib.hid (open1_any x y c b wr hcr (by omega))
      go_wp2_with fail
      refine HCall.out.mono ?_
      rintro e w' ⟨rfl, rfl⟩
      by_cases hs : Jt.inWin c (x, y) = true
      · have HF := Lib.hid (Jt.idx_found l c k (x, y) HK.out HN.out hs)
        go_wp2
        go_ret
        exact ⟨ret_int1 (by rw [HF.out]; rfl), HB.out.alloc hsz _⟩
      · have hs' : Jt.inWin c (x, y) = false := by simpa using hs
        have HS := Lib.hid (show (l.take (k + 1)).any (Jt.inWin c) = false by rw [Jt.any_snoc _ _ _ _ HK.out, HN.out, hs']; rfl)
        clear hs
        go_wp2
        go_roundw
        case rel => exact ⟨k + 1, by omega, by go_num, HS.out, HB.out.alloc hsz _⟩
        case measure => simp [intOf]; omega
    · have hke : k = l.length := by omega
      subst hke
      have HF := Lib.hid (Jt.idx_none l c (by have := HN.out; rwa [List.take_length] at this))
      clear hbw
      go_wp2
      go_ret
      exact ⟨ret_int1 (by rw [HF.out]; rfl), HB.out⟩

set_option maxRecDepth 100000 in
set_option maxHeartbeats 1600000 in
theorem contains_any (A : Option Addr) (cap : Nat) (l : List Jt.Win) (c : Int) (b : Nat) (w : World) (hP : Jt.Wins w A l) (hm : l.length ≤ 9223372036854775807) (hc : w.cell? ⟨b, 0, none⟩ = some (.int .i64 c)) (hb : b < w.heap.size) :
    Calls Try.prog 32 #[.slice A l.length cap, .func (.func 33) #[] #[.pointer (some ⟨b, 0, none⟩)]] w
      fun e w' => e = .returned (.bool (Jt.isOpen l c)) ∧ Below w.heap.size w w' := by
  have HI := Lib.hid (index_any A cap l c b w hP hm hc hb)
  have HF := Lib.hid (Jt.isOpen_idx l c)
  obtain ⟨q, hq⟩ : ∃ q, q = Jt.idxI (Jt.idx l c) := ⟨_, rfl⟩
  rw [← hq] at HI HF
  clear hq hc hP
  by_cases h0 : 0 ≤ q
  · have HT := Lib.hid (show Jt.isOpen l c = true by rw [HF.out]; simpa using h0)
    go_enter Try.func32, Try.ntmps32
    go_wp2_with fail
    refine HI.out.mono ?_
    rintro e w' ⟨rfl, hb⟩
    have HB := Lib.hid hb
    clear hb
    go_wp2
    go_ret
    exact ⟨ret_bool HT.out.symm, HB.out⟩
  · clear h0
    go_enter Try.func32, Try.ntmps32
    go_wp2_with fail
    refine HI.out.mono ?_
    rintro e w' ⟨rfl, hb⟩
    have HB := Lib.hid hb
    clear hb
    go_wp2
    go_ret
    exact ⟨ret_bool HF.out.symm, HB.out⟩

set_option maxRecDepth 100000 in
set_option maxHeartbeats 1600000 in
theorem open_any (A : Option Addr) (n cap : Nat) (l : List Jt.Win) (hn : n = l.length) (c : Int) (w : World) (hP : Jt.Wins w A l) (hm : l.length ≤ 9223372036854775807) :
    Calls Try.prog 30 #[.slice A n cap, .int .i64 c] w fun e w' => e = .returned (.bool (Jt.isOpen l c)) ∧ Below w.heap.size w w' := by
  subst hn
  have HP := Lib.hid hP
  clear hP
  have hbn := below_new w (.cells #[.int .i64 c] 3)
  have HI := Lib.hid (contains_any A cap l c w.heap.size (w.alloc (.cells #[.int .i64 c] 3)) (HP.out.to hbn) hm (by simp) (by simp))
  have HB := Lib.hid hbn
  clear hbn
  go_enter Try.func30, Try.ntmps30
  go_wp2_with fail
  refine HI.out.mono ?_
  rintro e w' ⟨rfl, hb⟩
  have HB2 := Lib.hid hb
  clear hb
  go_wp2
  go_ret
  exact ⟨rfl, HB.out.trans (HB2.out.mono (by simp))⟩

set_option maxRecDepth 100000 in
set_option maxHeartbeats 1600000 in
theorem within_any (A : Option Addr) (n cap : Nat) (l : List Jt.Win) (hn : n = l.length) (c : Int) (w : World) (hP : Jt.Wins w A l) (hm : l.length ≤ 9223372036854775807) :
    Calls Try.prog 31 #[.slice A n cap, .int .i64 c] w fun e w' => e = .returned (.bool (Jt.isOpen l c)) ∧ Below w.heap.size w w' := by
  subst hn
  have HP := Lib.hid hP
  clear hP
  go_enter Try.func31, Try.ntmps31
  go_wp2
  go_loopw [9] (fun i wr => ∃ k : Nat, k ≤ l.length ∧ i = .int .i64 (k : Int) ∧ Hid ((l.take k).any (Jt.inWin c) = false) ∧ Below w.heap.size w wr) (fun i _ => l.length - (intOf i).toNat)
  case atStart => exact ⟨0, by omega, rfl, Lib.hid rfl, Below.refl _ _⟩
  case round =>
    obtain ⟨k, hk, rfl, HN, hbw⟩ := hrel
    have HB := Lib.hid hbw
    have hsz := hbw.size
    by_cases hlt : k < l.length
    · obtain ⟨p, hp⟩ := get_of_lt hlt
      obtain ⟨b2, off, rfl, hlt2, c0, c1⟩ := (HP.out.to hbw) k p hp
      have HK := Lib.hid hp
      clear hbw hp
      obtain ⟨x, y⟩ := p
      simp only at c0 c1
      have hki : (k : Int) < (l.length : Int) := by omega
      by_cases h1 : x ≤ c
      · by_cases h2 : c < y
        · have HF := Lib.hid (Jt.any_true l c k (x, y) HK.out (by unfold Jt.inWin; simp [h1, h2]))
          go_wp2
          go_ret
          exact ⟨ret_bool HF.out.symm, HB.out.alloc hsz _⟩
        · have HS := Lib.hid (show (l.take (k + 1)).any (Jt.inWin c) = false by rw [Jt.any_snoc _ _ _ _ HK.out, HN.out]; unfold Jt.inWin; simp [h2])
          go_wp2
          go_roundw
          case rel => exact ⟨k + 1, by omega, by go_num, HS, HB.out.alloc hsz _⟩
          case measure => simp [intOf]; omega
      · have HS := Lib.hid (show (l.take (k + 1)).any (Jt.inWin c) = false by rw [Jt.any_snoc _ _ _ _ HK.out, HN.out]; unfold Jt.inWin; simp [h1])
        go_wp2
        go_roundw
        case rel => exact ⟨k + 1, by omega, by go_num, HS, HB.out.alloc hsz _⟩
        case measure => simp [intOf]; omega
    · have hke : k = l.length := by omega
      have HF := Lib.hid (show Jt.isOpen l c = false by have := HN.out; rw [hke, List.take_length] at this; exact this)
      have hki : ¬ (k : Int) < (l.length : Int) := by omega
      clear hbw
      go_wp2
      go_ret
      exact ⟨ret_bool HF.out.symm, HB.out⟩
end Go.Proofs.Ytaaoeiffpldjmaa
