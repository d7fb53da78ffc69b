/- The walks of Check. -/
import Derived.Test.YtcpdfgckfefboaaJnPlain
namespace Go.Proofs.Ytcpdfgckfefboaa
open Go.RowKit
theorem retk {a b : Int} (h : a = b) : Ending.returned (.int .i64 a) = .returned (.int .i64 b) := by rw [h]
namespace Jn
theorem any_snoc {α : Type} (l : List α) (f : α → Bool) (k : Nat) (p : α) (h : l[k]? = some p) : (l.take (k + 1)).any f = ((l.take k).any f || f p) := by
  rw [List.take_add_one, h]; simp
def mb (n : Int) : Bool := decide (badM n)
def idx (l : List Int) : Option Nat := l.findIdx? mb
def idxI : Option Nat → Int | some k => k | none => -1
theorem idx_found (l : List Int) (k : Nat) (p : Int) (h : l[k]? = some p) (hn : (l.take k).any mb = false) (hs : mb p = true) : idx l = some k := by
  have hk : k < l.length := by
    rcases Nat.lt_or_ge k l.length with h1 | h1
    · exact h1
    · rw [List.getElem?_eq_none h1] at h; cases h
  unfold idx
  rw [List.findIdx?_eq_some_iff_getElem]
  have hp : l[k] = p := by rw [List.getElem?_eq_getElem hk] at h; exact Option.some.inj h
  refine ⟨hk, by rw [hp]; exact hs, fun j hj => ?_⟩
  rw [List.any_eq_false] at hn
  have : l[j] ∈ l.take k := by
    rw [List.mem_iff_getElem]
    exact ⟨j, by rw [List.length_take]; omega, by rw [List.getElem_take]⟩
  exact hn _ this
theorem idx_none (l : List Int) (hn : l.any mb = false) : idx l = none := by
  unfold idx
  rw [List.findIdx?_eq_none_iff]
  rw [List.any_eq_false] at hn
  intro x hx
  simpa using hn x hx
theorem any_idx (l : List Int) : l.any mb = decide (0 ≤ idxI (idx l)) := by
  unfold idx
  rcases h : l.findIdx? mb with _ | k
  · rw [List.findIdx?_eq_none_iff] at h
    have : l.any mb = false := by
      rw [List.any_eq_false]
      intro x hx
      simp [h x hx]
    rw [this]; rfl
  · rw [List.findIdx?_eq_some_iff_getElem] at h
    obtain ⟨hk, hs, _⟩ := h
    rw [show l.any mb = true from List.any_eq_true.2 ⟨_, List.getElem_mem hk, hs⟩]
    unfold idxI
    simp
end Jn
set_option maxRecDepth 100000 in
set_option maxHeartbeats 1600000 in
theorem check1_any (n : Int) (w : World) : Calls Try.prog 31 #[.int .i64 n] w fun e w' => e = .returned (.bool (Jn.mb n)) ∧ w = w' := by
  have hcase : n < 0 ∨ (¬ n < 0 ∧ 1073741824 < n) ∨ (¬ n < 0 ∧ ¬ 1073741824 < n) := by omega
  rcases hcase with h1 | ⟨h1, h2⟩ | ⟨h1, h2⟩
  · have HF := Lib.hid (show true = Jn.mb n by simp [Jn.mb, Jn.badM, h1])
    go_enter Try.func31, Try.ntmps31
    go_wp2
    go_ret
    exact ⟨ret_bool HF.out, rfl⟩
  · have HF := Lib.hid (show true = Jn.mb n by simp [Jn.mb, Jn.badM, h2])
    go_enter Try.func31, Try.ntmps31
    go_wp2
    go_ret
    exact ⟨ret_bool HF.out, rfl⟩
  · have HF := Lib.hid (show false = Jn.mb n from (decide_eq_false (fun h : Jn.badM n => h.elim h1 h2)).symm)
    go_enter Try.func31, Try.ntmps31
    go_wp2
    go_ret
    exact ⟨ret_bool HF.out, rfl⟩

set_option maxRecDepth 100000 in
set_option maxHeartbeats 1600000 in
theorem mindex_any (A : Option Addr) (cap : Nat) (l : List Int) (w : World) (hP : Rd w A (iv l)) (hm : l.length ≤ 9223372036854775807) :
    Calls Try.prog 48 #[.slice A l.length cap, .func (.func 31) #[] #[]] w
      fun e w' => e = .returned (.int .i64 (Jn.idxI (Jn.idx l))) ∧ w = w' := by
  have HP := Lib.hid hP
  clear hP
  go_enter Try.func48, Try.ntmps48
  go_wp2
  go_loop [8] (fun i => ∃ k : Nat, k ≤ l.length ∧ i = .int .i64 k ∧ Hid ((l.take k).any Jn.mb = false)) (fun i => l.length - (intOf i).toNat)
  case atStart => exact ⟨0, by omega, rfl, Lib.hid rfl⟩
  case round =>
    obtain ⟨k, hk, rfl, HN⟩ := hrel
    by_cases hlt : k < l.length
    · obtain ⟨b2, off, hA, hlt2, c0⟩ := HP.out.ati hlt
      subst hA
      have hp := List.getElem?_eq_getElem hlt
      generalize l[k] = p at c0 hp
      have HK := Lib.hid hp
      clear hp
      have HCall := Lib.hid (check1_any p w)
      go_wp2_with fail
      refine HCall.out.mono ?_
      rintro e w' ⟨rfl, rfl⟩
      by_cases hs : Jn.mb p = true
      · have HF := Lib.hid (Jn.idx_found l k p HK.out HN.out hs)
        go_wp2
        go_ret
        exact ⟨ret_int1 (by rw [HF.out]; rfl), rfl⟩
      · have hs' : Jn.mb p = false := by simpa using hs
        have HS := Lib.hid (show (l.take (k + 1)).any Jn.mb = false by rw [Jn.any_snoc _ _ _ _ HK.out, HN.out, hs']; rfl)
        clear hs
        go_wp2
        go_round
        case rel => exact ⟨k + 1, by omega, by go_num, HS⟩
        case measure => simp [intOf]; omega
    · have hke : k = l.length := by omega
      have HF := Lib.hid (Jn.idx_none l (by have := HN.out; rw [hke, List.take_length] at this; exact this))
      have hki : ¬ (k : Int) < (l.length : Int) := by omega
      go_wp2
      go_ret
      exact ⟨ret_int1 (by rw [HF.out]; rfl), rfl⟩

set_option maxRecDepth 100000 in
set_option maxHeartbeats 1600000 in
theorem mcontains_any (A : Option Addr) (cap : Nat) (l : List Int) (w : World) (hP : Rd w A (iv l)) (hm : l.length ≤ 9223372036854775807) :
    Calls Try.prog 30 #[.slice A l.length cap, .func (.func 31) #[] #[]] w
      fun e w' => e = .returned (.bool (l.any Jn.mb)) ∧ w = w' := by
  have HI := Lib.hid (mindex_any A cap l w hP hm)
  have HF := Lib.hid (Jn.any_idx l)
  obtain ⟨q, hq⟩ : ∃ q, q = Jn.idxI (Jn.idx l) := ⟨_, rfl⟩
  rw [← hq] at HI HF
  clear hq hP
  by_cases h0 : 0 ≤ q
  · have HT := Lib.hid (show l.any Jn.mb = true by rw [HF.out]; simpa using h0)
    go_enter Try.func30, Try.ntmps30
    go_wp2_with fail
    refine HI.out.mono ?_
    rintro e w' ⟨rfl, rfl⟩
    go_wp2
    go_ret
    exact ⟨ret_bool HT.out.symm, rfl⟩
  · clear h0
    go_enter Try.func30, Try.ntmps30
    go_wp2_with fail
    refine HI.out.mono ?_
    rintro e w' ⟨rfl, rfl⟩
    go_wp2
    go_ret
    exact ⟨ret_bool HF.out.symm, rfl⟩
end Go.Proofs.Ytcpdfgckfefboaa
