/- The walk of great. -/
import Derived.Test.YtcpdfgckfefboaaJnAwake
import Derived.Test.YtcpdfgckfefboaaJnLaws
namespace Go.Proofs.Ytcpdfgckfefboaa
open Go.RowKit
namespace Jn
def bigE (e : Ev) : Bool := decide (40 < e.mix.length)
def great (l : List Ev) : Bool := decide (30 < l.length) || l.any bigE
theorem great_no {l : List Ev} (h : great l = false) : l.length ≤ 30 ∧ ∀ e ∈ l, e.mix.length ≤ 40 := by
  unfold great at h
  rw [Bool.or_eq_false_iff] at h
  obtain ⟨h1, h2⟩ := h
  rw [List.any_eq_false] at h2
  refine ⟨by simpa using h1, fun e he => ?_⟩
  have := h2 e he
  unfold bigE at this
  simpa using this
end Jn

set_option maxRecDepth 100000 in
set_option maxHeartbeats 1600000 in
theorem great_any (A : Option Addr) (n cap : Nat) (l : List Jn.Ev) (hn : n = l.length) (w : World) (hl : Jn.Evs w A l) (hm : l.length ≤ 1000000000000) :
    Calls Try.prog 11 #[.slice A n cap] w fun e w' => e = .returned (.bool (Jn.great l)) ∧ w = w' := by
  subst hn
  have HL := Lib.hid hl
  clear hl
  by_cases hb : 30 < l.length
  · have hb' : (30 : Int) < (l.length : Int) := by omega
    have HF : Bx (true = Jn.great l) := ⟨by unfold Jn.great; simp [hb]⟩
    clear hb
    go_enter Try.func11, Try.ntmps11
    go_wp2
    go_ret
    exact ⟨ret_bool HF.out, rfl⟩
  · have hb' : ¬ (30 : Int) < (l.length : Int) := by omega
    have HG : Bx (Jn.great l = l.any Jn.bigE) := ⟨by unfold Jn.great; simp [hb]⟩
    clear hb
    go_enter Try.func11, Try.ntmps11
    go_wp2
    go_loop [3] (fun i => ∃ k : Nat, k ≤ l.length ∧ i = .int .i64 (k : Int) ∧ Bx ((l.take k).any Jn.bigE = false)) (fun i => l.length - (intOf i).toNat)
    case atStart => exact ⟨0, by omega, rfl, ⟨rfl⟩⟩
    case round =>
      obtain ⟨k, hk, rfl, HN⟩ := hrel
      by_cases hlt : k < l.length
      · obtain ⟨b, off, hA, hbl, ha⟩ := HL.out k _ (List.getElem?_eq_getElem hlt)
        subst hA
        have hp := List.getElem?_eq_getElem hlt
        generalize l[k] = e at ha hp
        obtain ⟨A3, n3, cap3, _, _, _, _, _, _, x6h, xn, _, _⟩ := ha
        have HK : Bx (l[k]? = some e) := ⟨hp⟩
        have hki : (k : Int) < (l.length : Int) := by omega
        clear hp
        by_cases hg : 40 < n3
        · have hg' : (40 : Int) < (n3 : Int) := by omega
          have HF : Bx (true = Jn.great l) := ⟨by
            rw [HG.out]
            symm
            rw [List.any_eq_true]
            exact ⟨e, List.mem_of_getElem? HK.out, by unfold Jn.bigE; simp; omega⟩⟩
          clear xn hg
          go_wp2
          go_ret
          exact ⟨ret_bool HF.out, rfl⟩
        · have hg' : ¬ (40 : Int) < (n3 : Int) := by omega
          have HN2 : Bx ((l.take (k + 1)).any Jn.bigE = false) := ⟨by
            rw [Jn.any_snoc _ _ _ _ HK.out, HN.out]
            unfold Jn.bigE
            simp
            omega⟩
          clear xn hg
          go_wp2
          go_round
          case rel => exact ⟨k + 1, by omega, by go_num, HN2⟩
          case measure => simp [intOf]; omega
      · have hke : k = l.length := by omega
        subst hke
        have HF : Bx (false = Jn.great l) := ⟨by
          have := HN.out
          rw [List.take_length] at this
          rw [HG.out, this]⟩
        go_wp2
        go_ret
        exact ⟨ret_bool HF.out, rfl⟩
end Go.Proofs.Ytcpdfgckfefboaa
