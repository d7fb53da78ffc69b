/- Lists of products in memory; the walks of large, check, Find. -/
import Derived.Test.YtcplgplcmgbglaaProdFits
namespace Go.Proofs.Ytcplgplcmgbglaa
open Go.RowKit

namespace Pd
/-- The slice at address A holds these products (A need be an address only if there is one). -/
def Prods (w : World) (A : Option Addr) (l : List Prod) : Prop := ∀ k p, l[k]? = some p → ∃ b off, A = some ⟨b, off, none⟩ ∧ b < w.heap.size ∧
  p.fit ∧ w.cell? ⟨b, off + k * 5, none⟩ = some (.string p.code) ∧ w.cell? ⟨b, off + k * 5 + 1, none⟩ = some (.int .i64 p.producer) ∧ w.cell? ⟨b, off + k * 5 + 2, none⟩ = some (.int .i64 p.deposit) ∧ w.cell? ⟨b, off + k * 5 + 3, none⟩ = some (.int .i64 p.material) ∧ w.cell? ⟨b, off + k * 5 + 4, none⟩ = some (.int .i64 p.grams)

theorem Prods.below {w w' : World} {A : Option Addr} {l : List Prod} (h : Prods w A l) {B : Nat} (hB : w.heap.size ≤ B) (hb : Below B w w') : Prods w' A l := by
  intro k p hk
  obtain ⟨b, off, hA, hlt, hf, c0, c1, c2, c3, c4⟩ := h k p hk
  have hs := hb.size
  have hbB : b < B := by omega
  refine ⟨b, off, hA, by omega, hf, ?_, ?_, ?_, ?_, ?_⟩
  all_goals (rw [hb.cell hbB]; assumption)

def big (p : Prod) : Bool := decide (100 < p.code.size)
def largeB (l : List Prod) : Bool := decide (100 < l.length) || l.any big

theorem any_snoc {α : Type} (f : α → Bool) (l : List α) (k : Nat) (p : α) (h : l[k]? = some p) : (l.take (k + 1)).any f = ((l.take k).any f || f p) := by
  rw [List.take_add_one, h]
  simp
theorem any_of {α : Type} (f : α → Bool) (l : List α) (k : Nat) (p : α) (h : l[k]? = some p) (hf : f p = true) : l.any f = true := by
  rw [List.any_eq_true]
  exact ⟨p, List.mem_of_getElem? h, hf⟩

/-- The error of one product. -/
def chkP (p : Prod) (pa ma : Int) : Int :=
  if cod p.code.data.toList ≠ 0 then cod p.code.data.toList
  else if p.producer < 0 ∨ pa ≤ p.producer then 7
  else if p.deposit < 1 ∨ 1000 < p.deposit then 1
  else if p.material < 0 ∨ ma ≤ p.material then 21
  else if p.grams < 1 ∨ 10000 < p.grams then 1 else 0

theorem chkP_code (p : Prod) (pa ma : Int) (h : cod p.code.data.toList ≠ 0) : chkP p pa ma = cod p.code.data.toList := by simp [chkP, h]
theorem chkP_ok (p : Prod) (pa ma : Int) (h : cod p.code.data.toList = 0) : chkP p pa ma = if p.producer < 0 ∨ pa ≤ p.producer then 7
  else if p.deposit < 1 ∨ 1000 < p.deposit then 1
  else if p.material < 0 ∨ ma ≤ p.material then 21
  else if p.grams < 1 ∨ 10000 < p.grams then 1 else 0 := by simp [chkP, h]
end Pd

set_option maxHeartbeats 400000 in
theorem large_any (A : Option Addr) (cap : Nat) (l : List Pd.Prod) (w : World) (hP : Pd.Prods w A l) :
    Calls Try.prog 15 #[.slice A l.length cap] w fun e w' => e = .returned (.bool (Pd.largeB l)) ∧ Below w.heap.size w w' := by

  by_cases hl : l.length ≤ 100
  · go_enter Try.func15, Try.ntmps15
    have HP := Lib.hid hP
    clear hP
    go_wp2
    go_loopw [10] (fun i wr => ∃ k : Nat, k ≤ l.length ∧ i = .int .i64 k ∧ (l.take k).any Pd.big = false ∧ Below w.heap.size w wr) (fun i _ => l.length - (intOf i).toNat)
    case atStart => exact ⟨0, by omega, rfl, rfl, Below.refl _ _⟩
    case round =>
      obtain ⟨k, hk, rfl, hn, hb⟩ := hrel
      have HN := Lib.hid hn
      have HB := Lib.hid hb
      have hsz := hb.size
      clear hn
      by_cases hlt : k < l.length
      · obtain ⟨p, hp⟩ := get_of_lt hlt
        obtain ⟨b, off, rfl, hlt2, hf, c0, c1, c2, c3, c4⟩ := (HP.out.below (Nat.le_refl _) hb) k p hp
        have HK := Lib.hid hp
        clear hb hp hf
        by_cases hbig : 100 < p.code.size
        · have HF := Lib.hid (show Pd.largeB l = true by unfold Pd.largeB; rw [Pd.any_of Pd.big l k p HK.out (by simp [Pd.big, hbig])]; simp)
          go_wp2
          go_ret
          exact ⟨ret_bool HF.out.symm, HB.out.alloc hsz _⟩
        · have HS := Lib.hid (show (l.take (k + 1)).any Pd.big = false by rw [Pd.any_snoc _ _ _ _ HK.out, HN.out]; simpa [Pd.big] using hbig)
          go_wp2
          go_roundw
          case rel => exact ⟨k + 1, by omega, by go_num, HS.out, HB.out.alloc hsz _⟩
          case measure => simp [intOf]; omega
      · have hke : k = l.length := by omega
        subst hke
        have HF := Lib.hid (show Pd.largeB l = false by
          have := HN.out; rw [List.take_length] at this
          unfold Pd.largeB; rw [this]; simpa using hl)
        clear hb
        go_wp2
        go_ret
        exact ⟨ret_bool HF.out.symm, HB.out⟩
  · have HF := Lib.hid (show Pd.largeB l = true by unfold Pd.largeB; simp [show 100 < l.length by omega])
    go_enter Try.func15, Try.ntmps15
    go_wp2
    go_ret
    exact ⟨ret_bool HF.out.symm, Below.refl _ _⟩

set_option maxHeartbeats 800000 in
theorem check_any (p : Pd.Prod) (pa ma : Int) (w : World) :
    Calls Try.prog 23 #[p.val, .int .i64 pa, .int .i64 ma] w fun e w' => e = .returned (.int .i64 (Pd.chkP p pa ma)) ∧ Below w.heap.size w w' := by
  obtain ⟨code, producer, deposit, material, x⟩ := p
  unfold Pd.Prod.val
  simp only
  have HC := Lib.hid (code_any code)
  by_cases hz : Pd.cod code.data.toList = 0
  · have HF := Lib.hid (Pd.chkP_ok ⟨code, producer, deposit, material, x⟩ pa ma hz)
    rw [hz] at HC
    clear hz
    go_enter Try.func23, Try.ntmps23
    go_wp2_with fail
    refine (HC.out _).mono ?_
    rintro e w' ⟨rfl, hb⟩
    have HB := Lib.hid ((below_new w _).trans (hb.mono (by simp)))
    obtain ⟨w2, hw2⟩ : ∃ w2, w2 = w' := ⟨_, rfl⟩
    have k0 := hb.cell (p := ⟨w.heap.size, 0, none⟩) (by simp)
    have k1 := hb.cell (p := ⟨w.heap.size, 1, none⟩) (by simp)
    have k2 := hb.cell (p := ⟨w.heap.size, 2, none⟩) (by simp)
    have k3 := hb.cell (p := ⟨w.heap.size, 3, none⟩) (by simp)
    have k4 := hb.cell (p := ⟨w.heap.size, 4, none⟩) (by simp)
    clear hb hw2
    go_wp2
    all_goals
      go_ret
      exact ⟨ret_int1 (by rw [HF.out]; (repeat' split) <;> first | rfl | omega), HB.out⟩
  · have HF := Lib.hid (Pd.chkP_code ⟨code, producer, deposit, material, x⟩ pa ma hz)
    have hz' := beq_f hz
    obtain ⟨c, hc⟩ : ∃ c, c = Pd.cod code.data.toList := ⟨_, rfl⟩
    rw [← hc] at HC hz'
    have HE := Lib.hid hc
    clear hc hz
    go_enter Try.func23, Try.ntmps23
    go_wp2_with fail
    refine (HC.out _).mono ?_
    rintro e w' ⟨rfl, hb⟩
    go_wp2
    go_ret
    exact ⟨ret_int1 (by rw [HF.out, HE.out]), (below_new w _).trans (hb.mono (by simp))⟩
end Go.Proofs.Ytcplgplcmgbglaa
