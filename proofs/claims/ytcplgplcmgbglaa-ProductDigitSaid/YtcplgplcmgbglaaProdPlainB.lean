/- Plain laws on product codes: one digit changed, two digits exchanged, one digit added. -/
import Derived.Test.YtcplgplcmgbglaaProdPlain
namespace Go.Proofs.Ytcplgplcmgbglaa
namespace Pd

theorem wsum_append (a b : List UInt8) : ∀ odd, wsum odd (a ++ b) = wsum odd a + wsum (odd != parity a.length) b := by
  induction a with
  | nil => intro odd; cases odd <;> simp [wsum, parity]
  | cons c r ih =>
    intro odd
    have hp : parity (r.length + 1) = !parity r.length := by
      unfold parity
      rcases Nat.mod_two_eq_zero_or_one r.length with h | h
      · have : (r.length + 1) % 2 = 1 := by omega
        simp [h, this]
      · have : (r.length + 1) % 2 = 0 := by omega
        simp [h, this]
    simp only [List.cons_append, wsum, ih, List.length_cons, hp]
    cases odd <;> cases parity r.length <;> simp <;> omega

theorem dig_range {c : UInt8} (h : isDig c = true) : 48 ≤ (c.toNat : Int) ∧ (c.toNat : Int) ≤ 57 := by
  simp [isDig] at h
  omega

theorem allDig_append (a b : List UInt8) : allDig (a ++ b) = (allDig a && allDig b) := by simp [allDig]
theorem allDig_cons (c : UInt8) (b : List UInt8) : allDig (c :: b) = (isDig c && allDig b) := by simp [allDig]

/-- A code is valid just if the weighted sum of all its digits is a multiple of 10. -/
theorem cod_sum (l : List UInt8) (h : l.length = 13) (ha : allDig l = true) : cod l = if wsum false l % 10 = 0 then 0 else 26 := by
  have h12 : 12 < l.length := by omega
  have e : l.take 12 ++ [l[12]] = l := by rw [← take_snoc l 12 h12, List.take_of_length_le (by omega)]
  have hs : wsum false l = wsum false (l.take 12) + ((l[12].toNat : Int) - 48) := by
    have := wsum_snoc (l.take 12) l[12] false
    rw [e] at this
    rw [this]
    simp [parity, List.length_take_of_le (show 12 ≤ l.length by omega)]
  have hd : isDig l[12] = true := by
    have := allDig_append (l.take 12) [l[12]]
    rw [e, ha] at this
    simp [allDig_cons] at this
    exact this.2.1
  have hr := dig_range hd
  simp only [cod, h, ha, and_self, if_true, List.getElem?_eq_getElem h12, Option.getD_some, hs]
  have hc : (chk (l.take 12) = (l[12].toNat : Int) - 48) ↔ ((wsum false (l.take 12) + ((l[12].toNat : Int) - 48)) % 10 = 0) := by
    unfold chk
    omega
  by_cases hq : (wsum false (l.take 12) + ((l[12].toNat : Int) - 48)) % 10 = 0
  · rw [if_pos hq, if_pos (hc.2 hq)]
  · rw [if_neg hq, if_neg (fun x => hq (hc.1 x))]

theorem cod_zero {l : List UInt8} (h : cod l = 0) : l.length = 13 ∧ allDig l = true ∧ wsum false l % 10 = 0 := by
  by_cases hv : l.length = 13 ∧ allDig l = true
  · refine ⟨hv.1, hv.2, ?_⟩
    have := cod_sum l hv.1 hv.2
    rw [h] at this
    by_cases hq : wsum false l % 10 = 0
    · exact hq
    · rw [if_neg hq] at this; omega
  · unfold cod at h
    rw [if_neg hv] at h
    omega

/-- One digit changed: still a code just if it is the same digit. -/
theorem cod_change (A B : List UInt8) (c d : UInt8) (h : cod (A ++ c :: B) = 0) (hd : isDig d = true) : cod (A ++ d :: B) = if c.toNat = d.toNat then 0 else 26 := by
  obtain ⟨hl, ha, hs⟩ := cod_zero h
  simp only [allDig_append, allDig_cons, Bool.and_eq_true] at ha
  have hc := dig_range ha.2.1
  have hdr := dig_range hd
  rw [cod_sum (A ++ d :: B) (by simpa using hl) (by simp [allDig_append, allDig_cons, ha.1, ha.2.2, hd])]
  have key : wsum false (A ++ d :: B) % 10 = 0 ↔ c.toNat = d.toNat := by
    rw [wsum_append] at hs ⊢
    simp only [wsum] at hs ⊢
    generalize parity A.length = q at hs ⊢
    cases q <;> simp at hs ⊢ <;> omega
  by_cases e : c.toNat = d.toNat
  · rw [if_pos (key.2 e), if_pos e]
  · rw [if_neg (fun x => e (key.1 x)), if_neg e]

/-- Two neighbours exchanged: still a code just if 5 divides their difference. -/
theorem cod_swap (A B : List UInt8) (c d : UInt8) (h : cod (A ++ c :: d :: B) = 0) : cod (A ++ d :: c :: B) = if ((c.toNat : Int) - (d.toNat : Int)) % 5 = 0 then 0 else 26 := by
  obtain ⟨hl, ha, hs⟩ := cod_zero h
  simp only [allDig_append, allDig_cons, Bool.and_eq_true] at ha
  rw [cod_sum (A ++ d :: c :: B) (by simpa using hl) (by simp [allDig_append, allDig_cons, ha.1, ha.2.1, ha.2.2.1, ha.2.2.2])]
  have key : wsum false (A ++ d :: c :: B) % 10 = 0 ↔ ((c.toNat : Int) - (d.toNat : Int)) % 5 = 0 := by
    rw [wsum_append] at hs ⊢
    simp only [wsum, Bool.not_not] at hs ⊢
    generalize parity A.length = q at hs ⊢
    cases q <;> simp at hs ⊢ <;> omega
  by_cases e : ((c.toNat : Int) - (d.toNat : Int)) % 5 = 0
  · rw [if_pos (key.2 e), if_pos e]
  · rw [if_neg (fun x => e (key.1 x)), if_neg e]

/-- One digit more behind twelve. -/
theorem cod_push (l : List UInt8) (c : UInt8) (hc : isDig c = true) : cod (l ++ [c]) = if (dgt l).2 = 0 then (if (dgt l).1 = (c.toNat : Int) - 48 then 0 else 26) else 3 := by
  by_cases hv : l.length = 12 ∧ allDig l = true
  · have hd : dgt l = (chk l, 0) := by unfold dgt; rw [if_pos hv]
    rw [hd, if_pos rfl]
    have h13 : (l ++ [c]).length = 13 := by simp [hv.1]
    have ht : (l ++ [c]).take 12 = l := by rw [← hv.1]; simp
    have hg : ((l ++ [c])[12]?.getD 0) = c := by rw [← hv.1]; simp
    unfold cod
    rw [if_pos ⟨h13, by rw [allDig_append, hv.2, allDig_cons, hc]; rfl⟩, ht, hg]
  · have hd : dgt l = (0, 3) := by unfold dgt; rw [if_neg hv]
    rw [hd, if_neg (by decide)]
    unfold cod
    rw [if_neg]
    rintro ⟨h1, h2⟩
    rw [allDig_append, Bool.and_eq_true] at h2
    exact hv ⟨by simpa using h1, h2.1⟩

theorem dgt_range (l : List UInt8) : ((dgt l).2 = 0 ∧ 0 ≤ (dgt l).1 ∧ (dgt l).1 ≤ 9) ∨ ((dgt l).2 = 3 ∧ (dgt l).1 = 0) := by
  unfold dgt
  split
  · exact .inl ⟨rfl, chk_bd l⟩
  · exact .inr ⟨rfl, rfl⟩
end Pd
end Go.Proofs.Ytcplgplcmgbglaa
