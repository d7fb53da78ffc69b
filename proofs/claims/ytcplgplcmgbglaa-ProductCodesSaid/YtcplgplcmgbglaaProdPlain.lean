/- Plain definitions about product codes: digits, weighted sums, the check digit. No program in sight. -/
namespace Go.Proofs.Ytcplgplcmgbglaa
namespace Pd

/-- A byte is an ASCII digit. -/
def isDig (c : UInt8) : Bool := decide (48 ≤ c.toNat) && decide (c.toNat ≤ 57)
def allDig (l : List UInt8) : Bool := l.all isDig

/-- The weighted sum, weights 1 and 3 in turn; 'odd' says whether the first one has weight 3. -/
def wsum : Bool → List UInt8 → Int
  | _, [] => 0
  | odd, c :: r => (if odd then 3 else 1) * ((c.toNat : Int) - 48) + wsum (!odd) r

def parity (n : Nat) : Bool := n % 2 == 1

theorem wsum_snoc (l : List UInt8) (c : UInt8) : ∀ odd, wsum odd (l ++ [c]) = wsum odd l + (if odd != parity l.length then 3 else 1) * ((c.toNat : Int) - 48) := by
  induction l with
  | nil => intro odd; cases odd <;> simp [wsum, parity]
  | cons a r ih =>
    intro odd
    have hp : parity (r.length + 1) = !parity r.length := by
      unfold parity
      rcases Nat.mod_two_eq_zero_or_one r.length with h | h
      · have : (r.length + 1) % 2 = 1 := by omega
        simp [h, this]
      · have : (r.length + 1) % 2 = 0 := by omega
        simp [h, this]
    simp only [List.cons_append, wsum, ih, List.length_cons, hp]
    cases odd <;> cases parity r.length <;> simp <;> omega

theorem wsum_bd (l : List UInt8) (h : allDig l = true) : ∀ odd, 0 ≤ wsum odd l ∧ wsum odd l ≤ 27 * l.length := by
  induction l with
  | nil => intro odd; simp [wsum]
  | cons a r ih =>
    intro odd
    simp only [allDig, List.all_cons, Bool.and_eq_true, isDig, decide_eq_true_eq] at h
    have h2 := ih (by simpa [allDig] using h.2) (!odd)
    simp only [wsum, List.length_cons]
    cases odd <;> simp at h2 ⊢ <;> omega

/-- The check digit that belongs to a list of digits. -/
def chk (l : List UInt8) : Int := (10 - wsum false l % 10) % 10

theorem chk_bd (l : List UInt8) : 0 ≤ chk l ∧ chk l ≤ 9 := by unfold chk; omega

/-- Digit, as a function on bytes: the value and the error. -/
def dgt (l : List UInt8) : Int × Int := if l.length = 12 ∧ allDig l = true then (chk l, 0) else (0, 3)

/-- Code, as a function on bytes. -/
def cod (l : List UInt8) : Int :=
  if l.length = 13 ∧ allDig l = true then (if chk (l.take 12) = ((l[12]?.getD 0).toNat : Int) - 48 then 0 else 26) else 3

theorem take_snoc (l : List UInt8) (k : Nat) (h : k < l.length) : l.take (k + 1) = l.take k ++ [l[k]] := by
  rw [List.take_succ_eq_append_getElem h]

theorem allDig_snoc (l : List UInt8) (c : UInt8) : allDig (l ++ [c]) = (allDig l && isDig c) := by simp [allDig]

theorem allDig_take {l : List UInt8} (h : allDig l = true) (k : Nat) : allDig (l.take k) = true := by
  simp only [allDig, List.all_eq_true] at h ⊢
  intro x hx
  exact h x (List.mem_of_mem_take hx)

theorem not_allDig {l : List UInt8} (k : Nat) (h : k < l.length) (hd : isDig l[k] = false) : allDig l = false := by
  rw [Bool.eq_false_iff]
  intro ha
  simp only [allDig, List.all_eq_true] at ha
  have := ha l[k] (List.getElem_mem h)
  simp [hd] at this

end Pd
end Go.Proofs.Ytcplgplcmgbglaa
