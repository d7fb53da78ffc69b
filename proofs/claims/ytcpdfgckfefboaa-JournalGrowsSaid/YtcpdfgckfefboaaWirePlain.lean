/- Plain definitions and laws of the wire encoding: varints, zigzag codes, texts, lists. No program in sight. -/
namespace Go.Proofs.Ytcpdfgckfefboaa
namespace Wp

/-- The varint of u, with room for f + 1 bytes. -/
def vi : Nat → Nat → List UInt8
  | 0, u => [UInt8.ofNat u]
  | f + 1, u => if u < 128 then [UInt8.ofNat u] else UInt8.ofNat (u % 128 + 128) :: vi f (u / 128)
def varint (u : Nat) : List UInt8 := vi 9 u

theorem vi_more : ∀ f u, u < 128 ^ (f + 1) → vi (f + 1) u = vi f u := by
  intro f
  induction f with
  | zero => intro u h; simp at h; simp [vi, h]
  | succ f ih =>
    intro u h
    have h2 : u / 128 < 128 ^ (f + 1) := by
      rw [Nat.div_lt_iff_lt_mul (by decide)]
      rw [Nat.pow_succ] at h
      exact h
    rw [vi, ih _ h2]
    rfl
theorem varint_small {u : Nat} (h : u < 128) : varint u = [UInt8.ofNat u] := by simp [varint, vi, h]
theorem varint_big {u : Nat} (h : 128 ≤ u) (hm : u < 18446744073709551616) : varint u = UInt8.ofNat (u % 128 + 128) :: varint (u / 128) := by
  have h1 : u / 128 < 128 ^ (8 + 1) := by
    rw [Nat.div_lt_iff_lt_mul (by decide)]
    exact Nat.lt_trans hm (by decide)
  show vi 9 u = _
  rw [vi, if_neg (by omega)]
  unfold varint
  rw [vi_more 8 _ h1]
theorem vi_len : ∀ f u, 1 ≤ (vi f u).length ∧ (vi f u).length ≤ f + 1 := by
  intro f
  induction f with
  | zero => intro u; simp [vi]
  | succ f ih =>
    intro u
    unfold vi
    split
    · simp
    · have := ih (u / 128)
      simp
      omega
theorem varint_len (u : Nat) : 1 ≤ (varint u).length ∧ (varint u).length ≤ 10 := vi_len 9 u

/-- What TakeUint reads: k bytes are read already, their value is acc. -/
def tk (k acc : Nat) : List UInt8 → Nat × Nat × Int
  | [] => if k = 10 then (0, 0, 2) else (0, 0, 4)
  | c :: r => if k = 10 then (0, 0, 2)
    else if 128 ≤ c.toNat then tk (k + 1) (acc + (c.toNat % 128) * 128 ^ k) r
    else if k = 9 ∧ 1 < c.toNat then (0, 0, 2)
    else if 0 < k ∧ c.toNat = 0 then (0, 0, 3)
    else (acc + c.toNat * 128 ^ k, k + 1, 0)
def takeU (l : List UInt8) : Nat × Nat × Int := tk 0 0 l

/-- The zigzag code. -/
def zz (n : Int) : Nat := if 0 ≤ n then (2 * n).toNat else (-2 * n - 1).toNat
def unzz (u : Nat) : Int := if u % 2 = 0 then (u / 2 : Nat) else -((u / 2 : Nat) : Int) - 1
def takeI (l : List UInt8) : Int × Nat × Int := if (takeU l).2.2 = 0 then (unzz (takeU l).1, (takeU l).2.1, 0) else (0, 0, (takeU l).2.2)

/-- A length that may not exceed most. -/
def takeL (l : List UInt8) (most : Int) : Int × Nat × Int :=
  if (takeU l).2.2 = 0 then (if most < 0 ∨ most < ((takeU l).1 : Int) then (0, 0, 8) else (((takeU l).1 : Int), (takeU l).2.1, 0)) else (0, 0, (takeU l).2.2)
def takeT (l : List UInt8) (most : Int) : List UInt8 × Nat × Int :=
  if (takeL l most).2.2 = 0 then (if ((l.length - (takeL l most).2.1 : Nat) : Int) < (takeL l most).1 then ([], 0, 4)
    else ((l.drop (takeL l most).2.1).take (takeL l most).1.toNat, (takeL l most).2.1 + (takeL l most).1.toNat, 0)) else ([], 0, (takeL l most).2.2)
/-- n further elements, behind those in acc. -/
def goList (l : List UInt8) : Nat → Nat → List Int → List Int × Nat × Int
  | 0, p, acc => (acc, p, 0)
  | n + 1, p, acc => if (takeI (l.drop p)).2.2 = 0 then goList l n (p + (takeI (l.drop p)).2.1) (acc ++ [(takeI (l.drop p)).1]) else ([], 0, (takeI (l.drop p)).2.2)
def takeN (l : List UInt8) (most : Int) : List Int × Nat × Int :=
  if (takeL l most).2.2 = 0 then goList l (takeL l most).1.toNat (takeL l most).2.1 [] else ([], 0, (takeL l most).2.2)

def putI (n : Int) : List UInt8 := varint (zz n)
def putT (s : List UInt8) : List UInt8 := varint s.length ++ s
def putN (l : List Int) : List UInt8 := varint l.length ++ l.flatMap putI

theorem tk_bd : ∀ (l : List UInt8) (k acc : Nat), k ≤ 10 → (tk k acc l).2.1 ≤ k + l.length ∧ ((tk k acc l).2.2 = 0 → k < (tk k acc l).2.1) := by
  intro l
  induction l with
  | nil => intro k acc _; unfold tk; split <;> simp
  | cons c r ih =>
    intro k acc hk
    unfold tk
    split
    · simp
    · split
      · have := ih (k + 1) (acc + (c.toNat % 128) * 128 ^ k) (by omega)
        simp only [List.length_cons]
        exact ⟨by omega, fun h => by have := this.2 h; omega⟩
      · split
        · simp
        · split
          · simp
          · simp
theorem takeU_bd (l : List UInt8) : (takeU l).2.1 ≤ l.length ∧ ((takeU l).2.2 = 0 → 1 ≤ (takeU l).2.1) := by
  have := tk_bd l 0 0 (by omega)
  unfold takeU
  exact ⟨by omega, fun h => by have := this.2 h; omega⟩
end Wp
end Go.Proofs.Ytcpdfgckfefboaa
