/- Plain definitions and laws of the checksum and of frames. No program in sight. -/
import Derived.Test.YtcpdfgckfefboaaWirePlain
import Derived.Test.YtcpdfgckfefboaaMem
namespace Go.Proofs.Ytcpdfgckfefboaa
namespace Cr

/-- One of the eight steps. -/
def step (r : Nat) : Nat := if r % 2 = 1 then (r / 2) ^^^ 3988292384 else r / 2
def steps : Nat → Nat → Nat
  | 0, r => r
  | k + 1, r => steps k (step r)
def sh (r c : Nat) : Nat := steps 8 (r ^^^ c)
def run : Nat → List UInt8 → Nat
  | r, [] => r
  | r, c :: l => run (sh r c.toNat) l
def ext (s : Nat) (l : List UInt8) : Nat := 4294967295 - run (4294967295 - s) l
def sum (l : List UInt8) : Nat := ext 0 l
/-- The four bytes of a checksum. -/
def four (s : Nat) : List UInt8 := [UInt8.ofNat (s / 16777216), UInt8.ofNat (s / 65536), UInt8.ofNat (s / 256), UInt8.ofNat s]
def frame (l : List UInt8) : List UInt8 := Wp.varint l.length ++ l ++ four (sum l)
/-- What opening returns: content, length, error. -/
def opn (b : List UInt8) : List UInt8 × Nat × Int :=
  if (Wp.takeU b).2.2 = 0 then
    (if 65536 < (Wp.takeU b).1 then ([], 0, 8)
     else if b.length - (Wp.takeU b).2.1 < (Wp.takeU b).1 + 4 then ([], 0, 4)
     else if (b.drop ((Wp.takeU b).2.1 + (Wp.takeU b).1)).take 4 = four (sum ((b.drop (Wp.takeU b).2.1).take (Wp.takeU b).1))
       then ((b.drop (Wp.takeU b).2.1).take (Wp.takeU b).1, (Wp.takeU b).2.1 + (Wp.takeU b).1 + 4, 0) else ([], 0, 15))
  else ([], 0, (Wp.takeU b).2.2)

theorem step_lt {r : Nat} (h : r < 4294967296) : step r < 4294967296 := by
  unfold step
  split
  · exact Nat.xor_lt_two_pow (n := 32) (by omega) (by decide)
  · omega
theorem steps_lt : ∀ (k : Nat) {r : Nat}, r < 4294967296 → steps k r < 4294967296
  | 0, _, h => h
  | k + 1, _, h => steps_lt k (step_lt h)
theorem sh_lt {r c : Nat} (h : r < 4294967296) (hc : c < 256) : sh r c < 4294967296 := steps_lt 8 (Nat.xor_lt_two_pow (n := 32) h (by omega))
theorem run_lt : ∀ (l : List UInt8) {r : Nat}, r < 4294967296 → run r l < 4294967296
  | [], _, h => h
  | c :: l, _, h => run_lt l (sh_lt h c.toNat_lt)
theorem run_append : ∀ (a b : List UInt8) (r : Nat), run r (a ++ b) = run (run r a) b
  | [], _, _ => rfl
  | c :: a, b, r => run_append a b (sh r c.toNat)
theorem run_snoc (a : List UInt8) (c : UInt8) (r : Nat) : run r (a ++ [c]) = sh (run r a) c.toNat := by rw [run_append]; rfl
theorem ext_lt (s : Nat) (l : List UInt8) : ext s l < 4294967296 := by unfold ext; omega
theorem sum_lt (l : List UInt8) : sum l < 4294967296 := ext_lt 0 l
theorem ext_nil {s : Nat} (h : s < 4294967296) : ext s [] = s := by
  show 4294967295 - (4294967295 - s) = s
  omega
theorem ext_append (s : Nat) (a b : List UInt8) : ext (ext s a) b = ext s (a ++ b) := by
  unfold ext
  rw [run_append]
  have := run_lt a (r := 4294967295 - s) (by omega)
  rw [show 4294967295 - (4294967295 - run (4294967295 - s) a) = run (4294967295 - s) a by omega]

/-! ### no two registers become one -/
theorem xor_cancel {a b c : Nat} (h : a ^^^ c = b ^^^ c) : a = b := by
  have := congrArg (· ^^^ c) h
  simpa [Nat.xor_assoc] using this
theorem high (x : Nat) (h : x < 2147483648) : 2147483648 ≤ x ^^^ 3988292384 := by
  have ht : (x ^^^ 3988292384).testBit 31 = true := by
    rw [Nat.testBit_xor, Nat.testBit_lt_two_pow (show x < 2 ^ 31 from h)]
    decide
  exact Nat.ge_two_pow_of_testBit ht
theorem step_inj {a b : Nat} (ha : a < 4294967296) (hb : b < 4294967296) (h : step a = step b) : a = b := by
  unfold step at h
  have h1 := high (a / 2) (by omega)
  have h2 := high (b / 2) (by omega)
  split at h <;> split at h
  · have := xor_cancel h; omega
  · omega
  · omega
  · omega
theorem steps_inj : ∀ (k : Nat) {a b : Nat}, a < 4294967296 → b < 4294967296 → steps k a = steps k b → a = b
  | 0, _, _, _, _, h => h
  | k + 1, _, _, ha, hb, h => step_inj ha hb (steps_inj k (step_lt ha) (step_lt hb) h)
theorem sh_inj {a b c : Nat} (ha : a < 4294967296) (hb : b < 4294967296) (hc : c < 256) (h : sh a c = sh b c) : a = b :=
  xor_cancel (steps_inj 8 (Nat.xor_lt_two_pow (n := 32) ha (by omega)) (Nat.xor_lt_two_pow (n := 32) hb (by omega)) h)
theorem sh_byte {a c d : Nat} (ha : a < 4294967296) (hc : c < 256) (hd : d < 256) (h : sh a c = sh a d) : c = d := by
  have := steps_inj 8 (Nat.xor_lt_two_pow (n := 32) ha (by omega)) (Nat.xor_lt_two_pow (n := 32) ha (by omega)) h
  rw [Nat.xor_comm a c, Nat.xor_comm a d] at this
  exact xor_cancel this
theorem run_inj : ∀ (l : List UInt8) {a b : Nat}, a < 4294967296 → b < 4294967296 → run a l = run b l → a = b
  | [], _, _, _, _, h => h
  | c :: l, _, _, ha, hb, h => sh_inj ha hb c.toNat_lt (run_inj l (sh_lt ha c.toNat_lt) (sh_lt hb c.toNat_lt) h)
/-- A changed byte changes the checksum. -/
theorem sum_changed (p q : List UInt8) (c d : UInt8) (h : sum (p ++ c :: q) = sum (p ++ d :: q)) : c = d := by
  unfold sum ext at h
  have l1 := run_lt (p ++ c :: q) (r := 4294967295 - 0) (by omega)
  have l2 := run_lt (p ++ d :: q) (r := 4294967295 - 0) (by omega)
  have h2 : run (4294967295 - 0) (p ++ c :: q) = run (4294967295 - 0) (p ++ d :: q) := by omega
  rw [run_append, run_append] at h2
  have hp := run_lt p (r := 4294967295 - 0) (by omega)
  have := run_inj q (sh_lt hp c.toNat_lt) (sh_lt hp d.toNat_lt) h2
  exact UInt8.toNat_inj.1 (sh_byte hp c.toNat_lt d.toNat_lt this)
theorem four_length (s : Nat) : (four s).length = 4 := rfl
theorem four_inj {s t : Nat} (hs : s < 4294967296) (ht : t < 4294967296) (h : four s = four t) : s = t := by
  unfold four at h
  simp only [List.cons.injEq, and_true] at h
  obtain ⟨h1, h2, h3, h4⟩ := h
  have e : ∀ {x y : Nat}, UInt8.ofNat x = UInt8.ofNat y → x % 256 = y % 256 := fun h => by
    have := congrArg UInt8.toNat h
    simpa using this
  have := e h1
  have := e h2
  have := e h3
  have := e h4
  omega
end Cr
end Go.Proofs.Ytcpdfgckfefboaa
