/- The walks of PutText, PutList. -/
import Derived.Test.YtloofliklmglpaaWirePutB
namespace Go.Proofs.Ytloofliklmglpaa
open Go.RowKit

def I64 (l : List Int) : Prop := ∀ n ∈ l, -9223372036854775808 ≤ n ∧ n ≤ 9223372036854775807
theorem I64.at_ {l : List Int} (h : I64 l) {k : Nat} (hk : k < l.length) : -9223372036854775808 ≤ l[k] ∧ l[k] ≤ 9223372036854775807 := h _ (List.getElem_mem hk)

theorem strCells_bv (s : ByteArray) : Lib.strCells s = bv s.data.toList := rfl

/-- append of a string's bytes to an owned row. -/
theorem wpList_appS {w : World} {ops : Array Oper} {rest : List Oper} {o : Oper} {a : Act} {Q : Exit → Act → World → Prop} (hgd : o.guard = none) (sl x : Operand)
    (ho : o.op = .call { callee := .builtin .append, args := #[sl, x], argTypes := #[22, 9] })
    (B : Nat) (v : Value) (l : List UInt8) (n : Nat) (hn : n = l.length) (hs : a.eval sl = v) (hown : w.ownsRow B 5 1 v n (bv l)) (s : ByteArray) (hx : a.eval x = .string s)
    (hl : n + s.size ≤ 100000000000000) (hbase : B ≤ w.heap.size)
    (h : ∀ A cap w', w'.ownsRow B 5 1 (.slice A (n + s.size) cap) (n + s.size) (bv (l ++ s.data.toList)) → Below B w w' → wpList Try.prog ops Q rest (a.put o.dst (.slice A (n + s.size) cap)) w') : wpList Try.prog ops Q (o :: rest) a w := by
  obtain ⟨i0, hi, hz0, hz1, hz2⟩ := info_parts info_u8
  refine Lib.wpList_append_own_string w hgd sl x 22 9 ho B 5 i0 Try.underlying22 Try.underlying9 hi hz0 hz1 hz2 v n (bv l) hs hown s hx (by unfold maxLen; omega) (by omega) hbase ?_
  intro v' w' ho' hg _
  obtain ⟨A, cap, rfl, _⟩ := own_form ho'
  rw [strCells_bv, ← bv_append] at ho'
  exact h A cap w' ho' (own_below hown hg hbase)

theorem putN_snoc (l : List Int) (k : Nat) (h : k < l.length) : (l.take (k + 1)).flatMap Wp.putI = (l.take k).flatMap Wp.putI ++ Wp.putI l[k] := by
  rw [List.take_succ_eq_append_getElem h, List.flatMap_append]
  congr 1
  simp only [List.flatMap_cons, List.flatMap_nil, List.append_nil]
theorem putI_len (n : Int) : (Wp.putI n).length ≤ 10 := (Wp.varint_len _).2
theorem flat_len : ∀ (l : List Int), (l.flatMap Wp.putI).length ≤ 10 * l.length
  | [] => by simp
  | n :: r => by
    have h1 := putI_len n
    have h2 := flat_len r
    simp only [List.flatMap_cons, List.length_append, List.length_cons]
    omega

end Go.Proofs.Ytloofliklmglpaa
