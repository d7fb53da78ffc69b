/- Plain laws of frames: what is framed is opened again, in one form only; a changed byte is seen. -/
import Derived.Test.YtcpdfgckfefboaaCrcPlain
import Derived.Test.YtcpdfgckfefboaaWireLaws
namespace Go.Proofs.Ytcpdfgckfefboaa
namespace Cr

theorem opn_parts (c t rest : List UInt8) (hc : c.length ≤ 65536) (ht : t.length = 4) :
    opn (Wp.varint c.length ++ c ++ t ++ rest) = if t = four (sum c) then (c, (Wp.varint c.length ++ c ++ t).length, 0) else ([], 0, 15) := by
  have h := Wp.takeU_put c.length (by omega) (c ++ (t ++ rest))
  have e : Wp.varint c.length ++ c ++ t ++ rest = Wp.varint c.length ++ (c ++ (t ++ rest)) := by simp only [List.append_assoc]
  have e2 : Wp.varint c.length ++ (c ++ (t ++ rest)) = (Wp.varint c.length ++ c) ++ (t ++ rest) := by simp only [List.append_assoc]
  unfold opn
  rw [e, h]
  simp only
  rw [if_pos trivial, if_neg (by omega), if_neg (by simp only [List.length_append]; omega), List.drop_left, List.take_left]
  have hk : (Wp.varint c.length).length + c.length = (Wp.varint c.length ++ c).length := by rw [List.length_append]
  rw [hk, e2, List.drop_left, ← ht, List.take_left, ht]
  have hk2 : (Wp.varint c.length ++ c ++ t).length = (Wp.varint c.length ++ c).length + 4 := by rw [List.length_append, ht]
  rw [hk2]
theorem opn_frame (c rest : List UInt8) (hc : c.length ≤ 65536) : opn (frame c ++ rest) = (c, (frame c).length, 0) := by
  unfold frame
  rw [opn_parts c _ rest hc (four_length _), if_pos rfl]
theorem opn_form {b c : List UInt8} {k : Nat} (h : opn b = (c, k, 0)) : c.length ≤ 65536 ∧ b.take k = frame c ∧ k = (frame c).length ∧ k ≤ b.length := by
  have hbd := Wp.takeU_bd b
  unfold opn at h
  rcases hT : Wp.takeU b with ⟨u, j, e⟩
  rw [hT] at h hbd
  simp only at h hbd
  by_cases he : e = 0
  · subst he
    rw [if_pos rfl] at h
    obtain ⟨hf, hj⟩ := Wp.takeU_form hT
    split at h
    · simp at h
    · split at h
      · simp at h
      · split at h
        · rename_i hbig hsh heq
          simp only [Prod.mk.injEq, and_true] at h
          obtain ⟨rfl, rfl⟩ := h
          have hl : ((b.drop j).take u).length = u := by rw [List.length_take, List.length_drop]; omega
          have hfr : b.take (j + u + 4) = frame ((b.drop j).take u) := by
            unfold frame
            rw [hl, ← heq, ← hf, List.take_add, List.take_add]
          refine ⟨by omega, hfr, ?_, by omega⟩
          rw [← hfr, List.length_take]
          omega
        · simp at h
  · rw [if_neg he] at h
    simp only [Prod.mk.injEq] at h
    exact absurd h.2.2 he
theorem opn_fail (b : List UInt8) (h : (opn b).2.2 ≠ 0) : (opn b).1 = [] ∧ (opn b).2.1 = 0 := by
  unfold opn at h ⊢
  split
  · split
    · exact ⟨rfl, rfl⟩
    · split
      · exact ⟨rfl, rfl⟩
      · split
        · rename_i h1 h2 h3 h4
          rw [if_pos h1, if_neg h2, if_neg h3, if_pos h4] at h
          exact absurd rfl h
        · exact ⟨rfl, rfl⟩
  · exact ⟨rfl, rfl⟩

/-- One byte of the content or of the checksum is another. -/
theorem opn_damaged (c : List UInt8) (hc : c.length ≤ 65536) (i : Nat) (hi : (Wp.varint c.length).length ≤ i) (hi2 : i < (frame c).length) (x : UInt8) (hx : (frame c)[i]? ≠ some x) : opn ((frame c).set i x) = ([], 0, 15) := by
  have hfl : (frame c).length = (Wp.varint c.length).length + c.length + 4 := by unfold frame; simp only [List.length_append]; rfl
  by_cases hin : i < (Wp.varint c.length).length + c.length
  · obtain ⟨j, rfl⟩ : ∃ j, i = (Wp.varint c.length).length + j := ⟨i - (Wp.varint c.length).length, by omega⟩
    have hj : j < c.length := by omega
    have hset : (frame c).set ((Wp.varint c.length).length + j) x = Wp.varint (c.set j x).length ++ c.set j x ++ four (sum c) ++ [] := by
      unfold frame
      rw [List.length_set, List.append_nil, List.append_assoc, List.append_assoc, List.set_append_right _ _ (by omega), Nat.add_sub_cancel_left, List.set_append_left _ _ hj]
    have hcj : c[j]? ≠ some x := by
      intro h
      apply hx
      unfold frame
      rw [List.append_assoc, List.getElem?_append_right (by omega), Nat.add_sub_cancel_left, List.getElem?_append_left hj, h]
    rw [hset, opn_parts _ _ _ (by rw [List.length_set]; exact hc) (four_length _), if_neg]
    intro h
    have hs := four_inj (sum_lt _) (sum_lt _) h
    have hd : c = c.take j ++ c[j] :: c.drop (j + 1) := by
      rw [← List.drop_eq_getElem_cons hj, List.take_append_drop]
    have hd2 : c.set j x = c.take j ++ x :: c.drop (j + 1) := by
      rw [List.set_eq_take_append_cons_drop, if_pos hj]
    rw [hd2] at hs
    have hs2 : sum (c.take j ++ c[j] :: c.drop (j + 1)) = sum (c.take j ++ x :: c.drop (j + 1)) := by rw [← hd]; exact hs
    have := sum_changed _ _ _ _ hs2
    exact hcj (by rw [List.getElem?_eq_getElem hj, this])
  · obtain ⟨j, rfl⟩ : ∃ j, i = (Wp.varint c.length).length + c.length + j := ⟨i - ((Wp.varint c.length).length + c.length), by omega⟩
    have hvc : (Wp.varint c.length ++ c).length = (Wp.varint c.length).length + c.length := by rw [List.length_append]
    have hset : (frame c).set ((Wp.varint c.length).length + c.length + j) x = Wp.varint c.length ++ c ++ (four (sum c)).set j x ++ [] := by
      unfold frame
      rw [List.append_nil, List.set_append_right _ _ (by rw [hvc]; omega), hvc, Nat.add_sub_cancel_left]
    have hj : j < (four (sum c)).length := by rw [four_length]; omega
    rw [hset, opn_parts _ _ _ hc (by rw [List.length_set]; rfl), if_neg]
    intro h
    apply hx
    unfold frame
    rw [List.getElem?_append_right (by rw [hvc]; omega), hvc, Nat.add_sub_cancel_left, ← h, List.getElem?_set_self hj]
end Cr
end Go.Proofs.Ytcpdfgckfefboaa
