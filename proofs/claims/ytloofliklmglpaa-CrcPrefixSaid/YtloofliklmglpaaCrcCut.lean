/- Plain laws: of frames that are cut off anywhere exactly the whole ones are recovered. -/
import Derived.Test.YtloofliklmglpaaCrcLaws
import Derived.Test.YtloofliklmglpaaCrcSame
namespace Go.Proofs.Ytloofliklmglpaa
namespace Cr

def frs (ls : List (List UInt8)) : List UInt8 := ls.flatMap frame
theorem frame_len (c : List UInt8) : (frame c).length = (Wp.varint c.length).length + c.length + 4 := by unfold frame; simp only [List.length_append, four_length]
/-- A frame that ends too early is no frame. -/
theorem opn_cut (c : List UInt8) (hc : c.length ≤ 65536) (p : Nat) (hp : p < (frame c).length) : (opn ((frame c).take p)).2.2 ≠ 0 := by
  have hf := frame_len c
  intro h
  rcases ho : opn ((frame c).take p) with ⟨d, k, e⟩
  rw [ho] at h
  simp only at h
  subst h
  obtain ⟨hd, ht, hk, hkl⟩ := opn_form ho
  have h2 := opn_frame d ((frame c).drop k) hd
  have e2 : frame d ++ (frame c).drop k = frame c ++ [] := by
    rw [← ht, List.take_take, List.length_take] at *
    rw [List.append_nil, show min k p = k by omega, List.take_append_drop]
  have h3 := opn_frame c [] hc
  rw [e2, h3] at h2
  simp only [Prod.mk.injEq, and_true] at h2
  rw [List.length_take] at hkl
  omega

/-- Whole frames first, then something that is no frame: the walk over them. -/
theorem al_frs : ∀ (ls : List (List UInt8)) (f : Nat) (pre t : List UInt8) (acc : List (List UInt8)), (∀ c ∈ ls, c.length ≤ 65536) → ls.length < f → (t = [] ∨ (opn t).2.2 ≠ 0) →
    al f (pre ++ (frs ls ++ t)) pre.length acc = (acc ++ ls, pre.length + (frs ls).length) := by
  intro ls
  induction ls with
  | nil =>
    intro f pre t acc _ hf ht
    obtain ⟨g, rfl⟩ : ∃ g, f = g + 1 := ⟨f - 1, by omega⟩
    simp only [frs, List.flatMap_nil, List.nil_append, List.append_nil, List.length_nil, Nat.add_zero]
    rcases ht with rfl | ht
    · rw [al_end]
      simp
    · by_cases hl : pre.length < (pre ++ t).length
      · rw [al, if_pos hl, List.drop_left, if_neg ht]
      · rw [al_end _ _ _ _ hl]
  | cons c ls ih =>
    intro f pre t acc h hf ht
    obtain ⟨g, rfl⟩ : ∃ g, f = g + 1 := ⟨f - 1, by omega⟩
    have hc := h c (List.mem_cons_self ..)
    have ho := opn_frame c (frs ls ++ t) hc
    have hfl := frame_len c
    have e : pre ++ (frs (c :: ls) ++ t) = pre ++ (frame c ++ (frs ls ++ t)) := by simp [frs]
    rw [e]
    rw [al_ok g _ pre.length acc c (frame c).length (by rw [List.drop_left]; exact ho) (by simp only [List.length_append]; omega)]
    have := ih g (pre ++ frame c) t (acc ++ [c]) (fun d hd => h d (List.mem_cons_of_mem _ hd)) (by simp at hf; omega) ht
    rw [List.append_assoc, List.length_append] at this
    rw [this]
    simp only [frs, List.flatMap_cons, List.length_append, List.append_assoc, List.cons_append, List.nil_append, Prod.mk.injEq, true_and]
    omega

theorem frs_len_ge : ∀ (ls : List (List UInt8)), ls.length ≤ (frs ls).length
  | [] => by simp [frs]
  | c :: ls => by
    have := frs_len_ge ls
    have := frame_len c
    simp only [frs, List.flatMap_cons, List.length_append, List.length_cons] at *
    omega
theorem frs_take (ls : List (List UInt8)) (k : Nat) : frs ls = frs (ls.take k) ++ frs (ls.drop k) := by
  unfold frs
  rw [← List.flatMap_append, List.take_append_drop]
theorem frs_snoc (ls : List (List UInt8)) (k : Nat) (h : k < ls.length) : frs (ls.take (k + 1)) = frs (ls.take k) ++ frame ls[k] := by
  unfold frs
  rw [List.take_succ_eq_append_getElem h, List.flatMap_append]
  simp

/-- All of the frames, cut off: the first k contents, if they fit and the next one does not. -/
theorem all_cut (ls : List (List UInt8)) (hls : ∀ c ∈ ls, c.length ≤ 65536) (cut k : Nat) (hk : k ≤ ls.length) (hin : (frs (ls.take k)).length ≤ cut) (hcl : cut ≤ (frs ls).length)
    (hout : k = ls.length ∨ cut < (frs (ls.take (k + 1))).length) : all ((frs ls).take cut) = (ls.take k, (frs (ls.take k)).length) := by
  have e : (frs ls).take cut = [] ++ (frs (ls.take k) ++ (frs (ls.drop k)).take (cut - (frs (ls.take k)).length)) := by
    rw [List.nil_append]
    conv => lhs; rw [frs_take ls k]
    rw [List.take_append, List.take_of_length_le hin]
  have hlen := frs_len_ge (ls.take k)
  have hcut : ((frs ls).take cut).length = cut := by rw [List.length_take]; omega
  have ht : (frs (ls.drop k)).take (cut - (frs (ls.take k)).length) = [] ∨ (opn ((frs (ls.drop k)).take (cut - (frs (ls.take k)).length))).2.2 ≠ 0 := by
    rcases hout with rfl | hout
    · left
      rw [List.drop_length]
      simp [frs]
    · by_cases hkl : k < ls.length
      · right
        rw [frs_snoc ls k hkl, List.length_append] at hout
        have hd : frs (ls.drop k) = frame ls[k] ++ frs (ls.drop (k + 1)) := by
          unfold frs
          rw [List.drop_eq_getElem_cons hkl, List.flatMap_cons]
        rw [hd, List.take_append_of_le_length (by omega)]
        exact opn_cut ls[k] (hls _ (List.getElem_mem hkl)) _ (by omega)
      · left
        rw [List.drop_eq_nil_of_le (by omega)]
        simp [frs]
  have h := al_frs (ls.take k) (((frs ls).take cut).length + 1) [] _ [] (fun c hc => hls c (List.mem_of_mem_take hc)) (by rw [hcut]; omega) ht
  unfold all
  rw [← e] at h
  simpa using h
end Cr
end Go.Proofs.Ytloofliklmglpaa
