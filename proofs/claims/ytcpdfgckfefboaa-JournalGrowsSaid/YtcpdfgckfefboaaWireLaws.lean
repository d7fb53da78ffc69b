/- Plain laws of the wire encoding: what was put is taken again, in one form only, and what is cut off is short. No program in sight. -/
import Derived.Test.YtcpdfgckfefboaaWireTakeC
namespace Go.Proofs.Ytcpdfgckfefboaa
namespace Wp

theorem ofNat_toNat {c : Nat} (h : c < 256) : (UInt8.ofNat c).toNat = c := by simp; omega

theorem tk_vi : ∀ (f u k acc : Nat) (rest : List UInt8), k + f = 9 → u * 128 ^ k < 18446744073709551616 → (k = 0 ∨ 0 < u) → tk k acc (vi f u ++ rest) = (acc + u * 128 ^ k, k + (vi f u).length, 0) := by
  intro f
  induction f with
  | zero =>
    intro u k acc rest hk hu h0
    have hk9 : k = 9 := by omega
    subst hk9
    have h2 : u < 2 := by
      have : u * 9223372036854775808 < 18446744073709551616 := hu
      omega
    have ht : (UInt8.ofNat u).toNat = u := ofNat_toNat (by omega)
    show tk 9 acc (UInt8.ofNat u :: rest) = _
    rw [tk_ok 9 acc _ rest (by omega) (by rw [ht]; omega) (by rw [ht]; omega) (by rw [ht]; omega), ht]
    simp [vi]
  | succ f ih =>
    intro u k acc rest hk hu h0
    unfold vi
    split
    · rename_i hs
      have ht : (UInt8.ofNat u).toNat = u := ofNat_toNat (by omega)
      show tk k acc (UInt8.ofNat u :: rest) = _
      rw [tk_ok k acc _ rest (by omega) (by rw [ht]; omega) (by omega) (by rw [ht]; omega), ht]
      simp
    · rename_i hs
      have ht : (UInt8.ofNat (u % 128 + 128)).toNat = u % 128 + 128 := ofNat_toNat (by omega)
      show tk k acc (UInt8.ofNat (u % 128 + 128) :: (vi f (u / 128) ++ rest)) = _
      have hle : u / 128 * 128 ^ (k + 1) ≤ u * 128 ^ k := by
        rw [Nat.pow_succ, Nat.mul_comm (128 ^ k) 128, ← Nat.mul_assoc]
        exact Nat.mul_le_mul_right _ (Nat.div_mul_le_self u 128)
      rw [tk_more k acc _ _ (by omega) (by rw [ht]; omega), ht, ih (u / 128) (k + 1) _ rest (by omega) (by omega) (.inr (by omega))]
      have hs2 : (u % 128 + 128) % 128 = u % 128 := by omega
      have e : acc + (u % 128) * 128 ^ k + u / 128 * 128 ^ (k + 1) = acc + u * 128 ^ k := by
        have hu' : u * 128 ^ k = (u % 128 + u / 128 * 128) * 128 ^ k := by
          congr 1
          omega
        rw [hu', Nat.add_mul, Nat.pow_succ, Nat.mul_comm (128 ^ k) 128, ← Nat.mul_assoc, Nat.add_assoc]
      rw [hs2, e]
      simp only [List.length_cons, Prod.mk.injEq, true_and, and_true]
      omega

theorem takeU_put (u : Nat) (hu : u < 18446744073709551616) (rest : List UInt8) : takeU (varint u ++ rest) = (u, (varint u).length, 0) := by
  have := tk_vi 9 u 0 0 rest rfl (by simpa using hu) (.inl rfl)
  unfold takeU varint
  rw [this]
  simp

theorem tk_cut : ∀ (f u k acc p : Nat), k + f = 9 → p < (vi f u).length → tk k acc ((vi f u).take p) = (0, 0, 4) := by
  intro f
  induction f with
  | zero =>
    intro u k acc p hk hp
    have : p = 0 := by simp [vi] at hp; omega
    subst this
    rw [List.take_zero, tk_nil k acc (by omega)]
  | succ f ih =>
    intro u k acc p hk hp
    cases p with
    | zero => rw [List.take_zero, tk_nil k acc (by omega)]
    | succ p =>
      unfold vi at hp ⊢
      split
      · rename_i hs
        rw [if_pos hs] at hp
        simp at hp
      · rename_i hs
        rw [if_neg hs] at hp
        have ht : (UInt8.ofNat (u % 128 + 128)).toNat = u % 128 + 128 := ofNat_toNat (by omega)
        rw [List.take_succ_cons, tk_more k acc _ _ (by omega) (by rw [ht]; omega)]
        exact ih (u / 128) (k + 1) _ p (by omega) (by simp at hp; omega)
theorem takeU_cut (u p : Nat) (hp : p < (varint u).length) : takeU ((varint u).take p) = (0, 0, 4) := tk_cut 9 u 0 0 p rfl hp

theorem tk_one : ∀ (l : List UInt8) (k acc v n : Nat), k ≤ 9 → tk k acc l = (v, n, 0) → ∃ u, v = acc + u * 128 ^ k ∧ l.take (n - k) = vi (9 - k) u ∧ n = k + (vi (9 - k) u).length ∧ (k = 0 ∨ 0 < u) := by
  intro l
  induction l with
  | nil =>
    intro k acc v n hk h
    rw [tk_nil k acc (by omega)] at h
    simp at h
  | cons c r ih =>
    intro k acc v n hk h
    have hc := byte_lt c
    by_cases hm : 128 ≤ c.toNat
    · rw [tk_more k acc c r (by omega) hm] at h
      by_cases h9 : k = 9
      · subst h9
        rw [tk_full] at h
        simp at h
      · obtain ⟨u, hv, ht, hn, h0⟩ := ih (k + 1) _ v n (by omega) h
        have hu : 0 < u := by rcases h0 with h0 | h0 <;> omega
        have hf : 9 - k = (9 - (k + 1)) + 1 := by omega
        have hbig : ¬ c.toNat % 128 + u * 128 < 128 := by omega
        have e1 : (c.toNat % 128 + u * 128) % 128 + 128 = c.toNat := by omega
        have e2 : (c.toNat % 128 + u * 128) / 128 = u := by omega
        have hvi : vi (9 - k) (c.toNat % 128 + u * 128) = c :: vi (9 - (k + 1)) u := by
          rw [hf, vi, if_neg hbig, e1, e2]
          simp
        refine ⟨c.toNat % 128 + u * 128, ?_, ?_, ?_, .inr (by omega)⟩
        · rw [hv, Nat.add_mul, Nat.pow_succ, Nat.mul_comm (128 ^ k) 128, ← Nat.mul_assoc, Nat.add_assoc]
        · rw [hvi, show n - k = (n - (k + 1)) + 1 by omega, List.take_succ_cons, ht]
        · rw [hvi, List.length_cons]; omega
    · by_cases h9 : k = 9 ∧ 1 < c.toNat
      · rw [tk_over k acc c r h9.1 hm h9.2] at h
        simp at h
      · by_cases hz : 0 < k ∧ c.toNat = 0
        · rw [tk_form k acc c r (by omega) hz.1 hz.2] at h
          simp at h
        · rw [tk_ok k acc c r (by omega) hm h9 hz] at h
          simp only [Prod.mk.injEq, and_true] at h
          obtain ⟨rfl, rfl⟩ := h
          have hvi : vi (9 - k) c.toNat = [c] := by
            cases 9 - k with
            | zero => simp [vi]
            | succ f => rw [vi, if_pos (by omega)]; simp
          refine ⟨c.toNat, rfl, ?_, ?_, by omega⟩
          · rw [hvi, show k + 1 - k = 0 + 1 by omega, List.take_succ_cons, List.take_zero]
          · rw [hvi]; simp
theorem takeU_form {l : List UInt8} {u k : Nat} (h : takeU l = (u, k, 0)) : l.take k = varint u ∧ k = (varint u).length := by
  obtain ⟨v, hv, ht, hn, _⟩ := tk_one l 0 0 u k (by omega) h
  have : u = v := by omega
  subst this
  exact ⟨ht, by simpa [varint] using hn⟩

/-! ### integers -/
theorem unzz_zz (n : Int) (h1 : -9223372036854775808 ≤ n) (h2 : n ≤ 9223372036854775807) : unzz (zz n) = n := by unfold zz unzz; split <;> split <;> omega
theorem zz_unzz (u : Nat) : zz (unzz u) = u := by unfold unzz; split <;> (unfold zz; split <;> omega)
theorem takeI_put (n : Int) (h1 : -9223372036854775808 ≤ n) (h2 : n ≤ 9223372036854775807) (rest : List UInt8) : takeI (putI n ++ rest) = (n, (putI n).length, 0) := by
  have h := takeU_put (zz n) (zz_lt n h1 h2) rest
  unfold putI
  rw [takeI_ok _ (by rw [h]), h, unzz_zz n h1 h2]
theorem takeI_cut (n : Int) (p : Nat) (hp : p < (putI n).length) : takeI ((putI n).take p) = (0, 0, 4) := by
  have h := takeU_cut (zz n) p hp
  unfold putI
  rw [takeI_bad _ (by rw [h]; decide), h]
theorem takeI_form {l : List UInt8} {n : Int} {k : Nat} (h : takeI l = (n, k, 0)) : l.take k = putI n ∧ k = (putI n).length := by
  by_cases h0 : (takeU l).2.2 = 0
  · rw [takeI_ok l h0] at h
    simp only [Prod.mk.injEq, and_true] at h
    obtain ⟨rfl, rfl⟩ := h
    unfold putI
    rw [zz_unzz]
    exact takeU_form (by rw [← h0])
  · rw [takeI_bad l h0] at h
    simp only [Prod.mk.injEq] at h
    exact absurd h.2.2 h0

/-! ### lengths, texts -/
theorem takeL_put (n : Nat) (hn : n < 9223372036854775808) (most : Int) (hm : (n : Int) ≤ most) (rest : List UInt8) : takeL (varint n ++ rest) most = ((n : Int), (varint n).length, 0) := by
  have h := takeU_put n (by omega) rest
  unfold takeL
  rw [h]
  rw [if_pos rfl, if_neg (by simp only; omega)]
theorem takeL_cut (n p : Nat) (most : Int) (hp : p < (varint n).length) : takeL ((varint n).take p) most = (0, 0, 4) := by
  have h := takeU_cut n p hp
  unfold takeL
  rw [h]
  rw [if_neg (by decide)]
theorem takeL_form {l : List UInt8} {most n : Int} {k : Nat} (h : takeL l most = (n, k, 0)) : n = (n.toNat : Int) ∧ l.take k = varint n.toNat ∧ k = (varint n.toNat).length := by
  unfold takeL at h
  split at h
  · rename_i h0
    split at h
    · simp at h
    · simp only [Prod.mk.injEq, and_true] at h
      obtain ⟨rfl, rfl⟩ := h
      rw [Int.toNat_natCast]
      exact ⟨rfl, takeU_form (by rw [← h0])⟩
  · rename_i h0
    simp only [Prod.mk.injEq] at h
    exact absurd h.2.2 h0

theorem takeT_put (s : List UInt8) (hs : s.length < 9223372036854775808) (rest : List UInt8) : takeT (putT s ++ rest) (s.length : Int) = (s, (putT s).length, 0) := by
  have h := takeL_put s.length hs s.length (by omega) (s ++ rest)
  unfold putT takeT
  rw [List.append_assoc, h]
  rw [if_pos rfl, if_neg (by simp only [List.length_append]; omega)]
  simp
theorem takeT_cut (s : List UInt8) (hs : s.length < 9223372036854775808) (p : Nat) (hp : p < (putT s).length) : takeT ((putT s).take p) (s.length : Int) = ([], 0, 4) := by
  unfold putT at hp ⊢
  rw [List.length_append] at hp
  by_cases h : p < (varint s.length).length
  · rw [List.take_append_of_le_length (by omega)]
    have h := takeL_cut s.length p s.length h
    unfold takeT
    rw [h]
    rw [if_neg (by decide)]
  · rw [List.take_append, List.take_of_length_le (by omega)]
    have h2 := takeL_put s.length hs s.length (by omega) (s.take (p - (varint s.length).length))
    unfold takeT
    rw [h2]
    rw [if_pos rfl, if_pos (by simp only [List.length_append, List.length_take]; omega)]
theorem takeT_form {l : List UInt8} {most : Int} {s : List UInt8} {k : Nat} (h : takeT l most = (s, k, 0)) : l.take k = putT s ∧ k = (putT s).length := by
  unfold takeT at h
  rcases hL : takeL l most with ⟨n, j, e⟩
  rw [hL] at h
  by_cases h0 : e = 0
  · subst h0
    have hb := takeL_bd l most
    rw [hL] at hb
    obtain ⟨hn, ht, hj⟩ := takeL_form hL
    rw [if_pos rfl] at h
    split at h
    · simp at h
    · rename_i hlen
      simp only [Prod.mk.injEq, and_true] at h hlen hb
      obtain ⟨rfl, rfl⟩ := h
      have hl : ((l.drop j).take n.toNat).length = n.toNat := by
        rw [List.length_take, List.length_drop]
        omega
      unfold putT
      rw [hl, ← ht, List.take_add]
      refine ⟨rfl, ?_⟩
      rw [List.length_append, hl, List.length_take]
      omega
  · rw [if_neg h0] at h
    simp only [Prod.mk.injEq] at h
    exact absurd h.2.2 h0

/-! ### lists -/
theorem goList_put : ∀ (z : List Int) (pre rest : List UInt8) (acc : List Int), (∀ n ∈ z, -9223372036854775808 ≤ n ∧ n ≤ 9223372036854775807) →
    goList (pre ++ (z.flatMap putI ++ rest)) z.length pre.length acc = (acc ++ z, pre.length + (z.flatMap putI).length, 0) := by
  intro z
  induction z with
  | nil => intro pre rest acc _; simp [goList]
  | cons x z ih =>
    intro pre rest acc h
    have hx := h x (List.mem_cons_self ..)
    have ht := takeI_put x hx.1 hx.2 (z.flatMap putI ++ rest)
    simp only [List.length_cons, List.flatMap_cons, goList]
    rw [List.drop_left, List.append_assoc, ht, if_pos rfl]
    have := ih (pre ++ putI x) rest (acc ++ [x]) (fun n hn => h n (List.mem_cons_of_mem _ hn))
    rw [List.append_assoc, List.length_append] at this
    rw [this]
    simp only [List.append_assoc, List.length_append, List.cons_append, List.nil_append, Prod.mk.injEq, true_and, and_true]
    omega
theorem goList_cut : ∀ (z : List Int) (pre : List UInt8) (acc : List Int) (p : Nat), (∀ n ∈ z, -9223372036854775808 ≤ n ∧ n ≤ 9223372036854775807) →
    p < (z.flatMap putI).length → goList (pre ++ (z.flatMap putI).take p) z.length pre.length acc = ([], 0, 4) := by
  intro z
  induction z with
  | nil => intro pre acc p _ hp; simp at hp
  | cons x z ih =>
    intro pre acc p h hp
    have hx := h x (List.mem_cons_self ..)
    simp only [List.length_cons, List.flatMap_cons, goList] at hp ⊢
    rw [List.length_append] at hp
    rw [List.drop_left]
    by_cases hp1 : p < (putI x).length
    · rw [List.take_append_of_le_length (by omega), takeI_cut x p hp1, if_neg (by decide)]
    · rw [List.take_append, List.take_of_length_le (by omega), takeI_put x hx.1 hx.2, if_pos rfl]
      have := ih (pre ++ putI x) (acc ++ [x]) (p - (putI x).length) (fun n hn => h n (List.mem_cons_of_mem _ hn)) (by omega)
      rw [List.append_assoc, List.length_append] at this
      exact this
theorem goList_form : ∀ (n : Nat) (l : List UInt8) (p k : Nat) (acc z : List Int), p ≤ l.length → goList l n p acc = (z, k, 0) →
    ∃ y, z = acc ++ y ∧ y.length = n ∧ (l.drop p).take (k - p) = y.flatMap putI ∧ k = p + (y.flatMap putI).length := by
  intro n
  induction n with
  | zero =>
    intro l p k acc z hp h
    simp only [goList, Prod.mk.injEq, and_true] at h
    obtain ⟨rfl, rfl⟩ := h
    exact ⟨[], by simp, rfl, by simp, by simp⟩
  | succ n ih =>
    intro l p k acc z hp h
    simp only [goList] at h
    split at h
    · rename_i h0
      have hb := takeI_bd (l.drop p)
      rw [List.length_drop] at hb
      rcases hT : takeI (l.drop p) with ⟨x, j, e⟩
      rw [hT] at h h0 hb
      simp only at h h0 hb
      subst h0
      obtain ⟨ht, hj⟩ := takeI_form hT
      obtain ⟨y, rfl, hy, hd, hk⟩ := ih l (p + j) k (acc ++ [x]) z (by omega) h
      refine ⟨x :: y, by simp, by simp [hy], ?_, ?_⟩
      · rw [List.flatMap_cons, ← ht, ← hd, show k - p = j + (k - (p + j)) by omega, List.take_add, List.drop_drop]
      · rw [List.flatMap_cons, List.length_append]; omega
    · rename_i h0
      simp only [Prod.mk.injEq] at h
      exact absurd h.2.2 h0

theorem takeN_put (z : List Int) (hz : z.length < 9223372036854775808) (hi : ∀ n ∈ z, -9223372036854775808 ≤ n ∧ n ≤ 9223372036854775807) (rest : List UInt8) : takeN (putN z ++ rest) (z.length : Int) = (z, (putN z).length, 0) := by
  have h := takeL_put z.length hz z.length (by omega) (z.flatMap putI ++ rest)
  unfold putN takeN
  rw [List.append_assoc, h]
  rw [if_pos rfl]
  simp only [Int.toNat_natCast]
  rw [goList_put z _ rest [] hi, List.length_append, List.nil_append]
theorem takeN_cut (z : List Int) (hz : z.length < 9223372036854775808) (hi : ∀ n ∈ z, -9223372036854775808 ≤ n ∧ n ≤ 9223372036854775807) (p : Nat) (hp : p < (putN z).length) : takeN ((putN z).take p) (z.length : Int) = ([], 0, 4) := by
  unfold putN at hp ⊢
  rw [List.length_append] at hp
  by_cases h : p < (varint z.length).length
  · rw [List.take_append_of_le_length (by omega)]
    have h := takeL_cut z.length p z.length h
    unfold takeN
    rw [h]
    rw [if_neg (by decide)]
  · rw [List.take_append, List.take_of_length_le (by omega)]
    have h2 := takeL_put z.length hz z.length (by omega) ((z.flatMap putI).take (p - (varint z.length).length))
    unfold takeN
    rw [h2]
    rw [if_pos rfl]
    simp only [Int.toNat_natCast]
    exact goList_cut z _ [] _ hi (by omega)
theorem takeN_form {l : List UInt8} {most : Int} {z : List Int} {k : Nat} (h : takeN l most = (z, k, 0)) : l.take k = putN z ∧ k = (putN z).length := by
  unfold takeN at h
  rcases hL : takeL l most with ⟨n, j, e⟩
  rw [hL] at h
  by_cases h0 : e = 0
  · subst h0
    have hb := takeL_bd l most
    rw [hL] at hb
    obtain ⟨hn, ht, hj⟩ := takeL_form hL
    rw [if_pos rfl] at h
    simp only at h hb
    obtain ⟨y, rfl, hy, hd, hk⟩ := goList_form n.toNat l j k [] z hb.1 h
    unfold putN
    rw [hy, ← ht, ← hd, ← List.take_add]
    refine ⟨by congr 1; omega, ?_⟩
    rw [show j + (k - j) = k by omega]
    have : (l.drop j).length ≥ (z.flatMap putI).length := by rw [← hd, List.length_take]; omega
    rw [List.length_drop] at this
    rw [List.length_take]
    omega
  · rw [if_neg h0] at h
    simp only [Prod.mk.injEq] at h
    exact absurd h.2.2 h0

/-! ### how long a varint is -/
theorem varint_len_small {u : Nat} (h : u < 128) : (varint u).length = 1 := by rw [varint_small h]; rfl
theorem varint_len_big {u : Nat} (h : 128 ≤ u) (hm : u < 18446744073709551616) : (varint u).length = (varint (u / 128)).length + 1 := by rw [varint_big h hm]; rfl
theorem vi_mono : ∀ (f u v : Nat), u ≤ v → (vi f u).length ≤ (vi f v).length := by
  intro f
  induction f with
  | zero => intro u v _; simp [vi]
  | succ f ih =>
    intro u v h
    unfold vi
    split
    · split <;> simp
    · rw [if_neg (by omega)]
      simp only [List.length_cons]
      have := ih (u / 128) (v / 128) (Nat.div_le_div_right h)
      omega
theorem varint_mono (u v : Nat) (h : u ≤ v) : (varint u).length ≤ (varint v).length := vi_mono 9 u v h
end Wp
end Go.Proofs.Ytcpdfgckfefboaa
