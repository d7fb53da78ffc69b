/- The walk of TakeText. -/
import Derived.Test.YtfpealokldbabaaWireTakeB
namespace Go.Proofs.Ytfpealokldbabaa
open Go.RowKit

namespace Wp
theorem takeL_bd (l : List UInt8) (most : Int) : (takeL l most).2.1 ≤ l.length ∧ ((takeL l most).2.2 = 0 → 1 ≤ (takeL l most).2.1) ∧ 0 ≤ (takeL l most).1 ∧ ((takeL l most).2.2 = 0 → (takeL l most).1 ≤ most) := by
  have h1 := takeU_bd l
  unfold takeL
  split
  · rename_i h
    split
    · simp
    · rename_i h2
      simp only
      exact ⟨h1.1, fun _ => h1.2 h, by omega, fun _ => by omega⟩
  · rename_i h
    simp [h]
end Wp

theorem ret_taket {u : ByteArray} {k : Nat} {e : Int} {u' : ByteArray} {k' e' : Int} {p : List UInt8 × Nat × Int} (h : p = (u.data.toList, k, e)) (hu : u' = u) (hk : k' = k) (he : e' = e) :
    Ending.returned (.tuple #[.string u', .int .i64 k', .int .i64 e']) = .returned (.tuple #[.string ⟨p.1.toArray⟩, .int .i64 (p.2.1 : Int), .int .i64 p.2.2]) := by
  rw [h, hu, hk, he]

theorem Rd.window {w : World} {A : Option Addr} {l : List UInt8} (h : Rd w A (bv l)) (k m cap : Nat) (hc : l.length ≤ cap) (hck : cap ≠ k) : Rd w (A.map fun x => x.add k) (bv ((l.drop k).take m)) := by
  have h1 := (h.drop k cap (by rw [bv_length]; exact hc)).take m
  rw [if_neg hck] at h1
  rw [bv_take, bv_drop]
  exact h1

set_option maxRecDepth 100000 in
set_option maxHeartbeats 800000 in
theorem taketext_any (A : Option Addr) (n cap : Nat) (l : List UInt8) (hn : n = l.length) (hcap : n ≤ cap) (most : Int) (m1 : -9223372036854775808 ≤ most) (m2 : most ≤ 9223372036854775807) (w : World) (hr : Rd w A (bv l)) (hl : l.length ≤ 1000000000000) :
    Calls Try.prog 21 #[.slice A n cap, .int .i64 most] w fun e w' => e = .returned (.tuple #[.string ⟨(Wp.takeT l most).1.toArray⟩, .int .i64 ((Wp.takeT l most).2.1 : Int), .int .i64 (Wp.takeT l most).2.2]) ∧ w = w' := by
  have HU := Lib.hid (length_any A n cap l hn most m1 m2 w hr hl)
  have HR := Lib.hid hr
  obtain ⟨b1, b2, b3, b4⟩ := Wp.takeL_bd l most
  clear hr
  by_cases h : (Wp.takeL l most).2.2 = 0
  · by_cases hs : ((l.length - (Wp.takeL l most).2.1 : Nat) : Int) < (Wp.takeL l most).1
    · have HF := Lib.hid (show Wp.takeT l most = ([], 0, 4) by unfold Wp.takeT; rw [if_pos h, if_pos hs])
      rw [h] at HU
      generalize (Wp.takeL l most).1 = u at HU hs
      generalize (Wp.takeL l most).2.1 = k at HU hs b1
      have hs' : (l.length : Int) - (k : Int) < u := by omega
      clear h b2 b3 b4 hs
      subst hn
      go_enter Try.func21, Try.ntmps21
      go_wp2_with fail
      refine HU.out.mono ?_
      rintro e w' ⟨rfl, rfl⟩
      go_wp2
      go_ret3
      exact ⟨ret_taket (u := ⟨#[]⟩) HF.out rfl rfl rfl, rfl⟩
    · have HF := Lib.hid (show Wp.takeT l most = ((l.drop (Wp.takeL l most).2.1).take (Wp.takeL l most).1.toNat, (Wp.takeL l most).2.1 + (Wp.takeL l most).1.toNat, 0) by
        unfold Wp.takeT; rw [if_pos h, if_neg hs])
      rw [h] at HU
      have b4' := b4 h
      generalize (Wp.takeL l most).1 = u at HU HF hs b3 b4'
      generalize (Wp.takeL l most).2.1 = k at HU HF hs b1
      obtain ⟨m, rfl⟩ : ∃ m : Nat, u = (m : Int) := ⟨u.toNat, by omega⟩
      rw [Int.toNat_natCast] at HF
      have hmk : m + k ≤ l.length := by omega
      clear h b2 b4
      subst hn
      have hs' : ¬ ((l.length : Int) - (k : Int) < (m : Int)) := by omega
      clear hs
      by_cases hck : cap = k
      · subst hck
        have hcl : cap = l.length := by omega
        have hm0 : m = 0 := by omega
        subst hm0
        have hcv := conv_rd (P := Try.prog) (w := w) 22 9 5 A 0 [] Try.underlying22 Try.underlying5 Try.underlying9 (by intro k u h; simp [bv] at h) 0 rfl
        have HC := Lib.hid hcl
        clear hcl
        go_enter Try.func21, Try.ntmps21
        go_wp2_with fail
        refine HU.out.mono ?_
        rintro e w' ⟨rfl, rfl⟩
        go_wp2
        go_ret3
        exact ⟨ret_taket (u := ⟨#[]⟩) (by rw [HF.out]; simp) rfl rfl rfl, rfl⟩
      · have hcv := conv_rd (P := Try.prog) (w := w) 22 9 5 (A.map fun x => x.add k) (cap - k) ((l.drop k).take m) Try.underlying22 Try.underlying5 Try.underlying9 (HR.out.window k m cap hcap hck) m (by rw [List.length_take, List.length_drop]; omega)
        generalize hbs : (ByteArray.mk ((l.drop k).take m).toArray) = bs at hcv
        have HB := Lib.hid hbs
        clear hbs
        go_enter Try.func21, Try.ntmps21
        go_wp2_with fail
        refine HU.out.mono ?_
        rintro e w' ⟨rfl, rfl⟩
        go_wp2
        go_ret3
        exact ⟨ret_taket (u := bs) (by rw [HF.out, ← HB.out]) rfl (by omega) rfl, rfl⟩
  · have HF := Lib.hid (show Wp.takeT l most = ([], 0, (Wp.takeL l most).2.2) by unfold Wp.takeT; rw [if_neg h])
    have hz := beq_f h
    generalize (Wp.takeL l most).2.2 = er at HU HF hz
    generalize (Wp.takeL l most).1 = q1 at HU
    generalize (Wp.takeL l most).2.1 = q2 at HU
    clear h b1 b2 b3 b4 hn hcap
    go_enter Try.func21, Try.ntmps21
    go_wp2_with fail
    refine HU.out.mono ?_
    rintro e w' ⟨rfl, rfl⟩
    go_wp2
    go_ret3
    exact ⟨ret_taket (u := ⟨#[]⟩) HF.out rfl rfl rfl, rfl⟩
end Go.Proofs.Ytfpealokldbabaa
