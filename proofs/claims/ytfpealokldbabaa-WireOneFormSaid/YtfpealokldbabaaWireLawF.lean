/- The walk of the law WireOneForm. -/
import Derived.Test.YtfpealokldbabaaWireLawD
import Derived.Test.YtfpealokldbabaaWireLaws
import Derived.Deep.CutRange
import Derived.Deep.QuietTactic
import Derived.BigQuiet
namespace Go.Proofs.Ytfpealokldbabaa
open Go.RowKit
namespace Wp
theorem putT_len (t : List UInt8) : t.length ≤ (putT t).length := by unfold putT; rw [List.length_append]; omega
theorem takeT_bd (l : List UInt8) (most : Int) : (takeT l most).2.1 ≤ l.length := by
  have hb := takeL_bd l most
  unfold takeT
  split
  · split
    · simp
    · simp only; omega
  · simp
theorem goList_bd (l : List UInt8) : ∀ (n p : Nat) (acc : List Int), p ≤ l.length → (goList l n p acc).2.1 ≤ l.length
  | 0, p, acc, h => by simp only [goList]; exact h
  | n + 1, p, acc, h => by
    simp only [goList]
    split
    · obtain ⟨h1, h2, _, _⟩ := takeI_bd (l.drop p)
      rw [List.length_drop] at h1
      exact goList_bd l n (p + (takeI (l.drop p)).2.1) (acc ++ [(takeI (l.drop p)).1]) (by omega)
    · simp
theorem takeN_bd (l : List UInt8) (most : Int) : (takeN l most).2.1 ≤ l.length := by
  unfold takeN
  split
  · exact goList_bd l _ _ _ (takeL_bd l most).1
  · simp
theorem goList_i64 (l : List UInt8) : ∀ (n p : Nat) (acc : List Int), I64 acc → I64 (goList l n p acc).1
  | 0, p, acc, h => by simp only [goList]; exact h
  | n + 1, p, acc, h => by
    simp only [goList]
    split
    · obtain ⟨_, _, h3, h4⟩ := takeI_bd (l.drop p)
      refine goList_i64 l n _ _ ?_
      intro x hx
      rcases List.mem_append.1 hx with hx | hx
      · exact h x hx
      · rw [List.mem_singleton] at hx
        subst hx
        exact ⟨h3, h4⟩
    · intro x hx
      simp at hx
theorem takeN_i64 (l : List UInt8) (most : Int) : I64 (takeN l most).1 := by
  unfold takeN
  split
  · exact goList_i64 l _ _ _ (fun x hx => by simp at hx)
  · intro x hx
    simp at hx
end Wp

set_option maxRecDepth 100000 in
set_option maxHeartbeats 6400000 in
theorem oneform_walk (A : Option Addr) (n cap : Nat) (l : List UInt8) (w : World) (h : BytesIn w A n cap l) :
    Calls Try.prog 9 #[.slice A n cap] w fun e w' => e = .returned (.bool true) ∧ Below w.heap.size w w' := by
  by_cases hn : n ≤ 5000
  · have hl : l.length ≤ 5000 := by rw [← h.len]; omega
    have hroom := h.room
    have hnl := h.len
    have HS := Lib.hid (fun w => small_yes A n cap ⟨#[]⟩ none 0 0 w hn (by decide) (by omega))
    have HIN := Lib.hid (fun w' (hb : Below w.heap.size w w') => h.reads.to hb)
    have HT0 := Lib.hid (fun w' (hb : Below w.heap.size w w') => takeuint_any A n cap l h.len w' (h.reads.to hb) (by omega))
    have HT1 := Lib.hid (fun w' (hb : Below w.heap.size w w') => takeint_any A n cap l h.len w' (h.reads.to hb) (by omega))
    have HT2 := Lib.hid (fun w' (hb : Below w.heap.size w w') => taketext_any A n cap l h.len h.room 5000 (by decide) (by decide) w' (h.reads.to hb) (by omega))
    have HT3 := Lib.hid (fun w' (hb : Below w.heap.size w w') => takelist_any A n cap l h.len h.room 5000 (by decide) (by decide) w' (h.reads.to hb) (by omega))
    have HHL := Lib.hid hnl
    have HHN := Lib.hid hl
    clear h hl hn hnl
    go_enter Try.func9, Try.ntmps9
    go_wp2_with fail
    refine (HS.out _).mono ?_
    rintro e w' ⟨rfl, rfl⟩
    have HB0 := Lib.hid (Below.refl w.heap.size w)
    go_wp2_with fail
    rcases ht : Wp.takeU l with ⟨t1, t2, t3⟩
    have HTT := HT0.out w HB0.out
    rw [ht] at HTT
    simp only at HTT
    refine HTT.mono ?_
    clear HTT
    rintro e w' ⟨rfl, rfl⟩
    have HBA := Lib.hid HB0.out
    have HHT := Lib.hid ht
    clear ht
    go_upto_region 4 with fail
    go_cut [46] from 25 to 45 (fun s wx => s = .bool false ∧ Hid (Below w.heap.size w wx))
    case first =>
      by_cases he : t3 = 0
      · subst he
        have ht := HHT.out
        obtain ⟨hf, hkl⟩ := Wp.takeU_form ht
        have hv := Wp.takeU_lt l
        have hb2 := (Wp.takeU_bd l).1
        rw [ht] at hv hb2
        simp only at hv hb2
        have hl := HHN.out
        have hnl := HHL.out
        have HD := Lib.hid (show Below w.heap.size w w.drew from HBA.out.drew)
        have HP0 := putuint_any none 0 0 [] rfl t1 w.drew (Rd.nil _ _) hv (by decide)
        rw [List.nil_append, ← hf] at HP0
        have HRR := Lib.hid (fun w' hb => by have := (HIN.out w' hb).take t2; rwa [← bv_take] at this : ∀ w' (hb : Below w.heap.size w w'), Rd w' A (bv (l.take t2)))
        have HLR := Lib.hid (show t2 = (l.take t2).length by rw [List.length_take]; omega)
        generalize l.take t2 = r at HP0 HRR HLR
        have HP := Lib.hid HP0
        have hk0 : ¬ ((t2 : Int) < 0) := by omega
        have hk1 : ¬ ((n : Int) < (t2 : Int)) := by omega
        have hk2 : (t2 : Int) ≤ (cap : Int) := by omega
        clear HP0 hf hkl hv hb2 ht hl hnl hroom
        have hcv0 := conv_b A t2 cap r (HRR.out _ HD.out) HLR.out
        go_region_held (fun _ => True) (exact True.intro) (first
          | (go_at_call 15; refine HP.out.mono ?_; rintro e w1 ⟨A1, _, cap1, rfl, rfl, hown1, hb1⟩; have hcv1 := conv_b A1 _ cap1 r (own_rd hown1) rfl; have hcv2 := conv_b A t2 cap r (HRR.out _ (on HD.out hb1)) HLR.out; have HB1 := Lib.hid (on HD.out hb1); clear hown1 hb1))
        all_goals (go_wp2_with fail; go_meet; exact ⟨rfl, HB1⟩)
      · have hne : (t3 == 0) = false := by simp [he]
        go_quiet (fail)
        all_goals (go_wp2_with fail; go_meet; exact ⟨rfl, below_drewN HBA.out nq⟩)
    case rest =>
    obtain ⟨rfl, HB1⟩ := hcut
    clear HBA HHT
    go_wp2_with fail
    rcases ht : Wp.takeI l with ⟨t1, t2, t3⟩
    have HTT := HT1.out wc HB1.out
    rw [ht] at HTT
    simp only at HTT
    refine HTT.mono ?_
    clear HTT
    rintro e w' ⟨rfl, rfl⟩
    have HBA := Lib.hid HB1.out
    have HHT := Lib.hid ht
    clear ht
    go_upto_region 7 with fail
    go_cut [74] from 53 to 73 (fun s wx => s = .bool false ∧ Hid (Below w.heap.size w wx))
    case first =>
      by_cases he : t3 = 0
      · subst he
        have ht := HHT.out
        obtain ⟨hf, hkl⟩ := Wp.takeI_form ht
        have hv := Wp.takeI_bd l
        have hb2 := hv.1
        rw [ht] at hv hb2
        simp only at hv hb2
        have hl := HHN.out
        have hnl := HHL.out
        have HD := Lib.hid (show Below w.heap.size w wc.drew from HBA.out.drew)
        have HP0 := putint_any none 0 0 [] rfl t1 wc.drew (Rd.nil _ _) hv.2.2.1 hv.2.2.2 (by decide)
        rw [List.nil_append, ← hf] at HP0
        have HRR := Lib.hid (fun w' hb => by have := (HIN.out w' hb).take t2; rwa [← bv_take] at this : ∀ w' (hb : Below w.heap.size w w'), Rd w' A (bv (l.take t2)))
        have HLR := Lib.hid (show t2 = (l.take t2).length by rw [List.length_take]; omega)
        generalize l.take t2 = r at HP0 HRR HLR
        have HP := Lib.hid HP0
        have hk0 : ¬ ((t2 : Int) < 0) := by omega
        have hk1 : ¬ ((n : Int) < (t2 : Int)) := by omega
        have hk2 : (t2 : Int) ≤ (cap : Int) := by omega
        clear HP0 hf hkl hv hb2 ht hl hnl hroom
        have hcv0 := conv_b A t2 cap r (HRR.out _ HD.out) HLR.out
        go_region_held (fun _ => True) (exact True.intro) (first
          | (go_at_call 19; refine HP.out.mono ?_; rintro e w1 ⟨A1, _, cap1, rfl, rfl, hown1, hb1⟩; have hcv1 := conv_b A1 _ cap1 r (own_rd hown1) rfl; have hcv2 := conv_b A t2 cap r (HRR.out _ (on HD.out hb1)) HLR.out; have HB1 := Lib.hid (on HD.out hb1); clear hown1 hb1))
        all_goals (go_wp2_with fail; go_meet; exact ⟨rfl, HB1⟩)
      · have hne : (t3 == 0) = false := by simp [he]
        go_quiet (fail)
        all_goals (go_wp2_with fail; go_meet; exact ⟨rfl, below_drewN HBA.out nq⟩)
    case rest =>
    obtain ⟨rfl, HB2⟩ := hcut
    clear HBA HHT
    go_wp2_with fail
    rcases ht : Wp.takeT l 5000 with ⟨t1, t2, t3⟩
    have HTT := HT2.out wc HB2.out
    rw [ht] at HTT
    simp only at HTT
    refine HTT.mono ?_
    clear HTT
    rintro e w' ⟨rfl, rfl⟩
    have HBA := Lib.hid HB2.out
    have HHT := Lib.hid ht
    clear ht
    go_upto_region 10 with fail
    go_cut [102] from 81 to 101 (fun s wx => s = .bool false ∧ Hid (Below w.heap.size w wx))
    case first =>
      by_cases he : t3 = 0
      · subst he
        have ht := HHT.out
        obtain ⟨hf, hkl⟩ := Wp.takeT_form ht
        have hb2 := Wp.takeT_bd l 5000
        rw [ht] at hb2
        simp only at hb2
        have hv : (ByteArray.mk t1.toArray).size ≤ 100000000000 := by
          have : (ByteArray.mk t1.toArray).size = t1.length := by simp [ByteArray.size]
          rw [this]
          have := Wp.putT_len t1
          have hl0 := HHN.out
          omega
        have hl := HHN.out
        have hnl := HHL.out
        have HD := Lib.hid (show Below w.heap.size w wc.drew from HBA.out.drew)
        have HP0 := puttext_any none 0 0 [] rfl ⟨t1.toArray⟩ wc.drew (Rd.nil _ _) (by decide) hv
        rw [List.nil_append, toList_mk, ← hf] at HP0
        have HRR := Lib.hid (fun w' hb => by have := (HIN.out w' hb).take t2; rwa [← bv_take] at this : ∀ w' (hb : Below w.heap.size w w'), Rd w' A (bv (l.take t2)))
        have HLR := Lib.hid (show t2 = (l.take t2).length by rw [List.length_take]; omega)
        generalize l.take t2 = r at HP0 HRR HLR
        have HP := Lib.hid HP0
        have hk0 : ¬ ((t2 : Int) < 0) := by omega
        have hk1 : ¬ ((n : Int) < (t2 : Int)) := by omega
        have hk2 : (t2 : Int) ≤ (cap : Int) := by omega
        clear HP0 hf hkl hv hb2 ht hl hnl hroom
        have hcv0 := conv_b A t2 cap r (HRR.out _ HD.out) HLR.out
        go_region_held (fun _ => True) (exact True.intro) (first
          | (go_at_call 23; refine HP.out.mono ?_; rintro e w1 ⟨A1, _, cap1, rfl, rfl, hown1, hb1⟩; have hcv1 := conv_b A1 _ cap1 r (own_rd hown1) rfl; have hcv2 := conv_b A t2 cap r (HRR.out _ (on HD.out hb1)) HLR.out; have HB1 := Lib.hid (on HD.out hb1); clear hown1 hb1))
        all_goals (go_wp2_with fail; go_meet; exact ⟨rfl, HB1⟩)
      · have hne : (t3 == 0) = false := by simp [he]
        go_quiet (fail)
        all_goals (go_wp2_with fail; go_meet; exact ⟨rfl, below_drewN HBA.out nq⟩)
    case rest =>
    obtain ⟨rfl, HB3⟩ := hcut
    clear HBA HHT
    go_wp2_with fail
    rcases ht : Wp.takeN l 5000 with ⟨t1, t2, t3⟩
    have HTT := HT3.out wc HB3.out
    rw [ht] at HTT
    refine HTT.mono ?_
    clear HTT
    rintro e wa ⟨AL, _, capL, rfl, rfl, hownL, hbL⟩
    have HOL := Lib.hid (own_rd hownL)
    have HBA := Lib.hid (on HB3.out hbL)
    clear hownL hbL
    simp only at HOL
    have HHT := Lib.hid ht
    clear ht
    go_upto_region 13 with fail
    go_cut [130] from 109 to 129 (fun s wx => s = .bool false ∧ Hid (Below w.heap.size w wx))
    case first =>
      by_cases he : t3 = 0
      · subst he
        have ht := HHT.out
        obtain ⟨hf, hkl⟩ := Wp.takeN_form ht
        have hb2 := Wp.takeN_bd l 5000
        have hv := Wp.takeN_len l 5000
        have hv2 := Wp.takeN_i64 l 5000
        rw [ht] at hb2 hv hv2
        simp only at hb2 hv hv2
        have hl := HHN.out
        have hnl := HHL.out
        have HD := Lib.hid (show Below w.heap.size w wa.drew from HBA.out.drew)
        have HBX0 : Below wa.heap.size wa wa.drew := (Below.refl _ _).drew
        have HP0 := putlist_any none 0 0 [] rfl AL t1.length capL t1 rfl wa.drew (Rd.nil _ _) (HOL.out.to HBX0) hv2 (by decide) (by omega)
        rw [List.nil_append, ← hf] at HP0
        have HRR := Lib.hid (fun w' hb => by have := (HIN.out w' hb).take t2; rwa [← bv_take] at this : ∀ w' (hb : Below w.heap.size w w'), Rd w' A (bv (l.take t2)))
        have HLR := Lib.hid (show t2 = (l.take t2).length by rw [List.length_take]; omega)
        generalize l.take t2 = r at HP0 HRR HLR
        have HP := Lib.hid HP0
        have hk0 : ¬ ((t2 : Int) < 0) := by omega
        have hk1 : ¬ ((n : Int) < (t2 : Int)) := by omega
        have hk2 : (t2 : Int) ≤ (cap : Int) := by omega
        clear HP0 hf hkl hv hb2 ht hl hnl hroom hv2 HBX0
        have hcv0 := conv_b A t2 cap r (HRR.out _ HD.out) HLR.out
        go_region_held (fun _ => True) (exact True.intro) (first
          | (go_at_call 27; refine HP.out.mono ?_; rintro e w1 ⟨A1, _, cap1, rfl, rfl, hown1, hb1⟩; have hcv1 := conv_b A1 _ cap1 r (own_rd hown1) rfl; have hcv2 := conv_b A t2 cap r (HRR.out _ (on HD.out hb1)) HLR.out; have HB1 := Lib.hid (on HD.out hb1); clear hown1 hb1))
        all_goals (go_wp2_with fail; go_meet; exact ⟨rfl, HB1⟩)
      · have hne : (t3 == 0) = false := by simp [he]
        go_quiet (fail)
        all_goals (go_wp2_with fail; go_meet; exact ⟨rfl, below_drewN HBA.out nq⟩)
    case rest =>
    obtain ⟨rfl, HB4⟩ := hcut
    clear HBA HHT
    go_wp2_with fail
    refine (awake_any _).mono ?_
    rintro e w4 ⟨rfl, hb4⟩
    go_wp2
    go_ret
    exact ⟨rfl, on HB4.out hb4⟩
  · have HS := Lib.hid (fun w => small_no A n cap ⟨#[]⟩ none 0 0 w (by omega))
    clear h hn
    go_enter Try.func9, Try.ntmps9
    go_wp2_with fail
    refine (HS.out _).mono ?_
    rintro e w' ⟨rfl, rfl⟩
    go_wp2_with fail
    refine (awake_any _).mono ?_
    rintro e w2 ⟨rfl, hb2⟩
    go_wp2
    go_ret
    exact ⟨rfl, hb2⟩
end Go.Proofs.Ytfpealokldbabaa
