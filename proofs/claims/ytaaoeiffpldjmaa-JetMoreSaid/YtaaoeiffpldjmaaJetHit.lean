/- The walks of Hits, and of the reference's. -/
import Derived.Test.YtaaoeiffpldjmaaJetRCov
namespace Go.Proofs.Ytaaoeiffpldjmaa
open Go.RowKit
theorem info_int : (Try.prog.info? 3).map (fun i => (i.zero, i.size, i.bytes)) = some (some (.int .i64 0), 1, 8) := by kernel_rfl
theorem iv_snoc (l : List Int) (n : Int) : iv l ++ [Value.int .i64 n] = iv (l ++ [n]) := by simp [iv]
/-- The call returns a list of integers, to be read, and an error. -/
def RetI (w : World) (p : List Int × Int) (e : Ending) (w' : World) : Prop :=
  ∃ A n cap, e = .returned (.tuple #[.slice A n cap, .int .i64 p.2]) ∧ n = p.1.length ∧ Rd w' A (iv p.1) ∧ Below w.heap.size w w'
theorem RetI.fail {w w' : World} {p : List Int × Int} {c : Int} (h : p = ([], c)) (hb : Below w.heap.size w w') : RetI w p (.returned (.tuple #[.slice none 0 0, .int .i64 c])) w' := by
  subst h
  exact ⟨none, 0, 0, rfl, rfl, Rd.nil _ _, hb⟩
namespace Jt
theorem check_zero {v : Valve} {l : List Int} (h : check v l = 0) : chk v = 0 ∧ l.length ≤ 512 ∧ srt none l = 0 := by
  unfold check at h
  split at h
  · rename_i h1; exact absurd h h1
  · rename_i h1
    split at h
    · cases h
    · rename_i h2
      exact ⟨by omega, by omega, h⟩
theorem srt_all : ∀ {p : Option Int} {l : List Int}, srt p l = 0 → ∀ h ∈ l, 0 ≤ h ∧ h ≤ 1048576 := by
  intro p l
  induction l generalizing p with
  | nil => intro _ h hm; simp at hm
  | cons a r ih =>
    intro hs h hm
    have hs2 : ¬ (a < 0 ∨ 1048576 < a) := fun hx => by rw [srt_range p a r hx] at hs; cases hs
    have hs3 : srt (some a) r = 0 := by
      cases p with
      | none => rw [srt_next none a r (by omega) (by omega) (fun q hq => by cases hq)] at hs; exact hs
      | some q =>
        by_cases hq : a < q
        · rw [srt_order q a r (by omega) (by omega) hq] at hs; cases hs
        · rw [srt_next (some q) a r (by omega) (by omega) (fun q' hq' => by cases hq'; exact hq)] at hs; exact hs
    rcases List.mem_cons.1 hm with rfl | h2
    · omega
    · exact ih hs3 h h2
theorem from_shut (l : List Win) (v : Valve) (k : Nat) (h : Int) (r : List Int) (ho : isOpen l (h + v.delay) = false) : hitsFrom l v k (h :: r) = hitsFrom l v (k + 1) r := by
  simp [hitsFrom, ho]
theorem from_open (l : List Win) (v : Valve) (k : Nat) (h : Int) (r : List Int) (ho : isOpen l (h + v.delay) = true) : hitsFrom l v k (h :: r) = (k : Int) :: hitsFrom l v (k + 1) r := by
  simp [hitsFrom, ho]
end Jt

set_option maxRecDepth 100000 in
set_option maxHeartbeats 6400000 in
theorem hits_any (d h0 r : Int) (A : Option Addr) (n cap : Nat) (l : List Jt.Win) (hn : n = l.length) (A2 : Option Addr) (n2 cap2 : Nat) (l2 : List Int) (hn2 : n2 = l2.length) (w : World) (hr : Jt.Wins w A l) (hr2 : Rd w A2 (iv l2)) (hlen : l.length ≤ 1000000000000) :
    Calls Try.prog 23 #[.slice A n cap, .agg #[.int .i64 d, .int .i64 h0, .int .i64 r], .slice A2 n2 cap2] w (RetI w (Jt.hits l ⟨d, h0, r⟩ l2)) := by
  subst hn hn2
  obtain ⟨i0, hi, hz0, hz1, hz2⟩ := info_parts info_int
  have HR1 := Lib.hid hr
  have HR2 := Lib.hid hr2
  clear hr hr2
  have HC := Lib.hid (check_any d h0 r A2 l2.length cap2 l2 rfl (w.alloc (.cells #[.int .i64 d, .int .i64 h0, .int .i64 r] 23)) (HR2.out.to (below_new w _)))
  by_cases hc0 : Jt.check ⟨d, h0, r⟩ l2 ≠ 0
  · have HF := Lib.hid (show Jt.hits l ⟨d, h0, r⟩ l2 = ([], Jt.check ⟨d, h0, r⟩ l2) by unfold Jt.hits; rw [if_pos hc0])
    generalize Jt.check ⟨d, h0, r⟩ l2 = c at HC hc0 HF
    have hcf : (c == 0) = false := beq_f hc0
    go_enter Try.func23, Try.ntmps23
    go_wp2_with fail
    refine (HC.out).mono ?_
    rintro e w0 ⟨rfl, hb⟩
    have HB0 := Lib.hid ((below_new w _).trans (hb.mono (by simp)) : Below w.heap.size w w0)
    clear hb hc0
    go_wp2
    go_ret2
    exact RetI.fail HF.out HB0.out
  have hc1 : Jt.check ⟨d, h0, r⟩ l2 = 0 := by omega
  obtain ⟨hk0, hl512, hs0⟩ := Jt.check_zero hc1
  obtain ⟨hdd, hhh, _⟩ := Jt.chk_zero hk0
  obtain ⟨hd0, hd1⟩ := hdd
  have HS0 := Lib.hid (show Jt.hits l ⟨d, h0, r⟩ l2 = (Jt.hitsFrom l ⟨d, h0, r⟩ 0 l2, 0) by unfold Jt.hits; rw [if_neg (by simpa using hc1)])
  have HRG := Lib.hid (Jt.srt_all hs0)
  rw [hc1] at HC
  clear hc0 hc1 hk0 hs0 hhh
  go_enter Try.func23, Try.ntmps23
  go_wp2_with fail
  refine (HC.out).mono ?_
  rintro e w0 ⟨rfl, hb⟩
  have HB0 := Lib.hid ((below_new w _).trans (hb.mono (by simp)) : Below w.heap.size w w0)
  have HW := Lib.hid (HR1.out.to HB0.out)
  have HR := Lib.hid (HR2.out.to HB0.out)
  have hsz0 : w.heap.size < w0.heap.size := by have := hb.size; simp at this; omega
  have hv0 : w0.cell? ⟨w.heap.size, 0, none⟩ = some (.int .i64 d) := by
    rw [hb.cell (by simp)]
    unfold World.cell?
    rw [heap_alloc_new]
    simp
  have HV0 := Lib.hid hv0
  clear hb hv0
  go_wp2
  go_loopw [9, 20] (fun o i wr => ∃ (k : Nat) (A3 : Option Addr) (n3 cap3 : Nat) (acc : List Int), k ≤ l2.length ∧ i = .int .i64 (k : Int) ∧ o = .slice A3 n3 cap3 ∧ Hid (n3 = acc.length) ∧ n3 ≤ k ∧ Hid (Jt.hits l ⟨d, h0, r⟩ l2 = (acc ++ Jt.hitsFrom l ⟨d, h0, r⟩ k (l2.drop k), 0)) ∧
    wr.ownsRow w0.heap.size 3 1 (.slice A3 n3 cap3) n3 (iv acc) ∧ Below w0.heap.size w0 wr) (fun _ i _ => l2.length - (intOf i).toNat)
  case atStart => exact ⟨0, none, 0, 0, [], by omega, rfl, rfl, Lib.hid rfl, by omega, HS0, World.ownsRow_nil _ _ _ _, Below.refl _ _⟩
  case round =>
    obtain ⟨k, A3, n3, cap3, acc, hk, rfl, rfl, HN3, hn3, HG, ho, hbw⟩ := hrel
    have HO := Lib.hid ho
    have HB := Lib.hid hbw
    have hsz := hbw.size
    have HBW := Lib.hid (show Below w.heap.size w wr from HB0.out.trans (hbw.mono (by omega)))
    have hszl : w.heap.size < wr.heap.size := by omega
    by_cases hlt : k < l2.length
    · have hdr : l2.drop k = l2[k] :: l2.drop (k + 1) := List.drop_eq_getElem_cons hlt
      obtain ⟨b, off, rfl, hlt2, hcx⟩ := (HR.out.to hbw).ati hlt
      have hv0 : wr.cell? ⟨w.heap.size, 0, none⟩ = some (.int .i64 d) := by rw [hbw.cell hsz0]; exact HV0.out
      have hrg := HRG.out _ (List.getElem_mem hlt)
      generalize l2[k] = h at hdr hcx hrg
      obtain ⟨hg0, hg1⟩ := hrg
      have hki : (k : Int) < (l2.length : Int) := by omega
      have HOP := Lib.hid (open_any A l.length cap l rfl (h + d) wr (HW.out.to hbw) (by omega))
      obtain ⟨op, hop⟩ : ∃ op, op = Jt.isOpen l (h + d) := ⟨_, rfl⟩
      rw [← hop] at HOP
      have HQ := Lib.hid hop
      have HD := Lib.hid hdr
      clear hbw ho hdr hop
      go_wp2_with fail
      refine (HOP.out).mono ?_
      rintro e wo ⟨rfl, hbo⟩
      have HBO := Lib.hid (on HB.out hbo)
      have HO1 := Lib.hid (own_kept HO.out hbo)
      have hszo := hbo.size
      clear hbo
      cases op with
      | false =>
        have HN := Lib.hid (show Jt.hits l ⟨d, h0, r⟩ l2 = (acc ++ Jt.hitsFrom l ⟨d, h0, r⟩ (k + 1) (l2.drop (k + 1)), 0) by
          rw [HG.out, HD.out, Jt.from_shut _ _ _ _ _ HQ.out.symm])
        go_wp2
        go_roundw
        case rel => exact ⟨k + 1, A3, n3, cap3, acc, by omega, by go_num, rfl, HN3, by omega, HN, HO1.out, HBO.out⟩
        case measure => simp [intOf]; omega
      | true =>
        have HN := Lib.hid (show Jt.hits l ⟨d, h0, r⟩ l2 = ((acc ++ [(k : Int)]) ++ Jt.hitsFrom l ⟨d, h0, r⟩ (k + 1) (l2.drop (k + 1)), 0) by
          rw [HG.out, HD.out, Jt.from_open _ _ _ _ _ HQ.out.symm, List.append_assoc]; rfl)
        go_wp2_with (at_builtin; refine wpList_app1 rfl _ _ 24 rfl w0.heap.size 3 i0 (.int .i64 0) 8 Try.underlying24 hi hz0 hz1 hz2 rfl _ n3 (iv acc) rfl (HO1.out.alloc _) ⟨wo.heap.size, 0, none⟩ 1 (.int .i64 (k : Int)) rfl (new0 _ _ _) rfl (by unfold maxLen; omega) (by omega) (by simp; omega) ?_; intro A4 cap4 w1 hcap1 hown1 hb1; have HO2 := Lib.hid hown1; have HB1 := Lib.hid hb1; clear hown1 hb1)
        have hown2 : w1.ownsRow w0.heap.size 3 1 (.slice A4 (n3 + 1) cap4) (n3 + 1) (iv (acc ++ [(k : Int)])) := by
          have := HO2.out
          rwa [iv_snoc] at this
        have HN4 := Lib.hid (show n3 + 1 = (acc ++ [(k : Int)]).length by rw [HN3.out]; simp)
        go_roundw
        case rel => exact ⟨k + 1, A4, n3 + 1, cap4, acc ++ [(k : Int)], by omega, by go_num, rfl, HN4, by omega, HN, hown2, (HBO.out.alloc (by omega) _).trans HB1.out⟩
        case measure => simp [intOf]; omega
    · have hke : k = l2.length := by omega
      have HF := Lib.hid (show Jt.hits l ⟨d, h0, r⟩ l2 = (acc, 0) by rw [HG.out, hke, List.drop_length]; simp [Jt.hitsFrom])
      have hki : ¬ (k : Int) < (l2.length : Int) := by omega
      clear hbw ho
      go_wp2
      go_ret2
      exact ⟨A3, n3, cap3, by rw [HF.out]; rfl, by rw [HF.out]; exact HN3.out, by rw [HF.out]; exact own_rd HO.out, HBW.out⟩

set_option maxRecDepth 100000 in
set_option maxHeartbeats 6400000 in
theorem rhits_any (d h0 r : Int) (A : Option Addr) (n cap : Nat) (l : List Jt.Win) (hn : n = l.length) (A2 : Option Addr) (n2 cap2 : Nat) (l2 : List Int) (hn2 : n2 = l2.length) (w : World) (hr : Jt.Wins w A l) (hr2 : Rd w A2 (iv l2)) (hlen : l.length ≤ 1000000000000) :
    Calls Try.prog 24 #[.slice A n cap, .agg #[.int .i64 d, .int .i64 h0, .int .i64 r], .slice A2 n2 cap2] w (RetI w (Jt.hits l ⟨d, h0, r⟩ l2)) := by
  subst hn hn2
  obtain ⟨i0, hi, hz0, hz1, hz2⟩ := info_parts info_int
  have HR1 := Lib.hid hr
  have HR2 := Lib.hid hr2
  clear hr hr2
  have HC := Lib.hid (rchk_any d h0 r (w.alloc (.cells #[.int .i64 d, .int .i64 h0, .int .i64 r] 23)))
  by_cases hk0 : Jt.chk ⟨d, h0, r⟩ ≠ 0
  · have HF := Lib.hid (show Jt.hits l ⟨d, h0, r⟩ l2 = ([], Jt.chk ⟨d, h0, r⟩) by
      have : Jt.check ⟨d, h0, r⟩ l2 = Jt.chk ⟨d, h0, r⟩ := by unfold Jt.check; rw [if_pos hk0]
      unfold Jt.hits; rw [this, if_pos hk0])
    generalize Jt.chk ⟨d, h0, r⟩ = c at HC hk0 HF
    have hcf : (c == 0) = false := beq_f hk0
    go_enter Try.func24, Try.ntmps24
    go_wp2_with fail
    refine (HC.out).mono ?_
    rintro e w0 ⟨rfl, hb⟩
    have HB0 := Lib.hid ((below_new w _).trans (hb.mono (by simp)) : Below w.heap.size w w0)
    clear hb hk0
    go_wp2
    go_ret2
    exact RetI.fail HF.out HB0.out
  have hk1 : Jt.chk ⟨d, h0, r⟩ = 0 := by omega
  rw [hk1] at HC
  clear hk0
  by_cases hs : (if 512 < l2.length then 8 else Jt.srt none l2) ≠ 0
  · have HF := Lib.hid (show Jt.hits l ⟨d, h0, r⟩ l2 = ([], if 512 < l2.length then 8 else Jt.srt none l2) by
      have : Jt.check ⟨d, h0, r⟩ l2 = if 512 < l2.length then 8 else Jt.srt none l2 := by unfold Jt.check; rw [if_neg (by simpa using hk1)]
      unfold Jt.hits; rw [this, if_pos hs])
    have HSA := Lib.hid (fun w0 hb => sorted_any A2 l2.length cap2 l2 rfl w0 (HR2.out.to (w' := w0) hb))
    generalize (if 512 < l2.length then (8 : Int) else Jt.srt none l2) = c at HSA hs HF
    have hcf : (c == 0) = false := beq_f hs
    clear hk1
    go_enter Try.func24, Try.ntmps24
    go_wp2_with fail
    refine (HC.out).mono ?_
    rintro e w0 ⟨rfl, hb⟩
    have HB0 := Lib.hid ((below_new w _).trans (hb.mono (by simp)) : Below w.heap.size w w0)
    clear hb hs
    go_wp2_with fail
    refine (HSA.out w0 HB0.out).mono ?_
    rintro e w1 ⟨rfl, rfl⟩
    go_wp2
    go_ret2
    exact RetI.fail HF.out HB0.out
  have hs1 : (if 512 < l2.length then 8 else Jt.srt none l2) = 0 := by omega
  have hc1 : Jt.check ⟨d, h0, r⟩ l2 = 0 := by unfold Jt.check; rw [if_neg (by simpa using hk1)]; exact hs1
  obtain ⟨_, hl512, hs0⟩ := Jt.check_zero hc1
  obtain ⟨hdd, hhh, _⟩ := Jt.chk_zero hk1
  obtain ⟨hd0, hd1⟩ := hdd
  have HS0 := Lib.hid (show Jt.hits l ⟨d, h0, r⟩ l2 = (Jt.hitsFrom l ⟨d, h0, r⟩ 0 l2, 0) by unfold Jt.hits; rw [if_neg (by simpa using hc1)])
  have HRG := Lib.hid (Jt.srt_all hs0)
  have HSA := Lib.hid (fun w0 hb => sorted_any A2 l2.length cap2 l2 rfl w0 (HR2.out.to (w' := w0) hb))
  rw [hs1] at HSA
  clear hs hc1 hk1 hs0 hhh hs1
  go_enter Try.func24, Try.ntmps24
  go_wp2_with fail
  refine (HC.out).mono ?_
  rintro e w0 ⟨rfl, hb⟩
  have HB00 := Lib.hid ((below_new w _).trans (hb.mono (by simp)) : Below w.heap.size w w0)
  have HB0 := Lib.hid ((below_new w _).trans (hb.mono (by simp)) : Below w.heap.size w w0)
  have HW := Lib.hid (HR1.out.to HB0.out)
  have HR := Lib.hid (HR2.out.to HB0.out)
  have hsz0 : w.heap.size < w0.heap.size := by have := hb.size; simp at this; omega
  have hv0 : w0.cell? ⟨w.heap.size, 0, none⟩ = some (.int .i64 d) := by
    rw [hb.cell (by simp)]
    unfold World.cell?
    rw [heap_alloc_new]
    simp
  have HV0 := Lib.hid hv0
  clear hb hv0
  go_wp2_with fail
  refine (HSA.out w0 HB00.out).mono ?_
  rintro e w1 ⟨rfl, rfl⟩
  go_wp2
  go_loopw [10, 25] (fun o i wr => ∃ (k : Nat) (A3 : Option Addr) (n3 cap3 : Nat) (acc : List Int), k ≤ l2.length ∧ i = .int .i64 (k : Int) ∧ o = .slice A3 n3 cap3 ∧ Hid (n3 = acc.length) ∧ n3 ≤ k ∧ Hid (Jt.hits l ⟨d, h0, r⟩ l2 = (acc ++ Jt.hitsFrom l ⟨d, h0, r⟩ k (l2.drop k), 0)) ∧
    wr.ownsRow w0.heap.size 3 1 (.slice A3 n3 cap3) n3 (iv acc) ∧ Below w0.heap.size w0 wr) (fun _ i _ => l2.length - (intOf i).toNat)
  case atStart => exact ⟨0, none, 0, 0, [], by omega, rfl, rfl, Lib.hid rfl, by omega, HS0, World.ownsRow_nil _ _ _ _, Below.refl _ _⟩
  case round =>
    obtain ⟨k, A3, n3, cap3, acc, hk, rfl, rfl, HN3, hn3, HG, ho, hbw⟩ := hrel
    have HO := Lib.hid ho
    have HB := Lib.hid hbw
    have hsz := hbw.size
    have HBW := Lib.hid (show Below w.heap.size w wr from HB0.out.trans (hbw.mono (by omega)))
    have hszl : w.heap.size < wr.heap.size := by omega
    by_cases hlt : k < l2.length
    · have hdr : l2.drop k = l2[k] :: l2.drop (k + 1) := List.drop_eq_getElem_cons hlt
      obtain ⟨b, off, rfl, hlt2, hcx⟩ := (HR.out.to hbw).ati hlt
      have hv0 : wr.cell? ⟨w.heap.size, 0, none⟩ = some (.int .i64 d) := by rw [hbw.cell hsz0]; exact HV0.out
      have hrg := HRG.out _ (List.getElem_mem hlt)
      generalize l2[k] = h at hdr hcx hrg
      obtain ⟨hg0, hg1⟩ := hrg
      have hki : (k : Int) < (l2.length : Int) := by omega
      have HOP := Lib.hid (within_any A l.length cap l rfl (h + d) wr (HW.out.to hbw) (by omega))
      obtain ⟨op, hop⟩ : ∃ op, op = Jt.isOpen l (h + d) := ⟨_, rfl⟩
      rw [← hop] at HOP
      have HQ := Lib.hid hop
      have HD := Lib.hid hdr
      clear hbw ho hdr hop
      go_wp2_with fail
      refine (HOP.out).mono ?_
      rintro e wo ⟨rfl, hbo⟩
      have HBO := Lib.hid (on HB.out hbo)
      have HO1 := Lib.hid (own_kept HO.out hbo)
      have hszo := hbo.size
      clear hbo
      cases op with
      | false =>
        have HN := Lib.hid (show Jt.hits l ⟨d, h0, r⟩ l2 = (acc ++ Jt.hitsFrom l ⟨d, h0, r⟩ (k + 1) (l2.drop (k + 1)), 0) by
          rw [HG.out, HD.out, Jt.from_shut _ _ _ _ _ HQ.out.symm])
        go_wp2
        go_roundw
        case rel => exact ⟨k + 1, A3, n3, cap3, acc, by omega, by go_num, rfl, HN3, by omega, HN, HO1.out, HBO.out⟩
        case measure => simp [intOf]; omega
      | true =>
        have HN := Lib.hid (show Jt.hits l ⟨d, h0, r⟩ l2 = ((acc ++ [(k : Int)]) ++ Jt.hitsFrom l ⟨d, h0, r⟩ (k + 1) (l2.drop (k + 1)), 0) by
          rw [HG.out, HD.out, Jt.from_open _ _ _ _ _ HQ.out.symm, List.append_assoc]; rfl)
        go_wp2_with (at_builtin; refine wpList_app1 rfl _ _ 24 rfl w0.heap.size 3 i0 (.int .i64 0) 8 Try.underlying24 hi hz0 hz1 hz2 rfl _ n3 (iv acc) rfl (HO1.out.alloc _) ⟨wo.heap.size, 0, none⟩ 1 (.int .i64 (k : Int)) rfl (new0 _ _ _) rfl (by unfold maxLen; omega) (by omega) (by simp; omega) ?_; intro A4 cap4 w1 hcap1 hown1 hb1; have HO2 := Lib.hid hown1; have HB1 := Lib.hid hb1; clear hown1 hb1)
        have hown2 : w1.ownsRow w0.heap.size 3 1 (.slice A4 (n3 + 1) cap4) (n3 + 1) (iv (acc ++ [(k : Int)])) := by
          have := HO2.out
          rwa [iv_snoc] at this
        have HN4 := Lib.hid (show n3 + 1 = (acc ++ [(k : Int)]).length by rw [HN3.out]; simp)
        go_roundw
        case rel => exact ⟨k + 1, A4, n3 + 1, cap4, acc ++ [(k : Int)], by omega, by go_num, rfl, HN4, by omega, HN, hown2, (HBO.out.alloc (by omega) _).trans HB1.out⟩
        case measure => simp [intOf]; omega
    · have hke : k = l2.length := by omega
      have HF := Lib.hid (show Jt.hits l ⟨d, h0, r⟩ l2 = (acc, 0) by rw [HG.out, hke, List.drop_length]; simp [Jt.hitsFrom])
      have hki : ¬ (k : Int) < (l2.length : Int) := by omega
      clear hbw ho
      go_wp2
      go_ret2
      exact ⟨A3, n3, cap3, by rw [HF.out]; rfl, by rw [HF.out]; exact HN3.out, by rw [HF.out]; exact own_rd HO.out, HBW.out⟩
end Go.Proofs.Ytaaoeiffpldjmaa
