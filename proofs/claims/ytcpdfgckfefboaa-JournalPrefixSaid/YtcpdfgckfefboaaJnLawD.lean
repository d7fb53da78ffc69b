/- The walk of the law JournalFollows. -/
import Derived.Test.YtcpdfgckfefboaaJnArgs
import Derived.Test.YtcpdfgckfefboaaJnWritten
namespace Go.Proofs.Ytcpdfgckfefboaa
open Go.RowKit

set_option maxRecDepth 100000 in
set_option maxHeartbeats 1600000 in
theorem great_all (A : Option Addr) (n cap : Nat) (l : List Jn.Ev) (hn : n = l.length) (w : World) (hl : Jn.Evs w A l) :
    Calls Try.prog 11 #[.slice A n cap] w fun e w' => e = .returned (.bool (Jn.great l)) ∧ w = w' := by
  by_cases hb : 30 < l.length
  · subst hn
    have hb' : (30 : Int) < (l.length : Int) := by omega
    have HF : Bx (true = Jn.great l) := ⟨by unfold Jn.great; simp [hb]⟩
    clear hb hl
    go_enter Try.func11, Try.ntmps11
    go_wp2
    go_ret
    exact ⟨ret_bool HF.out, rfl⟩
  · exact great_any A n cap l hn w hl (by omega)
namespace Jn
theorem Evs.front {w : World} {A : Option Addr} {es more : List Ev} (h : Evs w A (es ++ more)) : Evs w A es := fun k e hk => by
  have hlt : k < es.length := (List.getElem?_eq_some_iff.1 hk).1
  exact h k e (by rw [List.getElem?_append_left hlt]; exact hk)
end Jn

set_option maxRecDepth 100000 in
set_option maxHeartbeats 6400000 in
theorem follows_walk (A : Option Addr) (n cap : Nat) (l : List Jn.Ev) (A0 : Option Addr) (m cap0 : Nat) (r : List UInt8) (w : World) (h : EvsIn w A n cap l) (h0 : BytesIn w A0 m cap0 r) :
    Calls Try.prog 3 #[.slice A n cap, .slice A0 m cap0] w fun e w' => e = .returned (.bool true) ∧ Below w.heap.size w w' := by
  have HG := Lib.hid (great_all A n cap l h.len w h.reads)
  by_cases hg : Jn.great l = true
  · rw [hg] at HG
    clear h h0 hg
    go_enter Try.func3, Try.ntmps3
    go_wp2_with fail
    refine HG.out.mono ?_
    rintro e w' ⟨rfl, rfl⟩
    go_wp2_with fail
    refine (awake_any w).mono ?_
    rintro e w1 ⟨rfl, hb1⟩
    go_wp2
    go_ret
    exact ⟨rfl, hb1⟩
  · have hg' : Jn.great l = false := by simpa using hg
    rw [hg'] at HG
    by_cases hm : 500 < m
    · have hm' : (500 : Int) < (m : Int) := by omega
      clear h h0 hg hg' hm
      go_enter Try.func3, Try.ntmps3
      go_wp2_with fail
      refine HG.out.mono ?_
      rintro e w' ⟨rfl, rfl⟩
      go_wp2_with fail
      refine (awake_any w).mono ?_
      rintro e w1 ⟨rfl, hb1⟩
      go_wp2
      go_ret
      exact ⟨rfl, hb1⟩
    · have hm' : ¬ (500 : Int) < (m : Int) := by omega
      obtain ⟨hl30, hmx⟩ := Jn.great_no hg'
      obtain ⟨i0, hi, hz0, hz1, hz2⟩ := info_parts info_u8
      have HW := Lib.hid (written_any A n cap l h.len w h.reads hl30 hmx)
      have hup := Jn.kept_up l
      have hkl := Jn.kept_len l
      generalize Jn.kept l = es at HW hup hkl
      have hes : es.length ≤ 30 := by omega
      have hjl : (Jn.jr es).length ≤ 12000 := by have := Jn.jr_le es hup.all; omega
      have HMX : Bx (∀ e ∈ es, e.mix.length ≤ 16) := ⟨fun e he => (Jn.check_ok (hup.all e he)).2.2.2.2.2.2.1⟩
      obtain ⟨more, q, hrec, hq⟩ := Jn.recover_follows es r hup
      have HREC : Bx (Jn.recover (Jn.jr es ++ r) = (es ++ more, (Jn.jr es).length + q)) := ⟨hrec⟩
      have HQ : Bx (q = 0 ↔ more = []) := ⟨hq⟩
      have HES : Bx (es.length ≤ 30) := ⟨hes⟩
      have HJL : Bx ((Jn.jr es).length ≤ 12000) := ⟨hjl⟩
      obtain ⟨jb, hjb⟩ : ∃ jb, Jn.jr es = jb := ⟨_, rfl⟩
      have HJB : Bx (Jn.jr es = jb) := ⟨hjb⟩
      rw [hjb] at HREC HJL
      have HY : Bx (∀ w', Below w.heap.size w w' → Rd w' A0 (bv r)) := ⟨fun w' hb => h0.reads.to hb⟩
      have HM2 : Bx (m = r.length) := ⟨h0.len⟩
      have HMB : Bx ((bv r).length = m) := ⟨by rw [bv_length, ← h0.len]⟩
      have HC0 : Bx (A0 = none → cap0 = 0) := ⟨h0.nil⟩
      have hm5 : m ≤ 500 := by omega
      clear h h0 hg hg' hm hl30 hmx hup hkl hes hjl hrec hq hjb
      go_enter Try.func3, Try.ntmps3
      go_wp2_with fail
      refine HG.out.mono ?_
      rintro e w' ⟨rfl, rfl⟩
      go_wp2_with fail
      refine HW.out.mono ?_
      rintro e w1 ⟨A1, n1, cap1, A2, n2, cap2, A3, n3, cap3, rfl, hn1, hcap1, hc1, hr1, hn2, hcap2, hv2, hn3, hr3, hb1⟩
      rw [HJB.out] at hn1 hr1
      have HB1 : Bx (Below w.heap.size w w1) := ⟨hb1⟩
      have HN1 : Bx (n1 = jb.length) := ⟨hn1⟩
      have HF1 : Bx ((bv jb).length = n1) := ⟨by rw [bv_length]; exact hn1.symm⟩
      have HC1 : Bx (A1 = none → cap1 = 0) := ⟨hc1⟩
      have HX1 : Bx (Rd w1 A1 (bv jb)) := ⟨hr1⟩
      have HN2 : Bx (n2 = es.length) := ⟨hn2⟩
      have HV2 : Bx (Jn.Evs w1 A2 es) := ⟨hv2⟩
      have hn1l : n1 ≤ 12000 := by rw [hn1]; exact HJL.out
      clear hb1 hn1 hcap1 hc1 hr1 hn2 hcap2 hv2 hn3 hr3
      have hown0 := Lib.hid (World.ownsRow_lit (base := w1.heap.size) (e := 5) (size := 1) w1 #[] 0 (Nat.le_refl _) (by unfold maxLen; omega) rfl)
      obtain ⟨nm, hnm⟩ : ∃ nm, nm = n1 + m := ⟨_, rfl⟩
      have HNM : Bx (nm = n1 + m) := ⟨hnm⟩
      clear hnm
      go_wp2_with (first
        | (at_builtin; refine wpList_appN rfl _ _ 23 rfl w1.heap.size 5 i0 (.int .u8 0) 1 Try.underlying23 hi hz0 hz1 hz2 rfl _ 0 [] rfl hown0.out A1 n1 cap1 (bv jb) rfl HF1.out HC1.out (HX1.out.to (below_new w1 _)) (bv_one jb) (by unfold maxLen; omega) (by omega) (by simp) n1 (Nat.zero_add n1).symm ?_; intro A4 cap4 w2 hcap4 hown2 hb2; have HO2 := Lib.hid hown2; have HB2 := Lib.hid ((below_new w1 _).trans hb2); clear hown2 hb2 hcap4)
        | (at_builtin; refine wpList_appN rfl _ _ 23 rfl w1.heap.size 5 i0 (.int .u8 0) 1 Try.underlying23 hi hz0 hz1 hz2 rfl _ n1 _ rfl HO2.out A0 m cap0 (bv r) rfl HMB.out HC0.out (HY.out _ (on HB1.out HB2.out)) (bv_one r) (by unfold maxLen; omega) (by omega) HB2.out.size nm HNM.out ?_; intro A5 cap5 w3 hcap5 hown3 hb3; have HO3 := Lib.hid hown3; have HW3 : Bx (Below w1.heap.size w1 w3) := ⟨HB2.out.trans hb3⟩; have HC3 := Lib.hid hcap5; clear hown3 hb3 hcap5))
      have HX3 : Bx (Rd w3 A5 (bv (jb ++ r))) := ⟨by
        have := own_rd HO3.out
        rwa [List.nil_append, ← bv_append] at this⟩
      have hrc := recover_any A5 nm cap5 (jb ++ r) (by rw [List.length_append, HNM.out, HN1.out, HM2.out]) HC3.out w3 HX3.out (by rw [List.length_append, ← HN1.out, ← HM2.out]; omega)
      rw [HREC.out] at hrc
      have HRC := Lib.hid hrc
      clear hrc
      refine HRC.out.mono ?_
      rintro e w4 ⟨A6, n6, cap6, L6, rfl, hn6, hL6, ho6, hg6, hb6⟩
      simp only at hn6 hL6
      have HB41 : Bx (Below w1.heap.size w1 w4) := ⟨on HW3.out hb6⟩
      have HB4 : Bx (Below w.heap.size w w4) := ⟨on HB1.out HB41.out⟩
      have hv6 : Jn.Evs w4 A6 (es ++ more) := by have := Jn.own7_evs ho6 hg6; rwa [hL6] at this
      have hn62 : n6 = n2 + more.length := by rw [hn6, List.length_append, HN2.out]
      have hcap6 : n6 ≤ cap6 := own7_cap ho6
      have HS := Lib.hid (sames_any A6 n2 cap6 es HN2.out A2 n2 cap2 es HN2.out w4 hv6.front (HV2.out.to HB41.out) (by have := HES.out; omega) (fun e he => by have := HMX.out e he; omega))
      rw [show decide (es = es) = true by simp] at HS
      have hpq : jb.length + q = n1 + q := by rw [HN1.out]
      simp only
      rw [hpq]
      have h26 : (n2 : Int) ≤ (n6 : Int) := by omega
      have h2c : (n2 : Int) ≤ (cap6 : Int) := by omega
      have h1q : (n1 : Int) ≤ ((n1 + q : Nat) : Int) := by omega
      by_cases hq0 : q = 0
      · have hmo : more = [] := HQ.out.1 hq0
        have hn26 : n6 = n2 := by rw [hn62, hmo]; rfl
        subst hq0
        subst hn26
        clear hmo hn62 hv6 hn6 hL6 ho6 hg6 hb6 hpq HQ HREC
        rw [Nat.add_zero]
        go_wp2_with fail
        refine HS.out.mono ?_
        rintro e w5 ⟨rfl, hb5⟩
        have HB5 : Bx (Below w.heap.size w w5) := ⟨on HB4.out hb5⟩
        clear hb5
        go_wp2_with fail
        refine (awake_any w5).mono ?_
        rintro e w6 ⟨rfl, hb6⟩
        go_wp2
        go_ret
        exact ⟨rfl, on HB5.out hb6⟩
      · have hmo : 0 < more.length := by
          rcases more with _ | ⟨x, t⟩
          · exact absurd (HQ.out.2 rfl) hq0
          · simp
        have hne1 : ((n6 : Int) == (n2 : Int)) = false := beq_f (by omega)
        obtain ⟨nq, hnq⟩ : ∃ nq, nq = n1 + q := ⟨_, rfl⟩
        rw [← hnq] at h1q ⊢
        have hne2 : ((nq : Int) == (n1 : Int)) = false := beq_f (by omega)
        clear hmo hn62 hv6 hn6 hL6 ho6 hg6 hb6 hpq HQ HREC hq0 hnq
        go_wp2_with fail
        refine HS.out.mono ?_
        rintro e w5 ⟨rfl, hb5⟩
        have HB5 : Bx (Below w.heap.size w w5) := ⟨on HB4.out hb5⟩
        clear hb5
        go_wp2_with fail
        refine (awake_any w5).mono ?_
        rintro e w6 ⟨rfl, hb6⟩
        go_wp2
        go_ret
        exact ⟨rfl, on HB5.out hb6⟩
end Go.Proofs.Ytcpdfgckfefboaa
