/- The walks of Open, and of the reference's. -/
import Derived.Test.YtcpdfgckfefboaaCrcFrame
import Derived.Deep.RegionHeld
import Derived.Deep.CutRange
namespace Go.Proofs.Ytcpdfgckfefboaa
open Go.RowKit

/-- The call returns bytes of its own, a length and an error. -/
def RetOp (w : World) (r : List UInt8 × Nat × Int) (e : Ending) (w' : World) : Prop :=
  ∃ A n cap, e = .returned (.tuple #[.slice A n cap, .int .i64 (r.2.1 : Int), .int .i64 r.2.2]) ∧ n = r.1.length ∧ w'.ownsRow w.heap.size 5 1 (.slice A n cap) n (bv r.1) ∧ Below w.heap.size w w'
theorem RetOp.fail {w w' : World} {r : List UInt8 × Nat × Int} {e : Int} (h : r = ([], 0, e)) (hb : Below w.heap.size w w') :
    RetOp w r (.returned (.tuple #[.slice none 0 0, .int .i64 0, .int .i64 e])) w' := by
  subst h
  exact ⟨none, 0, 0, rfl, rfl, World.ownsRow_nil _ _ _ _, hb⟩
theorem RetOp.good {w w' : World} {r : List UInt8 × Nat × Int} {c : List UInt8} {A : Option Addr} {n cap k : Nat} {k' : Int} (h : r = (c, k, 0)) (hk : k' = (k : Int)) (hn : n = c.length) (ho : w'.ownsRow w.heap.size 5 1 (.slice A n cap) n (bv c)) (hb : Below w.heap.size w w') :
    RetOp w r (.returned (.tuple #[.slice A n cap, .int .i64 k', .int .i64 0])) w' := by
  subst h hk
  exact ⟨A, n, cap, rfl, hn, ho, hb⟩
theorem str_ne {a b : List UInt8} (h : a ≠ b) : (⟨a.toArray⟩ : ByteArray) ≠ ⟨b.toArray⟩ := fun e => h (by
  have := congrArg (fun x : ByteArray => x.data.toList) e
  simpa using this)
theorem Rd.part {w : World} {A : Option Addr} {l : List UInt8} (h : Rd w A (bv l)) (k m cap : Nat) (hc : l.length ≤ cap) (hck : cap ≠ k) : Rd w (A.map fun x => x.add k) (bv ((l.drop k).take m)) := h.window k m cap hc hck

set_option maxRecDepth 100000 in
set_option maxHeartbeats 3200000 in
theorem open_any (A : Option Addr) (n cap : Nat) (l : List UInt8) (hn : n = l.length) (hcap : n ≤ cap) (w : World) (hr : Rd w A (bv l)) (hl : l.length ≤ 10000000) :
    Calls Try.prog 27 #[.slice A n cap] w (RetOp w (Cr.opn l)) := by
  have HU0 := takeuint_any A n cap l hn w hr (by omega)
  have hbd := Wp.takeU_bd l
  have hf : Cr.opn l = Cr.opn l := rfl
  unfold Cr.opn at hf
  rcases ht : Wp.takeU l with ⟨u, k, er⟩
  rw [ht] at HU0 hbd
  simp only at HU0 hbd
  have hopn : Cr.opn l = if er = 0 then (if 65536 < u then ([], 0, 8) else if l.length - k < u + 4 then ([], 0, 4) else if (l.drop (k + u)).take 4 = Cr.four (Cr.sum ((l.drop k).take u)) then ((l.drop k).take u, k + u + 4, 0) else ([], 0, 15)) else ([], 0, er) := by
    unfold Cr.opn
    simp only [ht]
  clear hf ht
  rw [← hn] at hopn
  have HU := Lib.hid HU0
  clear HU0
  by_cases he : er = 0
  · subst he
    rw [if_pos rfl] at hopn
    by_cases hbig : 65536 < u
    · rw [if_pos hbig] at hopn
      have HF := Lib.hid hopn
      have hb' : (65536 : Int) < (u : Int) := by omega
      clear hopn hr hbig hn hbd hl
      go_enter Try.func27, Try.ntmps27
      go_wp2_with fail
      refine HU.out.mono ?_
      rintro e w' ⟨rfl, rfl⟩
      go_wp2
      go_ret3
      exact RetOp.fail HF.out (Below.refl _ _)
    · rw [if_neg hbig] at hopn
      have hb' : ¬ (65536 : Int) < (u : Int) := by omega
      have hu6 : u ≤ 65536 := by omega
      have hkn : k ≤ n := by rw [hn]; exact hbd.1
      have hnl : n ≤ 10000000 := by omega
      clear hbig
      by_cases hsh : n - k < u + 4
      · rw [if_pos hsh] at hopn
        have HF := Lib.hid hopn
        have hsh' : (n : Int) - (k : Int) < (u : Int) + 4 := by omega
        clear hopn hr hn hbd hl hsh
        go_enter Try.func27, Try.ntmps27
        go_wp2_with fail
        refine HU.out.mono ?_
        rintro e w' ⟨rfl, rfl⟩
        go_wp2
        go_ret3
        exact RetOp.fail HF.out (Below.refl _ _)
      · rw [if_neg hsh] at hopn
        have hsh' : ¬ ((n : Int) - (k : Int) < (u : Int) + 4) := by omega
        have hin : (k : Int) + (u : Int) + 4 ≤ (n : Int) := by omega
        have hck : ¬ cap = k := by omega
        have hcq : ¬ cap = k + u := by omega
        have hcc : (n : Int) ≤ (cap : Int) := by omega
        have HRc := Lib.hid (fun w' (hb : Below w.heap.size w w') => (hr.to hb).part k u cap (by omega) hck)
        have HRt := Lib.hid (fun w' (hb : Below w.heap.size w w') => (hr.to hb).part (k + u) 4 cap (by omega) hcq)
        have HLc := Lib.hid (show u = ((l.drop k).take u).length by rw [List.length_take, List.length_drop]; omega)
        have HLt := Lib.hid (show 4 = ((l.drop (k + u)).take 4).length by rw [List.length_take, List.length_drop]; omega)
        obtain ⟨i0, hi, hz0, hz1, hz2⟩ := info_parts info_u8
        generalize (l.drop k).take u = c at hopn HRc HLc
        generalize (l.drop (k + u)).take 4 = t4 at hopn HRt HLt
        have hcl : c.length ≤ 65536 := by have := HLc.out; omega
        have HT := Lib.hid (fun (A : Option Addr) (n cap : Nat) (w' : World) (hn : n = c.length) (hr : Rd w' A (bv c)) => tail_any A n cap c hn w' hr (by omega))
        have HF4 := Lib.hid (Cr.four_length (Cr.sum c))
        generalize Cr.sum c = s at hopn HT HF4
        generalize Cr.four s = f4 at hopn HT HF4
        have HCb := Lib.hid (show (bv c).length = k + u - k by rw [bv_length]; have := HLc.out; omega)
        have HN := Lib.hid (fun hA : (A.map fun x => x.add k) = none => show cap - k = 0 by
          obtain ⟨b, off, hA2, _⟩ := hr.at_ (k := 0) (by omega)
          rw [hA2] at hA
          cases hA)
        clear hr hn hbd hl hsh hcl
        have hown0 := Lib.hid (World.ownsRow_lit (base := w.heap.size) (e := 5) (size := 1) w #[] 0 (Nat.le_refl _) (by unfold maxLen; omega) rfl)
        have hboth : t4 = f4 ∨ t4 ≠ f4 := Classical.em _
        rcases hboth with heq | hne
        · rw [if_pos heq] at hopn
          have HF := Lib.hid hopn
          subst heq
          clear hopn
          go_enter Try.func27, Try.ntmps27
          go_wp2_with fail
          refine HU.out.mono ?_
          rintro e w' ⟨rfl, rfl⟩
          go_upto_region 10 with (at_builtin; refine wpList_appN rfl _ _ 23 rfl w.heap.size 5 i0 (.int .u8 0) 1 Try.underlying23 hi hz0 hz1 hz2 rfl _ 0 [] rfl hown0.out (A.map fun x => x.add k) (k + u - k) (cap - k) (bv c) rfl HCb.out HN.out (HRc.out _ (below_new w _)) (bv_one c) (by unfold maxLen; omega) (by omega) (by simp) u (by omega) ?_; intro A1 cap1 w1 hcap1 hown1 hb1; have HO1 := Lib.hid hown1; have HB1 := Lib.hid ((below_new w _).trans hb1); have HS1 := Lib.hid hb1.size; clear hown1 hb1 hcap1)
          simp only [List.nil_append] at HO1
          have HX1 := Lib.hid (own_rd HO1.out)
          have HD1 := Lib.hid (show Below w1.heap.size w1 w1.drew from (Below.refl _ _).drew)
          have HE1 := Lib.hid (show Below w.heap.size w w1.drew from HB1.out.drew)
          have hcvt := conv_b (w := w1.drew) (A.map fun x => x.add (k + u)) 4 (cap - (k + u)) t4 (HRt.out _ HE1.out) HLt.out
          have hw1 : IntKind.i64.wrap ((k : Int) + (u : Int)) = (k : Int) + (u : Int) := by rw [IntKind.wrap_i64]; omega
          have hw2 : IntKind.i64.wrap ((k : Int) + (u : Int) + 4) = (k : Int) + (u : Int) + 4 := by rw [IntKind.wrap_i64]; omega
          have hp1 : (0 : Int) ≤ (k : Int) + (u : Int) := by omega
          have hp2 : (k : Int) + (u : Int) + 4 ≤ (cap : Int) := by omega
          have hp3 : (0 : Int) ≤ (k : Int) + (u : Int) + 4 := by omega
          have hp4 : (k : Int) + (u : Int) ≤ (k : Int) + (u : Int) + 4 := by omega
          have hn1 : ((k : Int) + (u : Int)).toNat = k + u := by omega
          have hn2 : ((k : Int) + (u : Int) + 4).toNat = k + u + 4 := by omega
          go_upto_region 10 with fail
          go_cut [51] from 38 to 50 (fun v wx => v = .bool false ∧ Hid (Below w1.heap.size w1 wx))
          case first =>
            go_region_held (fun _ => True) (exact True.intro) (first
              | (go_at_call 45; refine (HT.out A1 u cap1 w1.drew HLc.out (HX1.out.to HD1.out)).mono ?_; rintro e w2 ⟨A2, n2, cap2, rfl, hn2, hown2, hb2⟩; have HL2 := Lib.hid hn2; have hcv2 := conv_b A2 n2 cap2 t4 (own_rd hown2) HL2.out; have hcv3 := conv_b (w := w2) (A.map fun x => x.add (k + u)) 4 (cap - (k + u)) t4 (HRt.out _ (on HE1.out hb2)) HLt.out; have HB2 := Lib.hid (on HD1.out hb2); clear hn2 hown2 hb2))
            all_goals (go_wp2_with fail; go_meet; exact ⟨rfl, HB2⟩)
          case rest =>
          obtain ⟨rfl, HB2⟩ := hcut
          have HO1 := Lib.hid (own_kept HO1.out HB2.out)
          clear hcvt hw1 hw2 hp1 hp2 hp3 hp4 hn1 hn2
          go_wp2_with fail
          go_ret3
          exact RetOp.good HF.out (by omega) HLc.out HO1.out (on HB1.out HB2.out)
        · rw [if_neg hne] at hopn
          have HF := Lib.hid hopn
          have hsb : (t4 == f4) = false := by simpa using hne
          clear hopn hne
          go_enter Try.func27, Try.ntmps27
          go_wp2_with fail
          refine HU.out.mono ?_
          rintro e w' ⟨rfl, rfl⟩
          go_upto_region 10 with (at_builtin; refine wpList_appN rfl _ _ 23 rfl w.heap.size 5 i0 (.int .u8 0) 1 Try.underlying23 hi hz0 hz1 hz2 rfl _ 0 [] rfl hown0.out (A.map fun x => x.add k) (k + u - k) (cap - k) (bv c) rfl HCb.out HN.out (HRc.out _ (below_new w _)) (bv_one c) (by unfold maxLen; omega) (by omega) (by simp) u (by omega) ?_; intro A1 cap1 w1 hcap1 hown1 hb1; have HO1 := Lib.hid hown1; have HB1 := Lib.hid ((below_new w _).trans hb1); have HS1 := Lib.hid hb1.size; clear hown1 hb1 hcap1)
          simp only [List.nil_append] at HO1
          have HX1 := Lib.hid (own_rd HO1.out)
          have HD1 := Lib.hid (show Below w1.heap.size w1 w1.drew from (Below.refl _ _).drew)
          have HE1 := Lib.hid (show Below w.heap.size w w1.drew from HB1.out.drew)
          have hcvt := conv_b (w := w1.drew) (A.map fun x => x.add (k + u)) 4 (cap - (k + u)) t4 (HRt.out _ HE1.out) HLt.out
          have hw1 : IntKind.i64.wrap ((k : Int) + (u : Int)) = (k : Int) + (u : Int) := by rw [IntKind.wrap_i64]; omega
          have hw2 : IntKind.i64.wrap ((k : Int) + (u : Int) + 4) = (k : Int) + (u : Int) + 4 := by rw [IntKind.wrap_i64]; omega
          have hp1 : (0 : Int) ≤ (k : Int) + (u : Int) := by omega
          have hp2 : (k : Int) + (u : Int) + 4 ≤ (cap : Int) := by omega
          have hp3 : (0 : Int) ≤ (k : Int) + (u : Int) + 4 := by omega
          have hp4 : (k : Int) + (u : Int) ≤ (k : Int) + (u : Int) + 4 := by omega
          have hn1 : ((k : Int) + (u : Int)).toNat = k + u := by omega
          have hn2 : ((k : Int) + (u : Int) + 4).toNat = k + u + 4 := by omega
          go_upto_region 10 with fail
          go_cut [51] from 38 to 50 (fun v wx => v = .bool true ∧ Hid (Below w1.heap.size w1 wx))
          case first =>
            go_region_held (fun _ => True) (exact True.intro) (first
              | (go_at_call 45; refine (HT.out A1 u cap1 w1.drew HLc.out (HX1.out.to HD1.out)).mono ?_; rintro e w2 ⟨A2, n2, cap2, rfl, hn2, hown2, hb2⟩; have HL2 := Lib.hid hn2; have hcv2 := conv_b A2 n2 cap2 f4 (own_rd hown2) HL2.out; have hcv3 := conv_b (w := w2) (A.map fun x => x.add (k + u)) 4 (cap - (k + u)) t4 (HRt.out _ (on HE1.out hb2)) HLt.out; have HB2 := Lib.hid (on HD1.out hb2); clear hn2 hown2 hb2))
            all_goals (go_wp2_with fail; go_meet; exact ⟨by first | rfl | simp [hsb], HB2⟩)
          case rest =>
          obtain ⟨rfl, HB2⟩ := hcut
          have HO1 := Lib.hid (own_kept HO1.out HB2.out)
          clear hcvt hw1 hw2 hp1 hp2 hp3 hp4 hn1 hn2
          go_wp2_with fail
          go_ret3
          exact RetOp.fail HF.out (on HB1.out HB2.out)
  · rw [if_neg he] at hopn
    have HF := Lib.hid hopn
    have hz := beq_f he
    clear hopn hr hn hbd hl
    go_enter Try.func27, Try.ntmps27
    go_wp2_with fail
    refine HU.out.mono ?_
    rintro e w' ⟨rfl, rfl⟩
    go_wp2
    go_ret3
    exact RetOp.fail HF.out (Below.refl _ _)

set_option maxRecDepth 100000 in
set_option maxHeartbeats 3200000 in
theorem ropen_any (A : Option Addr) (n cap : Nat) (l : List UInt8) (hn : n = l.length) (hcap : n ≤ cap) (w : World) (hr : Rd w A (bv l)) (hl : l.length ≤ 10000000) :
    Calls Try.prog 43 #[.slice A n cap] w (RetOp w (Cr.opn l)) := by
  have HU0 := rtakeuint_any A n cap l hn w hr (by omega)
  have hbd := Wp.takeU_bd l
  have hf : Cr.opn l = Cr.opn l := rfl
  unfold Cr.opn at hf
  rcases ht : Wp.takeU l with ⟨u, k, er⟩
  rw [ht] at HU0 hbd
  simp only at HU0 hbd
  have hopn : Cr.opn l = if er = 0 then (if 65536 < u then ([], 0, 8) else if l.length - k < u + 4 then ([], 0, 4) else if (l.drop (k + u)).take 4 = Cr.four (Cr.sum ((l.drop k).take u)) then ((l.drop k).take u, k + u + 4, 0) else ([], 0, 15)) else ([], 0, er) := by
    unfold Cr.opn
    simp only [ht]
  clear hf ht
  rw [← hn] at hopn
  have HU := Lib.hid HU0
  clear HU0
  by_cases he : er = 0
  · subst he
    rw [if_pos rfl] at hopn
    by_cases hbig : 65536 < u
    · rw [if_pos hbig] at hopn
      have HF := Lib.hid hopn
      have hb' : (65536 : Int) < (u : Int) := by omega
      clear hopn hr hbig hn hbd hl
      go_enter Try.func43, Try.ntmps43
      go_wp2_with fail
      refine HU.out.mono ?_
      rintro e w' ⟨rfl, rfl⟩
      go_wp2
      go_ret3
      exact RetOp.fail HF.out (Below.refl _ _)
    · rw [if_neg hbig] at hopn
      have hb' : ¬ (65536 : Int) < (u : Int) := by omega
      have hu6 : u ≤ 65536 := by omega
      have hkn : k ≤ n := by rw [hn]; exact hbd.1
      have hnl : n ≤ 10000000 := by omega
      clear hbig
      by_cases hsh : n - k < u + 4
      · rw [if_pos hsh] at hopn
        have HF := Lib.hid hopn
        have hsh' : (n : Int) - (k : Int) < (u : Int) + 4 := by omega
        clear hopn hr hn hbd hl hsh
        go_enter Try.func43, Try.ntmps43
        go_wp2_with fail
        refine HU.out.mono ?_
        rintro e w' ⟨rfl, rfl⟩
        go_wp2
        go_ret3
        exact RetOp.fail HF.out (Below.refl _ _)
      · rw [if_neg hsh] at hopn
        have hsh' : ¬ ((n : Int) - (k : Int) < (u : Int) + 4) := by omega
        have hin : (k : Int) + (u : Int) + 4 ≤ (n : Int) := by omega
        have hck : ¬ cap = k := by omega
        have hcq : ¬ cap = k + u := by omega
        have hcc : (n : Int) ≤ (cap : Int) := by omega
        have HRc := Lib.hid (fun w' (hb : Below w.heap.size w w') => (hr.to hb).part k u cap (by omega) hck)
        have HRt := Lib.hid (fun w' (hb : Below w.heap.size w w') => (hr.to hb).part (k + u) 4 cap (by omega) hcq)
        have HLc := Lib.hid (show u = ((l.drop k).take u).length by rw [List.length_take, List.length_drop]; omega)
        have HLt := Lib.hid (show 4 = ((l.drop (k + u)).take 4).length by rw [List.length_take, List.length_drop]; omega)
        obtain ⟨i0, hi, hz0, hz1, hz2⟩ := info_parts info_u8
        generalize (l.drop k).take u = c at hopn HRc HLc
        generalize (l.drop (k + u)).take 4 = t4 at hopn HRt HLt
        have hcl : c.length ≤ 65536 := by have := HLc.out; omega
        have HT := Lib.hid (fun (A : Option Addr) (n cap : Nat) (w' : World) (hn : n = c.length) (hr : Rd w' A (bv c)) => rtail_any (Cr.sum c) (Cr.sum_lt c) w')
        have HSU := Lib.hid (fun (A : Option Addr) (n cap : Nat) (w' : World) (hn : n = c.length) (hr : Rd w' A (bv c)) => rsum_any A n cap c hn w' hr (by omega))
        have HF4 := Lib.hid (Cr.four_length (Cr.sum c))
        generalize Cr.sum c = s at hopn HT HF4 HSU
        generalize Cr.four s = f4 at hopn HT HF4
        have HCb := Lib.hid (show (bv c).length = k + u - k by rw [bv_length]; have := HLc.out; omega)
        have HN := Lib.hid (fun hA : (A.map fun x => x.add k) = none => show cap - k = 0 by
          obtain ⟨b, off, hA2, _⟩ := hr.at_ (k := 0) (by omega)
          rw [hA2] at hA
          cases hA)
        clear hr hn hbd hl hsh hcl
        have hown0 := Lib.hid (World.ownsRow_lit (base := w.heap.size) (e := 5) (size := 1) w #[] 0 (Nat.le_refl _) (by unfold maxLen; omega) rfl)
        have hboth : t4 = f4 ∨ t4 ≠ f4 := Classical.em _
        rcases hboth with heq | hne
        · rw [if_pos heq] at hopn
          have HF := Lib.hid hopn
          subst heq
          clear hopn
          go_enter Try.func43, Try.ntmps43
          go_wp2_with fail
          refine HU.out.mono ?_
          rintro e w' ⟨rfl, rfl⟩
          go_upto_region 10 with (at_builtin; refine wpList_appN rfl _ _ 23 rfl w.heap.size 5 i0 (.int .u8 0) 1 Try.underlying23 hi hz0 hz1 hz2 rfl _ 0 [] rfl hown0.out (A.map fun x => x.add k) (k + u - k) (cap - k) (bv c) rfl HCb.out HN.out (HRc.out _ (below_new w _)) (bv_one c) (by unfold maxLen; omega) (by omega) (by simp) u (by omega) ?_; intro A1 cap1 w1 hcap1 hown1 hb1; have HO1 := Lib.hid hown1; have HB1 := Lib.hid ((below_new w _).trans hb1); have HS1 := Lib.hid hb1.size; clear hown1 hb1 hcap1)
          simp only [List.nil_append] at HO1
          have HX1 := Lib.hid (own_rd HO1.out)
          have HD1 := Lib.hid (show Below w1.heap.size w1 w1.drew from (Below.refl _ _).drew)
          have HE1 := Lib.hid (show Below w.heap.size w w1.drew from HB1.out.drew)
          have hcvt := conv_b (w := w1.drew) (A.map fun x => x.add (k + u)) 4 (cap - (k + u)) t4 (HRt.out _ HE1.out) HLt.out
          have hw1 : IntKind.i64.wrap ((k : Int) + (u : Int)) = (k : Int) + (u : Int) := by rw [IntKind.wrap_i64]; omega
          have hw2 : IntKind.i64.wrap ((k : Int) + (u : Int) + 4) = (k : Int) + (u : Int) + 4 := by rw [IntKind.wrap_i64]; omega
          have hp1 : (0 : Int) ≤ (k : Int) + (u : Int) := by omega
          have hp2 : (k : Int) + (u : Int) + 4 ≤ (cap : Int) := by omega
          have hp3 : (0 : Int) ≤ (k : Int) + (u : Int) + 4 := by omega
          have hp4 : (k : Int) + (u : Int) ≤ (k : Int) + (u : Int) + 4 := by omega
          have hn1 : ((k : Int) + (u : Int)).toNat = k + u := by omega
          have hn2 : ((k : Int) + (u : Int) + 4).toNat = k + u + 4 := by omega
          go_upto_region 10 with fail
          go_cut [52] from 38 to 51 (fun v wx => v = .bool false ∧ Hid (Below w1.heap.size w1 wx))
          case first =>
            go_region_held (fun _ => True) (exact True.intro) (first
              | (go_at_call 54; refine (HSU.out A1 u cap1 w1.drew HLc.out (HX1.out.to HD1.out)).mono ?_; rintro e w' ⟨rfl, rfl⟩)
              | (go_at_call 53; refine (HT.out A1 u cap1 w1.drew HLc.out (HX1.out.to HD1.out)).mono ?_; rintro e w2 ⟨A2, n2, cap2, rfl, hn2, hown2, hb2⟩; have HL2 := Lib.hid hn2; have hcv2 := conv_b A2 n2 cap2 t4 (own_rd hown2) HL2.out; have hcv3 := conv_b (w := w2) (A.map fun x => x.add (k + u)) 4 (cap - (k + u)) t4 (HRt.out _ (on HE1.out hb2)) HLt.out; have HB2 := Lib.hid (on HD1.out hb2); clear hn2 hown2 hb2))
            all_goals (go_wp2_with fail; go_meet; exact ⟨rfl, HB2⟩)
          case rest =>
          obtain ⟨rfl, HB2⟩ := hcut
          have HO1 := Lib.hid (own_kept HO1.out HB2.out)
          clear hcvt hw1 hw2 hp1 hp2 hp3 hp4 hn1 hn2
          go_wp2_with fail
          go_ret3
          exact RetOp.good HF.out (by omega) HLc.out HO1.out (on HB1.out HB2.out)
        · rw [if_neg hne] at hopn
          have HF := Lib.hid hopn
          have hsb : (t4 == f4) = false := by simpa using hne
          clear hopn hne
          go_enter Try.func43, Try.ntmps43
          go_wp2_with fail
          refine HU.out.mono ?_
          rintro e w' ⟨rfl, rfl⟩
          go_upto_region 10 with (at_builtin; refine wpList_appN rfl _ _ 23 rfl w.heap.size 5 i0 (.int .u8 0) 1 Try.underlying23 hi hz0 hz1 hz2 rfl _ 0 [] rfl hown0.out (A.map fun x => x.add k) (k + u - k) (cap - k) (bv c) rfl HCb.out HN.out (HRc.out _ (below_new w _)) (bv_one c) (by unfold maxLen; omega) (by omega) (by simp) u (by omega) ?_; intro A1 cap1 w1 hcap1 hown1 hb1; have HO1 := Lib.hid hown1; have HB1 := Lib.hid ((below_new w _).trans hb1); have HS1 := Lib.hid hb1.size; clear hown1 hb1 hcap1)
          simp only [List.nil_append] at HO1
          have HX1 := Lib.hid (own_rd HO1.out)
          have HD1 := Lib.hid (show Below w1.heap.size w1 w1.drew from (Below.refl _ _).drew)
          have HE1 := Lib.hid (show Below w.heap.size w w1.drew from HB1.out.drew)
          have hcvt := conv_b (w := w1.drew) (A.map fun x => x.add (k + u)) 4 (cap - (k + u)) t4 (HRt.out _ HE1.out) HLt.out
          have hw1 : IntKind.i64.wrap ((k : Int) + (u : Int)) = (k : Int) + (u : Int) := by rw [IntKind.wrap_i64]; omega
          have hw2 : IntKind.i64.wrap ((k : Int) + (u : Int) + 4) = (k : Int) + (u : Int) + 4 := by rw [IntKind.wrap_i64]; omega
          have hp1 : (0 : Int) ≤ (k : Int) + (u : Int) := by omega
          have hp2 : (k : Int) + (u : Int) + 4 ≤ (cap : Int) := by omega
          have hp3 : (0 : Int) ≤ (k : Int) + (u : Int) + 4 := by omega
          have hp4 : (k : Int) + (u : Int) ≤ (k : Int) + (u : Int) + 4 := by omega
          have hn1 : ((k : Int) + (u : Int)).toNat = k + u := by omega
          have hn2 : ((k : Int) + (u : Int) + 4).toNat = k + u + 4 := by omega
          go_upto_region 10 with fail
          go_cut [52] from 38 to 51 (fun v wx => v = .bool true ∧ Hid (Below w1.heap.size w1 wx))
          case first =>
            go_region_held (fun _ => True) (exact True.intro) (first
              | (go_at_call 54; refine (HSU.out A1 u cap1 w1.drew HLc.out (HX1.out.to HD1.out)).mono ?_; rintro e w' ⟨rfl, rfl⟩)
              | (go_at_call 53; refine (HT.out A1 u cap1 w1.drew HLc.out (HX1.out.to HD1.out)).mono ?_; rintro e w2 ⟨A2, n2, cap2, rfl, hn2, hown2, hb2⟩; have HL2 := Lib.hid hn2; have hcv2 := conv_b A2 n2 cap2 f4 (own_rd hown2) HL2.out; have hcv3 := conv_b (w := w2) (A.map fun x => x.add (k + u)) 4 (cap - (k + u)) t4 (HRt.out _ (on HE1.out hb2)) HLt.out; have HB2 := Lib.hid (on HD1.out hb2); clear hn2 hown2 hb2))
            all_goals (go_wp2_with fail; go_meet; exact ⟨by first | rfl | simp [hsb], HB2⟩)
          case rest =>
          obtain ⟨rfl, HB2⟩ := hcut
          have HO1 := Lib.hid (own_kept HO1.out HB2.out)
          clear hcvt hw1 hw2 hp1 hp2 hp3 hp4 hn1 hn2
          go_wp2_with fail
          go_ret3
          exact RetOp.fail HF.out (on HB1.out HB2.out)
  · rw [if_neg he] at hopn
    have HF := Lib.hid hopn
    have hz := beq_f he
    clear hopn hr hn hbd hl
    go_enter Try.func43, Try.ntmps43
    go_wp2_with fail
    refine HU.out.mono ?_
    rintro e w' ⟨rfl, rfl⟩
    go_wp2
    go_ret3
    exact RetOp.fail HF.out (Below.refl _ _)
end Go.Proofs.Ytcpdfgckfefboaa
