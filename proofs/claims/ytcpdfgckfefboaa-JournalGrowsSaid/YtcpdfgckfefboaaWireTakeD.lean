/- The walk of TakeList. -/
import Derived.Test.YtcpdfgckfefboaaWireTakeC
namespace Go.Proofs.Ytcpdfgckfefboaa
open Go.RowKit

theorem info_int : (Try.prog.info? 3).map (fun i => (i.zero, i.size, i.bytes)) = some (some (.int .i64 0), 1, 8) := by kernel_rfl

/-- The call returns a list of its own, a number of bytes and an error. -/
def RetList (w : World) (r : List Int × Nat × Int) (e : Ending) (w' : World) : Prop :=
  ∃ A n cap, e = .returned (.tuple #[.slice A n cap, .int .i64 (r.2.1 : Int), .int .i64 r.2.2]) ∧ n = r.1.length ∧ w'.ownsRow w.heap.size 3 1 (.slice A n cap) n (iv r.1) ∧ Below w.heap.size w w'

theorem RetList.fail {w w' : World} {r : List Int × Nat × Int} {e : Int} (h : r = ([], 0, e)) (hb : Below w.heap.size w w') :
    RetList w r (.returned (.tuple #[.slice none 0 0, .int .i64 0, .int .i64 e])) w' := by
  subst h
  exact ⟨none, 0, 0, rfl, rfl, World.ownsRow_nil _ _ _ _, hb⟩

namespace Wp
theorem takeI_nil : takeI [] = (0, 0, 4) := by simp [takeI, takeU, tk]
theorem goList_ok (l : List UInt8) (n p : Nat) (acc : List Int) (x : Int) (k : Nat) (h : takeI (l.drop p) = (x, k, 0)) : goList l (n + 1) p acc = goList l n (p + k) (acc ++ [x]) := by
  rw [goList, h]; simp
theorem goList_bad (l : List UInt8) (n p : Nat) (acc : List Int) (x : Int) (k : Nat) (e : Int) (h : takeI (l.drop p) = (x, k, e)) (he : e ≠ 0) : goList l (n + 1) p acc = ([], 0, e) := by
  rw [goList, h]; simp [he]
end Wp
theorem iv_snoc (l : List Int) (n : Int) : iv l ++ [Value.int .i64 n] = iv (l ++ [n]) := by simp [iv]

set_option maxRecDepth 100000 in
set_option maxHeartbeats 1600000 in
theorem takelist_any (A : Option Addr) (n cap : Nat) (l : List UInt8) (hn : n = l.length) (hcap : n ≤ cap) (most : Int) (m1 : -9223372036854775808 ≤ most) (m2 : most ≤ 9223372036854775807) (w : World) (hr : Rd w A (bv l)) (hl : l.length ≤ 1000000000000) :
    Calls Try.prog 57 #[.slice A n cap, .int .i64 most] w (RetList w (Wp.takeN l most)) := by
  obtain ⟨i0, hi, hz0, hz1, hz2⟩ := info_parts info_int
  have HU := Lib.hid (length_any A n cap l hn most m1 m2 w hr hl)
  have HR := Lib.hid hr
  obtain ⟨b1, b2, b3, b4⟩ := Wp.takeL_bd l most
  clear hr
  subst hn
  by_cases h : (Wp.takeL l most).2.2 = 0
  · have HF := Lib.hid (show Wp.takeN l most = Wp.goList l (Wp.takeL l most).1.toNat (Wp.takeL l most).2.1 [] by unfold Wp.takeN; rw [if_pos h])
    rw [h] at HU
    have b4' := b4 h
    generalize (Wp.takeL l most).1 = u at HU HF b3 b4'
    generalize (Wp.takeL l most).2.1 = k0 at HU HF b1
    obtain ⟨m, rfl⟩ : ∃ m : Nat, u = (m : Int) := ⟨u.toNat, by omega⟩
    rw [Int.toNat_natCast] at HF
    have hm : (m : Int) ≤ 9223372036854775807 := by omega
    clear h b2 b4 b3 b4'
    go_enter Try.func57, Try.ntmps57
    go_wp2_with fail
    refine HU.out.mono ?_
    rintro e w' ⟨rfl, rfl⟩
    go_wp2
    go_loopw [8, 10, 25] (fun p v i wr => ∃ (k q : Nat) (A2 : Option Addr) (n2 cap2 : Nat) (acc : List Int), k ≤ m ∧ i = .int .i64 (k : Int) ∧ q ≤ l.length ∧ p = .int .i64 (q : Int) ∧ v = .slice A2 n2 cap2 ∧ Hid (n2 = acc.length) ∧ n2 ≤ q ∧ Hid (Wp.takeN l most = Wp.goList l (m - k) q acc) ∧
      wr.ownsRow w.heap.size 3 1 (.slice A2 n2 cap2) n2 (iv acc) ∧ Below w.heap.size w wr) (fun _ _ i _ => m - (intOf i).toNat)
    case atStart => exact ⟨0, k0, none, 0, 0, [], by omega, rfl, b1, rfl, rfl, rfl, by omega, HF, World.ownsRow_nil _ _ _ _, Below.refl _ _⟩
    case round =>
      obtain ⟨k, q, A2, n2, cap2, acc, hk, rfl, hq, rfl, rfl, HN2, hn2, HG, ho, hb⟩ := hrel
      have HO := Lib.hid ho
      have HB := Lib.hid hb
      have hsz := hb.size
      by_cases hlt : k < m
      · have hkm : m - k = (m - (k + 1)) + 1 := by omega
        by_cases hck : cap = q
        · have hql : q = l.length := by omega
          have HT := Lib.hid (takeint_any A 0 0 [] rfl wr (by intro k u h; simp [bv] at h) (by simp))
          rw [Wp.takeI_nil] at HT
          have HF2 := Lib.hid (show Wp.takeN l most = ([], 0, 4) by
            rw [HG.out, hkm]
            exact Wp.goList_bad l _ q acc 0 0 4 (by rw [hql, List.drop_length, Wp.takeI_nil]) (by omega))
          subst hck hql
          clear ho hb hkm
          go_wp2_with fail
          refine HT.out.mono ?_
          rintro e w' ⟨rfl, rfl⟩
          go_wp2
          go_ret3
          exact RetList.fail HF2.out HB.out
        · have hrd : Rd wr (A.map fun x => x.add q) (bv (l.drop q)) := by
            have := (HR.out.to hb).drop q cap (by rw [bv_length]; exact hcap)
            rw [if_neg hck] at this
            rw [bv_drop]; exact this
          have HT := Lib.hid (takeint_any (A.map fun x => x.add q) (l.length - q) (cap - q) (l.drop q) (by simp) wr hrd (by simp; omega))
          have htb := Wp.takeI_bd (l.drop q)
          rw [List.length_drop] at htb
          rcases ht : Wp.takeI (l.drop q) with ⟨x, kk, er⟩
          rw [ht] at HT htb
          simp only at HT htb
          by_cases her : er = 0
          · subst her
            have HG2 : Hid (Wp.takeN l most = Wp.goList l (m - (k + 1)) (q + kk) (acc ++ [x])) := by
              show _ = _
              rw [HG.out, hkm]
              exact Wp.goList_ok l _ q acc x kk ht
            have hkk := htb.2.1 rfl
            have hkk2 := htb.1
            have hlq : l.length - q ≤ l.length := by omega
            clear ho hb hkm htb ht hrd
            go_wp2_with fail
            refine HT.out.mono ?_
            rintro e w' ⟨rfl, rfl⟩
            go_wp2_with (at_builtin; refine wpList_app1 rfl _ _ 26 rfl w.heap.size 3 i0 (.int .i64 0) 8 Try.underlying26 hi hz0 hz1 hz2 rfl _ n2 (iv acc) rfl (HO.out.alloc _) ⟨wr.heap.size, 0, none⟩ 1 (.int .i64 x) rfl (new0 _ _ _) rfl (by unfold maxLen; omega) (by omega) (by simp; omega) ?_; intro A3 cap3 w1 hcap1 hown1 hb1; have HO1 := Lib.hid hown1; have HB1 := Lib.hid hb1; clear hown1 hb1)
            have hown2 : w1.ownsRow w.heap.size 3 1 (.slice A3 (n2 + 1) cap3) (n2 + 1) (iv (acc ++ [x])) := by
              have := HO1.out
              rwa [iv_snoc] at this
            have HN3 : Hid (n2 + 1 = (acc ++ [x]).length) := by
              show _ = _
              rw [HN2.out]; simp
            go_roundw
            case rel => exact ⟨k + 1, q + kk, A3, n2 + 1, cap3, acc ++ [x], by omega, by go_num, by omega, by go_num, rfl, HN3, by omega, HG2, hown2, (HB.out.alloc (by omega) _).trans HB1.out⟩
            case measure => simp [intOf]; omega
          · have HF2 := Lib.hid (show Wp.takeN l most = ([], 0, er) by
              rw [HG.out, hkm]
              exact Wp.goList_bad l _ q acc x kk er ht her)
            have hez := beq_f her
            clear ho hb hkm htb ht hrd her
            go_wp2_with fail
            refine HT.out.mono ?_
            rintro e w' ⟨rfl, rfl⟩
            go_wp2
            go_ret3
            exact RetList.fail HF2.out HB.out
      · have hke : k = m := by omega
        subst hke
        have HF2 := Lib.hid (show Wp.takeN l most = (acc, q, 0) by
          rw [HG.out, Nat.sub_self]; rfl)
        clear ho hb
        go_wp2
        go_ret3
        refine ⟨A2, n2, cap2, ?_, ?_, ?_, HB.out⟩
        · rw [HF2.out]; rfl
        · rw [HF2.out]; exact HN2.out
        · rw [HF2.out]; exact HO.out
  · have HF := Lib.hid (show Wp.takeN l most = ([], 0, (Wp.takeL l most).2.2) by unfold Wp.takeN; rw [if_neg h])
    have hz := beq_f h
    generalize (Wp.takeL l most).2.2 = er at HU HF hz
    generalize (Wp.takeL l most).1 = q1 at HU
    generalize (Wp.takeL l most).2.1 = q2 at HU
    clear h b1 b2 b3 b4 hcap
    go_enter Try.func57, Try.ntmps57
    go_wp2_with fail
    refine HU.out.mono ?_
    rintro e w' ⟨rfl, rfl⟩
    go_wp2
    go_ret3
    exact RetList.fail HF.out (Below.refl _ _)
end Go.Proofs.Ytcpdfgckfefboaa
