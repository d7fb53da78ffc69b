/- The walk of the reference's Recover. -/
import Derived.Test.YtcpdfgckfefboaaJnRGet
import Derived.Test.YtcpdfgckfefboaaJnLaws
namespace Go.Proofs.Ytcpdfgckfefboaa
open Go.RowKit
namespace Jn
/-- The moment of the last event, 0 without one. -/
def tail (acc : List Ev) (t : Int) : Prop := (acc = [] ∧ t = 0) ∨ ∃ i e, acc = i ++ [e] ∧ t = e.at_
theorem tail_snoc (acc : List Ev) (e : Ev) : tail (acc ++ [e]) e.at_ := .inr ⟨acc, e, rfl, rfl⟩
theorem got_at {x : List UInt8} (h : (get x).2 = 0) : 0 ≤ (get x).1.at_ := by
  have := (check_ok (get_form h).1).2.1
  unfold badT at this
  omega
theorem last_er {L : List Er} {i : List Ev} {e : Ev} (h : L.map (·.1) = i ++ [e]) : ∃ x : Er, x.1 = e ∧ L[i.length]? = some x := by
  obtain ⟨l1, l2, rfl, h1, h2⟩ := List.map_eq_append_iff.1 h
  match l2, h2 with
  | [x], h2 =>
    simp at h2
    refine ⟨x, h2, ?_⟩
    have : i.length = l1.length := by rw [← h1]; simp
    rw [this, List.getElem?_append_right (Nat.le_refl _)]
    simp
end Jn
theorem own7_some {w : World} {B : Nat} {e : TypeId} {A : Option Addr} {n cap : Nat} {xs : List Value} (h : w.ownsRow B e 7 (.slice A n cap) n xs) (hn : 0 < n) : ∃ g, A = some ⟨g, 0, none⟩ ∧ B ≤ g ∧ g < w.heap.size := by
  rcases h.2 with ⟨_, h0⟩ | ⟨g, cap', cur, hv, hB, hg, _⟩
  · omega
  · injection hv with hA
    exact ⟨g, hA, hB, by
      rcases Nat.lt_or_ge g w.heap.size with h1 | h1
      · exact h1
      · rw [Array.getElem?_eq_none h1] at hg; cases hg⟩

set_option maxRecDepth 100000 in
set_option maxHeartbeats 6400000 in
theorem rrecover_any (A : Option Addr) (n cap : Nat) (l : List UInt8) (hn : n = l.length) (hcap : n ≤ cap) (w : World) (hr : Rd w A (bv l)) (hl : l.length ≤ 1000000) :
    Calls Try.prog 26 #[.slice A n cap] w (RetEvs w (Jn.recover l)) := by
  have HR := Lib.hid hr
  have HN : Bx (n = l.length) := ⟨hn⟩
  have hln : n ≤ 1000000 := by omega
  clear hr hn hl
  go_enter Try.func26, Try.ntmps26
  go_wp2
  go_loopw [4, 5] (fun o i wr => ∃ (f p : Nat) (tt : Int) (acc : List Jn.Ev) (A2 : Option Addr) (n2 cap2 : Nat) (L : List Jn.Er), p ≤ n ∧ n < p + f ∧ i = .int .i64 (p : Int) ∧ o = .slice A2 n2 cap2 ∧ n2 ≤ p ∧ Bx (n2 = acc.length ∧ L.map (·.1) = acc ∧ Jn.tail acc tt ∧ Jn.recover l = Jn.rec f l p tt acc) ∧
    wr.ownsRow w.heap.size 35 7 (.slice A2 n2 cap2) n2 (Jn.ecells L) ∧ Jn.Good wr L ∧ Below w.heap.size w wr) (fun _ i _ => n - (intOf i).toNat)
  case atStart => exact ⟨n + 1, 0, 0, [], none, 0, 0, [], by omega, by omega, rfl, rfl, by omega, ⟨rfl, rfl, .inl ⟨rfl, rfl⟩, by unfold Jn.recover; rw [HN.out]⟩, World.ownsRow_nil _ _ _ _, Jn.Good.nil _, Below.refl _ _⟩
  case round =>
    obtain ⟨f, p, tt, acc, A2, n2, cap2, L, hp, hf, rfl, rfl, hn2, HA, ho, hg, hb⟩ := hrel
    have HO := Lib.hid ho
    have HGD := Lib.hid hg
    have HB := Lib.hid hb
    have hsz := hb.size
    obtain ⟨f, rfl⟩ : ∃ g, f = g + 1 := ⟨f - 1, by omega⟩
    have hrd : Rd wr (if cap = p then A else A.map fun x => x.add p) (bv (l.drop p)) := by
      have := (HR.out.to hb).drop p cap (by rw [bv_length, ← HN.out]; exact hcap)
      rw [← bv_drop] at this
      exact this
    have HOP := Lib.hid (ropen_any (if cap = p then A else A.map fun x => x.add p) (n - p) (cap - p) (l.drop p) (by rw [List.length_drop, HN.out]) (by omega) wr hrd (by rw [List.length_drop, ← HN.out]; omega))
    have hob := Cr.opn_bd (l.drop p)
    rw [List.length_drop, ← HN.out] at hob
    have HRS1 : Bx ((Cr.opn (l.drop p)).2.2 ≠ 0 → Jn.recover l = (acc, p)) := ⟨fun h => by rw [HA.out.2.2.2]; exact Jn.rec_stop1 f l p tt acc h⟩
    have HRS2 : Bx ((Cr.opn (l.drop p)).2.2 = 0 → ((Jn.get (Cr.opn (l.drop p)).1).2 ≠ 0 ∨ (Jn.get (Cr.opn (l.drop p)).1).1.at_ < tt) → Jn.recover l = (acc, p)) := ⟨fun h h2 => by rw [HA.out.2.2.2]; exact Jn.rec_stop2 f l p tt acc h h2⟩
    have HRS3 : Bx ((Cr.opn (l.drop p)).2.2 = 0 → (Jn.get (Cr.opn (l.drop p)).1).2 = 0 → ¬ (Jn.get (Cr.opn (l.drop p)).1).1.at_ < tt → Jn.recover l = Jn.rec f l (p + (Cr.opn (l.drop p)).2.1) (Jn.get (Cr.opn (l.drop p)).1).1.at_ (acc ++ [(Jn.get (Cr.opn (l.drop p)).1).1])) := ⟨fun h h1 h2 => by rw [HA.out.2.2.2]; exact Jn.rec_go f l p tt acc h h1 h2⟩
    generalize Cr.opn (l.drop p) = q at HOP hob HRS1 HRS2 HRS3
    obtain ⟨x, k, er⟩ := q
    simp only at hob
    have hpn : (p : Int) ≤ (n : Int) := by omega
    have HEX : Bx (∀ wx, Below wr.heap.size wr wx → Jn.recover l = (acc, p) → RetEvs w (Jn.recover l) (.returned (.tuple #[.slice A2 n2 cap2, .int .i64 (p : Int)])) wx) := ⟨fun wx hx hF =>
      ⟨A2, n2, cap2, L, by rw [hF], by rw [hF]; exact HA.out.1, by rw [hF]; exact HA.out.2.1, own7_kept HO.out hx, HGD.out.to hx, on HB.out hx⟩⟩
    by_cases hck : cap = p
    · have hpn2 : n = p := by omega
      subst hck
      subst hpn2
      have her : er ≠ 0 := fun h => by have := hob.2 h; omega
      have HF : Bx (Jn.recover l = (acc, n)) := ⟨HRS1.out her⟩
      rw [if_pos rfl, Nat.sub_self] at HOP
      have herf : (er == 0) = false := beq_f her
      have hern : (er != 0) = true := by simp [her]
      clear ho hg hb hrd her hob
      go_wp2_with fail
      refine (HOP.out).mono ?_
      rintro e w1 ⟨A1, n1, cap1, rfl, hn1, ho1, hb1⟩
      have HB1 := Lib.hid hb1
      clear hn1 ho1 hb1
      go_wp2
      go_ret2
      exact HEX.out _ HB1.out HF.out
    · rw [if_neg hck] at HOP
      clear ho hg hb hrd
      by_cases her : er = 0
      · subst her
        have hob2 := hob.2 rfl
        have hk1 : 5 ≤ k := hob2.1
        have hk2 : k ≤ n - p := hob.1
        have HXL : Bx (x.length ≤ 1000000) := ⟨by omega⟩
        clear hob hob2
        have HR2 : Bx ((Jn.get x).2 ≠ 0 ∨ (Jn.get x).1.at_ < tt → Jn.recover l = (acc, p)) := ⟨HRS2.out rfl⟩
        have HR3 : Bx ((Jn.get x).2 = 0 → ¬ (Jn.get x).1.at_ < tt → Jn.recover l = Jn.rec f l (p + k) (Jn.get x).1.at_ (acc ++ [(Jn.get x).1])) := ⟨HRS3.out rfl⟩
        have HPO : Bx ((Jn.get x).2 = 0 → 0 ≤ (Jn.get x).1.at_) := ⟨Jn.got_at⟩
        clear HRS1 HRS2 HRS3
        go_wp2_with fail
        refine (HOP.out).mono ?_
        rintro e w1 ⟨A1, n1, cap1, rfl, hn1, ho1, hb1⟩
        try simp only at hn1 ho1
        have HB1 := Lib.hid hb1
        have HGT := Lib.hid (rget_any A1 n1 cap1 x hn1 (own_cap ho1).1 w1 (own_rd ho1) (by have := HXL.out; omega))
        clear hn1 ho1 hb1
        generalize Jn.get x = ge at HGT HR2 HR3 HPO
        obtain ⟨⟨K, T, a, b, c, d, m⟩, ge2⟩ := ge
        simp only at HR2 HR3 HPO
        go_wp2_with fail
        refine (HGT.out).mono ?_
        rintro e w2 ⟨A3, n3, cap3, rfl, hn3, hc3, hr3, hi3, hb2⟩
        unfold Jn.Ev.val
        simp only at hn3 hr3 ⊢
        have HB2 := Lib.hid (on HB1.out hb2)
        have HBA := Lib.hid (on HB2.out (below_new w2 (.cells #[.int .i64 K, .int .i64 T, .int .i64 a, .int .i64 b, .int .i64 c, .int .i64 d, .slice A3 n3 cap3] 35)))
        have HY : Bx (n3 = m.length ∧ (A3 = none → cap3 = 0) ∧ Rd w2 A3 (iv m) ∧ Ints w2 A3) := ⟨hn3, hc3, hr3, hi3⟩
        have hsz2 : wr.heap.size ≤ w2.heap.size := HB2.out.size
        clear hn3 hc3 hr3 hi3 hb2
        by_cases hge : ge2 = 0
        · subst hge
          have hT0 := HPO.out rfl
          have HBL := Lib.hid (fun nq : Nat => show Below wr.heap.size wr (((w2.alloc (.cells #[.int .i64 K, .int .i64 T, .int .i64 a, .int .i64 b, .int .i64 c, .int .i64 d, .slice A3 n3 cap3] 35)).drewN nq).alloc (.cells #[.int .i64 K, .int .i64 T, .int .i64 a, .int .i64 b, .int .i64 c, .int .i64 d, .slice A3 n3 cap3] 35)) from on (below_drewN HBA.out nq) (below_new _ _))
          have HOW := Lib.hid (fun nq => own7_kept HO.out (HBL.out nq))
          have HGW := Lib.hid (fun nq => HGD.out.to (HBL.out nq))
          have HSZ := Lib.hid (fun nq : Nat => show w2.heap.size + 1 = ((w2.alloc (.cells #[.int .i64 K, .int .i64 T, .int .i64 a, .int .i64 b, .int .i64 c, .int .i64 d, .slice A3 n3 cap3] 35)).drewN nq).heap.size by show _ = (w2.alloc _).heap.size; simp)
          have HNW := Lib.hid (fun nq : Nat => new7 ((w2.alloc (.cells #[.int .i64 K, .int .i64 T, .int .i64 a, .int .i64 b, .int .i64 c, .int .i64 d, .slice A3 n3 cap3] 35)).drewN nq) (⟨K, T, a, b, c, d, m⟩, A3, n3, cap3) 35 (w2.heap.size + 1) (HSZ.out nq))
          have HYW : Bx (∀ nq : Nat, n3 = m.length ∧ (A3 = none → cap3 = 0) ∧ Rd (((w2.alloc (.cells #[.int .i64 K, .int .i64 T, .int .i64 a, .int .i64 b, .int .i64 c, .int .i64 d, .slice A3 n3 cap3] 35)).drewN nq).alloc (.cells #[.int .i64 K, .int .i64 T, .int .i64 a, .int .i64 b, .int .i64 c, .int .i64 d, .slice A3 n3 cap3] 35)) A3 (iv m) ∧ Ints (((w2.alloc (.cells #[.int .i64 K, .int .i64 T, .int .i64 a, .int .i64 b, .int .i64 c, .int .i64 d, .slice A3 n3 cap3] 35)).drewN nq).alloc (.cells #[.int .i64 K, .int .i64 T, .int .i64 a, .int .i64 b, .int .i64 c, .int .i64 d, .slice A3 n3 cap3] 35)) A3) := ⟨fun nq => by
            have hbx : Below w2.heap.size w2 (((w2.alloc (.cells #[.int .i64 K, .int .i64 T, .int .i64 a, .int .i64 b, .int .i64 c, .int .i64 d, .slice A3 n3 cap3] 35)).drewN nq).alloc (.cells #[.int .i64 K, .int .i64 T, .int .i64 a, .int .i64 b, .int .i64 c, .int .i64 d, .slice A3 n3 cap3] 35)) := on (below_drewN (below_new w2 _) nq) (below_new _ _)
            exact ⟨HY.out.1, HY.out.2.1, HY.out.2.2.1.to hbx, HY.out.2.2.2.to hbx⟩⟩
          have HBS := Lib.hid (fun nq : Nat => show w.heap.size ≤ (((w2.alloc (.cells #[.int .i64 K, .int .i64 T, .int .i64 a, .int .i64 b, .int .i64 c, .int .i64 d, .slice A3 n3 cap3] 35)).drewN nq).alloc (.cells #[.int .i64 K, .int .i64 T, .int .i64 a, .int .i64 b, .int .i64 c, .int .i64 d, .slice A3 n3 cap3] 35)).heap.size by have := (HBL.out nq).size; omega)
          have HN1 := Lib.hid (show n2 ≤ 100000000 by omega)
          have HSNOC : Bx ((n2 + 1 = (acc ++ [(⟨K, T, a, b, c, d, m⟩ : Jn.Ev)]).length) ∧ (L ++ [((⟨K, T, a, b, c, d, m⟩, A3, n3, cap3) : Jn.Er)]).map (·.1) = acc ++ [⟨K, T, a, b, c, d, m⟩]) := ⟨by rw [HA.out.1]; simp, by rw [List.map_append, HA.out.2.1]; rfl⟩
          rcases HA.out.2.2.1 with ⟨hac, htt⟩ | ⟨i, el, hac, htt⟩
          · have hn0 : n2 = 0 := by rw [HA.out.1, hac]; rfl
            have HF : Bx (Jn.recover l = Jn.rec f l (p + k) T (acc ++ [⟨K, T, a, b, c, d, m⟩])) := ⟨HR3.out rfl (by omega)⟩
            subst hn0
            clear HR2 HR3 hac htt HPO hT0
            go_upto_region 7 with fail
            go_quiet (fail)
            go_wp2_with (at_builtin; refine wpList_appE rfl _ _ rfl w.heap.size _ 0 L rfl (HOW.out _) (HGW.out _) ⟨w2.heap.size + 1, 0, none⟩ 1 (⟨K, T, a, b, c, d, m⟩, A3, n3, cap3) rfl (HNW.out _) (HYW.out _) HN1.out (HBS.out _) ?_; intro A5 cap5 w5 hown5 hgd5 hgr5 hb5; have HO5 := Lib.hid hown5; have HG5 := Lib.hid hgd5; have HB5 := Lib.hid ((on HB.out (HBL.out _)).trans hb5); clear hown5 hgd5 hgr5 hb5)
            exact ⟨⟨f, p + k, T, acc ++ [⟨K, T, a, b, c, d, m⟩], A5, 0 + 1, cap5, L ++ [(⟨K, T, a, b, c, d, m⟩, A3, n3, cap3)], by omega, by omega, by go_num, rfl, by omega,
              ⟨HSNOC.out.1, HSNOC.out.2, Jn.tail_snoc _ _, HF.out⟩, HO5.out, HG5.out, HB5.out⟩, by simp [intOf]; omega⟩
          · obtain ⟨mm, hmm⟩ : ∃ mm, mm = i.length := ⟨_, rfl⟩
            have hn0 : n2 = mm + 1 := by rw [HA.out.1, hac, hmm]; simp
            obtain ⟨xl, hxe, hxl⟩ := Jn.last_er (L := L) (i := i) (e := el) (by rw [HA.out.2.1, hac])
            rw [← hmm] at hxl
            have how := own7_kept HO.out HB2.out
            obtain ⟨g, hA2, _, hgl⟩ := own7_some how (by omega)
            have hcell : w2.cell? ⟨g, mm * 7 + 1, none⟩ = some (.int .i64 tt) := by
              subst hA2
              have h1 := World.ownsRow.cellAt how (mm * 7 + 1) (by omega)
              rw [h1, Jn.ecells_at L mm xl hxl 1 (.int .i64 tt) (by rw [htt, ← hxe]; rfl)]
            subst hA2
            subst hn0
            have hmx : ((mm + 1 : Nat) : Int) - 1 = (mm : Int) := by omega
            have hmp : (0 : Int) < ((mm + 1 : Nat) : Int) := by omega
            have hml : (mm : Int) < ((mm + 1 : Nat) : Int) := by omega
            have hml2 : (mm : Int) < (mm : Int) + 1 := by omega
            have hml3 : mm < mm + 1 := by omega
            have hm0 : (0 : Int) ≤ (mm : Int) := by omega
            have hmw : IntKind.i64.wrap (mm : Int) = (mm : Int) := by rw [IntKind.wrap_i64]; omega
            clear hmm hac htt hxe hxl how hT0 HPO
            by_cases hlt : T < tt
            · have HF : Bx (Jn.recover l = (acc, p)) := ⟨HR2.out (.inr hlt)⟩
              clear HR2 HR3
              go_upto_region 7 with fail
              go_quiet (fail)
              go_wp2
              go_ret2
              exact HEX.out _ (below_drewN HBA.out _) HF.out
            · have HF : Bx (Jn.recover l = Jn.rec f l (p + k) T (acc ++ [⟨K, T, a, b, c, d, m⟩])) := ⟨HR3.out rfl (by omega)⟩
              clear HR2 HR3
              go_upto_region 7 with fail
              go_quiet (fail)
              go_wp2_with (at_builtin; refine wpList_appE rfl _ _ rfl w.heap.size _ (mm + 1) L rfl (HOW.out _) (HGW.out _) ⟨w2.heap.size + 1, 0, none⟩ 1 (⟨K, T, a, b, c, d, m⟩, A3, n3, cap3) rfl (HNW.out _) (HYW.out _) HN1.out (HBS.out _) ?_; intro A5 cap5 w5 hown5 hgd5 hgr5 hb5; have HO5 := Lib.hid hown5; have HG5 := Lib.hid hgd5; have HB5 := Lib.hid ((on HB.out (HBL.out _)).trans hb5); clear hown5 hgd5 hgr5 hb5)
              exact ⟨⟨f, p + k, T, acc ++ [⟨K, T, a, b, c, d, m⟩], A5, mm + 1 + 1, cap5, L ++ [(⟨K, T, a, b, c, d, m⟩, A3, n3, cap3)], by omega, by omega, by go_num, rfl, by omega,
                ⟨HSNOC.out.1, HSNOC.out.2, Jn.tail_snoc _ _, HF.out⟩, HO5.out, HG5.out, HB5.out⟩, by simp [intOf]; omega⟩
        · have HF : Bx (Jn.recover l = (acc, p)) := ⟨HR2.out (.inl hge)⟩
          have hgf : (ge2 == 0) = false := beq_f hge
          have hgn : (ge2 != 0) = true := by simp [hge]
          clear HR2 HR3 hge HPO
          go_upto_region 7 with fail
          go_quiet (fail)
          go_wp2
          go_ret2
          exact HEX.out _ (below_drewN HBA.out _) HF.out
      · have HF : Bx (Jn.recover l = (acc, p)) := ⟨HRS1.out her⟩
        have herf : (er == 0) = false := beq_f her
        have hern : (er != 0) = true := by simp [her]
        clear her hob
        go_wp2_with fail
        refine (HOP.out).mono ?_
        rintro e w1 ⟨A1, n1, cap1, rfl, hn1, ho1, hb1⟩
        have HB1 := Lib.hid hb1
        clear hn1 ho1 hb1
        go_wp2
        go_ret2
        exact HEX.out _ HB1.out HF.out
end Go.Proofs.Ytcpdfgckfefboaa
