/- The walk of Recover. -/
import Derived.Test.YtcpdfgckfefboaaJnRecA
namespace Go.Proofs.Ytcpdfgckfefboaa
open Go.RowKit
/-- The call returns events, to be read, and a length. -/
def RetEvs (w : World) (p : List Jn.Ev × Nat) (e : Ending) (w' : World) : Prop :=
  ∃ A n cap L, e = .returned (.tuple #[.slice A n cap, .int .i64 (p.2 : Int)]) ∧ n = p.1.length ∧ L.map (·.1) = p.1 ∧ w'.ownsRow w.heap.size 35 7 (.slice A n cap) n (Jn.ecells L) ∧ Jn.Good w' L ∧ Below w.heap.size w w'
namespace Jn
theorem rec_stop1 (f : Nat) (b : List UInt8) (p : Nat) (t : Int) (acc : List Ev) (h : (Cr.opn (b.drop p)).2.2 ≠ 0) : rec (f + 1) b p t acc = (acc, p) := by
  simp only [rec]
  rw [if_pos h]
theorem rec_stop2 (f : Nat) (b : List UInt8) (p : Nat) (t : Int) (acc : List Ev) (h : (Cr.opn (b.drop p)).2.2 = 0) (h2 : (get (Cr.opn (b.drop p)).1).2 ≠ 0 ∨ (get (Cr.opn (b.drop p)).1).1.at_ < t) : rec (f + 1) b p t acc = (acc, p) := by
  simp only [rec]
  rw [if_neg (by omega), if_pos h2]
theorem rec_go (f : Nat) (b : List UInt8) (p : Nat) (t : Int) (acc : List Ev) (h : (Cr.opn (b.drop p)).2.2 = 0) (h1 : (get (Cr.opn (b.drop p)).1).2 = 0) (h2 : ¬ (get (Cr.opn (b.drop p)).1).1.at_ < t) :
    rec (f + 1) b p t acc = rec f b (p + (Cr.opn (b.drop p)).2.1) (get (Cr.opn (b.drop p)).1).1.at_ (acc ++ [(get (Cr.opn (b.drop p)).1).1]) := by
  simp only [rec]
  rw [if_neg (by omega), if_neg (by
    intro hx
    rcases hx with hx | hx
    · exact hx h1
    · exact h2 hx)]
end Jn
theorem new7 (w : World) (y : Jn.Er) (t : TypeId) (n : Nat) (hn : n = w.heap.size) : ∀ j u, (Jn.ecell y)[j]? = some u → (w.alloc (.cells (Jn.ecell y).toArray t)).cell? (Addr.add ⟨n, 0, none⟩ j) = some u := by
  subst hn
  intro j u hj
  rw [addr_add]
  unfold World.cell?
  rw [heap_alloc_new]
  simpa using hj
theorem own_lt {w : World} {B : Nat} {e : TypeId} {A : Option Addr} {n cap : Nat} {xs : List Value} (h : w.ownsRow B e 1 (.slice A n cap) n xs) : ∀ a, A = some a → a.block < w.heap.size := by
  intro a ha
  rcases h.2 with ⟨hv, _⟩ | ⟨g, cap', cur, hv, hB, hg, _⟩
  · injection hv with hA
    rw [hA] at ha; cases ha
  · injection hv with hA
    rw [hA] at ha
    cases ha
    rcases Nat.lt_or_ge g w.heap.size with h1 | h1
    · exact h1
    · rw [Array.getElem?_eq_none h1] at hg; cases hg

set_option maxRecDepth 100000 in
set_option maxHeartbeats 6400000 in
theorem recover_any (A : Option Addr) (n cap : Nat) (l : List UInt8) (hn : n = l.length) (hcap : n ≤ cap) (w : World) (hr : Rd w A (bv l)) (hl : l.length ≤ 1000000) :
    Calls Try.prog 14 #[.slice A n cap] w (RetEvs w (Jn.recover l)) := by
  have HR := Lib.hid hr
  have HN : Bx (n = l.length) := ⟨hn⟩
  have hln : n ≤ 1000000 := by omega
  clear hr hn hl
  go_enter Try.func14, Try.ntmps14
  go_wp2
  go_loopw [4, 5, 6] (fun o i t wr => ∃ (f p : Nat) (tt : Int) (acc : List Jn.Ev) (A2 : Option Addr) (n2 cap2 : Nat) (L : List Jn.Er), p ≤ n ∧ n < p + f ∧ i = .int .i64 (p : Int) ∧ t = .int .i64 tt ∧ o = .slice A2 n2 cap2 ∧ n2 ≤ p ∧ Bx (n2 = acc.length ∧ L.map (·.1) = acc ∧ Jn.recover l = Jn.rec f l p tt acc) ∧
    wr.ownsRow w.heap.size 35 7 (.slice A2 n2 cap2) n2 (Jn.ecells L) ∧ Jn.Good wr L ∧ Below w.heap.size w wr) (fun _ i _ _ => n - (intOf i).toNat)
  case atStart => exact ⟨n + 1, 0, 0, [], none, 0, 0, [], by omega, by omega, rfl, rfl, rfl, by omega, ⟨rfl, rfl, by unfold Jn.recover; rw [HN.out]⟩, World.ownsRow_nil _ _ _ _, Jn.Good.nil _, Below.refl _ _⟩
  case round =>
    obtain ⟨f, p, tt, acc, A2, n2, cap2, L, hp, hf, rfl, rfl, rfl, hn2, HA, ho, hg, hb⟩ := hrel
    have HO := Lib.hid ho
    have HGD := Lib.hid hg
    have HB := Lib.hid hb
    have hsz := hb.size
    obtain ⟨f, rfl⟩ : ∃ g, f = g + 1 := ⟨f - 1, by omega⟩
    have hrd : Rd wr (if cap = p then A else A.map fun x => x.add p) (bv (l.drop p)) := by
      have := (HR.out.to hb).drop p cap (by rw [bv_length, ← HN.out]; exact hcap)
      rw [← bv_drop] at this
      exact this
    have HOP := Lib.hid (open_any (if cap = p then A else A.map fun x => x.add p) (n - p) (cap - p) (l.drop p) (by rw [List.length_drop, HN.out]) (by omega) wr hrd (by rw [List.length_drop, ← HN.out]; omega))
    have hob := Cr.opn_bd (l.drop p)
    rw [List.length_drop, ← HN.out] at hob
    have HRS1 : Bx ((Cr.opn (l.drop p)).2.2 ≠ 0 → Jn.recover l = (acc, p)) := ⟨fun h => by rw [HA.out.2.2]; exact Jn.rec_stop1 f l p tt acc h⟩
    have HRS2 : Bx ((Cr.opn (l.drop p)).2.2 = 0 → ((Jn.get (Cr.opn (l.drop p)).1).2 ≠ 0 ∨ (Jn.get (Cr.opn (l.drop p)).1).1.at_ < tt) → Jn.recover l = (acc, p)) := ⟨fun h h2 => by rw [HA.out.2.2]; exact Jn.rec_stop2 f l p tt acc h h2⟩
    have HRS3 : Bx ((Cr.opn (l.drop p)).2.2 = 0 → (Jn.get (Cr.opn (l.drop p)).1).2 = 0 → ¬ (Jn.get (Cr.opn (l.drop p)).1).1.at_ < tt → Jn.recover l = Jn.rec f l (p + (Cr.opn (l.drop p)).2.1) (Jn.get (Cr.opn (l.drop p)).1).1.at_ (acc ++ [(Jn.get (Cr.opn (l.drop p)).1).1])) := ⟨fun h h1 h2 => by rw [HA.out.2.2]; exact Jn.rec_go f l p tt acc h h1 h2⟩
    generalize Cr.opn (l.drop p) = q at HOP hob HRS1 HRS2 HRS3
    obtain ⟨x, k, er⟩ := q
    simp only at hob
    have hpn : (p : Int) ≤ (n : Int) := by omega
    have HEN : ∀ wx, Below wr.heap.size wr wx → Jn.recover l = (acc, p) → RetEvs w (Jn.recover l) (.returned (.tuple #[.slice A2 n2 cap2, .int .i64 (p : Int)])) wx := fun wx hx hF =>
      ⟨A2, n2, cap2, L, by rw [hF], by rw [hF]; exact HA.out.1, by rw [hF]; exact HA.out.2.1, own7_kept HO.out hx, HGD.out.to hx, on HB.out hx⟩
    have HEX : Bx (∀ wx, Below wr.heap.size wr wx → Jn.recover l = (acc, p) → RetEvs w (Jn.recover l) (.returned (.tuple #[.slice A2 n2 cap2, .int .i64 (p : Int)])) wx) := ⟨HEN⟩
    clear HEN
    by_cases hck : cap = p
    · have hpn2 : n = p := by omega
      subst hck
      subst hpn2
      have her : er ≠ 0 := fun h => by have := hob.2 h; omega
      have HF : Bx (Jn.recover l = (acc, n)) := ⟨HRS1.out her⟩
      rw [if_pos rfl, Nat.sub_self] at HOP
      have herf : (er == 0) = false := beq_f her
      clear ho hg hb hrd her hob
      go_wp2_with fail
      refine (HOP.out).mono ?_
      rintro e w1 ⟨A1, n1, cap1, rfl, hn1, ho1, hb1⟩
      have HB1 := Lib.hid hb1
      clear hn1 ho1 hb1
      go_wp2
      go_ret2
      exact HEX.out _ HB1.out HF.out
    · rw [if_neg hck] at HOP
      clear ho hg hb hrd
      by_cases her : er = 0
      · subst her
        have hob2 := hob.2 rfl
        have hk1 : 5 ≤ k := hob2.1
        have hk2 : k ≤ n - p := hob.1
        have HXL : Bx (x.length ≤ 1000000) := ⟨by omega⟩
        clear hob hob2
        have HR2 : Bx ((Jn.get x).2 ≠ 0 ∨ (Jn.get x).1.at_ < tt → Jn.recover l = (acc, p)) := ⟨HRS2.out rfl⟩
        have HR3 : Bx ((Jn.get x).2 = 0 → ¬ (Jn.get x).1.at_ < tt → Jn.recover l = Jn.rec f l (p + k) (Jn.get x).1.at_ (acc ++ [(Jn.get x).1])) := ⟨HRS3.out rfl⟩
        clear HRS1 HRS2 HRS3
        go_wp2_with fail
        refine (HOP.out).mono ?_
        rintro e w1 ⟨A1, n1, cap1, rfl, hn1, ho1, hb1⟩
        try simp only at hn1 ho1
        have HB1 := Lib.hid hb1
        have HGT := Lib.hid (get_any A1 n1 cap1 x hn1 (own_cap ho1).1 (own_none ho1) w1 (own_rd ho1) (by have := HXL.out; omega))
        clear hn1 ho1 hb1
        generalize Jn.get x = ge at HGT HR2 HR3
        obtain ⟨⟨K, T, a, b, c, d, m⟩, ge2⟩ := ge
        have HR4 : Bx (ge2 ≠ 0 ∨ T < tt → Jn.recover l = (acc, p)) := ⟨fun h => HR2.out (by rcases h with h | h; exact .inl h; exact .inr h)⟩
        have HR5 : Bx (ge2 = 0 → ¬ T < tt → Jn.recover l = Jn.rec f l (p + k) T (acc ++ [⟨K, T, a, b, c, d, m⟩])) := ⟨fun h h2 => HR3.out h (by simp only; omega)⟩
        clear HR2 HR3
        go_wp2_with fail
        refine (HGT.out).mono ?_
        rintro e w2 ⟨A3, n3, cap3, rfl, hn3, hc3, hr3, hi3, hb2⟩
        unfold Jn.Ev.val
        simp only at hn3 hr3 ⊢
        have HB2 := Lib.hid (on HB1.out hb2)
        have HBA := Lib.hid (on HB2.out (below_new w2 (.cells #[.int .i64 K, .int .i64 T, .int .i64 a, .int .i64 b, .int .i64 c, .int .i64 d, .slice A3 n3 cap3] 35)))
        have HY : Bx (n3 = m.length ∧ (A3 = none → cap3 = 0) ∧ Rd w2 A3 (iv m) ∧ Ints w2 A3) := ⟨hn3, hc3, hr3, hi3⟩
        have hsz2 : wr.heap.size ≤ w2.heap.size := HB2.out.size
        clear hn3 hc3 hr3 hi3 hb2
        by_cases hge : ge2 = 0
        · subst hge
          by_cases htt : T < tt
          · have HF : Bx (Jn.recover l = (acc, p)) := ⟨HR4.out (.inr htt)⟩
            clear HR4 HR5
            go_wp2
            go_ret2
            exact HEX.out _ HBA.out HF.out
          · have HF : Bx (Jn.recover l = Jn.rec f l (p + k) T (acc ++ [⟨K, T, a, b, c, d, m⟩])) := ⟨HR5.out rfl (by omega)⟩
            clear HR4 HR5
            have HBL := Lib.hid (on HBA.out (below_new (w2.alloc (.cells #[.int .i64 K, .int .i64 T, .int .i64 a, .int .i64 b, .int .i64 c, .int .i64 d, .slice A3 n3 cap3] 35)) (.cells #[.int .i64 K, .int .i64 T, .int .i64 a, .int .i64 b, .int .i64 c, .int .i64 d, .slice A3 n3 cap3] 35)))
            have HOW := Lib.hid (own7_kept HO.out HBL.out)
            have HGW := Lib.hid (HGD.out.to HBL.out)
            have HNW := Lib.hid (new7 (w2.alloc (.cells #[.int .i64 K, .int .i64 T, .int .i64 a, .int .i64 b, .int .i64 c, .int .i64 d, .slice A3 n3 cap3] 35)) (⟨K, T, a, b, c, d, m⟩, A3, n3, cap3) 35 (w2.heap.size + 1) (by simp))
            have hb12 := on (below_new w2 (.cells #[.int .i64 K, .int .i64 T, .int .i64 a, .int .i64 b, .int .i64 c, .int .i64 d, .slice A3 n3 cap3] 35)) (below_new (w2.alloc (.cells #[.int .i64 K, .int .i64 T, .int .i64 a, .int .i64 b, .int .i64 c, .int .i64 d, .slice A3 n3 cap3] 35)) (.cells #[.int .i64 K, .int .i64 T, .int .i64 a, .int .i64 b, .int .i64 c, .int .i64 d, .slice A3 n3 cap3] 35))
            have HYW : Bx (n3 = m.length ∧ (A3 = none → cap3 = 0) ∧ Rd ((w2.alloc (.cells #[.int .i64 K, .int .i64 T, .int .i64 a, .int .i64 b, .int .i64 c, .int .i64 d, .slice A3 n3 cap3] 35)).alloc (.cells #[.int .i64 K, .int .i64 T, .int .i64 a, .int .i64 b, .int .i64 c, .int .i64 d, .slice A3 n3 cap3] 35)) A3 (iv m) ∧ Ints ((w2.alloc (.cells #[.int .i64 K, .int .i64 T, .int .i64 a, .int .i64 b, .int .i64 c, .int .i64 d, .slice A3 n3 cap3] 35)).alloc (.cells #[.int .i64 K, .int .i64 T, .int .i64 a, .int .i64 b, .int .i64 c, .int .i64 d, .slice A3 n3 cap3] 35)) A3) := ⟨HY.out.1, HY.out.2.1, HY.out.2.2.1.to hb12, HY.out.2.2.2.to hb12⟩
            have HBS := Lib.hid (show w.heap.size ≤ ((w2.alloc (.cells #[.int .i64 K, .int .i64 T, .int .i64 a, .int .i64 b, .int .i64 c, .int .i64 d, .slice A3 n3 cap3] 35)).alloc (.cells #[.int .i64 K, .int .i64 T, .int .i64 a, .int .i64 b, .int .i64 c, .int .i64 d, .slice A3 n3 cap3] 35)).heap.size by have := HBL.out.size; omega)
            have HN1 := Lib.hid (show n2 ≤ 100000000 by omega)
            have HTC := Lib.hid (show ((w2.alloc (.cells #[.int .i64 K, .int .i64 T, .int .i64 a, .int .i64 b, .int .i64 c, .int .i64 d, .slice A3 n3 cap3] 35)).alloc (.cells #[.int .i64 K, .int .i64 T, .int .i64 a, .int .i64 b, .int .i64 c, .int .i64 d, .slice A3 n3 cap3] 35)).cell? ⟨w2.heap.size, 1, none⟩ = some (.int .i64 T) by
              rw [World.cell?_alloc_lt _ _ _ (by simp)]
              unfold World.cell?
              rw [heap_alloc_new]
              simp)
            have HNE := Lib.hid (show some w2.heap.size ≠ (Value.slice A2 n2 cap2).ownBlock from fun h => by have := (HO.out.lt _ h.symm).2; omega)
            have HLT := Lib.hid (show w2.heap.size < ((w2.alloc (.cells #[.int .i64 K, .int .i64 T, .int .i64 a, .int .i64 b, .int .i64 c, .int .i64 d, .slice A3 n3 cap3] 35)).alloc (.cells #[.int .i64 K, .int .i64 T, .int .i64 a, .int .i64 b, .int .i64 c, .int .i64 d, .slice A3 n3 cap3] 35)).heap.size by simp; omega)
            clear hb12
            go_wp2_with (at_builtin; refine wpList_appE rfl _ _ rfl w.heap.size _ n2 L rfl HOW.out HGW.out ⟨w2.heap.size + 1, 0, none⟩ 1 (⟨K, T, a, b, c, d, m⟩, A3, n3, cap3) rfl HNW.out HYW.out HN1.out HBS.out ?_; intro A5 cap5 w5 hown5 hgd5 hgr5 hb5; have hT5 := (World.cell?_of_block (a := ⟨w2.heap.size, 1, none⟩) (hgr5.block w2.heap.size HLT.out HNE.out)).trans HTC.out; have HO5 := Lib.hid hown5; have HG5 := Lib.hid hgd5; have HB5 := Lib.hid ((on HB.out HBL.out).trans hb5); clear hown5 hgd5 hgr5 hb5)
            exact ⟨⟨f, p + k, T, acc ++ [⟨K, T, a, b, c, d, m⟩], A5, n2 + 1, cap5, L ++ [(⟨K, T, a, b, c, d, m⟩, A3, n3, cap3)], by omega, by omega, by go_num, rfl, rfl, by omega,
              ⟨by rw [HA.out.1]; simp, by rw [List.map_append, HA.out.2.1]; rfl, HF.out⟩, HO5.out, HG5.out, HB5.out⟩, by simp [intOf]; omega⟩
        · have HF : Bx (Jn.recover l = (acc, p)) := ⟨HR4.out (.inl hge)⟩
          have hgf : (ge2 == 0) = false := beq_f hge
          have hgn : (ge2 != 0) = true := by simp [hge]
          clear HR4 HR5 hge
          go_wp2
          go_ret2
          exact HEX.out _ HBA.out HF.out
      · have HF : Bx (Jn.recover l = (acc, p)) := ⟨HRS1.out her⟩
        have herf : (er == 0) = false := beq_f her
        clear her hob
        go_wp2_with fail
        refine (HOP.out).mono ?_
        rintro e w1 ⟨A1, n1, cap1, rfl, hn1, ho1, hb1⟩
        have HB1 := Lib.hid hb1
        clear hn1 ho1 hb1
        go_wp2
        go_ret2
        exact HEX.out _ HB1.out HF.out
end Go.Proofs.Ytcpdfgckfefboaa
