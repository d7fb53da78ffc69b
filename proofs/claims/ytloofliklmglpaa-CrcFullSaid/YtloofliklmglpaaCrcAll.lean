/- The walks of All, and of the reference's All. -/
import Derived.Test.YtloofliklmglpaaCrcOpen
namespace Go.Proofs.Ytloofliklmglpaa
open Go.RowKit

/-- The value is a slice that holds these bytes. -/
def Holds (w : World) (v : Value) (l : List UInt8) : Prop := ∃ A n cap, v = .slice A n cap ∧ n = l.length ∧ n ≤ cap ∧ (A = none → cap = 0) ∧ Rd w A (bv l)
def HoldsAll (w : World) (vs : List Value) (ls : List (List UInt8)) : Prop := vs.length = ls.length ∧ ∀ (k : Nat) v l, vs[k]? = some v → ls[k]? = some l → Holds w v l
theorem Holds.to {w w' : World} {v : Value} {l : List UInt8} (h : Holds w v l) (hb : Below w.heap.size w w') : Holds w' v l := by
  obtain ⟨A, n, cap, h1, h2, h3, h4, h5⟩ := h
  exact ⟨A, n, cap, h1, h2, h3, h4, h5.to hb⟩
theorem HoldsAll.to {w w' : World} {vs : List Value} {ls : List (List UInt8)} (h : HoldsAll w vs ls) (hb : Below w.heap.size w w') : HoldsAll w' vs ls := ⟨h.1, fun k v l h1 h2 => (h.2 k v l h1 h2).to hb⟩
theorem HoldsAll.nil (w : World) : HoldsAll w [] [] := ⟨rfl, fun k v l h => by simp at h⟩
theorem HoldsAll.snoc {w : World} {vs : List Value} {ls : List (List UInt8)} {v : Value} {l : List UInt8} (h : HoldsAll w vs ls) (hv : Holds w v l) : HoldsAll w (vs ++ [v]) (ls ++ [l]) := by
  refine ⟨by simp [h.1], fun k u m h1 h2 => ?_⟩
  by_cases hk : k < vs.length
  · rw [List.getElem?_append_left hk] at h1
    rw [List.getElem?_append_left (by rw [← h.1]; exact hk)] at h2
    exact h.2 k u m h1 h2
  · rw [List.getElem?_append_right (by omega)] at h1
    rw [List.getElem?_append_right (by rw [← h.1]; omega)] at h2
    have h3 := (List.getElem?_eq_some_iff.1 h1).1
    simp only [List.length_singleton] at h3
    have hk0 : k - vs.length = 0 := by omega
    rw [hk0] at h1
    rw [← h.1, hk0] at h2
    simp at h1 h2
    rw [← h1, ← h2]
    exact hv

/-- The same of rows of the call's own. -/
def OwnsAll (w : World) (B : Nat) (vs : List Value) (ls : List (List UInt8)) : Prop := vs.length = ls.length ∧ ∀ (k : Nat) v l, vs[k]? = some v → ls[k]? = some l → w.ownsRow B 5 1 v l.length (bv l)
theorem own_apart {w w' : World} {B1 B2 : Nat} {e1 e2 : TypeId} {vc v : Value} {n1 n2 : Nat} {xs1 xs2 : List Value} (hc : w.ownsRow B1 e1 1 vc n1 xs1) (hv : w.ownsRow B2 e2 1 v n2 xs2) (hne : e1 ≠ e2) (hg : w.grownBy w' v.ownBlock) : w'.ownsRow B1 e1 1 vc n1 xs1 := by
  refine ⟨hc.1, ?_⟩
  rcases hc.2 with h0 | ⟨g, cap, cur, rfl, hB, hh, h1, h2, h3, h4⟩
  · exact .inl h0
  · have hlt := (hc.lt g rfl).2
    have hx : some g ≠ v.ownBlock := by
      intro e
      rcases hv.2 with ⟨rfl, _⟩ | ⟨g2, cap2, cur2, rfl, _, hh2, _⟩
      · simp [Value.ownBlock] at e
      · have hgg : g = g2 := by simpa [Value.ownBlock] using e
        subst hgg
        rw [hh] at hh2
        injection hh2 with hh2
        injection hh2 with _ he
        exact hne he
    exact .inr ⟨g, cap, cur, rfl, hB, by rw [hg.block g hlt hx]; exact hh, h1, h2, h3, h4⟩
theorem own_base {w : World} {B B' : Nat} {e : TypeId} {v : Value} {n : Nat} {xs : List Value} (h : w.ownsRow B' e 1 v n xs) (hB : B ≤ B') : w.ownsRow B e 1 v n xs := by
  refine ⟨h.1, ?_⟩
  rcases h.2 with h0 | ⟨g, cap, cur, rfl, hb, h1⟩
  · exact .inl h0
  · exact .inr ⟨g, cap, cur, rfl, Nat.le_trans hB hb, h1⟩
theorem OwnsAll.nil (w : World) (B : Nat) : OwnsAll w B [] [] := ⟨rfl, fun k v l h => by simp at h⟩
theorem OwnsAll.kept {w w' : World} {B : Nat} {vs : List Value} {ls : List (List UInt8)} (h : OwnsAll w B vs ls) (hb : Below w.heap.size w w') : OwnsAll w' B vs ls := ⟨h.1, fun k v l h1 h2 => own_kept (h.2 k v l h1 h2) hb⟩
theorem OwnsAll.apart {w w' : World} {B B2 : Nat} {e2 : TypeId} {vs : List Value} {ls : List (List UInt8)} {v : Value} {n2 : Nat} {xs2 : List Value} (h : OwnsAll w B vs ls) (hv : w.ownsRow B2 e2 1 v n2 xs2) (hne : 5 ≠ e2) (hg : w.grownBy w' v.ownBlock) : OwnsAll w' B vs ls :=
  ⟨h.1, fun k v l h1 h2 => own_apart (h.2 k v l h1 h2) hv hne hg⟩
theorem OwnsAll.snoc {w : World} {B : Nat} {vs : List Value} {ls : List (List UInt8)} {v : Value} {l : List UInt8} (h : OwnsAll w B vs ls) (hv : w.ownsRow B 5 1 v l.length (bv l)) : OwnsAll w B (vs ++ [v]) (ls ++ [l]) := by
  refine ⟨by simp [h.1], fun k u m h1 h2 => ?_⟩
  by_cases hk : k < vs.length
  · rw [List.getElem?_append_left hk] at h1
    rw [List.getElem?_append_left (by rw [← h.1]; exact hk)] at h2
    exact h.2 k u m h1 h2
  · rw [List.getElem?_append_right (by omega)] at h1
    rw [List.getElem?_append_right (by rw [← h.1]; omega)] at h2
    have h3 := (List.getElem?_eq_some_iff.1 h1).1
    simp only [List.length_singleton] at h3
    have hk0 : k - vs.length = 0 := by omega
    rw [hk0] at h1
    rw [← h.1, hk0] at h2
    simp at h1 h2
    rw [← h1, ← h2]
    exact hv
theorem OwnsAll.holds {w : World} {B : Nat} {vs : List Value} {ls : List (List UInt8)} (h : OwnsAll w B vs ls) : HoldsAll w vs ls := ⟨h.1, fun k v l h1 h2 => by
  have ho := h.2 k v l h1 h2
  obtain ⟨A, cap, rfl, hc⟩ := own_form ho
  exact ⟨A, l.length, cap, rfl, rfl, hc, fun hA => own_none ho hA, own_rd ho⟩⟩

section
variable {P : Program} {w : World} {ops : Array Oper} {rest : List Oper} {o : Oper} {a : Act} {Q : Exit → Act → World → Prop}
/-- append of one value to an owned row, and no other block is touched. -/
theorem wpList_app1g (hgd : o.guard = none) (s x : Operand) (t : TypeId) (ho : o.op = .call { callee := .builtin .append, args := #[s, x], argTypes := #[t, t] })
    (B : Nat) (e : TypeId) (i : TypeInfo) (z : Value) (bytes : Nat) (ht : P.underlying t = some (.slice e)) (hi : P.info? e = some i) (hz : i.zero = some z)
    (hsize : i.size = 1) (hby : i.bytes = bytes) (hzs : z.cells.size = 1)
    (v : Value) (n : Nat) (xs : List Value) (hs : a.eval s = v) (hown : w.ownsRow B e 1 v n xs)
    (ad : Addr) (c : Nat) (u : Value) (hx : a.eval x = .slice (some ad) 1 c) (hnew : w.cell? ad = some u) (h1 : u.oneCell' = true)
    (h63 : n + 1 ≤ maxLen) (hbytes : (n + 1) * bytes ≤ 140737488355328) (hbase : B ≤ w.heap.size)
    (h : ∀ A cap w', w'.ownsRow B e 1 (.slice A (n + 1) cap) (n + 1) (xs ++ [u]) → w.grownBy w' v.ownBlock → Below B w w' → wpList P ops Q rest (a.put o.dst (.slice A (n + 1) cap)) w') : wpList P ops Q (o :: rest) a w := by
  refine wpList_append_own w hgd s x t ho B e i z 1 bytes ht hi hz hsize hby hzs (by decide) v n xs hs hown ad 1 c [u] hx rfl (fun j y hj => by
    have hj0 : j = 0 := by
      have := (List.getElem?_eq_some_iff.1 hj).1
      simpa using this
    subst hj0
    simp at hj
    subst hj
    simpa [Addr.add] using hnew) (by simpa using h1) h63 hbytes hbase ?_
  intro v' w' ho' hg _
  obtain ⟨A, cap, rfl, hc⟩ := own_form ho'
  exact h A cap w' ho' hg (own_below hown hg hbase)
end

namespace Cr
/-- The contents from at on, behind those in acc. -/
def al : Nat → List UInt8 → Nat → List (List UInt8) → List (List UInt8) × Nat
  | 0, _, at_, acc => (acc, at_)
  | f + 1, b, at_, acc => if at_ < b.length then (if (opn (b.drop at_)).2.2 = 0 then al f b (at_ + (opn (b.drop at_)).2.1) (acc ++ [(opn (b.drop at_)).1]) else (acc, at_)) else (acc, at_)
def all (b : List UInt8) : List (List UInt8) × Nat := al (b.length + 1) b 0 []
theorem opn_bd (b : List UInt8) : (opn b).2.1 ≤ b.length ∧ ((opn b).2.2 = 0 → 5 ≤ (opn b).2.1 ∧ (opn b).1.length + 4 ≤ (opn b).2.1) := by
  have hb := Wp.takeU_bd b
  unfold opn
  split
  · rename_i h
    have := hb.2 h
    split
    · simp
    · split
      · simp
      · split
        · simp only [List.length_take, List.length_drop]; omega
        · simp
  · rename_i h
    exact ⟨by simp, fun h2 => absurd h2 h⟩
theorem al_ok (f : Nat) (b : List UInt8) (p : Nat) (acc : List (List UInt8)) (c : List UInt8) (k : Nat) (h : opn (b.drop p) = (c, k, 0)) (hp : p < b.length) : al (f + 1) b p acc = al f b (p + k) (acc ++ [c]) := by
  rw [al, if_pos hp, h]; simp
theorem al_bad (f : Nat) (b : List UInt8) (p : Nat) (acc : List (List UInt8)) (c : List UInt8) (k : Nat) (e : Int) (h : opn (b.drop p) = (c, k, e)) (he : e ≠ 0) : al (f + 1) b p acc = (acc, p) := by
  rw [al, h]; simp [he]
theorem al_end (f : Nat) (b : List UInt8) (p : Nat) (acc : List (List UInt8)) (hp : ¬ p < b.length) : al f b p acc = (acc, p) := by
  cases f with
  | zero => rfl
  | succ f => rw [al, if_neg hp]
end Cr

/-- A slice from q on. -/
theorem rd_from {w : World} {A : Option Addr} {cap q : Nat} {r : List UInt8} (h : Rd w A (bv r)) (hc : r.length ≤ cap) (hq : cap ≠ q) : Rd w (A.map fun x => x.add q) (bv (r.drop q)) := by
  have := h.drop q cap (by rw [bv_length]; exact hc)
  rw [if_neg hq] at this
  rw [bv_drop]
  exact this
theorem below_keep {B B' : Nat} {w w' : World} (h : Below B w w') (hB : B' ≤ B) : Below B' w w' := h.mono hB
theorem info_bytes : (Try.prog.info? 22).map (fun i => (i.zero, i.size, i.bytes)) = some (some (.slice none 0 0), 1, 24) := by kernel_rfl

/-- The call returns a list of contents of its own and a length. -/
def RetAll (w : World) (r : List (List UInt8) × Nat) (e : Ending) (w' : World) : Prop :=
  ∃ A n cap vs, e = .returned (.tuple #[.slice A n cap, .int .i64 (r.2 : Int)]) ∧ n = r.1.length ∧ w'.ownsRow w.heap.size 22 1 (.slice A n cap) n vs ∧ HoldsAll w' vs r.1 ∧ Below w.heap.size w w'
theorem RetAll.mk {w w' : World} {r : List (List UInt8) × Nat} {A : Option Addr} {n cap p : Nat} {vs : List Value} {acc : List (List UInt8)} (h : r = (acc, p)) (hn : n = acc.length) (ho : w'.ownsRow w.heap.size 22 1 (.slice A n cap) n vs) (hh : HoldsAll w' vs acc) (hb : Below w.heap.size w w') :
    RetAll w r (.returned (.tuple #[.slice A n cap, .int .i64 (p : Int)])) w' := by
  subst h
  exact ⟨A, n, cap, vs, rfl, hn, ho, hh, hb⟩

set_option maxRecDepth 100000 in
set_option maxHeartbeats 3200000 in
theorem all_any (A : Option Addr) (n cap : Nat) (l : List UInt8) (hn : n = l.length) (hcap : n ≤ cap) (w : World) (hr : Rd w A (bv l)) (hl : l.length ≤ 10000000) :
    Calls Try.prog 22 #[.slice A n cap] w (RetAll w (Cr.all l)) := by
  obtain ⟨i0, hi, hz0, hz1, hz2⟩ := info_parts info_bytes
  have HR := Lib.hid hr
  have HN := Lib.hid hn
  have hnl : n ≤ 10000000 := by omega
  have HL := Lib.hid hl
  clear hr hn hl
  go_enter Try.func22, Try.ntmps22
  go_wp2
  go_loopw [4, 5] (fun v p wr => ∃ (f q : Nat) (A2 : Option Addr) (n2 cap2 : Nat) (vs : List Value) (acc : List (List UInt8)), q ≤ n ∧ n + 1 ≤ f + q ∧ p = .int .i64 (q : Int) ∧ v = .slice A2 n2 cap2 ∧ Hid (n2 = acc.length) ∧ n2 ≤ q ∧ Hid (Cr.all l = Cr.al f l q acc) ∧
      wr.ownsRow w.heap.size 22 1 (.slice A2 n2 cap2) n2 vs ∧ OwnsAll wr w.heap.size vs acc ∧ Below w.heap.size w wr) (fun _ p _ => n - (intOf p).toNat)
  case atStart => exact ⟨n + 1, 0, none, 0, 0, [], [], by omega, by omega, rfl, rfl, rfl, by omega, (by rw [HN.out]; exact rfl : Cr.all l = Cr.al (n + 1) l 0 []), World.ownsRow_nil _ _ _ _, OwnsAll.nil _ _, Below.refl _ _⟩
  case round =>
    obtain ⟨f, q, A2, n2, cap2, vs, acc, hq, hf, rfl, rfl, HN2, hn2, HG, ho, hh, hb⟩ := hrel
    have HO := Lib.hid ho
    have HH := Lib.hid hh
    have HB := Lib.hid hb
    clear ho hh hb
    by_cases hlt : q < n
    · have hck : ¬ cap = q := by omega
      have hql : q < l.length := by rw [← HN.out]; exact hlt
      obtain ⟨g, rfl⟩ : ∃ g, f = g + 1 := ⟨f - 1, by omega⟩
      have hlc := HL.out
      have HT0 := open_any (A.map fun x => x.add q) (n - q) (cap - q) (l.drop q) (by rw [List.length_drop, HN.out]) (by omega) wr (rd_from (HR.out.to HB.out) (by rw [← HN.out]; exact hcap) hck) (by rw [List.length_drop]; omega)
      have hbd := Cr.opn_bd (l.drop q)
      rcases ht : Cr.opn (l.drop q) with ⟨c, k, er⟩
      rw [ht] at HT0 hbd
      rw [List.length_drop] at hbd
      simp only at hbd
      have HT := Lib.hid HT0
      have hqi : (q : Int) < (n : Int) := by omega
      have hci : (n : Int) ≤ (cap : Int) := by omega
      by_cases her : er = 0
      · subst her
        have HG2 : Hid (Cr.all l = Cr.al g l (q + k) (acc ++ [c])) := by
          show _ = _
          rw [HG.out]
          exact Cr.al_ok g l q acc c k ht hql
        have hkk := (hbd.2 rfl).1
        have hkk2 : q + k ≤ n := by have := hbd.1; have := HN.out; omega
        clear hbd ht HT0 hql hlc
        go_wp2_with fail
        refine HT.out.mono ?_
        rintro e w1 ⟨A3, n3, cap3, rfl, hn3, hown3, hb3⟩
        have HV := Lib.hid (show w1.ownsRow w.heap.size 5 1 (.slice A3 n3 cap3) c.length (bv c) by rw [← hn3]; exact own_base hown3 HB.out.size)
        have HO3 := Lib.hid (own_kept HO.out hb3)
        have HH3 := Lib.hid (HH.out.kept hb3)
        have HB3 := Lib.hid (on HB.out hb3)
        have HSZ := Lib.hid (HB3.out.size)
        clear hn3 hown3 hb3
        simp only
        go_wp2_with (at_builtin; refine wpList_app1g rfl _ _ 36 rfl w.heap.size 22 i0 (.slice none 0 0) 24 Try.underlying36 hi hz0 hz1 hz2 rfl _ n2 vs rfl (HO3.out.alloc _) ⟨w1.heap.size, 0, none⟩ 1 (.slice A3 n3 cap3) rfl (new0 _ _ _) rfl (by unfold maxLen; omega) (by omega) (by have := HSZ.out; simp; omega) ?_; intro A4 cap4 w2 hown4 hg4 hb4; have HO4 := Lib.hid hown4; have HG4 := Lib.hid hg4; have HB4 := Lib.hid hb4; clear hown4 hb4 hg4)
        have HN3 : Hid (n2 + 1 = (acc ++ [c]).length) := by
          show _ = _
          rw [HN2.out]; simp
        have HB5 := Lib.hid ((HB3.out.trans (below_keep (below_new w1 _) HB3.out.size)).trans HB4.out)
        have HH5 := Lib.hid (((HH3.out.snoc HV.out).kept (below_new w1 _)).apart (HO3.out.alloc _) (by decide) HG4.out)
        go_roundw
        case rel => exact ⟨g, q + k, A4, n2 + 1, cap4, vs ++ [.slice A3 n3 cap3], acc ++ [c], by omega, by omega, by go_num, rfl, HN3, by omega, HG2, HO4.out, HH5.out, HB5.out⟩
        case measure => simp [intOf]; omega
      · have HF := Lib.hid (show Cr.all l = (acc, q) by rw [HG.out]; exact Cr.al_bad g l q acc c k er ht her)
        have hz := beq_f her
        clear hbd ht HT0 hql hlc
        go_wp2_with fail
        refine HT.out.mono ?_
        rintro e w1 ⟨A3, n3, cap3, rfl, hn3, hown3, hb3⟩
        have HO3 := Lib.hid (own_kept HO.out hb3)
        have HH3 := Lib.hid (HH.out.kept hb3)
        have HB3 := Lib.hid (on HB.out hb3)
        clear hn3 hown3 hb3
        simp only
        go_wp2
        go_ret2
        exact RetAll.mk HF.out HN2.out HO3.out HH3.out.holds HB3.out
    · have HF := Lib.hid (show Cr.all l = (acc, q) by rw [HG.out]; exact Cr.al_end f l q acc (by rw [← HN.out]; exact hlt))
      have hqi : ¬ (q : Int) < (n : Int) := by omega
      go_wp2
      go_ret2
      exact RetAll.mk HF.out HN2.out HO.out HH.out.holds HB.out

set_option maxRecDepth 100000 in
set_option maxHeartbeats 3200000 in
theorem rall_any (A : Option Addr) (n cap : Nat) (l : List UInt8) (hn : n = l.length) (hcap : n ≤ cap) (w : World) (hr : Rd w A (bv l)) (hl : l.length ≤ 10000000) :
    Calls Try.prog 23 #[.slice A n cap] w (RetAll w (Cr.all l)) := by
  obtain ⟨i0, hi, hz0, hz1, hz2⟩ := info_parts info_bytes
  have HR := Lib.hid hr
  have HN := Lib.hid hn
  have hnl : n ≤ 10000000 := by omega
  have HL := Lib.hid hl
  clear hr hn hl
  go_enter Try.func23, Try.ntmps23
  go_wp2
  go_loopw [4, 5] (fun v p wr => ∃ (f q : Nat) (A2 : Option Addr) (n2 cap2 : Nat) (vs : List Value) (acc : List (List UInt8)), q ≤ n ∧ n + 1 ≤ f + q ∧ p = .int .i64 (q : Int) ∧ v = .slice A2 n2 cap2 ∧ Hid (n2 = acc.length) ∧ n2 ≤ q ∧ Hid (Cr.all l = Cr.al f l q acc) ∧
      wr.ownsRow w.heap.size 22 1 (.slice A2 n2 cap2) n2 vs ∧ OwnsAll wr w.heap.size vs acc ∧ Below w.heap.size w wr) (fun _ p _ => n - (intOf p).toNat)
  case atStart => exact ⟨n + 1, 0, none, 0, 0, [], [], by omega, by omega, rfl, rfl, rfl, by omega, (by rw [HN.out]; exact rfl : Cr.all l = Cr.al (n + 1) l 0 []), World.ownsRow_nil _ _ _ _, OwnsAll.nil _ _, Below.refl _ _⟩
  case round =>
    obtain ⟨f, q, A2, n2, cap2, vs, acc, hq, hf, rfl, rfl, HN2, hn2, HG, ho, hh, hb⟩ := hrel
    have HO := Lib.hid ho
    have HH := Lib.hid hh
    have HB := Lib.hid hb
    clear ho hh hb
    by_cases hlt : q < n
    · have hck : ¬ cap = q := by omega
      have hql : q < l.length := by rw [← HN.out]; exact hlt
      obtain ⟨g, rfl⟩ : ∃ g, f = g + 1 := ⟨f - 1, by omega⟩
      have hlc := HL.out
      have HT0 := ropen_any (A.map fun x => x.add q) (n - q) (cap - q) (l.drop q) (by rw [List.length_drop, HN.out]) (by omega) wr (rd_from (HR.out.to HB.out) (by rw [← HN.out]; exact hcap) hck) (by rw [List.length_drop]; omega)
      have hbd := Cr.opn_bd (l.drop q)
      rcases ht : Cr.opn (l.drop q) with ⟨c, k, er⟩
      rw [ht] at HT0 hbd
      rw [List.length_drop] at hbd
      simp only at hbd
      have HT := Lib.hid HT0
      have hqi : (q : Int) < (n : Int) := by omega
      have hci : (n : Int) ≤ (cap : Int) := by omega
      by_cases her : er = 0
      · subst her
        have HG2 : Hid (Cr.all l = Cr.al g l (q + k) (acc ++ [c])) := by
          show _ = _
          rw [HG.out]
          exact Cr.al_ok g l q acc c k ht hql
        have hkk := (hbd.2 rfl).1
        have hkk2 : q + k ≤ n := by have := hbd.1; have := HN.out; omega
        clear hbd ht HT0 hql hlc
        go_wp2_with fail
        refine HT.out.mono ?_
        rintro e w1 ⟨A3, n3, cap3, rfl, hn3, hown3, hb3⟩
        have HV := Lib.hid (show w1.ownsRow w.heap.size 5 1 (.slice A3 n3 cap3) c.length (bv c) by rw [← hn3]; exact own_base hown3 HB.out.size)
        have HO3 := Lib.hid (own_kept HO.out hb3)
        have HH3 := Lib.hid (HH.out.kept hb3)
        have HB3 := Lib.hid (on HB.out hb3)
        have HSZ := Lib.hid (HB3.out.size)
        clear hn3 hown3 hb3
        simp only
        go_wp2_with (at_builtin; refine wpList_app1g rfl _ _ 36 rfl w.heap.size 22 i0 (.slice none 0 0) 24 Try.underlying36 hi hz0 hz1 hz2 rfl _ n2 vs rfl (HO3.out.alloc _) ⟨w1.heap.size, 0, none⟩ 1 (.slice A3 n3 cap3) rfl (new0 _ _ _) rfl (by unfold maxLen; omega) (by omega) (by have := HSZ.out; simp; omega) ?_; intro A4 cap4 w2 hown4 hg4 hb4; have HO4 := Lib.hid hown4; have HG4 := Lib.hid hg4; have HB4 := Lib.hid hb4; clear hown4 hb4 hg4)
        have HN3 : Hid (n2 + 1 = (acc ++ [c]).length) := by
          show _ = _
          rw [HN2.out]; simp
        have HB5 := Lib.hid ((HB3.out.trans (below_keep (below_new w1 _) HB3.out.size)).trans HB4.out)
        have HH5 := Lib.hid (((HH3.out.snoc HV.out).kept (below_new w1 _)).apart (HO3.out.alloc _) (by decide) HG4.out)
        go_roundw
        case rel => exact ⟨g, q + k, A4, n2 + 1, cap4, vs ++ [.slice A3 n3 cap3], acc ++ [c], by omega, by omega, by go_num, rfl, HN3, by omega, HG2, HO4.out, HH5.out, HB5.out⟩
        case measure => simp [intOf]; omega
      · have HF := Lib.hid (show Cr.all l = (acc, q) by rw [HG.out]; exact Cr.al_bad g l q acc c k er ht her)
        have hz := beq_f her
        clear hbd ht HT0 hql hlc
        go_wp2_with fail
        refine HT.out.mono ?_
        rintro e w1 ⟨A3, n3, cap3, rfl, hn3, hown3, hb3⟩
        have HO3 := Lib.hid (own_kept HO.out hb3)
        have HH3 := Lib.hid (HH.out.kept hb3)
        have HB3 := Lib.hid (on HB.out hb3)
        clear hn3 hown3 hb3
        simp only
        go_wp2
        go_ret2
        exact RetAll.mk HF.out HN2.out HO3.out HH3.out.holds HB3.out
    · have HF := Lib.hid (show Cr.all l = (acc, q) by rw [HG.out]; exact Cr.al_end f l q acc (by rw [← HN.out]; exact hlt))
      have hqi : ¬ (q : Int) < (n : Int) := by omega
      go_wp2
      go_ret2
      exact RetAll.mk HF.out HN2.out HO.out HH.out.holds HB.out
end Go.Proofs.Ytloofliklmglpaa
