/- The walk of the law CrcPrefix. -/
import Derived.Test.YtloofliklmglpaaCrcArgs
import Derived.Test.YtloofliklmglpaaCrcCut
namespace Go.Proofs.Ytloofliklmglpaa
open Go.RowKit

/-- A list of byte sequences that came in. -/
structure BytessIn (w : World) (A : Option Addr) (n cap : Nat) (vs : List Value) (ls : List (List UInt8)) : Prop where
  len : n = ls.length
  room : n ≤ cap
  nil : A = none → cap = 0
  reads : Rd w A vs
  holds : HoldsAll w vs ls

theorem HoldsAll.take {w : World} {vs : List Value} {ls : List (List UInt8)} (h : HoldsAll w vs ls) (k : Nat) : HoldsAll w (vs.take k) (ls.take k) := by
  refine ⟨by rw [List.length_take, List.length_take, h.1], fun j v l h1 h2 => ?_⟩
  rw [List.getElem?_take] at h1 h2
  split at h1
  · rename_i hj
    rw [if_pos hj] at h2
    exact h.2 j v l h1 h2
  · cases h1
/-- Where the frames end. -/
def endsOf (ls : List (List UInt8)) (k : Nat) : List Int := (List.range k).map fun j => ((Cr.frs (ls.take (j + 1))).length : Int)
theorem endsOf_snoc (ls : List (List UInt8)) (k : Nat) : endsOf ls (k + 1) = endsOf ls k ++ [((Cr.frs (ls.take (k + 1))).length : Int)] := by
  unfold endsOf
  rw [List.range_succ, List.map_append]
  rfl
theorem endsOf_len (ls : List (List UInt8)) (k : Nat) : (endsOf ls k).length = k := by simp [endsOf]
theorem endsOf_at (ls : List (List UInt8)) {k j : Nat} (h : j < k) : (endsOf ls k)[j]? = some ((Cr.frs (ls.take (j + 1))).length : Int) := by
  unfold endsOf
  rw [List.getElem?_map, List.getElem?_range h]
  rfl
theorem own_some4 {w : World} {B : Nat} {e : TypeId} {A : Option Addr} {n cap : Nat} {xs : List Value} (h : w.ownsRow B e 1 (.slice A n cap) n xs) (hn : 0 < n) : ∃ g, A = some ⟨g, 0, none⟩ ∧ B ≤ g := by
  rcases h.2 with ⟨_, h0⟩ | ⟨g, cap', cur, hv, hB, _⟩
  · omega
  · injection hv with hA
    exact ⟨g, hA, hB⟩
section
variable {P : Program} {w : World} {ops : Array Oper} {rest : List Oper} {o : Oper} {a : Act} {Q : Exit → Act → World → Prop}
/-- append of a slice that reads as a list to an owned row, and no other block is touched. -/
theorem wpList_appNg (hgd : o.guard = none) (s x : Operand) (t : TypeId) (ho : o.op = .call { callee := .builtin .append, args := #[s, x], argTypes := #[t, t] })
    (B : Nat) (e : TypeId) (i : TypeInfo) (z : Value) (bytes : Nat) (ht : P.underlying t = some (.slice e)) (hi : P.info? e = some i) (hz : i.zero = some z)
    (hsize : i.size = 1) (hby : i.bytes = bytes) (hzs : z.cells.size = 1)
    (v : Value) (n : Nat) (xs : List Value) (hs : a.eval s = v) (hown : w.ownsRow B e 1 v n xs)
    (ad : Addr) (m c : Nat) (ys : List Value) (hx : a.eval x = .slice (some ad) m c) (hm : ys.length = m) (hrd : Rd w (some ad) ys) (h1 : ∀ u ∈ ys, u.oneCell' = true)
    (h63 : n + m ≤ maxLen) (hbytes : (n + m) * bytes ≤ 140737488355328) (hbase : B ≤ w.heap.size) (nm : Nat) (hnm : nm = n + m)
    (h : ∀ A cap w', w'.ownsRow B e 1 (.slice A nm cap) nm (xs ++ ys) → w.grownBy w' v.ownBlock → Below B w w' → wpList P ops Q rest (a.put o.dst (.slice A nm cap)) w') : wpList P ops Q (o :: rest) a w := by
  subst hnm
  refine wpList_append_own w hgd s x t ho B e i z 1 bytes ht hi hz hsize hby hzs (by decide) v n xs hs hown ad m c ys hx (by rw [hm, Nat.mul_one]) (fun j y hj => by
    obtain ⟨b, off, hA, _, hc⟩ := hrd j y hj
    cases hA
    rw [add_spot]
    exact hc) h1 h63 hbytes hbase ?_
  intro v' w' ho' hg _
  obtain ⟨A, cap, rfl, hc⟩ := own_form ho'
  exact h A cap w' ho' hg (own_below hown hg hbase)
end

set_option maxRecDepth 100000 in
set_option maxHeartbeats 12800000 in
theorem prefix_walk (A : Option Addr) (n cap : Nat) (vs : List Value) (ls : List (List UInt8)) (cut : Nat) (w : World) (h : BytessIn w A n cap vs ls) (hn : n ≤ 20) (hcut : cut < 9223372036854775808) :
    Calls Try.prog 11 #[.slice A n cap, .int .i64 (cut : Int)] w fun e w' => e = .returned (.bool true) ∧ Below w.heap.size w w' := by
  obtain ⟨i0, hi, hz0, hz1, hz2⟩ := info_parts info_u8
  obtain ⟨i1, hi', hy0, hy1, hy2⟩ := info_parts info_int
  have HV := Lib.hid h.reads
  have HH := Lib.hid h.holds
  have HN := Lib.hid h.len
  have hnc := h.room
  have hn' : ¬ (20 : Int) < (n : Int) := by omega
  clear h
  go_enter Try.func11, Try.ntmps11
  go_wp2_with fail
  go_loopw [5, 6, 7] (fun b es i wr => ∃ (k n1 cap1 cap2 : Nat) (A1 A2 : Option Addr), k ≤ n ∧ i = .int .i64 (k : Int) ∧ b = .slice A1 n1 cap1 ∧ es = .slice A2 k cap2 ∧ Hid (n1 = (Cr.frs (ls.take k)).length) ∧ n1 ≤ 600 * k ∧
      wr.ownsRow w.heap.size 5 1 (.slice A1 n1 cap1) n1 (bv (Cr.frs (ls.take k))) ∧ wr.ownsRow w.heap.size 3 1 (.slice A2 k cap2) k (iv (endsOf ls k)) ∧ Hid (∀ c ∈ ls.take k, c.length ≤ 500) ∧ Below w.heap.size w wr) (fun _ _ i _ => n - (intOf i).toNat)
  case atStart => exact ⟨0, 0, 0, 0, none, none, by omega, rfl, rfl, rfl, rfl, by omega, World.ownsRow_nil _ _ _ _, World.ownsRow_nil _ _ _ _, (fun c hc => by simp at hc), Below.refl _ _⟩
  case round =>
    obtain ⟨k, n1, cap1, cap2, A1, A2, hk, rfl, rfl, rfl, HN1, hn1, ho1, ho2, HC, hb⟩ := hrel
    have HO1 := Lib.hid ho1
    have HO2 := Lib.hid ho2
    have HB := Lib.hid hb
    clear ho1 ho2 hb
    by_cases hlt : k < n
    · have hkl : k < ls.length := by rw [← HN.out]; exact hlt
      have hkv : k < vs.length := by rw [HH.out.1]; exact hkl
      obtain ⟨A3, n3, cap3, hv3, hn3, _, hc3, hr3⟩ := HH.out.2 k vs[k] ls[k] (List.getElem?_eq_getElem hkv) (List.getElem?_eq_getElem hkl)
      obtain ⟨b1, o1, hA1, hlt1, hc1⟩ := HV.out k vs[k] (List.getElem?_eq_getElem hkv)
      rw [hv3] at hc1
      have hd1 : wr.cell? ⟨b1, o1 + k, none⟩ = some (.slice A3 n3 cap3) := (HB.out.cell (p := ⟨b1, o1 + k, none⟩) hlt1).trans hc1
      subst hA1
      have hk1 : (k : Int) < (n : Int) := by omega
      by_cases hbig : n3 ≤ 500
      · have hb5 : ¬ (500 : Int) < (n3 : Int) := by omega
        have hfr : Cr.fr ls[k] = (Cr.frame ls[k], 0) := by unfold Cr.fr; rw [if_neg (by omega)]
        have hF := frame_any A3 n3 cap3 ls[k] hn3 hc3 wr (hr3.to HB.out) (by omega)
        rw [hfr] at hF
        have HT := Lib.hid hF
        have hfl := Cr.frame_len ls[k]
        have hvl := Wp.varint_len ls[k].length
        have HS := Lib.hid (Cr.frs_snoc ls k hkl)
        have hf5 : 5 ≤ (Cr.frame ls[k]).length ∧ (Cr.frame ls[k]).length ≤ 520 := by omega
        have HC2 : Hid (∀ c ∈ ls.take (k + 1), c.length ≤ 500) := by
          intro c hc
          rw [List.take_succ_eq_append_getElem hkl] at hc
          rcases List.mem_append.1 hc with hc | hc
          · exact HC.out c hc
          · rw [List.mem_singleton] at hc
            subst hc
            rw [← hn3]; exact hbig
        generalize Cr.frame ls[k] = f at HT HS hf5 hF hfr hfl
        clear hF hfr hfl hvl hv3 hn3 hc3 hr3 hlt1 hc1 hkv hkl hbig
        go_wp2_with fail
        refine HT.out.mono ?_
        rintro e w1 ⟨A4, n4, cap4, rfl, hn4, hown4, hb4⟩
        have HN4 := Lib.hid (show n4 = f.length from hn4)
        have hn4l : (5 : Int) ≤ (n4 : Int) ∧ n4 ≤ 520 := by have := HN4.out; omega
        obtain ⟨g4, hg4, hgb⟩ := own_some4 hown4 (by omega)
        subst hg4
        have HX4 := Lib.hid (own_rd hown4)
        have HF4 := Lib.hid (show (bv f).length = n4 by rw [bv_length]; exact hn4.symm)
        have HO1' := Lib.hid (own_kept HO1.out hb4)
        have HO2' := Lib.hid (own_kept HO2.out hb4)
        have HB4 := Lib.hid (on HB.out hb4)
        have h45 : ¬ ((n4 : Int) < 5) := by omega
        have hn1k : n1 ≤ 12000 := by omega
        obtain ⟨n5, hn5⟩ : ∃ n5, n5 = n1 + n4 := ⟨_, rfl⟩
        have HN5 := Lib.hid hn5
        have hn5l : n5 ≤ 600 * (k + 1) := by omega
        have hk20 : k ≤ 20 := by omega
        obtain ⟨n4h, n4u⟩ := hn4l
        clear hn4 hown4 hb4 hd1 hf5 hn5
        simp only
        go_wp2_with (first
          | (at_builtin; refine wpList_appNg rfl _ _ 22 rfl w.heap.size 5 i0 (.int .u8 0) 1 Try.underlying22 hi hz0 hz1 hz2 rfl _ n1 _ rfl HO1'.out ⟨g4, 0, none⟩ n4 cap4 (bv f) rfl HF4.out HX4.out (bv_one f) (by unfold maxLen; omega) (by omega) HB4.out.size n5 HN5.out ?_; intro A6 cap6 w6 hown6 hgr6 hb6; have HO6 := Lib.hid hown6; have HE6 := Lib.hid (own_apart HO2'.out HO1'.out (by decide) hgr6); have HB6 := Lib.hid (HB4.out.trans hb6); clear hown6 hb6 hgr6)
          | (at_builtin; refine wpList_app1g rfl _ _ 42 rfl w.heap.size 3 i1 (.int .i64 0) 8 Try.underlying42 hi' hy0 hy1 hy2 rfl _ k _ rfl (HE6.out.alloc _) ⟨w6.heap.size, 0, none⟩ 1 (.int .i64 (n5 : Int)) rfl (new0 _ _ _) rfl (by unfold maxLen; omega) (by omega) (by have := HB6.out.size; simp; omega) ?_; intro A7 cap7 w7 hown7 hgr7 hb7; have HO7 := Lib.hid hown7; have HE7 := Lib.hid (own_apart (HO6.out.alloc _) (HE6.out.alloc _) (by decide) hgr7); have HB7 := Lib.hid ((HB6.out.trans (below_keep (below_new w6 _) HB6.out.size)).trans hb7); clear hown7 hb7 hgr7))
        have HNN : Hid (n5 = (Cr.frs (ls.take (k + 1))).length) := by
          show _ = _
          rw [HS.out, List.length_append, HN5.out, HN1.out, HN4.out]
        have hrow : w7.ownsRow w.heap.size 5 1 (.slice A6 n5 cap6) n5 (bv (Cr.frs (ls.take (k + 1)))) := by
          rw [HS.out, bv_append]
          exact HE7.out
        have hend : w7.ownsRow w.heap.size 3 1 (.slice A7 (k + 1) cap7) (k + 1) (iv (endsOf ls (k + 1))) := by
          rw [endsOf_snoc, ← iv_snoc, ← HNN.out]
          exact HO7.out
        go_roundw
        case rel => exact ⟨k + 1, n5, cap6, cap7, A6, A7, by omega, by go_num, rfl, rfl, HNN, hn5l, hrow, hend, HC2, HB7.out⟩
        case measure => simp [intOf]; omega
      · have hb5 : (500 : Int) < (n3 : Int) := by omega
        clear hv3 hn3 hc3 hr3 hlt1 hc1 hkv hkl hbig
        go_wp2_with fail
        refine (cawake_any _).mono ?_
        rintro e w2 ⟨rfl, hb2⟩
        go_wp2
        go_ret
        exact ⟨rfl, on HB.out hb2⟩
    · have hkn : k = n := by omega
      subst hkn
      have hk1 : ¬ (k : Int) < (k : Int) := by omega
      have HNF := Lib.hid (show n1 = (Cr.frs ls).length by
        have := HN1.out
        rwa [HN.out, List.take_length] at this)
      have HLL := Lib.hid (show ∀ c ∈ ls, c.length ≤ 65536 from fun c hc => by
        have := HC.out c (by rw [HN.out, List.take_length]; exact hc)
        omega)
      have hcp := (own_cap HO1.out).1
      have hn1l : n1 ≤ 12000 := by omega
      have HR1 := Lib.hid (show Rd wr A1 (bv (Cr.frs ls)) by
        have := own_rd HO1.out
        rwa [HN.out, List.take_length] at this)
      have HE2 := Lib.hid (own_rd HO2.out)
      by_cases hc : cut ≤ n1
      · have hc' : ¬ (n1 : Int) < (cut : Int) := by omega
        go_wp2_with fail
        go_loop [10, 11] (fun wh en => ∃ (kk q : Nat), kk ≤ k ∧ wh = .int .i64 (kk : Int) ∧ en = .int .i64 (q : Int) ∧ Hid (q = (Cr.frs (ls.take kk)).length) ∧ q ≤ cut) (fun wh _ => k - (intOf wh).toNat)
        case atStart => exact ⟨0, 0, by omega, rfl, rfl, rfl, by omega⟩
        case round =>
          obtain ⟨kk, q, hkk, rfl, rfl, HQ, hqc⟩ := hrel
          by_cases hkl2 : kk < k
          · obtain ⟨b2, o2, hA2, _, hc2⟩ := HE2.out kk (.int .i64 ((Cr.frs (ls.take (kk + 1))).length : Int)) (by unfold iv; rw [List.getElem?_map, endsOf_at ls hkl2]; rfl)
            subst hA2
            have hk2 : (kk : Int) < (k : Int) := by omega
            obtain ⟨q2, hq2⟩ : ∃ q2, q2 = (Cr.frs (ls.take (kk + 1))).length := ⟨_, rfl⟩
            rw [← hq2] at hc2
            have HQ2 := Lib.hid hq2
            clear hq2
            by_cases hle : q2 ≤ cut
            · have hle' : (q2 : Int) ≤ (cut : Int) := by omega
              go_wp2
              go_round
              case rel => exact ⟨kk + 1, q2, by omega, by go_num, rfl, HQ2, hle⟩
              case measure => simp [intOf]; omega
            · have hle' : ¬ (q2 : Int) ≤ (cut : Int) := by omega
              have HQO := Lib.hid (Cr.all_cut ls HLL.out cut kk (by rw [← HN.out]; exact hkk) (by rw [← HQ.out]; exact hqc) (by rw [← HNF.out]; exact hc) (.inr (by rw [← HQ2.out]; omega)))
              rw [← HQ.out] at HQO
              have HAL := Lib.hid (all_any A1 cut cap1 ((Cr.frs ls).take cut) (by rw [List.length_take, ← HNF.out]; omega) (by omega) wr (by rw [bv_take]; exact HR1.out.take cut) (by rw [List.length_take]; omega))
              rw [HQO.out] at HAL
              have hci : (cut : Int) ≤ (cap1 : Int) := by omega
              have hkc : (kk : Int) ≤ (cap : Int) := by omega
              clear HQO
              go_wp2_with fail
              refine HAL.out.mono ?_
              rintro e w8 ⟨A8, n8, cap8, us, rfl, hn8, hown8, hh8, hb8⟩
              have HB8 := Lib.hid (on HB.out hb8)
              have HSM := csame_any A8 n8 cap8 us (ls.take kk) A kk cap (vs.take kk) (ls.take kk) w8 hn8 (by rw [List.length_take, ← HN.out]; omega) (own_rd hown8) ((HV.out.to HB8.out).take kk) hh8 ((HH.out.to HB8.out).take kk) (by rw [List.length_take, ← HN.out]; omega)
              rw [decide_eq_true rfl] at HSM
              have HS2 := Lib.hid HSM
              clear HSM hn8 hown8 hh8 hb8
              simp only
              go_wp2_with fail
              refine HS2.out.mono ?_
              rintro e w9 ⟨rfl, hb9⟩
              go_wp2_with fail
              refine (cawake_any _).mono ?_
              rintro e w10 ⟨rfl, hb10⟩
              go_wp2
              go_ret
              exact ⟨rfl, on (on HB8.out hb9) hb10⟩
          · have hkk3 : kk = k := by omega
            subst hkk3
            have hk2 : ¬ (kk : Int) < (kk : Int) := by omega
            have HQO := Lib.hid (Cr.all_cut ls HLL.out cut kk (by rw [← HN.out]; exact hkk) (by rw [← HQ.out]; exact hqc) (by rw [← HNF.out]; exact hc) (.inl (by rw [← HN.out])))
            rw [← HQ.out] at HQO
            have HAL := Lib.hid (all_any A1 cut cap1 ((Cr.frs ls).take cut) (by rw [List.length_take, ← HNF.out]; omega) (by omega) wr (by rw [bv_take]; exact HR1.out.take cut) (by rw [List.length_take]; omega))
            rw [HQO.out] at HAL
            have hci : (cut : Int) ≤ (cap1 : Int) := by omega
            have hkc : (kk : Int) ≤ (cap : Int) := by omega
            clear HQO
            go_wp2_with fail
            refine HAL.out.mono ?_
            rintro e w8 ⟨A8, n8, cap8, us, rfl, hn8, hown8, hh8, hb8⟩
            have HB8 := Lib.hid (on HB.out hb8)
            have HSM := csame_any A8 n8 cap8 us (ls.take kk) A kk cap (vs.take kk) (ls.take kk) w8 hn8 (by rw [List.length_take, ← HN.out]; omega) (own_rd hown8) ((HV.out.to HB8.out).take kk) hh8 ((HH.out.to HB8.out).take kk) (by rw [List.length_take, ← HN.out]; omega)
            rw [decide_eq_true rfl] at HSM
            have HS2 := Lib.hid HSM
            clear HSM hn8 hown8 hh8 hb8
            simp only
            go_wp2_with fail
            refine HS2.out.mono ?_
            rintro e w9 ⟨rfl, hb9⟩
            go_wp2_with fail
            refine (cawake_any _).mono ?_
            rintro e w10 ⟨rfl, hb10⟩
            go_wp2
            go_ret
            exact ⟨rfl, on (on HB8.out hb9) hb10⟩
      · have hc' : (n1 : Int) < (cut : Int) := by omega
        go_wp2_with fail
        refine (cawake_any _).mono ?_
        rintro e w2 ⟨rfl, hb2⟩
        go_wp2
        go_ret
        exact ⟨rfl, on HB.out hb2⟩

set_option maxRecDepth 100000 in
set_option maxHeartbeats 3200000 in
theorem prefix_walk_int (A : Option Addr) (n cap : Nat) (x : List Value × List (List UInt8)) (cut : Int) (w : World) (h : BytessIn w A n cap x.1 x.2) (hk : -9223372036854775808 ≤ cut ∧ cut ≤ 9223372036854775807) :
    Calls Try.prog 11 #[.slice A n cap, .int .i64 cut] w fun e w' => e = .returned (.bool true) ∧ Below w.heap.size w w' := by
  by_cases hall : n ≤ 20 ∧ 0 ≤ cut
  · obtain ⟨h1, h2⟩ := hall
    obtain ⟨c, rfl⟩ := Int.eq_ofNat_of_zero_le h2
    exact prefix_walk A n cap x.1 x.2 c w h h1 (by omega)
  · have hcase : (20 : Int) < (n : Int) ∨ (¬ (20 : Int) < (n : Int) ∧ cut < 0) := by omega
    clear h hall
    rcases hcase with hn' | ⟨hn', hm'⟩
    all_goals
      go_enter Try.func11, Try.ntmps11
      go_wp2_with fail
      refine (cawake_any _).mono ?_
      rintro e w2 ⟨rfl, hb2⟩
      go_wp2
      go_ret
      exact ⟨rfl, hb2⟩

section
open Go.ChangeShapes Go.WideShapes Go.ChangeAt
variable {H : Type} {enc : TypeId × Value → H} {W : World} {base : Nat} {spare : Nat → Bool} {held : Bool}
theorem cellsB : Try.prog.cellsOf 22 = 1 := by kernel_rfl
theorem open_bytess {v : Value} {d : DataW H} {ps : List MemPlace} {b0 : Nat} {r : Reach} (hval : Value.okWide Try.prog W r b0 36 v) (h : DataW.Trod enc Try.prog W base spare held 36 v d ps) :
    ∃ (A : Option Addr) (n cap : Nat) (x : List Value × List (List UInt8)), v = .slice A n cap ∧ BytessIn W A n cap x.1 x.2 := by
  obtain ⟨a, len, cap0, rfl⟩ := okWide_slice Try.underlying36 hval
  obtain ⟨fuel, hf⟩ := h
  obtain ⟨A, n, cap, hv, h1, h2, h3⟩ := row_of Try.underlying36 cellsB (v := .slice a len cap0) hf
  rw [hv]
  rcases h3 with rfl | ⟨ad, rfl, hi⟩
  · exact ⟨A, 0, cap, ([], []), rfl, rfl, h1, h2, Rd.nil _ _, HoldsAll.nil _⟩
  · obtain ⟨l, hl, hg, hr⟩ := rd_of (W := W) (ad := ad) (len := n) (fun c : Value × List UInt8 => c.1) (fun c => Holds W c.1 c.2) (by
      intro i hil
      obtain ⟨u, m, x, hc, ht⟩ := hi i hil
      obtain ⟨A2, n2, cap2, l2, rfl, hb⟩ := bytes_of ht
      exact ⟨(.slice A2 n2 cap2, l2), ⟨A2, n2, cap2, rfl, hb.len, hb.room, hb.nil, hb.reads⟩, hc⟩)
    refine ⟨some ad, n, cap, (l.map fun c => c.1, l.map fun c => c.2), rfl, by simpa using hl, h1, h2, hr, by simp, ?_⟩
    intro k v2 l2 hk1 hk2
    simp only [List.getElem?_map, Option.map_eq_some_iff] at hk1 hk2
    obtain ⟨c, hc, rfl⟩ := hk1
    obtain ⟨c', hc', rfl⟩ := hk2
    rw [hc] at hc'
    cases hc'
    exact hg c (List.mem_of_getElem? hc)
end
end Go.Proofs.Ytloofliklmglpaa
