/- The walks of Rests, and of the reference's. -/
import Derived.Test.YtaaoeiffpldjmaaJetSame
namespace Go.Proofs.Ytaaoeiffpldjmaa
open Go.RowKit
namespace Jt
/-- The distance of two steps, as unsigned numbers have it. -/
def gap (a b : Int) : Int := IntKind.u64.wrap (IntKind.u64.wrap a - IntKind.u64.wrap b)
def low (r : Int) (x : Int) : Option Win → Bool
  | none => false
  | some q => decide (x < q.2 ∨ gap x q.2 < IntKind.u64.wrap r)
def rst (r : Int) : Option Win → List Win → Bool
  | _, [] => true
  | p, w :: l => if w.2 ≤ w.1 then false else if low r w.1 p then false else rst r (some w) l
def rests (l : List Win) (v : Valve) : Bool := if chk v ≠ 0 then false else rst v.rest none l
def prevW (l : List Win) : Nat → Option Win
  | 0 => none
  | k + 1 => l[k]?
theorem rst_empty (r : Int) (p : Option Win) (w : Win) (l : List Win) (h : w.2 ≤ w.1) : rst r p (w :: l) = false := by simp [rst, h]
theorem rst_low (r : Int) (u v : Int) (x y : Int) (l : List Win) (h : ¬ y ≤ x) (hq : x < v ∨ gap x v < IntKind.u64.wrap r) : rst r (some (u, v)) ((x, y) :: l) = false := by
  simp [rst, low, h, hq]
theorem rst_next (r : Int) (p : Option Win) (w : Win) (l : List Win) (h : ¬ w.2 ≤ w.1) (hq : ∀ q, p = some q → ¬ w.1 < q.2 ∧ ¬ gap w.1 q.2 < IntKind.u64.wrap r) : rst r p (w :: l) = rst r (some w) l := by
  cases p with
  | none => simp [rst, low, h]
  | some q =>
    obtain ⟨h1, h2⟩ := hq q rfl
    simp [rst, low, h, h1, h2]
end Jt

set_option maxRecDepth 100000 in
set_option maxHeartbeats 6400000 in
theorem rests_any (d h0 r : Int) (A : Option Addr) (n cap : Nat) (l : List Jt.Win) (hn : n = l.length) (w : World) (hr : Jt.Wins w A l) (hlen : l.length ≤ 1000000000000) :
    Calls Try.prog 19 #[.slice A n cap, .agg #[.int .i64 d, .int .i64 h0, .int .i64 r]] w fun e w' => e = .returned (.bool (Jt.rests l ⟨d, h0, r⟩)) ∧ Below w.heap.size w w' := by
  subst hn
  have HR1 := Lib.hid hr
  clear hr
  have HC := Lib.hid (chk_any d h0 r (w.alloc (.cells #[.int .i64 d, .int .i64 h0, .int .i64 r] 23)))
  obtain ⟨res, hres⟩ : ∃ res, res = Jt.rests l ⟨d, h0, r⟩ := ⟨_, rfl⟩
  rw [← hres]
  unfold Jt.rests at hres
  have HS := Lib.hid hres
  clear hres
  obtain ⟨c, hc⟩ : ∃ c, c = Jt.chk ⟨d, h0, r⟩ := ⟨_, rfl⟩
  rw [← hc] at HC HS
  clear hc
  by_cases hc0 : c ≠ 0
  · have HF := Lib.hid (show false = res by rw [HS.out, if_pos hc0])
    have hcf : (c == 0) = false := beq_f hc0
    go_enter Try.func19, Try.ntmps19
    go_wp2_with fail
    refine (HC.out).mono ?_
    rintro e w0 ⟨rfl, hb⟩
    have HB0 := Lib.hid ((below_new w _).trans (hb.mono (by simp)) : Below w.heap.size w w0)
    clear hb hc0
    go_wp2
    go_ret
    exact ⟨ret_bool HF.out, HB0.out⟩
  have hc1 : c = 0 := by omega
  subst hc1
  have HS0 := Lib.hid (show res = Jt.rst r none l by rw [HS.out, if_neg (by simp)])
  clear hc0 HS
  go_enter Try.func19, Try.ntmps19
  go_wp2_with fail
  refine (HC.out).mono ?_
  rintro e w0 ⟨rfl, hb⟩
  have HB0 := Lib.hid ((below_new w _).trans (hb.mono (by simp)) : Below w.heap.size w w0)
  have HR := Lib.hid (HR1.out.to HB0.out)
  have hsz0 : w.heap.size < w0.heap.size := by have := hb.size; simp at this; omega
  have hv0 : w0.cell? ⟨w.heap.size, 2, none⟩ = some (.int .i64 r) := by
    rw [hb.cell (by simp)]
    unfold World.cell?
    rw [heap_alloc_new]
    simp
  clear hb
  go_wp2
  go_loopw [12] (fun i wr => ∃ k : Nat, k ≤ l.length ∧ i = .int .i64 (k : Int) ∧ Hid (res = Jt.rst r (Jt.prevW l k) (l.drop k)) ∧ Below w0.heap.size w0 wr) (fun i _ => l.length - (intOf i).toNat)
  case atStart => exact ⟨0, by omega, rfl, HS0, Below.refl _ _⟩
  case round =>
    obtain ⟨k, hk, rfl, HG, hbw⟩ := hrel
    have HB := Lib.hid hbw
    have hsz := hbw.size
    have HBW := Lib.hid (show Below w.heap.size w wr from HB0.out.trans (hbw.mono (by omega)))
    have hszw : w.heap.size ≤ wr.heap.size := by omega
    have hszl : w.heap.size < wr.heap.size := by omega
    by_cases hlt : k < l.length
    · have hdr : l.drop k = l[k] :: l.drop (k + 1) := List.drop_eq_getElem_cons hlt
      have hnext : Jt.prevW l (k + 1) = some l[k] := List.getElem?_eq_getElem hlt
      obtain ⟨b, off, rfl, hlt2, c0, c1⟩ := (HR.out.to hbw) k _ (List.getElem?_eq_getElem hlt)
      have hv2 : wr.cell? ⟨w.heap.size, 2, none⟩ = some (.int .i64 r) := by rw [hbw.cell hsz0]; exact hv0
      generalize l[k] = p at hdr hnext c0 c1
      obtain ⟨x, y⟩ := p
      simp only at c0 c1
      have hki : (k : Int) < (l.length : Int) := by omega
      by_cases hxy : y ≤ x
      · have HF := Lib.hid (show false = res by rw [HG.out, hdr, Jt.rst_empty _ _ _ _ hxy])
        clear hbw hdr hnext hv0
        go_wp2
        go_ret
        exact ⟨ret_bool HF.out, HBW.out.alloc hszw _⟩
      · cases k with
        | zero =>
          have HN := Lib.hid (show res = Jt.rst r (Jt.prevW l (0 + 1)) (l.drop (0 + 1)) by rw [HG.out, hdr, hnext, show Jt.prevW l 0 = none from rfl, Jt.rst_next _ _ _ _ hxy (fun q hq => by cases hq)])
          clear hbw hdr hnext hv0
          simp only [Nat.zero_mul, Nat.add_zero] at c0 c1
          go_wp2
          go_quiet (fail)
          go_wp2
          go_roundw
          case rel => exact ⟨1, by omega, by go_num, HN, below_drewN (HB.out.alloc hsz _) _⟩
          case measure => simp [intOf]; omega
        | succ j =>
          have hj : j < l.length := by omega
          obtain ⟨b2, off2, hA2, hlt3, c2, c3⟩ := (HR.out.to hbw) j _ (List.getElem?_eq_getElem hj)
          cases hA2
          have hprev : Jt.prevW l (j + 1) = some l[j] := List.getElem?_eq_getElem hj
          generalize l[j] = q at hprev c2 c3
          obtain ⟨u, v⟩ := q
          simp only at c2 c3
          have hjx : ((j + 1 : Nat) : Int) - 1 = (j : Int) := by omega
          have hjp : (0 : Int) < ((j + 1 : Nat) : Int) := by omega
          have hjl : (j : Int) < (l.length : Int) := by omega
          have hj0 : (0 : Int) ≤ (j : Int) := by omega
          have hjw : IntKind.i64.wrap (j : Int) = (j : Int) := by rw [IntKind.wrap_i64]; omega
          by_cases hlo : x < v
          · have HF := Lib.hid (show false = res by rw [HG.out, hdr, hprev, Jt.rst_low r u v x y _ hxy (.inl hlo)])
            clear hbw hdr hnext hv0 hprev c2
            go_wp2
            go_quiet (fail)
            go_wp2
            go_ret
            exact ⟨ret_bool HF.out, below_drewN (HBW.out.alloc hszw _) _⟩
          · by_cases hgap : Jt.gap x v < IntKind.u64.wrap r
            · have HF := Lib.hid (show false = res by rw [HG.out, hdr, hprev, Jt.rst_low r u v x y _ hxy (.inr hgap)])
              clear hbw hdr hnext hv0 hprev c2
              unfold Jt.gap at hgap
              generalize hX : IntKind.u64.wrap x = X at hgap
              generalize hV : IntKind.u64.wrap v = V at hgap
              generalize hR : IntKind.u64.wrap r = R at hgap
              generalize hG : IntKind.u64.wrap (X - V) = G at hgap
              go_wp2
              go_quiet (fail)
              go_wp2
              go_ret
              exact ⟨ret_bool HF.out, below_drewN (HBW.out.alloc hszw _) _⟩
            · have HN := Lib.hid (show res = Jt.rst r (Jt.prevW l (j + 1 + 1)) (l.drop (j + 1 + 1)) by rw [HG.out, hdr, hnext, hprev, Jt.rst_next _ _ _ _ hxy (fun q hq => by cases hq; exact ⟨hlo, hgap⟩)])
              clear hbw hdr hnext hv0 hprev c2
              unfold Jt.gap at hgap
              generalize hX : IntKind.u64.wrap x = X at hgap
              generalize hV : IntKind.u64.wrap v = V at hgap
              generalize hR : IntKind.u64.wrap r = R at hgap
              generalize hG : IntKind.u64.wrap (X - V) = G at hgap
              go_wp2
              go_quiet (fail)
              go_wp2
              go_roundw
              case rel => exact ⟨j + 1 + 1, by omega, by go_num, HN, below_drewN (HB.out.alloc hsz _) _⟩
              case measure => simp [intOf]; omega
    · have hke : k = l.length := by omega
      have HF := Lib.hid (show true = res by rw [HG.out, hke, List.drop_length]; cases Jt.prevW l l.length <;> rfl)
      have hki : ¬ (k : Int) < (l.length : Int) := by omega
      clear hbw hv0
      go_wp2
      go_ret
      exact ⟨ret_bool HF.out, HBW.out⟩

set_option maxRecDepth 100000 in
set_option maxHeartbeats 6400000 in
theorem rrests_any (d h0 r : Int) (A : Option Addr) (n cap : Nat) (l : List Jt.Win) (hn : n = l.length) (w : World) (hr : Jt.Wins w A l) (hlen : l.length ≤ 1000000000000) :
    Calls Try.prog 20 #[.slice A n cap, .agg #[.int .i64 d, .int .i64 h0, .int .i64 r]] w fun e w' => e = .returned (.bool (Jt.rests l ⟨d, h0, r⟩)) ∧ Below w.heap.size w w' := by
  subst hn
  have HR1 := Lib.hid hr
  clear hr
  have HC := Lib.hid (rchk_any d h0 r (w.alloc (.cells #[.int .i64 d, .int .i64 h0, .int .i64 r] 23)))
  obtain ⟨res, hres⟩ : ∃ res, res = Jt.rests l ⟨d, h0, r⟩ := ⟨_, rfl⟩
  rw [← hres]
  unfold Jt.rests at hres
  have HS := Lib.hid hres
  clear hres
  obtain ⟨c, hc⟩ : ∃ c, c = Jt.chk ⟨d, h0, r⟩ := ⟨_, rfl⟩
  rw [← hc] at HC HS
  clear hc
  by_cases hc0 : c ≠ 0
  · have HF := Lib.hid (show false = res by rw [HS.out, if_pos hc0])
    have hcf : (c == 0) = false := beq_f hc0
    go_enter Try.func20, Try.ntmps20
    go_wp2_with fail
    refine (HC.out).mono ?_
    rintro e w0 ⟨rfl, hb⟩
    have HB0 := Lib.hid ((below_new w _).trans (hb.mono (by simp)) : Below w.heap.size w w0)
    clear hb hc0
    go_wp2
    go_ret
    exact ⟨ret_bool HF.out, HB0.out⟩
  have hc1 : c = 0 := by omega
  subst hc1
  have HS0 := Lib.hid (show res = Jt.rst r none l by rw [HS.out, if_neg (by simp)])
  clear hc0 HS
  go_enter Try.func20, Try.ntmps20
  go_wp2_with fail
  refine (HC.out).mono ?_
  rintro e w0 ⟨rfl, hb⟩
  have HB0 := Lib.hid ((below_new w _).trans (hb.mono (by simp)) : Below w.heap.size w w0)
  have HR := Lib.hid (HR1.out.to HB0.out)
  have hsz0 : w.heap.size < w0.heap.size := by have := hb.size; simp at this; omega
  have hv0 : w0.cell? ⟨w.heap.size, 2, none⟩ = some (.int .i64 r) := by
    rw [hb.cell (by simp)]
    unfold World.cell?
    rw [heap_alloc_new]
    simp
  clear hb
  go_wp2
  go_loopw [12] (fun i wr => ∃ k : Nat, k ≤ l.length ∧ i = .int .i64 (k : Int) ∧ Hid (res = Jt.rst r (Jt.prevW l k) (l.drop k)) ∧ Below w0.heap.size w0 wr) (fun i _ => l.length - (intOf i).toNat)
  case atStart => exact ⟨0, by omega, rfl, HS0, Below.refl _ _⟩
  case round =>
    obtain ⟨k, hk, rfl, HG, hbw⟩ := hrel
    have HB := Lib.hid hbw
    have hsz := hbw.size
    have HBW := Lib.hid (show Below w.heap.size w wr from HB0.out.trans (hbw.mono (by omega)))
    have hszw : w.heap.size ≤ wr.heap.size := by omega
    have hszl : w.heap.size < wr.heap.size := by omega
    by_cases hlt : k < l.length
    · have hdr : l.drop k = l[k] :: l.drop (k + 1) := List.drop_eq_getElem_cons hlt
      have hnext : Jt.prevW l (k + 1) = some l[k] := List.getElem?_eq_getElem hlt
      obtain ⟨b, off, rfl, hlt2, c0, c1⟩ := (HR.out.to hbw) k _ (List.getElem?_eq_getElem hlt)
      have hv2 : wr.cell? ⟨w.heap.size, 2, none⟩ = some (.int .i64 r) := by rw [hbw.cell hsz0]; exact hv0
      generalize l[k] = p at hdr hnext c0 c1
      obtain ⟨x, y⟩ := p
      simp only at c0 c1
      have hki : (k : Int) < (l.length : Int) := by omega
      by_cases hxy : y ≤ x
      · have HF := Lib.hid (show false = res by rw [HG.out, hdr, Jt.rst_empty _ _ _ _ hxy])
        clear hbw hdr hnext hv0
        go_wp2
        go_ret
        exact ⟨ret_bool HF.out, HBW.out.alloc hszw _⟩
      · cases k with
        | zero =>
          have HN := Lib.hid (show res = Jt.rst r (Jt.prevW l (0 + 1)) (l.drop (0 + 1)) by rw [HG.out, hdr, hnext, show Jt.prevW l 0 = none from rfl, Jt.rst_next _ _ _ _ hxy (fun q hq => by cases hq)])
          clear hbw hdr hnext hv0
          simp only [Nat.zero_mul, Nat.add_zero] at c0 c1
          go_wp2
          go_quiet (fail)
          go_wp2
          go_roundw
          case rel => exact ⟨1, by omega, by go_num, HN, below_drewN (HB.out.alloc hsz _) _⟩
          case measure => simp [intOf]; omega
        | succ j =>
          have hj : j < l.length := by omega
          obtain ⟨b2, off2, hA2, hlt3, c2, c3⟩ := (HR.out.to hbw) j _ (List.getElem?_eq_getElem hj)
          cases hA2
          have hprev : Jt.prevW l (j + 1) = some l[j] := List.getElem?_eq_getElem hj
          generalize l[j] = q at hprev c2 c3
          obtain ⟨u, v⟩ := q
          simp only at c2 c3
          have hjx : ((j + 1 : Nat) : Int) - 1 = (j : Int) := by omega
          have hjp : (0 : Int) < ((j + 1 : Nat) : Int) := by omega
          have hjl : (j : Int) < (l.length : Int) := by omega
          have hj0 : (0 : Int) ≤ (j : Int) := by omega
          have hjw : IntKind.i64.wrap (j : Int) = (j : Int) := by rw [IntKind.wrap_i64]; omega
          by_cases hlo : x < v
          · have HF := Lib.hid (show false = res by rw [HG.out, hdr, hprev, Jt.rst_low r u v x y _ hxy (.inl hlo)])
            clear hbw hdr hnext hv0 hprev c2
            go_wp2
            go_quiet (fail)
            go_wp2
            go_ret
            exact ⟨ret_bool HF.out, below_drewN (HBW.out.alloc hszw _) _⟩
          · by_cases hgap : Jt.gap x v < IntKind.u64.wrap r
            · have HF := Lib.hid (show false = res by rw [HG.out, hdr, hprev, Jt.rst_low r u v x y _ hxy (.inr hgap)])
              clear hbw hdr hnext hv0 hprev c2
              unfold Jt.gap at hgap
              generalize hX : IntKind.u64.wrap x = X at hgap
              generalize hV : IntKind.u64.wrap v = V at hgap
              generalize hR : IntKind.u64.wrap r = R at hgap
              generalize hG : IntKind.u64.wrap (X - V) = G at hgap
              go_wp2
              go_quiet (fail)
              go_wp2
              go_ret
              exact ⟨ret_bool HF.out, below_drewN (HBW.out.alloc hszw _) _⟩
            · have HN := Lib.hid (show res = Jt.rst r (Jt.prevW l (j + 1 + 1)) (l.drop (j + 1 + 1)) by rw [HG.out, hdr, hnext, hprev, Jt.rst_next _ _ _ _ hxy (fun q hq => by cases hq; exact ⟨hlo, hgap⟩)])
              clear hbw hdr hnext hv0 hprev c2
              unfold Jt.gap at hgap
              generalize hX : IntKind.u64.wrap x = X at hgap
              generalize hV : IntKind.u64.wrap v = V at hgap
              generalize hR : IntKind.u64.wrap r = R at hgap
              generalize hG : IntKind.u64.wrap (X - V) = G at hgap
              go_wp2
              go_quiet (fail)
              go_wp2
              go_roundw
              case rel => exact ⟨j + 1 + 1, by omega, by go_num, HN, below_drewN (HB.out.alloc hsz _) _⟩
              case measure => simp [intOf]; omega
    · have hke : k = l.length := by omega
      have HF := Lib.hid (show true = res by rw [HG.out, hke, List.drop_length]; cases Jt.prevW l l.length <;> rfl)
      have hki : ¬ (k : Int) < (l.length : Int) := by omega
      clear hbw hv0
      go_wp2
      go_ret
      exact ⟨ret_bool HF.out, HBW.out⟩
end Go.Proofs.Ytaaoeiffpldjmaa
