/- The walks of Check, of the program and of the reference. -/
import Derived.Test.YtcplgplcmgbglaaProdFind
namespace Go.Proofs.Ytcplgplcmgbglaa
open Go.RowKit

namespace Pd
def bad (pa ma : Int) (p : Prod) : Bool := chkP p pa ma != 0
def dupAt (l : List Prod) (i : Nat) : Bool := match l[i]? with | some p => (l.take i).any (same p.code) | none => false
def dupUpto (l : List Prod) : Nat → Bool
  | 0 => false
  | n + 1 => dupUpto l n || dupAt l n
def firstErr (pa ma : Int) : List Prod → Int
  | [] => 0
  | p :: r => if chkP p pa ma ≠ 0 then chkP p pa ma else firstErr pa ma r
def chkL (l : List Prod) (pa ma : Int) : Int :=
  if 64 < l.length then 8 else if l.any (bad pa ma) then firstErr pa ma l else if dupUpto l l.length then 6 else 0

theorem firstErr_at (pa ma : Int) : ∀ (l : List Prod) (k : Nat) (p : Prod), l[k]? = some p → (l.take k).any (bad pa ma) = false → bad pa ma p = true → firstErr pa ma l = chkP p pa ma := by
  intro l
  induction l with
  | nil => intro k p h; simp at h
  | cons a r ih =>
    intro k p h hn hb
    cases k with
    | zero =>
      simp at h; subst h
      simp [bad] at hb
      simp [firstErr, hb]
    | succ k =>
      simp only [List.take_succ_cons, List.any_cons, Bool.or_eq_false_iff] at hn
      simp only [List.getElem?_cons_succ] at h
      have ha : chkP a pa ma = 0 := by simpa [bad] using hn.1
      rw [firstErr, if_neg (by simpa using ha)]
      exact ih k p h hn.2 hb
theorem chkL_bad (l : List Prod) (pa ma : Int) (k : Nat) (p : Prod) (h : l[k]? = some p) (hl : l.length ≤ 64) (hn : (l.take k).any (bad pa ma) = false) (hb : chkP p pa ma ≠ 0) : chkL l pa ma = chkP p pa ma := by
  have hb' : bad pa ma p = true := by simpa [bad] using hb
  unfold chkL
  rw [if_neg (by omega), if_pos (any_of _ _ _ _ h hb')]
  exact firstErr_at pa ma l k p h hn hb'
theorem dupUpto_mono (l : List Prod) (i : Nat) (h : dupAt l i = true) : ∀ n, i < n → dupUpto l n = true := by
  intro n
  induction n with
  | zero => intro h1; omega
  | succ n ih =>
    intro h1
    by_cases e : i = n
    · subst e; simp [dupUpto, h]
    · simp [dupUpto, ih (by omega)]
theorem chkL_dup (l : List Prod) (pa ma : Int) (k : Nat) (hk : k < l.length) (hl : l.length ≤ 64) (hn : l.any (bad pa ma) = false) (hd : dupAt l k = true) : chkL l pa ma = 6 := by
  unfold chkL
  rw [if_neg (by omega), hn, dupUpto_mono l k hd _ hk]
  simp
theorem chkL_ok (l : List Prod) (pa ma : Int) (hl : l.length ≤ 64) (hn : l.any (bad pa ma) = false) (hd : dupUpto l l.length = false) : chkL l pa ma = 0 := by
  unfold chkL
  rw [if_neg (by omega), hn, hd]
  simp
theorem chkL_full (l : List Prod) (pa ma : Int) (hl : 64 < l.length) : chkL l pa ma = 8 := by
  unfold chkL
  rw [if_pos hl]
theorem dupAt_some (l : List Prod) (k : Nat) (p : Prod) (h : l[k]? = some p) : dupAt l k = (l.take k).any (same p.code) := by
  unfold dupAt; rw [h]
theorem same_refl (p : Prod) : same p.code p = true := by simp [same]
/-- The first product with the code of number k is k itself, unless an earlier one has it. -/
theorem idx_self (l : List Prod) (k : Nat) (p : Prod) (h : l[k]? = some p) (hd : dupAt l k = false) : idx l p.code = some k := by
  rw [dupAt_some l k p h] at hd
  exact idx_found l p.code k p h hd (same_refl p)
theorem idx_other (l : List Prod) (k : Nat) (p : Prod) (h : l[k]? = some p) (hd : dupAt l k = true) : (findR (idx l p.code)).1 ≠ (k : Int) := by
  rw [dupAt_some l k p h] at hd
  rcases hi : idx l p.code with _ | j
  · unfold idx at hi
    rw [List.findIdx?_eq_none_iff] at hi
    have := hi p (List.mem_of_getElem? h)
    rw [same_refl] at this
    cases this
  · intro he
    have hjk : j = k := by unfold findR at he; simp only at he; omega
    subst hjk
    unfold idx at hi
    rw [List.findIdx?_eq_some_iff_getElem] at hi
    obtain ⟨hj, _, hn⟩ := hi
    rw [List.any_eq_true] at hd
    obtain ⟨q, hq, hs⟩ := hd
    rw [List.mem_iff_getElem] at hq
    obtain ⟨i, hi2, rfl⟩ := hq
    rw [List.length_take] at hi2
    rw [List.getElem_take] at hs
    exact hn i (by omega) hs
end Pd

set_option maxHeartbeats 800000 in
theorem checkl_any (A : Option Addr) (cap : Nat) (l : List Pd.Prod) (pa ma : Int) (w : World) (hP : Pd.Prods w A l) :
    Calls Try.prog 16 #[.slice A l.length cap, .int .i64 pa, .int .i64 ma] w fun e w' => e = .returned (.int .i64 (Pd.chkL l pa ma)) ∧ Below w.heap.size w w' := by
  have HP := Lib.hid hP
  clear hP
  by_cases hl : l.length ≤ 64
  · go_enter Try.func16, Try.ntmps16
    go_wp2
    go_loopw [19] (fun i wr => ∃ k : Nat, k ≤ l.length ∧ i = .int .i64 k ∧ (l.take k).any (Pd.bad pa ma) = false ∧ Below w.heap.size w wr) (fun i _ => l.length - (intOf i).toNat)
    case atStart => exact ⟨0, by omega, rfl, rfl, Below.refl _ _⟩
    case round =>
      obtain ⟨k, hk, rfl, hn, hb⟩ := hrel
      have HN := Lib.hid hn
      have HB := Lib.hid hb
      have hsz := hb.size
      clear hn
      by_cases hlt : k < l.length
      · obtain ⟨p, hp⟩ := get_of_lt hlt
        obtain ⟨b, off, rfl, hlt2, hf, c0, c1, c2, c3, c4⟩ := (HP.out.below (Nat.le_refl _) hb) k p hp
        have HK := Lib.hid hp
        have hcall := check_any p pa ma (wr.alloc p.obj)
        unfold Pd.Prod.val Pd.Prod.obj at hcall
        have HCall := Lib.hid hcall
        clear hb hp hf hcall
        go_wp2_with fail
        refine HCall.out.mono ?_
        rintro e w' ⟨rfl, hb2⟩
        have HB2 := Lib.hid ((HB.out.alloc hsz _).trans (hb2.mono (by simp; omega)))
        clear hb2
        by_cases hz : Pd.chkP p pa ma = 0
        · have hz' := beq_t hz
          have HS := Lib.hid (show (l.take (k + 1)).any (Pd.bad pa ma) = false by rw [Pd.any_snoc _ _ _ _ HK.out, HN.out]; simp [Pd.bad, hz])
          clear hz
          go_wp2
          go_roundw
          case rel => exact ⟨k + 1, by omega, by go_num, HS.out, HB2.out⟩
          case measure => simp [intOf]; omega
        · have hz' := beq_f hz
          have HF := Lib.hid (Pd.chkL_bad l pa ma k p HK.out hl HN.out hz)
          clear hz
          go_wp2
          go_ret
          exact ⟨ret_int1 HF.out.symm, HB2.out⟩
      · have hke : k = l.length := by omega
        subst hke
        have HA := Lib.hid (show l.any (Pd.bad pa ma) = false by have := HN.out; rwa [List.take_length] at this)
        obtain ⟨wo, rfl⟩ : ∃ wo : World, wo = wr := ⟨_, rfl⟩
        clear hb
        go_wp2
        go_loopw [33] (fun i wr => ∃ k : Nat, k ≤ l.length ∧ i = .int .i64 k ∧ Pd.dupUpto l k = false ∧ Below w.heap.size w wr) (fun i _ => l.length - (intOf i).toNat)
        case atStart => exact ⟨0, by omega, rfl, rfl, HB.out⟩
        case round =>
          obtain ⟨k, hk, rfl, hn, hb⟩ := hrel
          have HN2 := Lib.hid hn
          have HB2 := Lib.hid hb
          have hsz2 := hb.size
          clear hn
          by_cases hlt : k < l.length
          · obtain ⟨p, hp⟩ := get_of_lt hlt
            have hPr := HP.out.below (Nat.le_refl _) hb
            obtain ⟨b, off, rfl, hlt2, hf, c0, c1, c2, c3, c4⟩ := hPr k p hp
            have HK := Lib.hid hp
            have hcall := find_any (some ⟨b, off, none⟩) cap l p.code (wr.alloc p.obj) (hPr.below (Nat.le_refl _) (below_new _ _)) (by omega)
            unfold Pd.Prod.obj at hcall
            have HCall := Lib.hid hcall
            clear hb hp hf hcall hPr
            cases hd : Pd.dupAt l k with
            | true =>
              have hne := beq_f (Pd.idx_other l k p HK.out hd)
              have HF := Lib.hid (Pd.chkL_dup l pa ma k hlt hl HA.out hd)
              generalize Pd.findR (Pd.idx l p.code) = fr at HCall hne
              clear hd
              go_wp2_with fail
              refine HCall.out.mono ?_
              rintro e w' ⟨rfl, hb2⟩
              have HB3 := Lib.hid ((HB2.out.alloc hsz2 _).trans (hb2.mono (by simp; omega)))
              clear hb2
              go_wp2
              go_ret
              exact ⟨ret_int1 HF.out.symm, HB3.out⟩
            | false =>
              rw [Pd.idx_self l k p HK.out hd] at HCall
              have HS := Lib.hid (show Pd.dupUpto l (k + 1) = false by simp [Pd.dupUpto, HN2.out, hd])
              unfold Pd.findR at HCall
              simp only at HCall
              clear hd
              go_wp2_with fail
              refine HCall.out.mono ?_
              rintro e w' ⟨rfl, hb2⟩
              have HB3 := Lib.hid ((HB2.out.alloc hsz2 _).trans (hb2.mono (by simp; omega)))
              clear hb2
              go_wp2
              go_roundw
              case rel => exact ⟨k + 1, by omega, by go_num, HS.out, HB3.out⟩
              case measure => simp [intOf]; omega
          · have hke : k = l.length := by omega
            subst hke
            have HF := Lib.hid (Pd.chkL_ok l pa ma hl HA.out HN2.out)
            clear hb
            go_wp2
            go_ret
            exact ⟨ret_int1 HF.out.symm, HB2.out⟩
  · have HF := Lib.hid (Pd.chkL_full l pa ma (by omega))
    go_enter Try.func16, Try.ntmps16
    go_wp2
    go_ret
    exact ⟨ret_int1 HF.out.symm, Below.refl _ _⟩
end Go.Proofs.Ytcplgplcmgbglaa
