/- The walks of the reader: advance, number, mix. -/
import Derived.Test.YtcpdfgckfefboaaJnPut
import Derived.WalkLawsBesides
namespace Go.Proofs.Ytcpdfgckfefboaa
open Go.RowKit
/-- What is thrown. -/
def thrown (e : Int) : List PanicEntry := [{ v := .iface 62 (.agg #[.int .i64 e]), recovered := false }]
/-- The reader in block r has l left. -/
structure Rdr (w : World) (r : Nat) (l : List UInt8) : Prop where
  here : ∃ A n cap, w.cell? ⟨r, 0, none⟩ = some (.slice A n cap) ∧ n = l.length ∧ n ≤ cap ∧ (A = none → cap = 0) ∧ Rd w A (bv l) ∧ (l ≠ [] → ∀ a, A = some a → a.block < r)
  free : w.frozen? ⟨r, 0, none⟩ = false
  lt : r < w.heap.size

set_option maxRecDepth 100000 in
set_option maxHeartbeats 1600000 in
theorem advance_bad (r : Nat) (k e : Int) (he : e ≠ 0) (w : World) :
    Calls Try.prog 56 #[.pointer (some ⟨r, 0, none⟩), .int .i64 k, .int .i64 e] w fun en w' => en = .panicked (thrown e) ∧ w = w' := by
  have hf := beq_f he
  go_enter Try.func56, Try.ntmps56
  go_wp2
  exact ⟨rfl, rfl, rfl⟩

set_option maxRecDepth 100000 in
set_option maxHeartbeats 1600000 in
theorem advance_ok (r : Nat) (A : Option Addr) (n cap k : Nat) (hk : k ≤ n) (hn : n ≤ cap) (w : World) (hc : w.cell? ⟨r, 0, none⟩ = some (.slice A n cap)) (hz : w.frozen? ⟨r, 0, none⟩ = false) :
    Calls Try.prog 56 #[.pointer (some ⟨r, 0, none⟩), .int .i64 (k : Int), .int .i64 0] w fun en w' => en = .returned (.tuple #[]) ∧ w.setCell ⟨r, 0, none⟩ (.slice (if cap = k then A else A.map fun x => x.add k) (n - k) (cap - k)) = w' := by
  by_cases hck : cap = k
  · rw [if_pos hck]
    have hnk : n = k := by omega
    subst hnk
    subst hck
    have hkk : (cap : Int) ≤ (cap : Int) := by omega
    go_enter Try.func56, Try.ntmps56
    go_wp2
    go_end0
    exact ⟨rfl, by rw [Nat.sub_self]⟩
  · rw [if_neg hck]
    have hkn : (k : Int) ≤ (n : Int) := by omega
    have hk0 : (0 : Int) ≤ (k : Int) := by omega
    go_enter Try.func56, Try.ntmps56
    go_wp2
    go_end0
    exact ⟨rfl, rfl⟩

theorem Rd.under {w w' : World} {A : Option Addr} {xs : List Value} (h : Rd w A xs) {B : Nat} (hA : ∀ a, A = some a → a.block < B) (hb : Below B w w') : Rd w' A xs := by
  intro k u hk
  obtain ⟨b, off, hA', hlt, hc⟩ := h k u hk
  have h1 := hA _ hA'
  have h2 := hb.size
  exact ⟨b, off, hA', by omega, (hb.cell (p := ⟨b, off + k, none⟩) h1).trans hc⟩
theorem Rd.underB {w w' : World} {A : Option Addr} {l : List UInt8} (h : Rd w A (bv l)) {B : Nat} (hA : l ≠ [] → ∀ a, A = some a → a.block < B) (hb : Below B w w') : Rd w' A (bv l) := by
  cases l with
  | nil => exact Rd.nil _ _
  | cons c r => exact h.under (hA (by simp)) hb
theorem Rdr.under {w w' : World} {r : Nat} {l : List UInt8} (h : Rdr w r l) (hb : Below w.heap.size w w') (hz : w'.frozen? ⟨r, 0, none⟩ = false) : Rdr w' r l := by
  obtain ⟨A, n, cap, h1, h2, h3, h5, h6, h7⟩ := h.here
  exact ⟨⟨A, n, cap, by rw [hb.cell h.lt]; exact h1, h2, h3, h5, h6.to hb, h7⟩, hz, Nat.lt_of_lt_of_le h.lt hb.size⟩
theorem frozen_below {w w' : World} {B : Nat} (hb : Below B w w') {p : Addr} (hp : p.block < B) : w'.frozen? p = w.frozen? p := World.frozen?_of_block (hb.block p.block hp)
theorem Rdr.to {w w' : World} {r : Nat} {l : List UInt8} (h : Rdr w r l) (hb : Below w.heap.size w w') : Rdr w' r l := h.under hb (by rw [frozen_below hb h.lt]; exact h.free)
theorem Rdr.adv {w : World} {r : Nat} {l : List UInt8} {A : Option Addr} {n cap k : Nat} (h1 : w.cell? ⟨r, 0, none⟩ = some (.slice A n cap)) (h2 : n = l.length) (h3 : n ≤ cap) (h5 : A = none → cap = 0) (h6 : Rd w A (bv l)) (h7 : l ≠ [] → ∀ a, A = some a → a.block < r)
    (hz : w.frozen? ⟨r, 0, none⟩ = false) (hr : r < w.heap.size) (hk : k ≤ n) :
    Rdr (w.setCell ⟨r, 0, none⟩ (.slice (if cap = k then A else A.map fun x => x.add k) (n - k) (cap - k))) r (l.drop k) ∧ Below r w (w.setCell ⟨r, 0, none⟩ (.slice (if cap = k then A else A.map fun x => x.add k) (n - k) (cap - k))) := by
  have hb : Below r w (w.setCell ⟨r, 0, none⟩ (.slice (if cap = k then A else A.map fun x => x.add k) (n - k) (cap - k))) := (Below.refl r w).setCell (p := ⟨r, 0, none⟩) (Nat.le_refl _) _
  refine ⟨⟨⟨if cap = k then A else A.map fun x => x.add k, n - k, cap - k, World.cell?_setCell_same w _ _ h1, by rw [List.length_drop, h2], by omega, ?_, ?_, ?_⟩, ?_, ?_⟩, hb⟩
  · intro hA
    split at hA
    · omega
    · have := h5 (by simpa using hA); omega
  · have h8 := (h6.underB h7 hb).drop k cap (by rw [bv_length, ← h2]; exact h3)
    rw [← bv_drop] at h8
    exact h8
  · intro hne a ha
    have h7 := h7 (fun h => hne (by rw [h]; simp))
    split at ha
    · exact h7 a ha
    · obtain ⟨a0, ha0, rfl⟩ := Option.map_eq_some_iff.1 ha
      have h9 := h7 a0 ha0
      have e : (a0.add k).block = a0.block := by unfold Addr.add; split <;> rfl
      rw [e]; exact h9
  · simpa using hz
  · have := hb.size; omega

set_option maxRecDepth 100000 in
set_option maxHeartbeats 1600000 in
theorem number_bad (r : Nat) (l : List UInt8) (w : World) (h : Rdr w r l) (hl : l.length ≤ 1000000000000) (he : (Wp.takeI l).2.2 ≠ 0) :
    Calls Try.prog 38 #[.pointer (some ⟨r, 0, none⟩)] w fun en w' => en = .panicked (thrown (Wp.takeI l).2.2) ∧ w = w' := by
  obtain ⟨A, n, cap, h1, h2, h3, h5, h6, h7⟩ := h.here
  have HT := Lib.hid (takeint_any A n cap l h2 w h6 hl)
  generalize (Wp.takeI l).1 = x at HT
  generalize (Wp.takeI l).2.1 = k at HT
  generalize (Wp.takeI l).2.2 = e at HT he ⊢
  have HA := Lib.hid (advance_bad r (k : Int) e he w)
  clear h2 h3 h5 h6 h7 he
  go_enter Try.func38, Try.ntmps38
  go_wp2_with fail
  refine HT.out.mono ?_
  rintro en w' ⟨rfl, rfl⟩
  go_wp2_with fail
  refine HA.out.mono ?_
  rintro en w' ⟨rfl, rfl⟩
  go_wp2
  exact ⟨rfl, rfl, rfl⟩

set_option maxRecDepth 100000 in
set_option maxHeartbeats 1600000 in
theorem number_ok (r : Nat) (l : List UInt8) (w : World) (h : Rdr w r l) (hl : l.length ≤ 1000000000000) (he : (Wp.takeI l).2.2 = 0) :
    Calls Try.prog 38 #[.pointer (some ⟨r, 0, none⟩)] w fun en w' => en = .returned (.int .i64 (Wp.takeI l).1) ∧ Rdr w' r (l.drop (Wp.takeI l).2.1) ∧ ∃ sv, w.setCell ⟨r, 0, none⟩ sv = w' := by
  obtain ⟨A, n, cap, h1, h2, h3, h5, h6, h7⟩ := h.here
  have HT := Lib.hid (takeint_any A n cap l h2 w h6 hl)
  have hbd := (Wp.takeI_bd l).1
  rw [he] at HT
  generalize (Wp.takeI l).1 = x at HT ⊢
  generalize (Wp.takeI l).2.1 = k at HT hbd ⊢
  have hadv := Rdr.adv (k := k) h1 h2 h3 h5 h6 h7 h.free h.lt (by omega)
  have HA := Lib.hid (advance_ok r A n cap k (by omega) h3 w h1 h.free)
  have HD := Lib.hid hadv
  generalize Value.slice (if cap = k then A else A.map fun x => x.add k) (n - k) (cap - k) = sv at HA HD
  clear h2 h3 h5 h6 h7 hadv hbd he
  go_enter Try.func38, Try.ntmps38
  go_wp2_with fail
  refine HT.out.mono ?_
  rintro en w' ⟨rfl, rfl⟩
  go_wp2_with fail
  refine HA.out.mono ?_
  rintro en w' ⟨rfl, rfl⟩
  go_wp2
  go_ret
  exact ⟨rfl, HD.out.1, _, rfl⟩

set_option maxRecDepth 100000 in
set_option maxHeartbeats 1600000 in
theorem mix_bad (r : Nat) (l : List UInt8) (w : World) (h : Rdr w r l) (hl : l.length ≤ 1000000000000) (he : (Wp.takeN l 16).2.2 ≠ 0) :
    Calls Try.prog 39 #[.pointer (some ⟨r, 0, none⟩)] w fun en w' => en = .panicked (thrown (Wp.takeN l 16).2.2) ∧ Below w.heap.size w w' := by
  obtain ⟨A, n, cap, h1, h2, h3, h5, h6, h7⟩ := h.here
  have HT := Lib.hid (takelist_any A n cap l h2 h3 16 (by decide) (by decide) w h6 hl)
  generalize Wp.takeN l 16 = t at HT he ⊢
  obtain ⟨m, k, e⟩ := t
  simp only at he ⊢
  have HA := Lib.hid (fun w => advance_bad r (k : Int) e he w)
  clear h2 h3 h5 h6 h7 he
  go_enter Try.func39, Try.ntmps39
  go_wp2_with fail
  refine HT.out.mono ?_
  rintro en w1 ⟨A1, n1, cap1, rfl, _, _, hb⟩
  have HB := Lib.hid hb
  clear hb
  go_wp2_with fail
  refine (HA.out w1).mono ?_
  rintro en w' ⟨rfl, rfl⟩
  go_wp2
  exact ⟨rfl, rfl, HB.out⟩

theorem own_at {w : World} {B : Nat} {e : TypeId} {A : Option Addr} {n cap : Nat} {xs : List Value} (h : w.ownsRow B e 1 (.slice A n cap) n xs) : ∀ a, A = some a → B ≤ a.block := by
  intro a ha
  rcases h.2 with ⟨hv, _⟩ | ⟨g, cap', cur, hv, hB, _⟩
  · injection hv with hA
    rw [hA] at ha; cases ha
  · injection hv with hA
    rw [hA] at ha
    cases ha
    exact hB
/-- The block that a list of integers lies in is one of integers. -/
def Ints (w : World) (A : Option Addr) : Prop := ∀ a, A = some a → ∃ c f, w.heap[a.block]? = some (.cells c 3 f)
theorem own_ints {w : World} {B : Nat} {A : Option Addr} {n cap : Nat} {xs : List Value} (h : w.ownsRow B 3 1 (.slice A n cap) n xs) : Ints w A := by
  intro a ha
  rcases h.2 with ⟨hv, _⟩ | ⟨g, cap', cur, hv, hB, hg, _⟩
  · injection hv with hA
    rw [hA] at ha; cases ha
  · injection hv with hA
    rw [hA] at ha
    cases ha
    exact ⟨cur, _, hg⟩
theorem Ints.off {w w' : World} {A : Option Addr} (h : Ints w A) (hk : ∀ a, A = some a → w'.heap[a.block]? = w.heap[a.block]?) : Ints w' A := fun a ha => by
  obtain ⟨c, f, hc⟩ := h a ha
  exact ⟨c, f, (hk a ha).trans hc⟩
theorem Ints.to {w w' : World} {A : Option Addr} (h : Ints w A) (hb : Below w.heap.size w w') : Ints w' A := fun a ha => by
  obtain ⟨c, f, hc⟩ := h a ha
  have hlt : a.block < w.heap.size := by
    rcases Nat.lt_or_ge a.block w.heap.size with h1 | h1
    · exact h1
    · rw [Array.getElem?_eq_none h1] at hc; cases hc
  exact ⟨c, f, (hb.block a.block hlt).trans hc⟩
theorem Ints.none (w : World) : Ints w none := fun a ha => by cases ha
theorem Rd.set {w : World} {A : Option Addr} {xs : List Value} (h : Rd w A xs) {r : Nat} (hA : ∀ a, A = some a → r < a.block) (v : Value) : Rd (w.setCell ⟨r, 0, none⟩ v) A xs := by
  intro k u hk
  obtain ⟨b, off, hA', hlt, hc⟩ := h k u hk
  have h1 := hA _ hA'
  simp only at h1
  refine ⟨b, off, hA', ?_, ?_⟩
  · have := ((Below.refl r w).setCell (p := ⟨r, 0, none⟩) (Nat.le_refl _) v).size; omega
  · exact (World.cell?_of_block (a := ⟨b, off + k, none⟩) (Below.heap_setCell w ⟨r, 0, none⟩ v b (by simp only; omega))).trans hc

set_option maxRecDepth 100000 in
set_option maxHeartbeats 1600000 in
theorem mix_ok (r : Nat) (l : List UInt8) (w : World) (h : Rdr w r l) (hl : l.length ≤ 1000000000000) (he : (Wp.takeN l 16).2.2 = 0) :
    Calls Try.prog 39 #[.pointer (some ⟨r, 0, none⟩)] w fun en w' => ∃ A n cap, en = .returned (.slice A n cap) ∧ n = (Wp.takeN l 16).1.length ∧ (A = none → cap = 0) ∧ Rd w' A (iv (Wp.takeN l 16).1) ∧ Rdr w' r (l.drop (Wp.takeN l 16).2.1) ∧ Below r w w' ∧ (∀ k, k < w.heap.size → k ≠ r → w'.heap[k]? = w.heap[k]?) ∧ (∀ a, A = some a → w.heap.size ≤ a.block) ∧ Ints w' A := by
  obtain ⟨A, n, cap, h1, h2, h3, h5, h6, h7⟩ := h.here
  have HT := Lib.hid (takelist_any A n cap l h2 h3 16 (by decide) (by decide) w h6 hl)
  have hbd : (Wp.takeN l 16).2.1 ≤ l.length := by
    have h0 : Wp.takeN l 16 = ((Wp.takeN l 16).1, (Wp.takeN l 16).2.1, 0) := by rw [← he]
    obtain ⟨f1, f2⟩ := Wp.takeN_form h0
    have f3 := congrArg List.length f1
    rw [List.length_take, ← f2] at f3
    omega
  generalize Wp.takeN l 16 = t at HT he hbd ⊢
  obtain ⟨m, k, e⟩ := t
  simp only at he hbd ⊢
  subst he
  have HH := Lib.hid h
  have HF := Lib.hid (And.intro h3 (And.intro h5 (And.intro h6 (And.intro h7 (And.intro hbd h2)))))
  clear h2 h3 h5 h6 h7 hbd
  go_enter Try.func39, Try.ntmps39
  go_wp2_with fail
  refine HT.out.mono ?_
  rintro en w1 ⟨A1, n1, cap1, rfl, hn1, ho1, hb⟩
  simp only at hn1 ho1
  obtain ⟨h3, h5, h6, h7, hbd, h2⟩ := HF.out
  have hr1 : r < w1.heap.size := Nat.lt_of_lt_of_le HH.out.lt hb.size
  have hc1 : w1.cell? ⟨r, 0, none⟩ = some (.slice A n cap) := by rw [hb.cell HH.out.lt]; exact h1
  have hz1 : w1.frozen? ⟨r, 0, none⟩ = false := by rw [frozen_below hb HH.out.lt]; exact HH.out.free
  have HD := Lib.hid (Rdr.adv (k := k) hc1 h2 h3 h5 (h6.to hb) h7 hz1 hr1 (by omega))
  have HA := Lib.hid (advance_ok r A n cap k (by omega) h3 w1 hc1 hz1)
  generalize Value.slice (if cap = k then A else A.map fun x => x.add k) (n - k) (cap - k) = sv at HA HD
  have HN := Lib.hid hn1
  have HO := Lib.hid (fun v => (own_rd ho1).set (fun a ha => Nat.lt_of_lt_of_le HH.out.lt (own_at ho1 a ha)) v)
  have HNO := Lib.hid (own_none ho1)
  have HAT := Lib.hid (own_at ho1)
  have HIT := Lib.hid (fun (v : Value) => show Ints (w1.setCell ⟨r, 0, none⟩ v) A1 from fun a ha => by
    obtain ⟨c, f, hc⟩ := own_ints ho1 a ha
    have h1 := own_at ho1 a ha
    exact ⟨c, f, (Below.heap_setCell w1 ⟨r, 0, none⟩ v a.block (by have := HH.out.lt; simp only; omega)).trans hc⟩)
  have HB := Lib.hid (hb.mono (Nat.le_of_lt HH.out.lt) : Below r w w1)
  have HK := Lib.hid (fun v k (hk : k < w.heap.size) (hne : k ≠ r) => (Below.heap_setCell w1 ⟨r, 0, none⟩ v k hne).trans (hb.block k hk))
  clear h2 h3 h5 h6 h7 hbd hn1 ho1 hb
  go_wp2_with fail
  refine HA.out.mono ?_
  rintro en w' ⟨rfl, rfl⟩
  go_wp2
  go_ret
  exact ⟨A1, n1, cap1, rfl, HN.out, HNO.out, HO.out _, HD.out.1, HB.out.trans HD.out.2, HK.out _, HAT.out, HIT.out _⟩
end Go.Proofs.Ytcpdfgckfefboaa
