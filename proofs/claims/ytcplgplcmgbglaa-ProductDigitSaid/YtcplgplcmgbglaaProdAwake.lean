/- The chapter's examples: awake returns true. -/
import Derived.Test.YtcplgplcmgbglaaProdRCheck
namespace Go.Proofs.Ytcplgplcmgbglaa
open Go.RowKit

namespace Pd
def exa : Prod := ⟨{ data := #[52, 48, 48, 54, 51, 56, 49, 51, 51, 51, 57, 51, 49] }, 0, 25, 0, 40⟩
def exz : Prod := ⟨{ data := #[] }, 0, 0, 0, 0⟩
theorem exa_fit : exa.fit := ⟨by decide, by decide, by decide, by decide, by decide⟩
theorem exz_fit : exz.fit := ⟨by decide, by decide, by decide, by decide, by decide⟩
def cells (l : List Prod) : List Value := l.flatMap fun p => [.string p.code, .int .i64 p.producer, .int .i64 p.deposit, .int .i64 p.material, .int .i64 p.grams]
theorem cells_at : ∀ (l : List Prod) (k : Nat) (p : Prod), l[k]? = some p → (cells l)[k * 5]? = some (.string p.code) ∧ (cells l)[k * 5 + 1]? = some (.int .i64 p.producer) ∧ (cells l)[k * 5 + 2]? = some (.int .i64 p.deposit) ∧ (cells l)[k * 5 + 3]? = some (.int .i64 p.material) ∧ (cells l)[k * 5 + 4]? = some (.int .i64 p.grams) := by
  intro l
  induction l with
  | nil => intro k p h; simp at h
  | cons a r ih =>
    intro k p h
    have e : cells (a :: r) = Value.string a.code :: .int .i64 a.producer :: .int .i64 a.deposit :: .int .i64 a.material :: .int .i64 a.grams :: cells r := rfl
    cases k with
    | zero => simp at h; subst h; rw [e]; simp
    | succ k =>
      simp only [List.getElem?_cons_succ] at h
      rw [e, show (k + 1) * 5 = k * 5 + 5 by omega]
      simpa using ih k p h
theorem prods_new (W : World) (n : Nat) (l : List Prod) (hn : n = W.heap.size) (hf : ∀ p ∈ l, p.fit) : Prods (W.alloc (.cells (cells l).toArray 36)) (some ⟨n, 0, none⟩) l := by
  subst hn
  intro k p hk
  obtain ⟨h0, h1, h2, h3, h4⟩ := cells_at l k p hk
  refine ⟨W.heap.size, 0, rfl, by simp, hf p (List.mem_of_getElem? hk), ?_, ?_, ?_, ?_, ?_⟩
  all_goals
    unfold World.cell?
    rw [heap_alloc_new]
    simp only [Nat.zero_add]
    simpa
/-- The variable x lies in block b. -/
def Xat (w : World) (b : Nat) : Prop := w.cell? ⟨b, 0, none⟩ = some (.string exa.code) ∧ w.cell? ⟨b, 1, none⟩ = some (.int .i64 0) ∧ w.cell? ⟨b, 2, none⟩ = some (.int .i64 25) ∧ w.cell? ⟨b, 3, none⟩ = some (.int .i64 0) ∧ w.cell? ⟨b, 4, none⟩ = some (.int .i64 40)
theorem Xat.below {w w' : World} {b B : Nat} (h : Xat w b) (hb : Below B w w') (hB : b < B) : Xat w' b := by
  obtain ⟨c0, c1, c2, c3, c4⟩ := h
  refine ⟨?_, ?_, ?_, ?_, ?_⟩
  all_goals (rw [hb.cell hB]; assumption)
theorem Xat.new (w : World) : Xat (w.alloc exa.obj) w.heap.size := by
  unfold Xat exa Prod.obj World.cell?
  rw [heap_alloc_new]
  simp
/-- What is known of a world in the middle of awake: nothing old has turned; x lies in its block. -/
def Mid (w : World) (b : Nat) (wk : World) : Prop := Below w.heap.size w wk ∧ Xat wk b ∧ b < wk.heap.size ∧ w.heap.size ≤ wk.heap.size
theorem Mid.on {w wk w' : World} {b B : Nat} (h : Mid w b wk) (hb : Below B wk w') (hB : B = wk.heap.size) : Mid w b w' := by
  subst hB
  obtain ⟨h1, h2, h3, h4⟩ := h
  have := hb.size
  exact ⟨h1.trans (hb.mono h4), h2.below hb h3, by omega, by omega⟩
theorem Mid.alloc {w wk : World} {b : Nat} (h : Mid w b wk) (o : Obj) : Mid w b (wk.alloc o) := h.on (below_new wk o) rfl
end Pd

set_option maxHeartbeats 1600000 in
theorem awake_any (w : World) :
    Calls Try.prog 10 #[] w fun e w' => e = .returned (.bool true) ∧ Below w.heap.size w w' := by
  have H1 := Lib.hid (digit_any { data := #[52, 48, 48, 54, 51, 56, 49, 51, 51, 51, 57, 51] })
  rw [show Pd.dgt (ByteArray.mk #[52, 48, 48, 54, 51, 56, 49, 51, 51, 51, 57, 51]).data.toList = (1, 0) by decide] at H1
  have H2 := Lib.hid (find_any · 2 [Pd.exz, Pd.exa] Pd.exa.code)
  rw [show Pd.idx [Pd.exz, Pd.exa] Pd.exa.code = some 1 by decide +kernel] at H2
  have H3 := Lib.hid (code_any { data := #[52, 48, 48, 54, 51, 56, 49, 51, 51, 51, 57, 51, 50] })
  rw [show Pd.cod (ByteArray.mk #[52, 48, 48, 54, 51, 56, 49, 51, 51, 51, 57, 51, 50]).data.toList = 26 by decide] at H3
  have H4 := Lib.hid (checkl_any · 1 [Pd.exa] 1 1)
  rw [show Pd.chkL [Pd.exa] 1 1 = 0 by decide +kernel] at H4
  have H5 := Lib.hid (checkl_any · 2 [Pd.exa, Pd.exa] 1 1)
  rw [show Pd.chkL [Pd.exa, Pd.exa] 1 1 = 6 by decide +kernel] at H5
  have H6 := Lib.hid (fits_any Pd.exa 45 (by decide) (by decide) (by decide) (by decide))
  rw [show Pd.fits Pd.exa.grams 45 = true by decide] at H6
  have H7 := Lib.hid (fits_any Pd.exa 46 (by decide) (by decide) (by decide) (by decide))
  rw [show Pd.fits Pd.exa.grams 46 = false by decide] at H7
  go_enter Try.func10, Try.ntmps10
  go_wp2_with fail
  refine (H1.out _).mono ?_
  rintro e w1 ⟨rfl, hb1⟩
  have M1 : Pd.Mid w w1.heap.size (w1.alloc Pd.exa.obj) := ⟨hb1.trans ((below_new w1 _).mono hb1.size), Pd.Xat.new w1, by simp, by have := hb1.size; simp; omega⟩
  clear hb1
  go_wp2_with fail
  refine (H2.out _ _ (Pd.prods_new (w1.alloc Pd.exa.obj) (w1.heap.size + 1) [Pd.exz, Pd.exa] (by simp) (by simp [Pd.exz_fit, Pd.exa_fit])) (by decide)).mono ?_
  rintro e w2 ⟨rfl, hb2⟩
  have M2 := (M1.alloc _).on hb2 rfl
  unfold Pd.findR
  simp only
  clear hb2 M1
  go_wp2_with fail
  refine (H3.out _).mono ?_
  rintro e w3 ⟨rfl, hb3⟩
  have M3 := M2.on hb3 rfl
  clear hb3 M2
  obtain ⟨x0, x1, x2, x3, x4⟩ := M3.2.1
  go_wp2_with fail
  refine (H4.out _ _ (Pd.prods_new w3 w3.heap.size [Pd.exa] rfl (by simp [Pd.exa_fit]))).mono ?_
  rintro e w4 ⟨rfl, hb4⟩
  have M4 := (M3.alloc _).on hb4 rfl
  clear hb4 M3 x0 x1 x2 x3 x4
  obtain ⟨x0, x1, x2, x3, x4⟩ := M4.2.1
  go_wp2_with fail
  refine (H5.out _ _ (Pd.prods_new w4 w4.heap.size [Pd.exa, Pd.exa] rfl (by simp [Pd.exa_fit]))).mono ?_
  rintro e w5 ⟨rfl, hb5⟩
  have M5 := (M4.alloc _).on hb5 rfl
  clear hb5 M4 x0 x1 x2 x3 x4
  obtain ⟨x0, x1, x2, x3, x4⟩ := M5.2.1
  go_wp2_with fail
  refine (H6.out _).mono ?_
  rintro e w6 ⟨rfl, rfl⟩
  have M6 := M5.alloc Pd.exa.obj
  clear M5 x0 x1 x2 x3 x4
  obtain ⟨x0, x1, x2, x3, x4⟩ := M6.2.1
  go_wp2_with fail
  refine (H7.out _).mono ?_
  rintro e w7 ⟨rfl, rfl⟩
  have M7 := M6.alloc Pd.exa.obj
  clear M6 x0 x1 x2 x3 x4
  go_wp2
  go_ret
  exact ⟨rfl, M7.1⟩
end Go.Proofs.Ytcplgplcmgbglaa
