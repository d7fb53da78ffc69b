/- Slices that read as lists, rows that the call owns, append, copy and string conversion over them. -/
import Derived.Test.YtcpdfgckfefboaaComm
import Derived.Laws.AppendOwnNone
import Derived.Laws.CopyOwn
import Derived.Laws.IdiomStrings
import Derived.Laws.BytesArg
import Derived.Lib.AppendStr
import Derived.Deep.AppendLies
import Derived.Deep.Onto
import Derived.Deep.DeepMust
namespace Go.Proofs.Ytcpdfgckfefboaa
open Go.RowKit

theorem on {w w1 w' : World} (h : Below w.heap.size w w1) (h' : Below w1.heap.size w1 w') : Below w.heap.size w w' := h.trans (h'.mono h.size)
theorem addr_add (b off i : Nat) : (⟨b, off, none⟩ : Addr).add i = ⟨b, off + i, none⟩ := by unfold Addr.add; split <;> simp_all

theorem new0 (w : World) (u : Value) (t : TypeId) : (w.alloc (.cells #[u] t)).cell? ⟨w.heap.size, 0, none⟩ = some u := by
  unfold World.cell?
  simp only
  rw [heap_alloc_new]
  simp
/-- The bytes, the integers as values. -/
def bv (l : List UInt8) : List Value := l.map fun c => .int .u8 (c.toNat : Int)
def iv (l : List Int) : List Value := l.map fun n => .int .i64 n

theorem bv_length (l : List UInt8) : (bv l).length = l.length := by simp [bv]
theorem iv_length (l : List Int) : (iv l).length = l.length := by simp [iv]
theorem bv_append (a b : List UInt8) : bv (a ++ b) = bv a ++ bv b := by simp [bv]
theorem iv_append (a b : List Int) : iv (a ++ b) = iv a ++ iv b := by simp [iv]
theorem bv_get {l : List UInt8} {k : Nat} {c : UInt8} (h : l[k]? = some c) : (bv l)[k]? = some (.int .u8 (c.toNat : Int)) := by simp [bv, h]
theorem iv_get {l : List Int} {k : Nat} {n : Int} (h : l[k]? = some n) : (iv l)[k]? = some (.int .i64 n) := by simp [iv, h]
theorem bv_one (l : List UInt8) : ∀ u ∈ bv l, u.oneCell' = true := by intro u hu; simp [bv] at hu; obtain ⟨_, _, rfl⟩ := hu; rfl
theorem iv_one (l : List Int) : ∀ u ∈ iv l, u.oneCell' = true := by intro u hu; simp [iv] at hu; obtain ⟨_, _, rfl⟩ := hu; rfl

/-- The slice at address A reads as these values. -/
def Rd (w : World) (A : Option Addr) (xs : List Value) : Prop := ∀ k u, xs[k]? = some u → ∃ b off, A = some ⟨b, off, none⟩ ∧ b < w.heap.size ∧ w.cell? ⟨b, off + k, none⟩ = some u

theorem Rd.nil (w : World) (A : Option Addr) : Rd w A [] := fun k u h => by simp at h
theorem Rd.below {w w' : World} {A : Option Addr} {xs : List Value} (h : Rd w A xs) {B : Nat} (hB : w.heap.size ≤ B) (hb : Below B w w') : Rd w' A xs := by
  intro k u hk
  obtain ⟨b, off, hA, hlt, hc⟩ := h k u hk
  have := hb.size
  exact ⟨b, off, hA, by omega, by rw [hb.cell (by simp; omega)]; exact hc⟩
theorem Rd.to {w w' : World} {A : Option Addr} {xs : List Value} (h : Rd w A xs) (hb : Below w.heap.size w w') : Rd w' A xs := h.below (Nat.le_refl _) hb
theorem Rd.at_ {w : World} {A : Option Addr} {l : List UInt8} (h : Rd w A (bv l)) {k : Nat} (hk : k < l.length) : ∃ b off, A = some ⟨b, off, none⟩ ∧ b < w.heap.size ∧ w.cell? ⟨b, off + k, none⟩ = some (.int .u8 (l[k].toNat : Int)) :=
  h k _ (bv_get (List.getElem?_eq_getElem hk))
theorem Rd.ati {w : World} {A : Option Addr} {l : List Int} (h : Rd w A (iv l)) {k : Nat} (hk : k < l.length) : ∃ b off, A = some ⟨b, off, none⟩ ∧ b < w.heap.size ∧ w.cell? ⟨b, off + k, none⟩ = some (.int .i64 l[k]) :=
  h k _ (iv_get (List.getElem?_eq_getElem hk))
/-- A cut: the model keeps the old address where the cut lies at the capacity. -/
theorem Rd.drop {w : World} {A : Option Addr} {xs : List Value} (h : Rd w A xs) (k cap : Nat) (hc : xs.length ≤ cap) : Rd w (if cap = k then A else A.map (·.add k)) (xs.drop k) := by
  intro j u hj
  rw [List.getElem?_drop] at hj
  obtain ⟨b, off, rfl, hlt, hcell⟩ := h (k + j) u hj
  have hk : k + j < xs.length := (List.getElem?_eq_some_iff.1 hj).1
  rw [if_neg (by omega)]
  refine ⟨b, off + k, by simp [addr_add], hlt, ?_⟩
  rw [Nat.add_assoc]; exact hcell
theorem Rd.take {w : World} {A : Option Addr} {xs : List Value} (h : Rd w A xs) (k : Nat) : Rd w A (xs.take k) := by
  intro j u hj
  rcases Nat.lt_or_ge j k with hjk | hjk
  · rw [List.getElem?_take_of_lt hjk] at hj; exact h j u hj
  · rw [List.getElem?_take_eq_none hjk] at hj; cases hj
theorem bv_drop (l : List UInt8) (k : Nat) : bv (l.drop k) = (bv l).drop k := by simp [bv]
theorem bv_take (l : List UInt8) (k : Nat) : bv (l.take k) = (bv l).take k := by simp [bv]

/-- The row that a value owns, as a slice that reads. -/
theorem own_rd {w : World} {B : Nat} {e : TypeId} {A : Option Addr} {n cap : Nat} {xs : List Value} (h : w.ownsRow B e 1 (.slice A n cap) n xs) : Rd w A xs := by
  intro k u hk
  have hl := h.1
  have hkl : k < xs.length := (List.getElem?_eq_some_iff.1 hk).1
  rcases h.2 with ⟨hv, h0⟩ | ⟨g, cap', cur, hv, _, hg, _, _, _, _⟩
  · omega
  · injection hv with hA hn hc
    subst hA hc
    refine ⟨g, 0, rfl, ?_, ?_⟩
    · exact (h.lt g rfl).2
    · rw [Nat.zero_add, h.cellAt k (by omega)]
      exact hk
theorem own_cap {w : World} {B : Nat} {e : TypeId} {A : Option Addr} {n cap : Nat} {xs : List Value} (h : w.ownsRow B e 1 (.slice A n cap) n xs) : n ≤ cap ∧ cap ≤ maxLen := by
  rcases h.2 with ⟨hv, h0⟩ | ⟨g, cap', cur, hv, _, hg, hn, hm, _, _⟩
  · injection hv with _ _ hc
    subst hc h0
    exact ⟨Nat.le_refl _, Nat.zero_le _⟩
  · injection hv with _ _ hc
    subst hc
    exact ⟨hn, hm⟩
/-- An owned row as a slice written out. -/
theorem own_form {w : World} {B : Nat} {e : TypeId} {v : Value} {n : Nat} {xs : List Value} (h : w.ownsRow B e 1 v n xs) : ∃ A cap, v = .slice A n cap ∧ n ≤ cap := by
  rcases h.2 with ⟨rfl, rfl⟩ | ⟨g, cap', cur, rfl, _, hg, hn, hm, _, _⟩
  · exact ⟨none, 0, rfl, Nat.le_refl _⟩
  · exact ⟨_, cap', rfl, hn⟩
theorem own_kept {w w' : World} {B : Nat} {e : TypeId} {v : Value} {n : Nat} {xs : List Value} (h : w.ownsRow B e 1 v n xs) (hb : Below w.heap.size w w') : w'.ownsRow B e 1 v n xs := by
  refine ⟨h.1, ?_⟩
  rcases h.2 with hv | ⟨g, cap', cur, rfl, hB, hg, hn, hm, h1, h2⟩
  · exact .inl hv
  · have hlt : g < w.heap.size := (h.lt g rfl).2
    exact .inr ⟨g, cap', cur, rfl, hB, by rw [hb.block g hlt]; exact hg, hn, hm, h1, h2⟩
theorem own_below {w w' : World} {B : Nat} {e : TypeId} {v : Value} {n : Nat} {xs : List Value} (h : w.ownsRow B e 1 v n xs) (hg : w.grownBy w' v.ownBlock) (hB : B ≤ w.heap.size) : Below B w w' :=
  (Below.refl B w).grown hg hB (fun k hk => (h.lt k hk).1)

section
variable {P : Program} {w : World} {ops : Array Oper} {rest : List Oper} {o : Oper} {a : Act} {Q : Exit → Act → World → Prop}

/-- append of one element to an owned row. -/
theorem wpList_app1 (hgd : o.guard = none) (s x : Operand) (t : TypeId) (ho : o.op = .call { callee := .builtin .append, args := #[s, x], argTypes := #[t, t] })
    (B : Nat) (e : TypeId) (i : TypeInfo) (z : Value) (bytes : Nat) (ht : P.underlying t = some (.slice e)) (hi : P.info? e = some i) (hz : i.zero = some z)
    (hsize : i.size = 1) (hby : i.bytes = bytes) (hzs : z.cells.size = 1)
    (v : Value) (n : Nat) (xs : List Value) (hs : a.eval s = v) (hown : w.ownsRow B e 1 v n xs)
    (ad : Addr) (c : Nat) (u : Value) (hx : a.eval x = .slice (some ad) 1 c) (hnew : w.cell? ad = some u) (h1 : u.oneCell' = true)
    (h63 : n + 1 ≤ maxLen) (hbytes : (n + 1) * bytes ≤ 140737488355328) (hbase : B ≤ w.heap.size)
    (h : ∀ A cap w', n + 1 ≤ cap → w'.ownsRow B e 1 (.slice A (n + 1) cap) (n + 1) (xs ++ [u]) → Below B w w' → wpList P ops Q rest (a.put o.dst (.slice A (n + 1) cap)) w') : wpList P ops Q (o :: rest) a w := by
  refine wpList_append_own w hgd s x t ho B e i z 1 bytes ht hi hz hsize hby hzs (by decide) v n xs hs hown ad 1 c [u] hx rfl (fun j y hj => by
    have hj0 : j = 0 := by
      have := (List.getElem?_eq_some_iff.1 hj).1
      simpa using this
    subst hj0
    simp at hj
    subst hj
    simpa [Addr.add] using hnew) (by simpa using h1) h63 hbytes hbase ?_
  intro v' w' ho' hg _
  obtain ⟨A, cap, rfl, hc⟩ := own_form ho'
  exact h A cap w' hc ho' (own_below hown hg hbase)

/-- append of a slice that reads as a list to an owned row. -/
theorem wpList_appN (hgd : o.guard = none) (s x : Operand) (t : TypeId) (ho : o.op = .call { callee := .builtin .append, args := #[s, x], argTypes := #[t, t] })
    (B : Nat) (e : TypeId) (i : TypeInfo) (z : Value) (bytes : Nat) (ht : P.underlying t = some (.slice e)) (hi : P.info? e = some i) (hz : i.zero = some z)
    (hsize : i.size = 1) (hby : i.bytes = bytes) (hzs : z.cells.size = 1)
    (v : Value) (n : Nat) (xs : List Value) (hs : a.eval s = v) (hown : w.ownsRow B e 1 v n xs)
    (A0 : Option Addr) (m c : Nat) (ys : List Value) (hx : a.eval x = .slice A0 m c) (hm : ys.length = m) (hc0 : A0 = none → c = 0) (hrd : Rd w A0 ys) (h1 : ∀ u ∈ ys, u.oneCell' = true)
    (h63 : n + m ≤ maxLen) (hbytes : (n + m) * bytes ≤ 140737488355328) (hbase : B ≤ w.heap.size) (nm : Nat) (hnm : nm = n + m)
    (h : ∀ A cap w', nm ≤ cap → w'.ownsRow B e 1 (.slice A nm cap) nm (xs ++ ys) → Below B w w' → wpList P ops Q rest (a.put o.dst (.slice A nm cap)) w') : wpList P ops Q (o :: rest) a w := by
  subst hnm
  cases A0 with
  | none =>
    have hy : ys = [] := by
      cases ys with
      | nil => rfl
      | cons y r =>
        obtain ⟨_, _, hA, _⟩ := hrd 0 y rfl
        cases hA
    subst hy
    have hm0 : m = 0 := by simpa using hm.symm
    subst hm0
    have hcz := hc0 rfl
    subst hcz
    refine wpList_append_own_none hgd s x t ho B e i 1 ht hi v n xs hs hown hx ?_
    obtain ⟨A, cap, hv, hc⟩ := own_form hown
    subst hv
    exact h A cap w hc (by simpa using hown) (Below.refl _ _)
  | some ad =>
    refine wpList_append_own w hgd s x t ho B e i z 1 bytes ht hi hz hsize hby hzs (by decide) v n xs hs hown ad m c ys hx (by rw [hm, Nat.mul_one]) (fun j y hj => by
      obtain ⟨b, off, hA, _, hc⟩ := hrd j y hj
      injection hA with hA
      subst hA
      rw [addr_add]; exact hc) h1 h63 hbytes hbase ?_
    intro v' w' ho' hg _
    obtain ⟨A, cap, rfl, hc⟩ := own_form ho'
    exact h A cap w' hc ho' (own_below hown hg hbase)
end

section
variable {P : Program} {w : World}
/-- 'string(b)' of a slice that reads as a list of bytes. -/
theorem conv_rd (src dst e : TypeId) (A : Option Addr) (cap : Nat) (l : List UInt8) (hs : P.underlying src = some (.slice e)) (he : P.underlying e = some (.int .u8)) (hd : P.underlying dst = some .string)
    (h : Rd w A (bv l)) (n : Nat) (hn : n = l.length) : (convert src dst (.slice A n cap)).run P w = .ok (.string ⟨l.toArray⟩) w := by
  subst hn
  cases A with
  | none =>
    have hl : l = [] := by
      cases l with
      | nil => rfl
      | cons y r =>
        obtain ⟨_, _, hA, _⟩ := h 0 _ rfl
        cases hA
    subst hl
    exact run_convert_bytes_nil w src e hs he 0 cap dst hd
  | some ad =>
    refine run_convert_bytes_back w src dst e ad cap l hs he hd (fun j hj => ?_)
    obtain ⟨b, off, hA, _, hc⟩ := h.at_ hj
    injection hA with hA
    subst hA
    rw [addr_add]; exact hc
end
end Go.Proofs.Ytcpdfgckfefboaa
