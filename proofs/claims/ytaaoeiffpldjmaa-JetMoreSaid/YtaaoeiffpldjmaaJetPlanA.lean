/- Own rows of windows, and the plain side of Plan. -/
import Derived.Test.YtaaoeiffpldjmaaJetHit
import Derived.Laws.OwnMore
namespace Go.Proofs.Ytaaoeiffpldjmaa
open Go.RowKit
theorem info_win : (Try.prog.info? 44).map (fun i => (i.zero, i.size, i.bytes)) = some (some (.agg #[.int .i64 0, .int .i64 0]), 2, 16) := by kernel_rfl
theorem info_partsW {P : Program} {t : TypeId} {z : Value} {s b : Nat} (h : (P.info? t).map (fun i => (i.zero, i.size, i.bytes)) = some (some z, s, b)) :
    ∃ i, P.info? t = some i ∧ i.zero = some z ∧ i.size = s ∧ i.bytes = b := by
  rcases hi : P.info? t with _ | i
  · rw [hi] at h; cases h
  · rw [hi] at h
    simp only [Option.map_some, Option.some.injEq, Prod.mk.injEq] at h
    exact ⟨i, rfl, h.1, h.2.1, h.2.2⟩
theorem own2_kept {w w' : World} {B : Nat} {e : TypeId} {v : Value} {n : Nat} {xs : List Value} (h : w.ownsRow B e 2 v n xs) (hb : Below w.heap.size w w') : w'.ownsRow B e 2 v n xs := by
  refine ⟨h.1, ?_⟩
  rcases h.2 with hv | ⟨g, cap', cur, rfl, hB, hg, hn, hm, h1, h2⟩
  · exact .inl hv
  · have hlt : g < w.heap.size := (h.lt g rfl).2
    exact .inr ⟨g, cap', cur, rfl, hB, by rw [hb.block g hlt]; exact hg, hn, hm, h1, h2⟩
theorem own2_form {w : World} {B : Nat} {e : TypeId} {v : Value} {n : Nat} {xs : List Value} (h : w.ownsRow B e 2 v n xs) : ∃ A cap, v = .slice A n cap := by
  rcases h.2 with ⟨rfl, rfl⟩ | ⟨g, cap', cur, rfl, _, hg, hn, hm, _, _⟩
  · exact ⟨none, 0, rfl⟩
  · exact ⟨_, cap', rfl⟩
theorem own2_some {w : World} {B : Nat} {e : TypeId} {A : Option Addr} {n cap : Nat} {xs : List Value} (h : w.ownsRow B e 2 (.slice A n cap) n xs) (hn : 0 < n) : ∃ g, A = some ⟨g, 0, none⟩ ∧ B ≤ g ∧ g < w.heap.size := by
  rcases h.2 with ⟨_, h0⟩ | ⟨g, cap', cur, hv, hB, _⟩
  · omega
  · injection hv with hA
    subst hA
    exact ⟨g, rfl, hB, (h.lt g rfl).2⟩
theorem own2_below {w w' : World} {B : Nat} {e : TypeId} {v : Value} {n : Nat} {xs : List Value} (h : w.ownsRow B e 2 v n xs) (hg : w.grownBy w' v.ownBlock) (hB : B ≤ w.heap.size) : Below B w w' :=
  (Below.refl B w).grown hg hB (fun k hk => (h.lt k hk).1)

section
variable {P : Program} {w : World} {ops : Array Oper} {rest : List Oper} {o : Oper} {a : Act} {Q : Exit → Act → World → Prop}
/-- append of one element of two cells to an owned row. -/
theorem wpList_appW (hgd : o.guard = none) (s x : Operand) (t : TypeId) (ho : o.op = .call { callee := .builtin .append, args := #[s, x], argTypes := #[t, t] })
    (B : Nat) (e : TypeId) (i : TypeInfo) (z : Value) (bytes : Nat) (ht : P.underlying t = some (.slice e)) (hi : P.info? e = some i) (hz : i.zero = some z)
    (hsize : i.size = 2) (hby : i.bytes = bytes) (hzs : z.cells.size = 2)
    (v : Value) (n : Nat) (xs : List Value) (hs : a.eval s = v) (hown : w.ownsRow B e 2 v n xs)
    (ad : Addr) (c : Nat) (u0 u1 : Value) (hx : a.eval x = .slice (some ad) 1 c) (hnew : ∀ j u, [u0, u1][j]? = some u → w.cell? (ad.add j) = some u) (h1 : ∀ u ∈ [u0, u1], u.oneCell' = true)
    (h63 : n + 1 ≤ maxLen) (hbytes : (n + 1) * bytes ≤ 140737488355328) (hbase : B ≤ w.heap.size)
    (h : ∀ A cap w', w'.ownsRow B e 2 (.slice A (n + 1) cap) (n + 1) (xs ++ [u0, u1]) → Below B w w' → wpList P ops Q rest (a.put o.dst (.slice A (n + 1) cap)) w') : wpList P ops Q (o :: rest) a w := by
  refine wpList_append_own w hgd s x t ho B e i z 2 bytes ht hi hz hsize hby hzs (by decide) v n xs hs hown ad 1 c [u0, u1] hx rfl hnew h1 h63 hbytes hbase ?_
  intro v' w' ho' hg _
  obtain ⟨A, cap, rfl⟩ := own2_form ho'
  exact h A cap w' ho' (own2_below hown hg hbase)
end
theorem new2 (w : World) (x y : Int) (t : TypeId) (n : Nat) (hn : n = w.heap.size) : ∀ j u, [Value.int .i64 x, Value.int .i64 y][j]? = some u → (w.alloc (.cells #[.int .i64 x, .int .i64 y] t)).cell? (Addr.add ⟨n, 0, none⟩ j) = some u := by
  subst hn
  intro j u hj
  rw [addr_add]
  unfold World.cell?
  rw [heap_alloc_new]
  match j with
  | 0 => simpa using hj
  | 1 => simpa using hj
  | j + 2 => simp at hj
theorem one2 (x y : Int) : ∀ u ∈ [Value.int .i64 x, Value.int .i64 y], u.oneCell' = true := by
  intro u hu
  simp at hu
  rcases hu with rfl | rfl <;> rfl
namespace Jt
theorem cells_snoc (l : List Win) (x y : Int) : cells l ++ [.int .i64 x, .int .i64 y] = cells (l ++ [(x, y)]) := by rw [cells_append]; rfl
theorem cells_last (l : List Win) (x y : Int) : (cells (l ++ [(x, y)]))[l.length * 2]? = some (.int .i64 x) ∧ (cells (l ++ [(x, y)]))[l.length * 2 + 1]? = some (.int .i64 y) := cells_at _ _ (x, y) (by simp)
theorem cells_set (l : List Win) (x y z : Int) : (cells (l ++ [(x, y)])).set (l.length * 2 + 1) (.int .i64 z) = cells (l ++ [(x, z)]) := by
  rw [← cells_snoc, ← cells_snoc, List.set_append_right _ _ (by rw [cells_length]; omega), cells_length]
  rw [show l.length * 2 + 1 - l.length * 2 = 1 by omega]
  rfl
/-- The next window joins the last one. -/
theorem add_join (v : Valve) (i : List Win) (x y h : Int) (hj : (h + v.delay) < y ∨ (h + v.delay) - y < v.rest) : add v (i ++ [(x, y)]) h = i ++ [(x, h + v.delay + v.hold)] := by
  unfold add
  rw [List.getLast?_concat, List.dropLast_concat]
  exact if_pos hj
theorem add_new (v : Valve) (i : List Win) (x y h : Int) (hj : ¬ (h + v.delay) < y) (hj2 : ¬ (h + v.delay) - y < v.rest) : add v (i ++ [(x, y)]) h = i ++ [(x, y)] ++ [(h + v.delay, h + v.delay + v.hold)] := by
  unfold add
  rw [List.getLast?_concat]
  exact if_neg (show ¬ (h + v.delay < y ∨ h + v.delay - y < v.rest) by omega)
theorem add_first (v : Valve) (h : Int) : add v [] h = [(h + v.delay, h + v.delay + v.hold)] := rfl
/-- What stands when rest is still to come. -/
def Good (v : Valve) (rest : List Int) (acc : List Win) : Prop := ∀ p ∈ acc, 0 ≤ p.2 ∧ p.2 ≤ 1049676 ∧ ∀ h ∈ rest, p.2 ≤ h + v.delay + v.hold
theorem good_nil (v : Valve) (rest : List Int) : Good v rest [] := fun p h => by simp at h
theorem srt_pair : ∀ {p : Option Int} {l : List Int}, srt p l = 0 → l.Pairwise (· ≤ ·) ∧ ∀ q, p = some q → ∀ h ∈ l, q ≤ h := by
  intro p l
  induction l generalizing p with
  | nil => intro _; exact ⟨List.Pairwise.nil, fun q _ h hm => by simp at hm⟩
  | cons a r ih =>
    intro hs
    have hs2 : ¬ (a < 0 ∨ 1048576 < a) := fun hx => by rw [srt_range p a r hx] at hs; cases hs
    have hs3 : srt (some a) r = 0 ∧ ∀ q, p = some q → q ≤ a := by
      cases p with
      | none => rw [srt_next none a r (by omega) (by omega) (fun q hq => by cases hq)] at hs; exact ⟨hs, fun q hq => by cases hq⟩
      | some q =>
        by_cases hq : a < q
        · rw [srt_order q a r (by omega) (by omega) hq] at hs; cases hs
        · rw [srt_next (some q) a r (by omega) (by omega) (fun q' hq' => by cases hq'; exact hq)] at hs
          exact ⟨hs, fun q' hq' => by cases hq'; omega⟩
    obtain ⟨h1, h2⟩ := ih hs3.1
    refine ⟨List.Pairwise.cons (h2 a rfl) h1, fun q hq h hm => ?_⟩
    have h3 := hs3.2 q hq
    rcases List.mem_cons.1 hm with rfl | h4
    · exact h3
    · have := h2 a rfl h h4; omega
theorem good_new {v : Valve} {rest : List Int} {h : Int} (hd : 0 ≤ v.delay ∧ v.delay ≤ 1000) (hh : 1 ≤ v.hold ∧ v.hold ≤ 100) (hp : 0 ≤ h ∧ h ≤ 1048576) (hs : (h :: rest).Pairwise (· ≤ ·)) (x : Int) : Good v rest [(x, h + v.delay + v.hold)] := by
  intro p hp'
  simp at hp'
  subst hp'
  refine ⟨by simp only; omega, by simp only; omega, fun g hg => ?_⟩
  have := (List.pairwise_cons.1 hs).1 g hg
  simp only
  omega
theorem good_rest {v : Valve} {h : Int} {rest : List Int} {acc : List Win} (hg : Good v (h :: rest) acc) : Good v rest acc := fun p hp => ⟨(hg p hp).1, (hg p hp).2.1, fun g hgm => (hg p hp).2.2 g (List.mem_cons_of_mem _ hgm)⟩
theorem good_app {v : Valve} {rest : List Int} {a b : List Win} (ha : Good v rest a) (hb : Good v rest b) : Good v rest (a ++ b) := fun p hp => by
  rcases List.mem_append.1 hp with h | h
  · exact ha p h
  · exact hb p h
theorem good_left {v : Valve} {rest : List Int} {a b : List Win} (h : Good v rest (a ++ b)) : Good v rest a := fun p hp => h p (List.mem_append_left _ hp)
theorem good_add {v : Valve} {rest : List Int} {h : Int} {acc : List Win} (hd : 0 ≤ v.delay ∧ v.delay ≤ 1000) (hh : 1 ≤ v.hold ∧ v.hold ≤ 100) (hp : 0 ≤ h ∧ h ≤ 1048576) (hs : (h :: rest).Pairwise (· ≤ ·)) (hg : Good v (h :: rest) acc) : Good v rest (add v acc h) := by
  rcases List.eq_nil_or_concat acc with rfl | ⟨i, ⟨x, y⟩, rfl⟩
  · rw [add_first]; exact good_new hd hh hp hs _
  · rw [List.concat_eq_append] at hg ⊢
    by_cases hj : (h + v.delay) < y ∨ (h + v.delay) - y < v.rest
    · rw [add_join v i x y h hj]
      exact good_app (good_left (good_rest hg)) (good_new hd hh hp hs _)
    · rw [add_new v i x y h (by omega) (by omega)]
      exact good_app (good_rest hg) (good_new hd hh hp hs _)
theorem plan_err {v : Valve} {l : List Int} (h : check v l ≠ 0) : plan v l = ([], check v l) := by unfold plan; rw [if_pos h]
theorem plan_ok {v : Valve} {l : List Int} (h : check v l = 0) : plan v l = (l.foldl (add v) [], 0) := by unfold plan; rw [if_neg (by omega)]
end Jt
/-- The call returns a list of windows, to be read, and an error. -/
def RetW (w : World) (p : List Jt.Win × Int) (e : Ending) (w' : World) : Prop :=
  ∃ A n cap, e = .returned (.tuple #[.slice A n cap, .int .i64 p.2]) ∧ n = p.1.length ∧ Jt.Wins w' A p.1 ∧ Below w.heap.size w w'
theorem RetW.fail {w w' : World} {p : List Jt.Win × Int} {c : Int} (h : p = ([], c)) (hb : Below w.heap.size w w') : RetW w p (.returned (.tuple #[.slice none 0 0, .int .i64 c])) w' := by
  subst h
  exact ⟨none, 0, 0, rfl, rfl, Jt.Wins.nil _ _, hb⟩
end Go.Proofs.Ytaaoeiffpldjmaa
