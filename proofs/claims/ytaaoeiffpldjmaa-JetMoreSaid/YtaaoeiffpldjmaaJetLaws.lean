/- Plain laws of the jets: what the planned pulses are. No program in sight. -/
import Derived.Test.YtaaoeiffpldjmaaJetArgs
namespace Go.Proofs.Ytaaoeiffpldjmaa
namespace Jt

theorem mem_pair {α : Type} {R : α → α → Prop} : ∀ {l : List α}, l.Pairwise R → ∀ a ∈ l, ∀ b ∈ l, a = b ∨ R a b ∨ R b a
  | [], _, a, ha, _, _ => by simp at ha
  | x :: l, h, a, ha, b, hb => by
    obtain ⟨h1, h2⟩ := List.pairwise_cons.1 h
    rcases List.mem_cons.1 ha with e1 | m1
    · rcases List.mem_cons.1 hb with e2 | m2
      · exact .inl (e1.trans e2.symm)
      · exact .inr (.inl (by rw [e1]; exact h1 b m2))
    · rcases List.mem_cons.1 hb with e2 | m2
      · exact .inr (.inr (by rw [e2]; exact h1 a m1))
      · exact mem_pair h2 a m1 b m2

/-- Steps that lie less than the rest apart belong with all that lies between them. -/
def Fill (r : Int) (O : Int → Prop) : Prop := ∀ a b, O a → O b → a < b → b - (a + 1) < r → ∀ s, a ≤ s → s ≤ b → O s
def Far (r : Int) (a b : Win) : Prop := a.2 + r ≤ b.1

structure Inv (v : Valve) (pre rest : List Int) (acc : List Win) : Prop where
  pos : ∀ w ∈ acc, 0 ≤ w.1 ∧ w.1 < w.2 ∧ w.2 ≤ 1049676
  le : ∀ w ∈ acc, ∀ h ∈ rest, w.1 ≤ h + v.delay ∧ w.2 ≤ h + v.delay + v.hold
  pw : acc.Pairwise (Far v.rest)
  cov : ∀ h ∈ pre, ∃ w ∈ acc, w.1 ≤ h + v.delay ∧ h + v.delay + v.hold ≤ w.2
  fil : ∀ O : Int → Prop, Fill v.rest O → (∀ h ∈ pre, ∀ s, h + v.delay ≤ s → s < h + v.delay + v.hold → O s) → ∀ w ∈ acc, ∀ s, w.1 ≤ s → s < w.2 → O s

theorem Inv.nil (v : Valve) (rest : List Int) : Inv v [] rest [] := ⟨fun w h => by simp at h, fun w h => by simp at h, List.Pairwise.nil, fun h hm => by simp at hm, fun O _ _ w h => by simp at h⟩

theorem Inv.add {v : Valve} {pre rest : List Int} {h : Int} {acc : List Win} (hd : 0 ≤ v.delay ∧ v.delay ≤ 1000) (hh : 1 ≤ v.hold ∧ v.hold ≤ 100) (hr : 0 ≤ v.rest) (hp : 0 ≤ h ∧ h ≤ 1048576) (hs : (h :: rest).Pairwise (· ≤ ·))
    (I : Inv v pre (h :: rest) acc) : Inv v (pre ++ [h]) rest (add v acc h) := by
  have hle : ∀ g ∈ rest, h ≤ g := (List.pairwise_cons.1 hs).1
  rcases List.eq_nil_or_concat acc with rfl | ⟨i, ⟨x, y⟩, rfl⟩
  · rw [add_first]
    refine ⟨?_, ?_, by simp, ?_, ?_⟩
    · intro w hw
      simp only [List.mem_singleton] at hw
      subst hw
      exact ⟨by simp only; omega, by simp only; omega, by simp only; omega⟩
    · intro w hw g hg
      simp only [List.mem_singleton] at hw
      subst hw
      have := hle g hg
      exact ⟨by simp only; omega, by simp only; omega⟩
    · intro g hg
      rcases List.mem_append.1 hg with h1 | h1
      · obtain ⟨w, hw, _⟩ := I.cov g h1
        simp at hw
      · simp only [List.mem_singleton] at h1
        subst h1
        exact ⟨_, List.mem_singleton.2 rfl, Int.le_refl _, Int.le_refl _⟩
    · intro O _ hO w hw s h1 h2
      simp only [List.mem_singleton] at hw
      subst hw
      exact hO h (by simp) s h1 h2
  · rw [List.concat_eq_append] at I ⊢
    have hxy := I.pos (x, y) (by simp)
    have hyl := I.le (x, y) (by simp) h (by simp)
    simp only at hxy hyl
    have hpw := List.pairwise_append.1 I.pw
    by_cases hj : (h + v.delay) < y ∨ (h + v.delay) - y < v.rest
    · rw [add_join v i x y h hj]
      have hmem : ∀ w, w ∈ i ++ [(x, h + v.delay + v.hold)] → w ∈ i ∨ w = (x, h + v.delay + v.hold) := fun w hw => by simpa using hw
      refine ⟨?_, ?_, ?_, ?_, ?_⟩
      · intro w hw
        rcases hmem w hw with h1 | rfl
        · exact I.pos w (List.mem_append_left _ h1)
        · exact ⟨by simp only; omega, by simp only; omega, by simp only; omega⟩
      · intro w hw g hg
        have := hle g hg
        rcases hmem w hw with h1 | rfl
        · exact I.le w (List.mem_append_left _ h1) g (List.mem_cons_of_mem _ hg)
        · exact ⟨by simp only; omega, by simp only; omega⟩
      · refine List.pairwise_append.2 ⟨hpw.1, by simp, fun a ha b hb => ?_⟩
        simp only [List.mem_singleton] at hb
        subst hb
        exact hpw.2.2 a ha (x, y) (by simp)
      · intro g hg
        rcases List.mem_append.1 hg with h1 | h1
        · obtain ⟨w, hw, h2, h3⟩ := I.cov g h1
          rcases List.mem_append.1 hw with h4 | h4
          · exact ⟨w, List.mem_append_left _ h4, h2, h3⟩
          · simp only [List.mem_singleton] at h4
            subst h4
            simp only at h2 h3
            exact ⟨_, List.mem_append_right _ (List.mem_singleton.2 rfl), h2, by simp only; omega⟩
        · simp only [List.mem_singleton] at h1
          subst h1
          refine ⟨_, List.mem_append_right _ (List.mem_singleton.2 rfl), ?_, Int.le_refl _⟩
          exact hyl.1
      · intro O hF hO w hw s h1 h2
        have hO1 : ∀ w ∈ i ++ [(x, y)], ∀ s, w.1 ≤ s → s < w.2 → O s := I.fil O hF (fun g hg => hO g (by simp [hg]))
        rcases hmem w hw with h3 | rfl
        · exact hO1 w (List.mem_append_left _ h3) s h1 h2
        · simp only at h1 h2
          by_cases hsy : s < y
          · exact hO1 (x, y) (by simp) s h1 hsy
          · by_cases hsa : h + v.delay ≤ s
            · exact hO h (by simp) s hsa h2
            · exact hF (y - 1) (h + v.delay) (hO1 (x, y) (by simp) (y - 1) (by simp only; omega) (by simp only; omega)) (hO h (by simp) _ (Int.le_refl _) (by omega)) (by omega) (by omega) s (by omega) (by omega)
    · rw [add_new v i x y h (by omega) (by omega)]
      have hmem : ∀ w, w ∈ i ++ [(x, y)] ++ [(h + v.delay, h + v.delay + v.hold)] → w ∈ i ++ [(x, y)] ∨ w = (h + v.delay, h + v.delay + v.hold) := fun w hw => by
        rcases List.mem_append.1 hw with h1 | h1
        · exact .inl h1
        · exact .inr (List.mem_singleton.1 h1)
      refine ⟨?_, ?_, ?_, ?_, ?_⟩
      · intro w hw
        rcases hmem w hw with h1 | rfl
        · exact I.pos w h1
        · exact ⟨by simp only; omega, by simp only; omega, by simp only; omega⟩
      · intro w hw g hg
        have := hle g hg
        rcases hmem w hw with h1 | rfl
        · exact I.le w h1 g (List.mem_cons_of_mem _ hg)
        · exact ⟨by simp only; omega, by simp only; omega⟩
      · refine List.pairwise_append.2 ⟨I.pw, by simp, fun a ha b hb => ?_⟩
        simp only [List.mem_singleton] at hb
        subst hb
        unfold Far
        simp only
        rcases List.mem_append.1 ha with h1 | h1
        · have h2 := hpw.2.2 a h1 (x, y) (by simp)
          unfold Far at h2
          simp only at h2
          omega
        · simp only [List.mem_singleton] at h1
          subst h1
          simp only
          omega
      · intro g hg
        rcases List.mem_append.1 hg with h1 | h1
        · obtain ⟨w, hw, h2, h3⟩ := I.cov g h1
          exact ⟨w, List.mem_append_left _ hw, h2, h3⟩
        · simp only [List.mem_singleton] at h1
          subst h1
          exact ⟨_, List.mem_append_right _ (List.mem_singleton.2 rfl), Int.le_refl _, Int.le_refl _⟩
      · intro O hF hO w hw s h1 h2
        rcases hmem w hw with h3 | rfl
        · exact I.fil O hF (fun g hg => hO g (by simp [hg])) w h3 s h1 h2
        · exact hO h (by simp) s h1 h2
theorem inv_fold {v : Valve} (hd : 0 ≤ v.delay ∧ v.delay ≤ 1000) (hh : 1 ≤ v.hold ∧ v.hold ≤ 100) (hr : 0 ≤ v.rest) : ∀ (l pre : List Int) (acc : List Win), (∀ h ∈ l, 0 ≤ h ∧ h ≤ 1048576) → l.Pairwise (· ≤ ·) → Inv v pre l acc → Inv v (pre ++ l) [] (l.foldl (add v) acc) := by
  intro l
  induction l with
  | nil => intro pre acc _ _ I; simpa using I
  | cons h r ih =>
    intro pre acc hb hs I
    have := ih (pre ++ [h]) (add v acc h) (fun g hg => hb g (List.mem_cons_of_mem _ hg)) (List.pairwise_cons.1 hs).2 (I.add hd hh hr (hb h List.mem_cons_self) hs)
    rw [List.append_assoc] at this
    exact this
/-- What a plan is. -/
theorem plan_inv {v : Valve} {l : List Int} (h : check v l = 0) : plan v l = (l.foldl (add v) [], 0) ∧ Inv v l [] (l.foldl (add v) []) := by
  obtain ⟨h0, _, h2⟩ := check_zero h
  obtain ⟨d, H, r⟩ := v
  obtain ⟨hd, hh, hr⟩ := chk_zero h0
  have := inv_fold (v := ⟨d, H, r⟩) hd hh hr.1 l [] [] (srt_all h2) (srt_pair h2).1 (Inv.nil _ _)
  exact ⟨plan_ok h, by simpa using this⟩

/-- How many steps below M. -/
def cnt (f : Int → Bool) : Nat → Int
  | 0 => 0
  | m + 1 => cnt f m + if f (m : Int) then 1 else 0
theorem cnt_le {f g : Int → Bool} (M : Nat) (h : ∀ s, f s = true → g s = true) : cnt f M ≤ cnt g M := by
  induction M with
  | zero => exact Int.le_refl _
  | succ m ih =>
    simp only [cnt]
    have := h m
    by_cases hf : f (m : Int) = true
    · rw [if_pos hf, if_pos (this hf)]; omega
    · rw [if_neg hf]; split <;> omega
theorem cnt_or {f g : Int → Bool} (M : Nat) (h : ∀ s, f s = true → g s = false) : cnt (fun s => f s || g s) M = cnt f M + cnt g M := by
  induction M with
  | zero => rfl
  | succ m ih =>
    simp only [cnt]
    rw [ih]
    by_cases hf : f (m : Int) = true
    · simp [hf, h m hf]; omega
    · have hf' : f (m : Int) = false := by simpa using hf
      simp [hf']; omega
theorem cnt_none {f : Int → Bool} (M : Nat) (h : ∀ s, f s = false) : cnt f M = 0 := by
  induction M with
  | zero => rfl
  | succ m ih => simp [cnt, ih, h]
theorem cnt_win (a b : Int) (M : Nat) (h0 : 0 ≤ a) (h1 : a ≤ b) : cnt (fun s => decide (a ≤ s ∧ s < b)) M = min b M - min a M := by
  induction M with
  | zero => simp only [cnt]; omega
  | succ m ih =>
    simp only [cnt]
    rw [ih]
    by_cases hc : a ≤ (m : Int) ∧ (m : Int) < b
    · rw [if_pos (by simpa using hc)]; omega
    · rw [if_neg (by simpa using hc)]; omega
/-- The open steps of pulses that keep a distance are counted once. -/
theorem cnt_open {r : Int} (hr : 0 ≤ r) (M : Nat) : ∀ l : List Win, (∀ w ∈ l, 0 ≤ w.1 ∧ w.1 < w.2 ∧ w.2 ≤ (M : Int)) → l.Pairwise (Far r) → cnt (isOpen l) M = (l.map fun w => w.2 - w.1).sum := by
  intro l
  induction l with
  | nil => intro _ _; exact cnt_none M (fun s => rfl)
  | cons w l ih =>
    intro hb hp
    obtain ⟨hp1, hp2⟩ := List.pairwise_cons.1 hp
    have hw := hb w List.mem_cons_self
    have e : isOpen (w :: l) = fun s => (fun s => decide (w.1 ≤ s ∧ s < w.2)) s || isOpen l s := by
      funext s
      simp [isOpen]
    rw [e, cnt_or M (fun s hs => ?_), ih (fun q hq => hb q (List.mem_cons_of_mem _ hq)) hp2, cnt_win w.1 w.2 M hw.1 (by omega)]
    · rw [List.map_cons, List.sum_cons]
      omega
    · have hs' : w.1 ≤ s ∧ s < w.2 := by simpa using hs
      rw [isOpen_eq, List.any_eq_false]
      intro q hq
      have h1 := hp1 q hq
      unfold Far at h1
      unfold inWin
      simp
      omega
theorem open_iff (l : List Win) (s : Int) : isOpen l s = true ↔ ∃ w ∈ l, w.1 ≤ s ∧ s < w.2 := by
  rw [isOpen_eq, List.any_eq_true]
  constructor
  · rintro ⟨w, hw, h⟩
    exact ⟨w, hw, by simpa [inWin] using h⟩
  · rintro ⟨w, hw, h⟩
    exact ⟨w, hw, by simpa [inWin] using h⟩
theorem fill_open {r : Int} (hr : 0 ≤ r) {l : List Win} (hp : l.Pairwise (Far r)) (hb : ∀ w ∈ l, w.1 < w.2) : Fill r (fun s => isOpen l s = true) := by
  intro a b ha hb' hab hg s h1 h2
  rw [open_iff] at ha hb' ⊢
  obtain ⟨A, hA, ha1, ha2⟩ := ha
  obtain ⟨B, hB, hb1, hb2⟩ := hb'
  have hAp := hb A hA
  have hBp := hb B hB
  rcases mem_pair hp A hA B hB with h | h | h
  · subst h
    exact ⟨A, hA, by omega, by omega⟩
  · unfold Far at h; omega
  · unfold Far at h; omega

theorem gap_eq {a b : Int} (ha : 0 ≤ a ∧ a ≤ 2097152) (hb : 0 ≤ b ∧ b ≤ 2097152) (h : ¬ a < b) : gap a b = a - b := by
  unfold gap
  rw [IntKind.wrap_u64, IntKind.wrap_u64, IntKind.wrap_u64]
  omega
theorem wrap_rest {r : Int} (hr : 0 ≤ r ∧ r ≤ 100) : IntKind.u64.wrap r = r := by rw [IntKind.wrap_u64]; omega
theorem rst_far {r : Int} (hr : 0 ≤ r ∧ r ≤ 100) : ∀ (l : List Win) (p : Option Win), (∀ w ∈ l, 0 ≤ w.1 ∧ w.2 ≤ 2097152) → (∀ q, p = some q → 0 ≤ q.1 ∧ q.1 < q.2 ∧ q.2 ≤ 2097152) → rst r p l = true →
    (∀ w ∈ l, w.1 < w.2) ∧ l.Pairwise (Far r) ∧ ∀ q, p = some q → ∀ w ∈ l, Far r q w := by
  intro l
  induction l with
  | nil => intro p _ _ _; exact ⟨fun w h => by simp at h, List.Pairwise.nil, fun q _ w h => by simp at h⟩
  | cons a l ih =>
    intro p hb hq hs
    have hab := hb a List.mem_cons_self
    have h1 : ¬ a.2 ≤ a.1 := fun hx => by rw [rst_empty _ _ _ _ hx] at hs; cases hs
    have h2 : ∀ q, p = some q → ¬ a.1 < q.2 ∧ ¬ gap a.1 q.2 < IntKind.u64.wrap r := by
      intro q hpq
      subst hpq
      refine ⟨fun hx => ?_, fun hx => ?_⟩
      · rw [show a = (a.1, a.2) from rfl, show q = (q.1, q.2) from rfl, rst_low r q.1 q.2 a.1 a.2 l h1 (.inl hx)] at hs; cases hs
      · rw [show a = (a.1, a.2) from rfl, show q = (q.1, q.2) from rfl, rst_low r q.1 q.2 a.1 a.2 l h1 (.inr hx)] at hs; cases hs
    rw [rst_next r p a l h1 h2] at hs
    obtain ⟨i1, i2, i3⟩ := ih (some a) (fun w hw => hb w (List.mem_cons_of_mem _ hw)) (fun q hq => by cases hq; omega) hs
    refine ⟨fun w hw => ?_, List.pairwise_cons.2 ⟨fun w hw => i3 a rfl w hw, i2⟩, fun q hpq w hw => ?_⟩
    · rcases List.mem_cons.1 hw with rfl | hw
      · omega
      · exact i1 w hw
    · have hqb := hq q hpq
      have hg := h2 q hpq
      rw [gap_eq ⟨hab.1, by omega⟩ ⟨by omega, hqb.2.2⟩ hg.1, wrap_rest hr] at hg
      have hfa : Far r q a := by unfold Far; omega
      rcases List.mem_cons.1 hw with rfl | hw
      · exact hfa
      · have := i3 a rfl w hw
        unfold Far at this hfa ⊢
        omega
theorem far_rst {r : Int} (hr : 0 ≤ r ∧ r ≤ 100) : ∀ (l : List Win) (p : Option Win), (∀ w ∈ l, 0 ≤ w.1 ∧ w.1 < w.2 ∧ w.2 ≤ 2097152) → (∀ q, p = some q → (0 ≤ q.1 ∧ q.1 < q.2 ∧ q.2 ≤ 2097152) ∧ ∀ w ∈ l, Far r q w) → l.Pairwise (Far r) → rst r p l = true := by
  intro l
  induction l with
  | nil => intro p _ _ _; cases p <;> rfl
  | cons a l ih =>
    intro p hb hq hp
    have hab := hb a List.mem_cons_self
    obtain ⟨hp1, hp2⟩ := List.pairwise_cons.1 hp
    rw [rst_next r p a l (by omega) (fun q hpq => ?_)]
    · exact ih (some a) (fun w hw => hb w (List.mem_cons_of_mem _ hw)) (fun q hq => by cases hq; exact ⟨hab, hp1⟩) hp2
    · obtain ⟨h1, h2⟩ := hq q hpq
      have h3 := h2 a List.mem_cons_self
      unfold Far at h3
      have h4 : ¬ a.1 < q.2 := by omega
      refine ⟨h4, ?_⟩
      rw [gap_eq ⟨hab.1, by omega⟩ ⟨by omega, h1.2.2⟩ h4, wrap_rest hr]
      omega

theorem open_need {v : Valve} {hits : List Int} {l : List Win} (hv : chk v = 0) (hc : covers l v hits = true) : ∀ h ∈ hits, ∀ s, h + v.delay ≤ s → s < h + v.delay + v.hold → isOpen l s = true := by
  intro h hm s h1 h2
  rw [covers_yes _ _ _ hv, List.all_eq_true] at hc
  have h3 := hc h hm
  unfold coversOne at h3
  rw [Bool.and_eq_true, List.all_eq_true] at h3
  have h4 := h3.2 (s - (h + v.delay)).toNat (by rw [List.mem_range]; omega)
  rw [Int.toNat_of_nonneg (by omega)] at h4
  rw [← h4]
  congr 1
  omega
/-- The planned pulses cover all needs, keep the rests, and have that many steps; no others that do so have fewer. -/
theorem plan_best {v : Valve} {hits : List Int} (h : check v hits = 0) :
    (plan v hits).2 = 0 ∧ (steps (plan v hits).1).2 = 0 ∧ covers (plan v hits).1 v hits = true ∧ rests (plan v hits).1 v = true ∧
    ∀ l : List Win, (steps l).2 = 0 → covers l v hits = true → rests l v = true → (steps (plan v hits).1).1 ≤ (steps l).1 := by
  obtain ⟨e, I⟩ := plan_inv h
  have hlen : (plan v hits).1.length ≤ hits.length := plan_len v hits
  rw [e] at hlen ⊢
  simp only at hlen ⊢
  generalize hits.foldl (add v) [] = p at I hlen ⊢
  obtain ⟨h0, h512, h2⟩ := check_zero h
  have hva := chk_zero (d := v.delay) (h := v.hold) (r := v.rest) h0
  obtain ⟨hd, hh, hr⟩ := hva
  have hpb : ∀ w ∈ p, 0 ≤ w.1 ∧ w.1 < w.2 ∧ w.2 ≤ 2097152 := fun w hw => by have := I.pos w hw; omega
  have hst : steps p = ((p.map fun w => w.2 - w.1).sum, 0) := steps_good p (by omega) (fun w hw hbad => by
    have := hpb w hw
    unfold bad at hbad
    omega)
  refine ⟨trivial, by rw [hst], ?_, ?_, ?_⟩
  · rw [covers_yes _ _ _ h0, List.all_eq_true]
    intro g hg
    have hgr := srt_all h2 g hg
    unfold coversOne
    rw [Bool.and_eq_true, List.all_eq_true]
    refine ⟨by simpa using hgr, fun i hi => ?_⟩
    rw [List.mem_range] at hi
    obtain ⟨w, hw, h5, h6⟩ := I.cov g hg
    exact (open_iff p _).2 ⟨w, hw, by omega, by omega⟩
  · unfold rests
    rw [if_neg (by omega)]
    exact far_rst hr p none hpb (fun q hq => by cases hq) I.pw
  · intro l hs hc hre
    have hl512 : ¬ 512 < l.length := fun hx => by unfold steps at hs; rw [if_pos hx] at hs; cases hs
    have hlb : ∀ w ∈ l, ¬ bad w := fun w hw hbad => by
      obtain ⟨k, hk⟩ := List.getElem?_of_mem hw
      rw [steps_bad l k w hl512 hk hbad] at hs
      cases hs
    rw [hst, steps_good l hl512 hlb]
    simp only
    have hlb2 : ∀ w ∈ l, 0 ≤ w.1 ∧ w.2 ≤ 2097152 := fun w hw => by
      have := hlb w hw
      unfold bad at this
      omega
    unfold rests at hre
    rw [if_neg (by omega)] at hre
    obtain ⟨q1, q2, _⟩ := rst_far hr l none hlb2 (fun q hq => by cases hq) hre
    have hlb3 : ∀ w ∈ l, 0 ≤ w.1 ∧ w.1 < w.2 ∧ w.2 ≤ ((2097152 : Nat) : Int) := fun w hw => by
      have h7 := hlb2 w hw
      have h8 := q1 w hw
      omega
    rw [← cnt_open hr.1 2097152 p (fun w hw => by have := hpb w hw; omega) I.pw, ← cnt_open hr.1 2097152 l hlb3 q2]
    refine cnt_le _ (fun s hs2 => ?_)
    obtain ⟨w, hw, h5, h6⟩ := (open_iff p s).1 hs2
    exact I.fil (fun s => isOpen l s = true) (fill_open hr.1 q2 q1) (open_need h0 hc) w hw s h5 h6
theorem range_from (l : List Win) (v : Valve) : ∀ (p : List Int) (k : Nat), (∀ h ∈ p, isOpen l (h + v.delay) = true) → hitsFrom l v k p = (List.range' k p.length).map fun i : Nat => (i : Int) := by
  intro p
  induction p with
  | nil => intro k _; rfl
  | cons h r ih =>
    intro k hp
    rw [from_open _ _ _ _ _ (hp h List.mem_cons_self), ih (k + 1) (fun g hg => hp g (List.mem_cons_of_mem _ hg))]
    simp [List.range'_succ]
/-- All that was detected is hit. -/
theorem plan_seen {v : Valve} {hits : List Int} (h : check v hits = 0) : Jt.hits (plan v hits).1 v hits = ((List.range hits.length).map fun i : Nat => (i : Int), 0) := by
  obtain ⟨e, I⟩ := plan_inv h
  obtain ⟨h0, h512, h2⟩ := check_zero h
  obtain ⟨hd, hh, hr⟩ := chk_zero (d := v.delay) (h := v.hold) (r := v.rest) h0
  unfold Jt.hits
  rw [if_neg (by omega), range_from _ v hits 0 (fun g hg => ?_), List.range_eq_range']
  rw [e]
  obtain ⟨w, hw, h5, h6⟩ := I.cov g hg
  exact (open_iff _ _).2 ⟨w, hw, by omega, by omega⟩
theorem plan_fail {v : Valve} {hits : List Int} (h : check v hits ≠ 0) (l : List Win) : plan v hits = ([], check v hits) ∧ Jt.hits l v hits = ([], check v hits) := ⟨plan_err h, by unfold Jt.hits; rw [if_pos h]⟩
end Jt
end Go.Proofs.Ytaaoeiffpldjmaa
