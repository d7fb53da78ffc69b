/- Plain laws of the journal: what was put is read again, in one form only; what is cut off; what follows. No program in sight. -/
import Derived.Test.YtcpdfgckfefboaaJnAppB
namespace Go.Proofs.Ytcpdfgckfefboaa
namespace Jn
theorem takeN_putM (z : List Int) (most : Int) (hz : z.length < 9223372036854775808) (hm : (z.length : Int) ≤ most) (hi : ∀ n ∈ z, -9223372036854775808 ≤ n ∧ n ≤ 9223372036854775807) (rest : List UInt8) :
    Wp.takeN (Wp.putN z ++ rest) most = (z, (Wp.putN z).length, 0) := by
  have h := Wp.takeL_put z.length hz most hm (z.flatMap Wp.putI ++ rest)
  unfold Wp.putN Wp.takeN
  rw [List.append_assoc, h]
  rw [if_pos rfl]
  simp only [Int.toNat_natCast]
  rw [Wp.goList_put z _ rest [] hi, List.length_append, List.nil_append]
theorem ints_put : ∀ (xs : List Int) (rest : List UInt8), (∀ n ∈ xs, -9223372036854775808 ≤ n ∧ n ≤ 9223372036854775807) → ints xs.length (xs.flatMap Wp.putI ++ rest) = (xs, rest, 0) := by
  intro xs
  induction xs with
  | nil => intro rest _; simp [ints]
  | cons x xs ih =>
    intro rest h
    have hx := h x (List.mem_cons_self ..)
    have ht := Wp.takeI_put x hx.1 hx.2 (xs.flatMap Wp.putI ++ rest)
    have h2 := ih rest (fun n hn => h n (List.mem_cons_of_mem _ hn))
    rw [List.flatMap_cons, List.append_assoc, List.length_cons, ints_ok (by rw [ht]), ht]
    simp only [List.drop_left, h2]
theorem ints_form : ∀ (n : Nat) (l : List UInt8), (ints n l).2.2 = 0 → l = (ints n l).1.flatMap Wp.putI ++ (ints n l).2.1 ∧ (ints n l).1.length = n := by
  intro n
  induction n with
  | zero => intro l _; simp [ints]
  | succ n ih =>
    intro l h
    by_cases h0 : (Wp.takeI l).2.2 = 0
    · rcases hT : Wp.takeI l with ⟨x, k, e⟩
      rw [hT] at h0
      simp only at h0
      subst h0
      rw [ints_ok (by rw [hT])] at h ⊢
      rw [hT] at h ⊢
      simp only at h ⊢
      obtain ⟨h1, h2⟩ := ih _ h
      obtain ⟨h3, _⟩ := Wp.takeI_form hT
      refine ⟨?_, by simp [h2]⟩
      rw [List.flatMap_cons, List.append_assoc, ← h1, ← h3, List.take_append_drop]
    · rw [ints_bad h0] at h
      exact absurd h h0
theorem bytes_eq (e : Ev) : bytes e = [e.kind, e.at_, e.a, e.b, e.c, e.d].flatMap Wp.putI ++ Wp.putN e.mix := by
  unfold bytes
  simp [List.append_assoc]
theorem ok_i64 {e : Ev} (h : check e = 0) : (∀ n ∈ [e.kind, e.at_, e.a, e.b, e.c, e.d], -9223372036854775808 ≤ n ∧ n ≤ 9223372036854775807) ∧ (∀ n ∈ e.mix, -9223372036854775808 ≤ n ∧ n ≤ 9223372036854775807) ∧ e.mix.length ≤ 16 := by
  obtain ⟨q1, q2, q3, q4, q5, q6, q7, q8⟩ := check_ok h
  unfold badK at q1
  unfold badT at q2
  unfold badN at q3 q4 q5 q6
  refine ⟨?_, fun n hn => by have := q8 n hn; unfold badM at this; omega, q7⟩
  intro n hn
  simp only [List.mem_cons, List.not_mem_nil, or_false] at hn
  rcases hn with rfl | rfl | rfl | rfl | rfl | rfl <;> omega
/-- What was put is got again. -/
theorem get_bytes {e : Ev} (h : check e = 0) : get (bytes e) = (e, 0) := by
  obtain ⟨h1, h2, h3⟩ := ok_i64 h
  have hi := ints_put [e.kind, e.at_, e.a, e.b, e.c, e.d] (Wp.putN e.mix) h1
  have ht := takeN_putM e.mix 16 (by omega) (by omega) h2 []
  rw [List.append_nil] at ht
  rw [← bytes_eq] at hi
  rw [show [e.kind, e.at_, e.a, e.b, e.c, e.d].length = 6 from rfl] at hi
  unfold get
  rw [hi]
  simp only
  rw [ht]
  simp only
  rw [if_neg (by simp), if_neg (by simp), if_neg (by omega)]
  have he : ev [e.kind, e.at_, e.a, e.b, e.c, e.d] e.mix = e := rfl
  rw [he, h, if_neg (by simp)]
/-- What is got has one form. -/
theorem get_form {l : List UInt8} (h : (get l).2 = 0) : check (get l).1 = 0 ∧ bytes (get l).1 = l := by
  unfold get at h ⊢
  by_cases h1 : (ints 6 l).2.2 = 0
  case neg => rw [if_pos h1] at h; exact absurd h h1
  rw [if_neg (by omega)] at h ⊢
  obtain ⟨hl, hn⟩ := ints_form 6 l h1
  generalize hX : (ints 6 l).1 = xs at *
  generalize hR : (ints 6 l).2.1 = r at *
  rcases hT : Wp.takeN r 16 with ⟨z, k, er⟩
  rw [hT] at h
  simp only at h ⊢
  by_cases h2 : er = 0
  case neg => rw [if_pos h2] at h; exact absurd h h2
  subst h2
  rw [if_neg (by simp)] at h ⊢
  by_cases h3 : k < r.length
  case pos => rw [if_pos h3] at h; exact absurd h (by decide)
  rw [if_neg h3] at h ⊢
  by_cases h4 : check (ev xs z) = 0
  case neg => rw [if_pos h4] at h; exact absurd h h4
  rw [if_neg (by omega)] at h ⊢
  refine ⟨h4, ?_⟩
  obtain ⟨hz, _⟩ := Wp.takeN_form hT
  rw [List.take_of_length_le (by omega)] at hz
  match xs, hn with
  | [x0, x1, x2, x3, x4, x5], _ =>
    rw [bytes_eq]
    show [x0, x1, x2, x3, x4, x5].flatMap Wp.putI ++ Wp.putN z = l
    rw [hl, hz]
theorem get_zero {l : List UInt8} (h : (get l).2 ≠ 0) : (get l).1 = zero := by
  unfold get at h ⊢
  by_cases h1 : (ints 6 l).2.2 = 0
  case neg => rw [if_pos h1]
  rw [if_neg (by omega)] at h ⊢
  by_cases h2 : (Wp.takeN (ints 6 l).2.1 16).2.2 = 0
  case neg => rw [if_pos h2]
  rw [if_neg (by omega)] at h ⊢
  by_cases h3 : (Wp.takeN (ints 6 l).2.1 16).2.1 < (ints 6 l).2.1.length
  case pos => rw [if_pos h3]
  rw [if_neg h3] at h ⊢
  by_cases h4 : check (ev (ints 6 l).1 (Wp.takeN (ints 6 l).2.1 16).1) = 0
  case neg => rw [if_pos h4]
  rw [if_neg (by omega)] at h
  exact absurd rfl h
/-- The events that are got have few masses. -/
theorem get_mix (l : List UInt8) : (get l).1.mix.length ≤ 16 := by
  by_cases h : (get l).2 = 0
  · exact (check_ok (get_form h).1).2.2.2.2.2.2.1
  · rw [get_zero h]; decide

/-! ### journals -/
def jr (es : List Ev) : List UInt8 := es.flatMap fun e => Cr.frame (bytes e)
/-- Valid events, none before the one that it follows. -/
def Up : Int → List Ev → Prop
  | _, [] => True
  | t, e :: r => check e = 0 ∧ t ≤ e.at_ ∧ Up e.at_ r
def lastAt : Int → List Ev → Int
  | t, [] => t
  | _, e :: r => lastAt e.at_ r
theorem lastAt_snoc : ∀ (es : List Ev) (t : Int) (e : Ev), lastAt t (es ++ [e]) = e.at_
  | [], _, _ => rfl
  | a :: r, _, e => lastAt_snoc r a.at_ e
theorem Up.snoc : ∀ {es : List Ev} {t : Int} {e : Ev}, Up t es → check e = 0 → lastAt t es ≤ e.at_ → Up t (es ++ [e])
  | [], _, _, _, hc, ht => ⟨hc, ht, trivial⟩
  | _ :: _, _, _, h, hc, ht => ⟨h.1, h.2.1, Up.snoc h.2.2 hc ht⟩
theorem Up.take : ∀ {es : List Ev} {t : Int} (k : Nat), Up t es → Up t (es.take k)
  | [], _, k, _ => by rw [List.take_nil]; trivial
  | _ :: _, _, 0, _ => trivial
  | _ :: _, _, k + 1, h => ⟨h.1, h.2.1, Up.take k h.2.2⟩
theorem Up.all : ∀ {es : List Ev} {t : Int}, Up t es → ∀ e ∈ es, check e = 0
  | a :: r, _, h, e, he => by
    rcases List.mem_cons.1 he with rfl | h1
    · exact h.1
    · exact Up.all h.2.2 e h1
theorem jr_cons (e : Ev) (r : List Ev) : jr (e :: r) = Cr.frame (bytes e) ++ jr r := rfl
theorem jr_append (a b : List Ev) : jr (a ++ b) = jr a ++ jr b := by simp [jr]
theorem jr_one (e : Ev) : jr [e] = Cr.frame (bytes e) := by simp [jr]
theorem frame_ge (c : List UInt8) : 5 ≤ (Cr.frame c).length := by
  have := (Wp.varint_len c.length).1
  unfold Cr.frame
  simp only [List.length_append, Cr.four_length]
  omega
theorem jr_ge : ∀ es : List Ev, es.length ≤ (jr es).length
  | [] => by simp [jr]
  | e :: r => by
    have := jr_ge r
    have := frame_ge (bytes e)
    rw [jr_cons, List.length_append, List.length_cons]
    omega
theorem jr_le : ∀ es : List Ev, (∀ e ∈ es, check e = 0) → (jr es).length ≤ 400 * es.length
  | [], _ => by simp [jr]
  | e :: r, h => by
    have := jr_le r (fun x hx => h x (List.mem_cons_of_mem _ hx))
    have := frame_len (h e (List.mem_cons_self ..))
    rw [jr_cons, List.length_append, List.length_cons]
    omega
theorem opn_bytes {e : Ev} (h : check e = 0) (rest : List UInt8) : Cr.opn (Cr.frame (bytes e) ++ rest) = (bytes e, (Cr.frame (bytes e)).length, 0) :=
  Cr.opn_frame (bytes e) rest (by have := bytes_len h; omega)
theorem rec_step (f : Nat) (b : List UInt8) (p : Nat) (t : Int) (acc : List Ev) (e : Ev) (rest : List UInt8) (hd : b.drop p = Cr.frame (bytes e) ++ rest) (hc : check e = 0) (ht : t ≤ e.at_) :
    rec (f + 1) b p t acc = rec f b (p + (Cr.frame (bytes e)).length) e.at_ (acc ++ [e]) := by
  have ho := opn_bytes hc rest
  simp only [rec]
  rw [hd, ho]
  simp only
  rw [get_bytes hc]
  simp only
  rw [if_neg (by simp), if_neg (by omega)]
theorem rec_end (f : Nat) (b : List UInt8) (p : Nat) (t : Int) (acc : List Ev) (h : (Cr.opn (b.drop p)).2.2 ≠ 0) : rec f b p t acc = (acc, p) := by
  cases f with
  | zero => rfl
  | succ f =>
    simp only [rec]
    rw [if_pos h]
theorem rec_run : ∀ (es : List Ev) (f : Nat) (pre t : List UInt8) (tt : Int) (acc : List Ev), Up tt es → es.length ≤ f →
    rec f (pre ++ (jr es ++ t)) pre.length tt acc = rec (f - es.length) (pre ++ (jr es ++ t)) (pre.length + (jr es).length) (lastAt tt es) (acc ++ es) := by
  intro es
  induction es with
  | nil => intro f pre t tt acc _ _; simp [jr, lastAt]
  | cons e es ih =>
    intro f pre t tt acc h hf
    obtain ⟨g, rfl⟩ : ∃ g, f = g + 1 := ⟨f - 1, by simp at hf; omega⟩
    have hb : pre ++ (jr (e :: es) ++ t) = (pre ++ Cr.frame (bytes e)) ++ (jr es ++ t) := by rw [jr_cons]; simp only [List.append_assoc]
    rw [rec_step g _ pre.length tt acc e (jr es ++ t) (by rw [List.drop_left, jr_cons, List.append_assoc]) h.1 h.2.1]
    have := ih g (pre ++ Cr.frame (bytes e)) t e.at_ (acc ++ [e]) h.2.2 (by simp at hf; omega)
    rw [← hb, List.length_append] at this
    rw [this]
    have e1 : g + 1 - (e :: es).length = g - es.length := by simp
    have e2 : pre.length + (jr (e :: es)).length = pre.length + (Cr.frame (bytes e)).length + (jr es).length := by rw [jr_cons, List.length_append]; omega
    rw [e1, e2, List.append_assoc]
    rfl
/-- The journal of valid events, and something that is no frame. -/
theorem recover_run (es : List Ev) (t : List UInt8) (h : Up 0 es) (ht : (Cr.opn t).2.2 ≠ 0) : recover (jr es ++ t) = (es, (jr es).length) := by
  have hl := jr_ge es
  have h1 := rec_run es ((jr es ++ t).length + 1) [] t 0 [] h (by rw [List.length_append]; omega)
  unfold recover
  rw [List.nil_append, List.nil_append, List.length_nil, Nat.zero_add] at h1
  rw [h1, rec_end _ _ _ _ _ (by rw [List.drop_left]; exact ht)]
theorem opn_nil : (Cr.opn []).2.2 ≠ 0 := by decide
theorem recover_jr (es : List Ev) (h : Up 0 es) : recover (jr es) = (es, (jr es).length) := by
  have := recover_run es [] h opn_nil
  rwa [List.append_nil] at this
/-- A frame that ends too early is no frame. -/
theorem opn_cut (c : List UInt8) (hc : c.length ≤ 65536) (p : Nat) (hp : p < (Cr.frame c).length) : (Cr.opn ((Cr.frame c).take p)).2.2 ≠ 0 := by
  intro h
  rcases ho : Cr.opn ((Cr.frame c).take p) with ⟨d, k, e⟩
  rw [ho] at h
  simp only at h
  subst h
  obtain ⟨hd, ht, hk, hkl⟩ := Cr.opn_form ho
  have h2 := Cr.opn_frame d ((Cr.frame c).drop k) hd
  have e2 : Cr.frame d ++ (Cr.frame c).drop k = Cr.frame c ++ [] := by
    rw [← ht, List.take_take, List.length_take] at *
    rw [List.append_nil, show min k p = k by omega, List.take_append_drop]
  have h3 := Cr.opn_frame c [] hc
  rw [e2, h3] at h2
  simp only [Prod.mk.injEq, and_true] at h2
  rw [List.length_take] at hkl
  omega
theorem jr_parts (es : List Ev) (k : Nat) : jr es = jr (es.take k) ++ jr (es.drop k) := by
  rw [← jr_append, List.take_append_drop]
theorem jr_snoc (es : List Ev) (k : Nat) (h : k < es.length) : jr (es.take (k + 1)) = jr (es.take k) ++ Cr.frame (bytes es[k]) := by
  rw [List.take_succ_eq_append_getElem h, jr_append, jr_one]
/-- A journal, cut off: the first k events, if their frames fit and the next one's does not. -/
theorem recover_cut (es : List Ev) (h : Up 0 es) (cut k : Nat) (hk : k ≤ es.length) (hin : (jr (es.take k)).length ≤ cut)
    (hout : k = es.length ∨ cut < (jr (es.take (k + 1))).length) : recover ((jr es).take cut) = (es.take k, (jr (es.take k)).length) := by
  have e : (jr es).take cut = jr (es.take k) ++ (jr (es.drop k)).take (cut - (jr (es.take k)).length) := by
    conv => lhs; rw [jr_parts es k]
    rw [List.take_append, List.take_of_length_le hin]
  rw [e]
  refine recover_run (es.take k) _ (h.take k) ?_
  rcases hout with rfl | hout
  · rw [List.drop_length]
    simp only [jr, List.flatMap_nil, List.take_nil]
    exact opn_nil
  · by_cases hkl : k < es.length
    · rw [jr_snoc es k hkl, List.length_append] at hout
      have hd : jr (es.drop k) = Cr.frame (bytes es[k]) ++ jr (es.drop (k + 1)) := by
        rw [List.drop_eq_getElem_cons hkl, jr_cons]
      rw [hd, List.take_append_of_le_length (by omega)]
      exact opn_cut _ (by have := bytes_len (h.all _ (List.getElem_mem hkl)); omega) _ (by omega)
    · rw [List.drop_eq_nil_of_le (by omega)]
      simp only [jr, List.flatMap_nil, List.take_nil]
      exact opn_nil
theorem opn_ge {b : List UInt8} (h : (Cr.opn b).2.2 = 0) : 5 ≤ (Cr.opn b).2.1 := by
  rcases ho : Cr.opn b with ⟨c, k, e⟩
  rw [ho] at h
  simp only at h
  subst h
  obtain ⟨_, _, hk, _⟩ := Cr.opn_form ho
  have := frame_ge c
  simp only
  omega
/-- Whatever stands there, the events so far stay, and the place moves exactly with a further event. -/
theorem rec_more : ∀ (f : Nat) (b : List UInt8) (p : Nat) (t : Int) (acc : List Ev), ∃ more q, rec f b p t acc = (acc ++ more, p + q) ∧ (q = 0 ↔ more = []) := by
  intro f
  induction f with
  | zero => intro b p t acc; exact ⟨[], 0, by simp [rec], by simp⟩
  | succ f ih =>
    intro b p t acc
    simp only [rec]
    by_cases h1 : (Cr.opn (b.drop p)).2.2 = 0
    case neg => rw [if_pos h1]; exact ⟨[], 0, by simp, by simp⟩
    rw [if_neg (by omega)]
    by_cases h2 : (get (Cr.opn (b.drop p)).1).2 ≠ 0 ∨ (get (Cr.opn (b.drop p)).1).1.at_ < t
    · rw [if_pos h2]; exact ⟨[], 0, by simp, by simp⟩
    · rw [if_neg h2]
      have hk := opn_ge h1
      obtain ⟨more, q, he, _⟩ := ih b (p + (Cr.opn (b.drop p)).2.1) (get (Cr.opn (b.drop p)).1).1.at_ (acc ++ [(get (Cr.opn (b.drop p)).1).1])
      refine ⟨(get (Cr.opn (b.drop p)).1).1 :: more, (Cr.opn (b.drop p)).2.1 + q, ?_, ?_⟩
      · rw [he]; simp; omega
      · constructor
        · intro hq; omega
        · intro hm; cases hm
/-- Whatever follows, the events are recovered first. -/
theorem recover_follows (es : List Ev) (t : List UInt8) (h : Up 0 es) : ∃ more q, recover (jr es ++ t) = (es ++ more, (jr es).length + q) ∧ (q = 0 ↔ more = []) := by
  have hl := jr_ge es
  have h1 := rec_run es ((jr es ++ t).length + 1) [] t 0 [] h (by rw [List.length_append]; omega)
  unfold recover
  rw [List.nil_append, List.nil_append, List.length_nil, Nat.zero_add] at h1
  rw [h1]
  exact rec_more _ _ _ _ _
theorem rec_form : ∀ (f : Nat) (b : List UInt8) (p : Nat) (t : Int) (acc : List Ev), p ≤ b.length →
    ∃ es, (rec f b p t acc).1 = acc ++ es ∧ Up t es ∧ (rec f b p t acc).2 = p + (jr es).length ∧ (b.drop p).take (jr es).length = jr es ∧ p + (jr es).length ≤ b.length := by
  intro f
  induction f with
  | zero => intro b p t acc hp; exact ⟨[], by simp [rec], trivial, by simp [rec, jr], by simp [jr], by simp [jr]; exact hp⟩
  | succ f ih =>
    intro b p t acc hp
    simp only [rec]
    by_cases h1 : (Cr.opn (b.drop p)).2.2 = 0
    case neg => rw [if_pos h1]; exact ⟨[], by simp, trivial, by simp [jr], by simp [jr], by simp [jr]; exact hp⟩
    rw [if_neg (by omega)]
    by_cases h2 : (get (Cr.opn (b.drop p)).1).2 ≠ 0 ∨ (get (Cr.opn (b.drop p)).1).1.at_ < t
    · rw [if_pos h2]; exact ⟨[], by simp, trivial, by simp [jr], by simp [jr], by simp [jr]; exact hp⟩
    · rw [if_neg h2]
      have hg0 : (get (Cr.opn (b.drop p)).1).2 = 0 := by omega
      have hg1 : t ≤ (get (Cr.opn (b.drop p)).1).1.at_ := by omega
      obtain ⟨hc, hby⟩ := get_form hg0
      rcases ho : Cr.opn (b.drop p) with ⟨c, k, e⟩
      rw [ho] at h1 hg0 hg1 hc hby
      simp only at h1 hg0 hg1 hc hby ⊢
      subst h1
      obtain ⟨_, htk, hk, hkl⟩ := Cr.opn_form ho
      rw [List.length_drop] at hkl
      obtain ⟨es, e1, e2, e3, e4, e5⟩ := ih b (p + k) (get c).1.at_ (acc ++ [(get c).1]) (by omega)
      have hfl : (Cr.frame (bytes (get c).1)).length = k := by rw [hby, hk]
      refine ⟨(get c).1 :: es, by rw [e1]; simp, ⟨hc, hg1, e2⟩, ?_, ?_, ?_⟩
      · rw [e3, jr_cons, List.length_append, hfl]; omega
      · rw [jr_cons, List.length_append, hfl, List.take_add, htk, List.drop_drop, e4, hby]
      · rw [jr_cons, List.length_append, hfl]; omega
/-- What is recovered is a journal. -/
theorem recover_form (b : List UInt8) : Up 0 (recover b).1 ∧ (recover b).2 = (jr (recover b).1).length ∧ b.take (recover b).2 = jr (recover b).1 ∧ (recover b).2 ≤ b.length := by
  obtain ⟨es, e1, e2, e3, e4, e5⟩ := rec_form (b.length + 1) b 0 0 [] (by omega)
  unfold recover
  rw [List.nil_append] at e1
  rw [Nat.zero_add] at e3 e5
  rw [List.drop_zero] at e4
  rw [e1, e3]
  exact ⟨e2, rfl, e4, e5⟩

/-! ### what is written -/
def put1 (acc : List Ev) (e : Ev) : List Ev := if e.at_ < lastAt 0 acc ∨ check e ≠ 0 then acc else acc ++ [e]
def kept (l : List Ev) : List Ev := l.foldl put1 []
def ends (es : List Ev) : List Int := (List.range es.length).map fun k => ((jr (es.take (k + 1))).length : Int)
theorem kept_snoc (l : List Ev) (k : Nat) (h : k < l.length) : kept (l.take (k + 1)) = put1 (kept (l.take k)) l[k] := by
  unfold kept
  rw [List.take_succ_eq_append_getElem h, List.foldl_append]
  rfl
theorem put1_up {acc : List Ev} (h : Up 0 acc) (e : Ev) : Up 0 (put1 acc e) := by
  unfold put1
  split
  · exact h
  · exact h.snoc (by omega) (by omega)
theorem fold_up : ∀ (l acc : List Ev), Up 0 acc → Up 0 (l.foldl put1 acc)
  | [], _, h => h
  | e :: r, _, h => fold_up r _ (put1_up h e)
theorem kept_up (l : List Ev) : Up 0 (kept l) := fold_up l [] trivial
theorem fold_len : ∀ (l acc : List Ev), (l.foldl put1 acc).length ≤ acc.length + l.length
  | [], _ => by simp only [List.foldl_nil, List.length_nil]; omega
  | e :: r, acc => by
    have h1 := fold_len r (put1 acc e)
    have h2 : (put1 acc e).length ≤ acc.length + 1 := by
      unfold put1
      split <;> simp
    simp only [List.foldl_cons, List.length_cons]
    omega
theorem kept_len (l : List Ev) : (kept l).length ≤ l.length := by
  have := fold_len l []
  rw [List.length_nil, Nat.zero_add] at this
  exact this
theorem ends_length (es : List Ev) : (ends es).length = es.length := by simp [ends]
theorem ends_snoc (es : List Ev) (e : Ev) : ends (es ++ [e]) = ends es ++ [((jr (es ++ [e])).length : Int)] := by
  unfold ends
  rw [List.length_append, List.length_singleton, List.range_succ, List.map_append]
  congr 1
  · apply List.map_congr_left
    intro k hk
    have := List.mem_range.1 hk
    rw [List.take_append_of_le_length (by omega)]
  · simp only [List.map_cons, List.map_nil]
    rw [List.take_of_length_le (by simp)]
theorem ends_get (es : List Ev) (k : Nat) (h : k < es.length) : (ends es)[k]? = some ((jr (es.take (k + 1))).length : Int) := by
  unfold ends
  rw [List.getElem?_map, List.getElem?_range h]
  rfl
theorem lastAt_last : ∀ (es : List Ev) (h : 0 < es.length) (t : Int), lastAt t es = (es[es.length - 1]'(by omega)).at_
  | [e], _, _ => rfl
  | e :: f :: r, _, t => by
    have := lastAt_last (f :: r) (by simp) e.at_
    simp only [lastAt] at this ⊢
    rw [this]
    simp
end Jn
end Go.Proofs.Ytcpdfgckfefboaa
