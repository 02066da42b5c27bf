/- Cuts of a string at its tokens; strings set together; what the laws on prefixes, blanks and brackets want of the lexer. -/
import Derived.Test.YtdijffojppjmfaaDoorRe
set_option linter.unusedVariables false
set_option linter.unusedSimpArgs false
namespace Bir
theorem split_len {s a r : Str} (h : s = a ++ r) : s.length - r.length = a.length := by rw [h, List.length_append]; omega
theorem L.shift {off : Nat} {s : Str} {l : List Tok} (h : L off s l) : ∀ off', ∃ l', L off' s l' ∧ l'.map strip = l.map strip := by
  induction h with
  | nil off s h => exact fun off' => ⟨[], .nil _ _ h, rfl⟩
  | cons off s k t l h1 h2 _ ih =>
    intro off'
    obtain ⟨l', h3, h4⟩ := ih (off' + (s.length - (skip false s).length) + t.length)
    exact ⟨_, .cons _ _ _ _ _ h1 h2 h3, by simp [strip, h4]⟩
/-- What stands behind a skipped beginning. -/
theorem L.gap {off : Nat} {g y : Str} {l : List Tok} (hg : ∀ z, skip false (g ++ z) = skip false z) (h : L (off + g.length) y l) : L off (g ++ y) l := by
  have hk := skip_le false y
  generalize ho : off + g.length = o at h
  cases h with
  | nil _ _ h => exact .nil _ _ ((hg y).trans h)
  | cons _ _ k t l h1 h2 h3 =>
    have e : off + ((g ++ y).length - (skip false (g ++ y)).length) = o + (y.length - (skip false y).length) := by rw [hg, List.length_append]; omega
    rw [← e]
    refine .cons _ _ _ _ _ (by rw [hg]; exact h1) (by rw [hg]; exact h2) ?_
    rw [hg, List.length_append, show off + (g.length + y.length - (skip false y).length) = o + (y.length - (skip false y).length) from by omega]
    exact h3
/-- Behind a string whose end is in no remark, what no token takes in. -/
theorem LC.app {off : Nat} {a : Str} {p : List Tok} (h : LC off a p) : ∀ {x : Str} {q : List Tok}, (∀ c, x.head? = some c → Safe c) → L (off + a.length) x q → L off (a ++ x) (p ++ q) := by
  induction h with
  | nil off s h => exact fun hx hq => hq.gap h
  | cons off s k t l h1 h2 _ ih =>
    intro x q hx hq
    have hlt := (first_spec h2).1.length_le
    have hk := skip_le false s
    have hs := skip_app false s x h1 (fun c hc => (hx c hc).slash)
    have e : off + ((s ++ x).length - (skip false (s ++ x)).length) = off + (s.length - (skip false s).length) := by rw [hs, List.length_append, List.length_append]; omega
    rw [List.cons_append, ← e]
    refine .cons _ _ _ _ _ (by rw [hs]; simp [h1]) (by rw [hs]; exact first_app h2 (.inr hx)) ?_
    rw [e, hs, List.drop_append_of_le_length hlt]
    refine ih hx ?_
    rw [List.length_drop, show off + (s.length - (skip false s).length) + t.length + ((skip false s).length - t.length) = off + s.length from by omega]
    exact hq
/-- A line feed closes. -/
theorem L.feed {off : Nat} {a : Str} {p : List Tok} (h : L off a p) : LC off (a ++ [10]) p := by
  induction h with
  | nil off s h => exact .nil _ _ fun y => by rw [List.append_assoc]; exact skip_close false s h y
  | cons off s k t l h1 h2 _ ih =>
    have hlt := (first_spec h2).1.length_le
    have hk := skip_le false s
    have hs := skip_app false s [10] h1 (fun c hc => by cases hc; decide)
    have e : off + ((s ++ [10]).length - (skip false (s ++ [10])).length) = off + (s.length - (skip false s).length) := by rw [hs, List.length_append, List.length_append]; omega
    rw [← e]
    refine .cons _ _ _ _ _ (by rw [hs]; simp) (by rw [hs]; exact first_app h2 (.inr fun c hc => by cases hc; exact safe_feed)) ?_
    rw [e, hs, List.drop_append_of_le_length hlt]
    exact ih
/-- Ahead of a token a string is cut. -/
theorem L.cut : ∀ {p : List Tok} {off : Nat} {s : Str} {t : Tok} {l : List Tok}, L off s (p ++ t :: l) → ∃ a b, s = a ++ b ∧ t.off = off + a.length ∧ LC off a p ∧ L (off + a.length) b (t :: l) ∧ skip false b = b
  | [], off, s, t, l, h => by
    rw [List.nil_append] at h
    cases h with
    | cons _ _ k u _ h1 h2 h3 =>
      obtain ⟨a, e, hy⟩ := skip_split false s h1
      have hi := skip_idem false s
      have hl := split_len e
      refine ⟨a, skip false s, e, by rw [hl], .nil _ _ hy, ?_, hi⟩
      have : L (off + a.length) (skip false s) (⟨k, u, off + a.length + ((skip false s).length - (skip false (skip false s)).length)⟩ :: l) := by
        refine .cons _ _ _ _ _ (by rw [hi]; exact h1) (by rw [hi]; exact h2) ?_
        rw [hi, Nat.sub_self, Nat.add_zero, ← hl]
        exact h3
      rw [hi, Nat.sub_self, Nat.add_zero] at this
      rw [hl]
      exact this
  | u :: p, off, s, t, l, h => by
    rw [List.cons_append] at h
    cases h with
    | cons _ _ k x _ h1 h2 h3 =>
      obtain ⟨a, b, e, ho, hc, hb, hs⟩ := L.cut h3
      obtain ⟨g, eg, hy⟩ := skip_split false s h1
      have hl := split_len eg
      obtain ⟨hp, hne, _⟩ := first_spec h2
      have er : skip false s = x ++ (a ++ b) := by
        rw [← e]
        obtain ⟨z, hz⟩ := hp
        rw [← hz, List.drop_left]
      have hi := skip_idem false s
      have hxa : skip false (x ++ a) = x ++ a := by
        refine skip_front (v := b) (by simp [hne]) ?_
        rw [List.append_assoc, ← er]
        exact hi
      have hf : first (x ++ a) = some (k, x) := by
        refine first_front (v := b) ?_ (by simp)
        rw [List.append_assoc, ← er]
        exact h2
      refine ⟨g ++ (x ++ a), b, by rw [eg, er]; simp, ?_, ?_, ?_, hs⟩
      · rw [ho, hl]; simp; omega
      · have hsk : skip false (g ++ (x ++ a)) = x ++ a := (hy _).trans hxa
        have e2 : off + (s.length - (skip false s).length) = off + ((g ++ (x ++ a)).length - (skip false (g ++ (x ++ a))).length) := by rw [hsk, hl]; simp
        rw [e2]
        refine .cons _ _ _ _ _ (by rw [hsk]; simp [hne]) (by rw [hsk]; exact hf) ?_
        rw [← e2, hsk, List.drop_left]
        exact hc
      · rw [show off + (g ++ (x ++ a)).length = off + (s.length - (skip false s).length) + x.length + a.length from by rw [hl]; simp; omega]
        exact hb
/-- Behind a token a string is cut. -/
theorem L.cutBehind : ∀ {p : List Tok} {off : Nat} {s : Str} {t : Tok} {l : List Tok}, L off s (p ++ t :: l) → ∃ a b, s = a ++ b ∧ t.off + t.text.length = off + a.length ∧ LC off a (p ++ [t]) ∧ L (off + a.length) b l
  | [], off, s, t, l, h => by
    rw [List.nil_append] at h
    cases h with
    | cons _ _ k u _ h1 h2 h3 =>
      obtain ⟨g, eg, hy⟩ := skip_split false s h1
      have hl := split_len eg
      obtain ⟨hp, hne, _⟩ := first_spec h2
      obtain ⟨z, hz⟩ := hp
      have hi := skip_idem false s
      have hu : skip false u = u := skip_front (v := z) hne (by rw [hz]; exact hi)
      have hf : first u = some (k, u) := first_front (v := z) (by rw [hz]; exact h2) (Nat.le_refl _)
      have hd : (skip false s).drop u.length = z := by rw [← hz, List.drop_left]
      have hsk : skip false (g ++ u) = u := (hy _).trans hu
      refine ⟨g ++ u, z, by rw [List.append_assoc, hz]; exact eg, by rw [hl]; simp; omega, ?_, ?_⟩
      · have e2 : off + (s.length - (skip false s).length) = off + ((g ++ u).length - (skip false (g ++ u)).length) := by rw [hsk, hl]; simp
        rw [List.nil_append, e2]
        refine .cons _ _ _ _ _ (by rw [hsk]; exact hne) (by rw [hsk]; exact hf) ?_
        rw [hsk, List.drop_length]
        exact .nil _ _ fun y => rfl
      · rw [hd, hl] at h3
        rw [List.length_append, ← Nat.add_assoc]
        exact h3
  | u :: p, off, s, t, l, h => by
    rw [List.cons_append] at h
    cases h with
    | cons _ _ k x _ h1 h2 h3 =>
      obtain ⟨a, b, e, ho, hc, hb⟩ := L.cutBehind h3
      obtain ⟨g, eg, hy⟩ := skip_split false s h1
      have hl := split_len eg
      obtain ⟨hp, hne, _⟩ := first_spec h2
      have er : skip false s = x ++ (a ++ b) := by
        rw [← e]
        obtain ⟨z, hz⟩ := hp
        rw [← hz, List.drop_left]
      have hi := skip_idem false s
      have hxa : skip false (x ++ a) = x ++ a := by
        refine skip_front (v := b) (by simp [hne]) ?_
        rw [List.append_assoc, ← er]
        exact hi
      have hf : first (x ++ a) = some (k, x) := by
        refine first_front (v := b) ?_ (by simp)
        rw [List.append_assoc, ← er]
        exact h2
      refine ⟨g ++ (x ++ a), b, by rw [eg, er]; simp, ?_, ?_, ?_⟩
      · rw [ho, hl]; simp; omega
      · have hsk : skip false (g ++ (x ++ a)) = x ++ a := (hy _).trans hxa
        have e2 : off + (s.length - (skip false s).length) = off + ((g ++ (x ++ a)).length - (skip false (g ++ (x ++ a))).length) := by rw [hsk, hl]; simp
        rw [List.cons_append, e2]
        refine .cons _ _ _ _ _ (by rw [hsk]; simp [hne]) (by rw [hsk]; exact hf) ?_
        rw [← e2, hsk, List.drop_left]
        exact hc
      · rw [show off + (g ++ (x ++ a)).length = off + (s.length - (skip false s).length) + x.length + a.length from by rw [hl]; simp; omega]
        exact hb
/-! ### what the laws want -/
/-- The string up to a token. -/
theorem lex_prefix {s : Str} {p l : List Tok} {t : Tok} (h : lex s = .ok (p ++ t :: l)) : t.off ≤ s.length ∧ lex (s.take t.off) = .ok p := by
  obtain ⟨a, b, rfl, ho, hc, _, _⟩ := (L.of_lex h).cut
  rw [Nat.zero_add] at ho
  refine ⟨by rw [ho]; simp, ?_⟩
  rw [ho, List.take_left]
  exact hc.l.lex
/-- A gap ahead of a token. -/
theorem lex_gap {s g : Str} {l : List Tok} {t : Tok} (h : lex s = .ok l) (ht : t ∈ l) (hg : ∀ z, skip false (g ++ z) = skip false z) (hs : ∀ c, g.head? = some c → Safe c) (hne : g ≠ []) :
    t.off ≤ s.length ∧ ∃ l', lex (s.take t.off ++ g ++ s.drop t.off) = .ok l' ∧ l'.map strip = l.map strip := by
  obtain ⟨p, q, rfl⟩ := List.append_of_mem ht
  obtain ⟨a, b, rfl, ho, hc, hb, _⟩ := (L.of_lex h).cut
  rw [Nat.zero_add] at ho
  refine ⟨by rw [ho]; simp, ?_⟩
  obtain ⟨q', h1, h2⟩ := hb.shift (0 + a.length + g.length)
  refine ⟨p ++ q', ?_, by rw [List.map_append, List.map_append, h2]⟩
  rw [ho, List.take_left, List.drop_left, List.append_assoc]
  refine (hc.app ?_ (h1.gap hg)).lex
  intro c hc
  refine hs c ?_
  cases g with
  | nil => exact absurd rfl hne
  | cons d g => exact hc
theorem lex_feed {s t : Str} {l m : List Tok} (hs : lex s = .ok l) (ht : lex t = .ok m) : ∃ l', lex (s ++ 10 :: t) = .ok l' ∧ l'.map strip = l.map strip ++ m.map strip := by
  obtain ⟨m', h1, h2⟩ := (L.of_lex ht).shift (0 + (s ++ [10]).length)
  have hc := (L.of_lex hs).feed
  refine ⟨l ++ m', ?_, by rw [List.map_append, h2]⟩
  have hx : ∀ {off : Nat} {a : Str} {p : List Tok}, L off a p → ∀ {x : Str} {q : List Tok}, L (off + (a ++ [10]).length) x q → L off (a ++ 10 :: x) (p ++ q) := by
    intro off a p h
    induction h with
    | nil off s h =>
      intro x q hq
      rw [show s ++ 10 :: x = (s ++ [10]) ++ x from by simp]
      exact hq.gap fun z => by rw [List.append_assoc]; exact skip_close false s h z
    | cons off s k t l h1 h2 _ ih =>
      intro x q hq
      have hlt := (first_spec h2).1.length_le
      have hk := skip_le false s
      have hs := skip_app false s (10 :: x) h1 (fun c hc => by cases hc; decide)
      have e : off + ((s ++ 10 :: x).length - (skip false (s ++ 10 :: x)).length) = off + (s.length - (skip false s).length) := by rw [hs, List.length_append, List.length_append]; omega
      rw [List.cons_append, ← e]
      refine .cons _ _ _ _ _ (by rw [hs]; simp) (by rw [hs]; exact first_app h2 (.inr fun c hc => by cases hc; exact safe_feed)) ?_
      rw [e, hs, List.drop_append_of_le_length hlt]
      refine ih ?_
      rw [List.length_append, List.length_drop, show off + (s.length - (skip false s).length) + t.length + ((skip false s).length - t.length + ([10] : Str).length) = off + (s ++ [10]).length from by rw [List.length_append]; omega]
      exact hq
  exact (hx (L.of_lex hs) h1).lex
theorem not_two {c : UInt8} (d : UInt8) (hc : c = 40 ∨ c = 41) : [c, d] ∉ signs := by
  rcases hc with rfl | rfl <;> simp [signs]
theorem first_mark {c : UInt8} (hc : c = 40 ∨ c = 41) (y : Str) : first (c :: y) = some (4, [c]) := by
  have h1 : letterB c = false := by rcases hc with rfl | rfl <;> decide
  have h2 : digitB c = false := by rcases hc with rfl | rfl <;> decide
  have h3 : [c] ∈ signs := by rcases hc with rfl | rfl <;> decide
  unfold first
  simp only [h1, h2, Bool.false_eq_true, if_false]
  unfold sign
  rw [if_neg, if_pos]
  · rfl
  · exact h3
  · rintro ⟨h4, h5⟩
    cases y with
    | nil => simp at h5
    | cons d y => exact not_two d hc h4
theorem L.mark {c : UInt8} (hc : c = 40 ∨ c = 41) {off : Nat} {y : Str} {l : List Tok} (h : L (off + 1) y l) : L off (c :: y) (⟨4, [c], off⟩ :: l) := by
  have hs : skip false (c :: y) = c :: y := by rw [skip, if_neg (by rcases hc with rfl | rfl <;> decide), if_neg (by rintro ⟨e, _⟩; rcases hc with rfl | rfl <;> cases e)]
  have := L.cons off (c :: y) 4 [c] l (by rw [hs]; simp) (by rw [hs]; exact first_mark hc y) (by rw [hs]; simpa using h)
  rw [hs] at this
  simpa using this
/-- A pair of brackets around some tokens. -/
theorem lex_marks {s : Str} {p m0 mr q : List Tok} {t1 t2 : Tok} (h : lex s = .ok (p ++ (t1 :: mr) ++ q)) (hm : t1 :: mr = m0 ++ [t2]) :
    ∃ a b c, s = a ++ b ++ c ∧ t1.off = a.length ∧ t2.off + t2.text.length = (a ++ b).length ∧ ∃ l', lex (a ++ 40 :: (b ++ 41 :: c)) = .ok l' ∧ l'.map strip = p.map strip ++ ⟨4, [40], 0⟩ :: ((t1 :: mr).map strip ++ ⟨4, [41], 0⟩ :: q.map strip) := by
  have h0 := L.of_lex h
  rw [List.append_assoc, List.cons_append] at h0
  obtain ⟨a, b0, rfl, ho, hc, hb, _⟩ := h0.cut
  rw [← List.cons_append, hm, List.append_assoc, List.singleton_append] at hb
  obtain ⟨b, c, rfl, ho2, hc2, hq⟩ := hb.cutBehind
  rw [Nat.zero_add] at ho ho2
  refine ⟨a, b, c, by simp, ho, by rw [ho2]; simp, ?_⟩
  obtain ⟨q', h1, h2⟩ := hq.shift (0 + a.length + 1 + b.length + 1)
  obtain ⟨z, h3, h4⟩ := (hc2.app (fun d hd => by cases hd; exact safe_close) (L.mark (c := 41) (y := c) (.inr rfl) (hq.shift (0 + a.length + b.length + 1)).choose_spec.1)).shift (0 + a.length + 1)
  refine ⟨_, (hc.app (fun d hd => by cases hd; exact safe_open) (L.mark (c := 40) (.inl rfl) h3)).lex, ?_⟩
  rw [List.map_append, List.map_cons, h4, List.map_append, List.map_cons, (hq.shift (0 + a.length + b.length + 1)).choose_spec.2, hm]
  rfl
end Bir
