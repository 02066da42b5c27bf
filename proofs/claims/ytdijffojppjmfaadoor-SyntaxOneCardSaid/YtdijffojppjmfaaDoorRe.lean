/- The lexer as a relation: cuts before and behind a token, and strings set together. Cuts of a string at its tokens; strings set together; what the laws on prefixes, blanks and brackets want of the lexer. -/
import Derived.Test.YtdijffojppjmfaaDoorQh
import Derived.Test.YtdijffojppjmfaaDoorRa
set_option linter.unusedVariables false
set_option linter.unusedSimpArgs false
namespace Bir
/-- The tokens of a string that begins at an offset. -/
inductive L : Nat → Str → List Tok → Prop
  | nil (off : Nat) (s : Str) : skip false s = [] → L off s []
  | cons (off : Nat) (s : Str) (k : Nat) (t : Str) (l : List Tok) : skip false s ≠ [] → first (skip false s) = some (k, t) → L (off + (s.length - (skip false s).length) + t.length) ((skip false s).drop t.length) l →
      L off s (⟨k, t, off + (s.length - (skip false s).length)⟩ :: l)
/-- And its end is in no remark. -/
inductive LC : Nat → Str → List Tok → Prop
  | nil (off : Nat) (s : Str) : (∀ y, skip false (s ++ y) = skip false y) → LC off s []
  | cons (off : Nat) (s : Str) (k : Nat) (t : Str) (l : List Tok) : skip false s ≠ [] → first (skip false s) = some (k, t) → LC (off + (s.length - (skip false s).length) + t.length) ((skip false s).drop t.length) l →
      LC off s (⟨k, t, off + (s.length - (skip false s).length)⟩ :: l)
theorem LC.l {off : Nat} {s : Str} {l : List Tok} (h : LC off s l) : L off s l := by
  induction h with
  | nil off s h => exact .nil _ _ (by have := h []; rwa [List.append_nil] at this)
  | cons off s k t l h1 h2 _ ih => exact .cons _ _ _ _ _ h1 h2 ih
theorem L.of_lexF : ∀ (n off : Nat) (s : Str) (l : List Tok), lexF n (off + (s.length - (skip false s).length)) (skip false s) = .ok l → L off s l
  | 0, _, _, _, h => by cases h
  | n + 1, off, s, l, h => by
    cases hs : skip false s with
    | nil =>
      rw [hs] at h
      cases h
      exact .nil _ _ hs
    | cons c r =>
      rw [hs] at h
      cases hf : first (c :: r) with
      | none => unfold lexF at h; rw [hf] at h; cases h
      | some p =>
        obtain ⟨k, t⟩ := p
        unfold lexF at h
        rw [hf] at h
        simp only at h
        have hle := (first_spec hf).1.length_le
        cases hr : lexF n (off + (s.length - (c :: r).length) + ((c :: r).length - (skip false ((c :: r).drop t.length)).length)) (skip false ((c :: r).drop t.length)) with
        | bad a => rw [hr] at h; cases h
        | ok l' =>
          rw [hr] at h
          injection h with h
          subst h
          have hk := skip_le false ((c :: r).drop t.length)
          rw [show off + (s.length - (c :: r).length) + ((c :: r).length - (skip false ((c :: r).drop t.length)).length) = off + (s.length - (c :: r).length) + t.length + (((c :: r).drop t.length).length - (skip false ((c :: r).drop t.length)).length) from by rw [List.length_drop] at hk ⊢; omega] at hr
          have ih := L.of_lexF n _ _ _ hr
          rw [← hs] at ih hf ⊢
          exact .cons _ _ _ _ _ (by rw [hs]; simp) hf ih
theorem L.of_lex {s : Str} {l : List Tok} (h : lex s = .ok l) : L 0 s l := L.of_lexF (s.length + 1) 0 s l (by rw [Nat.zero_add]; exact h)
theorem L.lexF {off : Nat} {s : Str} {l : List Tok} (h : L off s l) : ∀ n, (skip false s).length < n → lexF n (off + (s.length - (skip false s).length)) (skip false s) = .ok l := by
  induction h with
  | nil off s h =>
    intro n hn
    obtain ⟨m, rfl⟩ : ∃ m, n = m + 1 := ⟨n - 1, by omega⟩
    rw [h]
    rfl
  | cons off s k t l h1 h2 _ ih =>
    intro n hn
    obtain ⟨m, rfl⟩ : ∃ m, n = m + 1 := ⟨n - 1, by omega⟩
    obtain ⟨hp, hne, _⟩ := first_spec h2
    have hle := hp.length_le
    have hpos : 0 < t.length := List.length_pos_iff.2 hne
    have hk := skip_le false ((skip false s).drop t.length)
    have := ih m (by rw [List.length_drop] at hk; omega)
    cases hs : skip false s with
    | nil => exact absurd hs h1
    | cons c r =>
      rw [hs] at h2 this hk hle
      unfold Bir.lexF
      rw [h2]
      simp only
      rw [show off + (s.length - (c :: r).length) + ((c :: r).length - (skip false ((c :: r).drop t.length)).length) = off + (s.length - (c :: r).length) + t.length + (((c :: r).drop t.length).length - (skip false ((c :: r).drop t.length)).length) from by rw [List.length_drop] at hk ⊢; omega, this]
      rfl
theorem L.lex {s : Str} {l : List Tok} (h : L 0 s l) : lex s = .ok l := by
  have := h.lexF (s.length + 1) (by have := skip_le false s; omega)
  rwa [Nat.zero_add] at this

/-! ### gaps -/
theorem skip_f (c : UInt8) (r : Str) : skip false (c :: r) = if blankB c then skip false r else if c = 47 ∧ r.head? = some 47 then skip true r else c :: r := rfl
theorem skip_t (c : UInt8) (r : Str) : skip true (c :: r) = if c = 10 then skip false r else skip true r := rfl
theorem skip_idem : ∀ (b : Bool) (s : Str), skip false (skip b s) = skip b s
  | b, [] => by cases b <;> rfl
  | false, c :: r => by
    by_cases h1 : blankB c = true
    · rw [skip_f, if_pos h1]; exact skip_idem false r
    · by_cases h2 : c = 47 ∧ r.head? = some 47
      · rw [skip_f, if_neg h1, if_pos h2]; exact skip_idem true r
      · rw [skip_f, if_neg h1, if_neg h2, skip_f, if_neg h1, if_neg h2]
  | true, c :: r => by
    by_cases h1 : c = 10
    · rw [skip_t, if_pos h1]; exact skip_idem false r
    · rw [skip_t, if_neg h1]; exact skip_idem true r
/-- What is skipped ahead of something is closed. -/
theorem skip_split : ∀ (b : Bool) (s : Str), skip b s ≠ [] → ∃ a, s = a ++ skip b s ∧ ∀ y, skip b (a ++ y) = skip false y
  | b, [], h => by cases b <;> exact absurd rfl h
  | false, c :: r, h => by
    by_cases h1 : blankB c = true
    · rw [skip_f, if_pos h1] at h ⊢
      obtain ⟨a, e, hy⟩ := skip_split false r h
      refine ⟨c :: a, by rw [List.cons_append, ← e], fun y => ?_⟩
      rw [List.cons_append, skip_f, if_pos h1]
      exact hy y
    · by_cases h2 : c = 47 ∧ r.head? = some 47
      · rw [skip_f, if_neg h1, if_pos h2] at h ⊢
        obtain ⟨a, e, hy⟩ := skip_split true r h
        refine ⟨c :: a, by rw [List.cons_append, ← e], fun y => ?_⟩
        have ha : a ≠ [] := by
          rintro rfl
          rw [List.nil_append] at e
          cases r with
          | nil => simp at h2
          | cons d r =>
            have := skip_le true r
            have := skip_le false r
            have h3 := congrArg List.length e
            rw [skip_t] at h3
            split at h3 <;> simp at h3 <;> omega
        have hh : (a ++ y).head? = some 47 := by
          cases a with
          | nil => exact absurd rfl ha
          | cons d a =>
            have h4 := h2.2
            rw [e] at h4
            simpa using h4
        rw [List.cons_append, skip_f, if_neg h1, if_pos ⟨h2.1, hh⟩]
        exact hy y
      · rw [skip_f, if_neg h1, if_neg h2]
        exact ⟨[], rfl, fun y => rfl⟩
  | true, c :: r, h => by
    by_cases h1 : c = 10
    · rw [skip_t, if_pos h1] at h ⊢
      obtain ⟨a, e, hy⟩ := skip_split false r h
      refine ⟨c :: a, by rw [List.cons_append, ← e], fun y => ?_⟩
      rw [List.cons_append, skip_t, if_pos h1]
      exact hy y
    · rw [skip_t, if_neg h1] at h ⊢
      obtain ⟨a, e, hy⟩ := skip_split true r h
      refine ⟨c :: a, by rw [List.cons_append, ← e], fun y => ?_⟩
      rw [List.cons_append, skip_t, if_neg h1]
      exact hy y
theorem head_app {r y : Str} (h : r.head? = some 47) : (r ++ y).head? = some 47 := by
  cases r with
  | nil => simp at h
  | cons d r => simpa using h
/-- Where nothing is left, a line feed closes. -/
theorem skip_close : ∀ (b : Bool) (s : Str), skip b s = [] → ∀ y, skip b (s ++ 10 :: y) = skip false y
  | false, [], _, y => by
    rw [List.nil_append, skip_f, if_pos (by decide)]
  | true, [], _, y => by
    rw [List.nil_append, skip_t, if_pos rfl]
  | false, c :: r, h, y => by
    rw [List.cons_append]
    by_cases h1 : blankB c = true
    · rw [skip_f, if_pos h1] at h ⊢
      exact skip_close false r h y
    · by_cases h2 : c = 47 ∧ r.head? = some 47
      · rw [skip_f, if_neg h1, if_pos h2] at h
        rw [skip_f, if_neg h1, if_pos ⟨h2.1, head_app h2.2⟩]
        exact skip_close true r h y
      · rw [skip_f, if_neg h1, if_neg h2] at h
        cases h
  | true, c :: r, h, y => by
    rw [List.cons_append]
    by_cases h1 : c = 10
    · rw [skip_t, if_pos h1] at h ⊢
      exact skip_close false r h y
    · rw [skip_t, if_neg h1] at h ⊢
      exact skip_close true r h y
/-- A byte that no token before it takes in, and that begins no remark. -/
structure Safe (c : UInt8) : Prop where
  word : wordB c = false
  slash : c ≠ 47
  sgn : ∀ d, [d, c] ∉ signs
theorem Safe.of (c : UInt8) (h1 : wordB c = false) (h2 : c ≠ 47) (h3 : signs.all (fun s => s.length != 2 || s.getLast? != some c) = true) : Safe c := by
  refine ⟨h1, h2, fun d hd => ?_⟩
  have := List.all_eq_true.1 h3 _ hd
  simp at this
theorem safe_open : Safe 40 := .of _ (by decide) (by decide) (by decide)
theorem safe_close : Safe 41 := .of _ (by decide) (by decide) (by decide)
theorem safe_tab : Safe 9 := .of _ (by decide) (by decide) (by decide)
theorem safe_feed : Safe 10 := .of _ (by decide) (by decide) (by decide)
/-- What is left unskipped, something stands behind it. -/
theorem skip_app : ∀ (b : Bool) (s y : Str), skip b s ≠ [] → (∀ c, y.head? = some c → c ≠ 47) → skip b (s ++ y) = skip b s ++ y
  | b, [], _, h, _ => by cases b <;> exact absurd rfl h
  | false, c :: r, y, h, hy => by
    rw [List.cons_append]
    by_cases h1 : blankB c = true
    · rw [skip_f, if_pos h1] at h
      rw [skip_f, if_pos h1, skip_f, if_pos h1]
      exact skip_app false r y h hy
    · by_cases h2 : c = 47 ∧ r.head? = some 47
      · rw [skip_f, if_neg h1, if_pos h2] at h
        rw [skip_f, if_neg h1, if_pos ⟨h2.1, head_app h2.2⟩, skip_f, if_neg h1, if_pos h2]
        exact skip_app true r y h hy
      · have hh : ¬ (c = 47 ∧ (r ++ y).head? = some 47) := by
          rintro ⟨e1, e2⟩
          cases r with
          | nil => exact hy 47 (by simpa using e2) rfl
          | cons d r => exact h2 ⟨e1, by simpa using e2⟩
        rw [skip_f, if_neg h1, if_neg hh, skip_f, if_neg h1, if_neg h2]
        rfl
  | true, c :: r, y, h, hy => by
    rw [List.cons_append]
    by_cases h1 : c = 10
    · rw [skip_t, if_pos h1] at h
      rw [skip_t, if_pos h1, skip_t, if_pos h1]
      exact skip_app false r y h hy
    · rw [skip_t, if_neg h1] at h
      rw [skip_t, if_neg h1, skip_t, if_neg h1]
      exact skip_app true r y h hy
/-- A beginning of what is left unskipped is so, too. -/
theorem skip_front {u v : Str} (hu : u ≠ []) (h : skip false (u ++ v) = u ++ v) : skip false u = u := by
  cases u with
  | nil => exact absurd rfl hu
  | cons c r =>
    rw [List.cons_append] at h
    by_cases h1 : blankB c = true
    · rw [skip_f, if_pos h1] at h
      have := skip_le false (r ++ v)
      have h3 := congrArg List.length h
      simp at h3 this
      omega
    · by_cases h2 : c = 47 ∧ (r ++ v).head? = some 47
      · rw [skip_f, if_neg h1, if_pos h2] at h
        have := skip_le true (r ++ v)
        have h3 := congrArg List.length h
        simp at h3 this
        omega
      · rw [skip_f, if_neg h1, if_neg]
        rintro ⟨e1, e2⟩
        exact h2 ⟨e1, head_app e2⟩

/-! ### the first token, with something behind -/
theorem takeWhile_app {p : UInt8 → Bool} : ∀ {s y : Str}, ((s.takeWhile p).length < s.length ∨ ∀ c, y.head? = some c → p c = false) → (s ++ y).takeWhile p = s.takeWhile p
  | [], y, h => by
    cases y with
    | nil => rfl
    | cons c y =>
      rcases h with h | h
      · simp at h
      · simp [List.takeWhile_cons, h c rfl]
  | c :: r, y, h => by
    rw [List.cons_append, List.takeWhile_cons, List.takeWhile_cons]
    split
    · rename_i hc
      rw [takeWhile_app (s := r) (y := y)]
      rcases h with h | h
      · left
        rw [List.takeWhile_cons, if_pos hc] at h
        simpa using h
      · exact .inr h
    · rfl
theorem takeWhile_front {p : UInt8 → Bool} : ∀ {u v : Str}, ((u ++ v).takeWhile p).length ≤ u.length → u.takeWhile p = (u ++ v).takeWhile p
  | [], v, h => by
    have := List.eq_nil_of_length_eq_zero (Nat.le_zero.1 h)
    rw [this]
    rfl
  | c :: r, v, h => by
    rw [List.cons_append, List.takeWhile_cons] at h ⊢
    rw [List.takeWhile_cons]
    split
    · rename_i hc
      rw [if_pos hc] at h
      rw [takeWhile_front (u := r) (v := v) (by simpa using h)]
    · rfl
theorem digit_word {c : UInt8} (h : wordB c = false) : digitB c = false := by
  unfold wordB at h
  exact (Bool.or_eq_false_iff.1 h).2
theorem sign_two {s t : Str} (h2 : s.take 2 = t.take 2) (h1 : s.take 1 = t.take 1) (hl : 2 ≤ s.length ↔ 2 ≤ t.length) : sign s = sign t := by
  unfold sign
  simp only [h2, h1, hl]
theorem first_app {s y t : Str} {k : Nat} (h : first s = some (k, t)) (hy : t.length < s.length ∨ ∀ c, y.head? = some c → Safe c) : first (s ++ y) = some (k, t) := by
  cases s with
  | nil => cases h
  | cons c r =>
    rw [List.cons_append]
    unfold first at h ⊢
    simp only at h ⊢
    have hw : (c :: (r ++ y)) = (c :: r) ++ y := rfl
    split at h
    · rename_i hl
      rw [if_pos hl]
      have e : ((c :: r) ++ y).takeWhile wordB = (c :: r).takeWhile wordB := by
        refine takeWhile_app (hy.imp (fun hh => ?_) (fun hh c hc => (hh c hc).word))
        split at h <;> · cases h; exact hh
      rw [hw, e]
      exact h
    · rename_i hl
      rw [if_neg hl]
      split at h
      · rename_i hd
        rw [if_pos hd]
        have e : ((c :: r) ++ y).takeWhile digitB = (c :: r).takeWhile digitB := by
          refine takeWhile_app (hy.imp (fun hh => ?_) (fun hh c hc => digit_word (hh c hc).word))
          cases h; exact hh
        rw [hw, e]
        exact h
      · rename_i hd
        rw [if_neg hd]
        cases hs : sign (c :: r) with
        | none => rw [hs] at h; cases h
        | some u =>
          rw [hs] at h
          injection h with h
          injection h with h0 h
          subst h0 h
          have : sign (c :: (r ++ y)) = some u := by
            cases r with
            | cons d r =>
              have e : sign (c :: d :: (r ++ y)) = sign (c :: d :: r) := sign_two rfl rfl (by simp)
              exact e.trans hs
            | nil =>
              have hu : u = [c] := by
                unfold sign at hs
                simp at hs
                exact hs.2.symm
              have hc : [c] ∈ signs := hu ▸ (sign_spec hs).1
              subst hu
              cases y with
              | nil => exact hs
              | cons d y =>
                have hd := (hy.resolve_left (by simp)) d rfl
                unfold sign
                rw [if_neg, if_pos]
                · rfl
                · exact hc
                · rintro ⟨h1, _⟩
                  exact hd.sgn c h1
          rw [this]
          rfl
theorem first_front {u v t : Str} {k : Nat} (h : first (u ++ v) = some (k, t)) (hl : t.length ≤ u.length) : first u = some (k, t) := by
  cases u with
  | nil =>
    have := (first_spec h).2.1
    exact absurd (List.eq_nil_of_length_eq_zero (Nat.le_zero.1 hl)) this
  | cons c r =>
    rw [List.cons_append] at h
    unfold first at h ⊢
    simp only at h ⊢
    have hw : (c :: (r ++ v)) = (c :: r) ++ v := rfl
    split at h
    · rename_i hl1
      rw [if_pos hl1]
      have e : (c :: r).takeWhile wordB = ((c :: r) ++ v).takeWhile wordB := by
        refine takeWhile_front ?_
        rw [hw] at h
        split at h <;> · cases h; exact hl
      rw [e]
      exact h
    · rename_i hl1
      rw [if_neg hl1]
      split at h
      · rename_i hd
        rw [if_pos hd]
        have e : (c :: r).takeWhile digitB = ((c :: r) ++ v).takeWhile digitB := by
          refine takeWhile_front ?_
          rw [hw] at h
          cases h; exact hl
        rw [e]
        exact h
      · rename_i hd
        rw [if_neg hd]
        cases hs : sign (c :: (r ++ v)) with
        | none => rw [hs] at h; cases h
        | some u =>
          rw [hs] at h
          injection h with h
          injection h with h0 h
          subst h0 h
          have : sign (c :: r) = some u := by
            cases r with
            | cons d r =>
              have e : sign (c :: d :: r) = sign (c :: d :: (r ++ v)) := sign_two rfl rfl (by simp)
              exact e.trans hs
            | nil =>
              have h1 := (sign_spec hs).1
              have h2 := (sign_spec hs).2
              have hu : u = [c] := by
                rcases u with _ | ⟨a, _ | ⟨b, u⟩⟩
                · exact absurd h1 (by decide)
                · have := List.prefix_iff_eq_take.1 h2
                  simpa using this
                · simp at hl
              subst hu
              unfold sign
              rw [if_neg, if_pos]
              · rfl
              · exact h1
              · simp
          rw [this]
          rfl
end Bir
set_option linter.unusedVariables false
set_option linter.unusedSimpArgs false
namespace Bir
theorem split_len {s a r : Str} (h : s = a ++ r) : s.length - r.length = a.length := by rw [h, List.length_append]; omega
theorem L.shift {off : Nat} {s : Str} {l : List Tok} (h : L off s l) : ∀ off', ∃ l', L off' s l' ∧ l'.map strip = l.map strip := by
  induction h with
  | nil off s h => exact fun off' => ⟨[], .nil _ _ h, rfl⟩
  | cons off s k t l h1 h2 _ ih =>
    intro off'
    obtain ⟨l', h3, h4⟩ := ih (off' + (s.length - (skip false s).length) + t.length)
    exact ⟨_, .cons _ _ _ _ _ h1 h2 h3, by simp [strip, h4]⟩
/-- What stands behind a skipped beginning. -/
theorem L.gap {off : Nat} {g y : Str} {l : List Tok} (hg : ∀ z, skip false (g ++ z) = skip false z) (h : L (off + g.length) y l) : L off (g ++ y) l := by
  have hk := skip_le false y
  generalize ho : off + g.length = o at h
  cases h with
  | nil _ _ h => exact .nil _ _ ((hg y).trans h)
  | cons _ _ k t l h1 h2 h3 =>
    have e : off + ((g ++ y).length - (skip false (g ++ y)).length) = o + (y.length - (skip false y).length) := by rw [hg, List.length_append]; omega
    rw [← e]
    refine .cons _ _ _ _ _ (by rw [hg]; exact h1) (by rw [hg]; exact h2) ?_
    rw [hg, List.length_append, show off + (g.length + y.length - (skip false y).length) = o + (y.length - (skip false y).length) from by omega]
    exact h3
/-- Behind a string whose end is in no remark, what no token takes in. -/
theorem LC.app {off : Nat} {a : Str} {p : List Tok} (h : LC off a p) : ∀ {x : Str} {q : List Tok}, (∀ c, x.head? = some c → Safe c) → L (off + a.length) x q → L off (a ++ x) (p ++ q) := by
  induction h with
  | nil off s h => exact fun hx hq => hq.gap h
  | cons off s k t l h1 h2 _ ih =>
    intro x q hx hq
    have hlt := (first_spec h2).1.length_le
    have hk := skip_le false s
    have hs := skip_app false s x h1 (fun c hc => (hx c hc).slash)
    have e : off + ((s ++ x).length - (skip false (s ++ x)).length) = off + (s.length - (skip false s).length) := by rw [hs, List.length_append, List.length_append]; omega
    rw [List.cons_append, ← e]
    refine .cons _ _ _ _ _ (by rw [hs]; simp [h1]) (by rw [hs]; exact first_app h2 (.inr hx)) ?_
    rw [e, hs, List.drop_append_of_le_length hlt]
    refine ih hx ?_
    rw [List.length_drop, show off + (s.length - (skip false s).length) + t.length + ((skip false s).length - t.length) = off + s.length from by omega]
    exact hq
/-- A line feed closes. -/
theorem L.feed {off : Nat} {a : Str} {p : List Tok} (h : L off a p) : LC off (a ++ [10]) p := by
  induction h with
  | nil off s h => exact .nil _ _ fun y => by rw [List.append_assoc]; exact skip_close false s h y
  | cons off s k t l h1 h2 _ ih =>
    have hlt := (first_spec h2).1.length_le
    have hk := skip_le false s
    have hs := skip_app false s [10] h1 (fun c hc => by cases hc; decide)
    have e : off + ((s ++ [10]).length - (skip false (s ++ [10])).length) = off + (s.length - (skip false s).length) := by rw [hs, List.length_append, List.length_append]; omega
    rw [← e]
    refine .cons _ _ _ _ _ (by rw [hs]; simp) (by rw [hs]; exact first_app h2 (.inr fun c hc => by cases hc; exact safe_feed)) ?_
    rw [e, hs, List.drop_append_of_le_length hlt]
    exact ih
/-- Ahead of a token a string is cut. -/
theorem L.cut : ∀ {p : List Tok} {off : Nat} {s : Str} {t : Tok} {l : List Tok}, L off s (p ++ t :: l) → ∃ a b, s = a ++ b ∧ t.off = off + a.length ∧ LC off a p ∧ L (off + a.length) b (t :: l) ∧ skip false b = b
  | [], off, s, t, l, h => by
    rw [List.nil_append] at h
    cases h with
    | cons _ _ k u _ h1 h2 h3 =>
      obtain ⟨a, e, hy⟩ := skip_split false s h1
      have hi := skip_idem false s
      have hl := split_len e
      refine ⟨a, skip false s, e, by rw [hl], .nil _ _ hy, ?_, hi⟩
      have : L (off + a.length) (skip false s) (⟨k, u, off + a.length + ((skip false s).length - (skip false (skip false s)).length)⟩ :: l) := by
        refine .cons _ _ _ _ _ (by rw [hi]; exact h1) (by rw [hi]; exact h2) ?_
        rw [hi, Nat.sub_self, Nat.add_zero, ← hl]
        exact h3
      rw [hi, Nat.sub_self, Nat.add_zero] at this
      rw [hl]
      exact this
  | u :: p, off, s, t, l, h => by
    rw [List.cons_append] at h
    cases h with
    | cons _ _ k x _ h1 h2 h3 =>
      obtain ⟨a, b, e, ho, hc, hb, hs⟩ := L.cut h3
      obtain ⟨g, eg, hy⟩ := skip_split false s h1
      have hl := split_len eg
      obtain ⟨hp, hne, _⟩ := first_spec h2
      have er : skip false s = x ++ (a ++ b) := by
        rw [← e]
        obtain ⟨z, hz⟩ := hp
        rw [← hz, List.drop_left]
      have hi := skip_idem false s
      have hxa : skip false (x ++ a) = x ++ a := by
        refine skip_front (v := b) (by simp [hne]) ?_
        rw [List.append_assoc, ← er]
        exact hi
      have hf : first (x ++ a) = some (k, x) := by
        refine first_front (v := b) ?_ (by simp)
        rw [List.append_assoc, ← er]
        exact h2
      refine ⟨g ++ (x ++ a), b, by rw [eg, er]; simp, ?_, ?_, ?_, hs⟩
      · rw [ho, hl]; simp; omega
      · have hsk : skip false (g ++ (x ++ a)) = x ++ a := (hy _).trans hxa
        have e2 : off + (s.length - (skip false s).length) = off + ((g ++ (x ++ a)).length - (skip false (g ++ (x ++ a))).length) := by rw [hsk, hl]; simp
        rw [e2]
        refine .cons _ _ _ _ _ (by rw [hsk]; simp [hne]) (by rw [hsk]; exact hf) ?_
        rw [← e2, hsk, List.drop_left]
        exact hc
      · rw [show off + (g ++ (x ++ a)).length = off + (s.length - (skip false s).length) + x.length + a.length from by rw [hl]; simp; omega]
        exact hb
/-- Behind a token a string is cut. -/
theorem L.cutBehind : ∀ {p : List Tok} {off : Nat} {s : Str} {t : Tok} {l : List Tok}, L off s (p ++ t :: l) → ∃ a b, s = a ++ b ∧ t.off + t.text.length = off + a.length ∧ LC off a (p ++ [t]) ∧ L (off + a.length) b l
  | [], off, s, t, l, h => by
    rw [List.nil_append] at h
    cases h with
    | cons _ _ k u _ h1 h2 h3 =>
      obtain ⟨g, eg, hy⟩ := skip_split false s h1
      have hl := split_len eg
      obtain ⟨hp, hne, _⟩ := first_spec h2
      obtain ⟨z, hz⟩ := hp
      have hi := skip_idem false s
      have hu : skip false u = u := skip_front (v := z) hne (by rw [hz]; exact hi)
      have hf : first u = some (k, u) := first_front (v := z) (by rw [hz]; exact h2) (Nat.le_refl _)
      have hd : (skip false s).drop u.length = z := by rw [← hz, List.drop_left]
      have hsk : skip false (g ++ u) = u := (hy _).trans hu
      refine ⟨g ++ u, z, by rw [List.append_assoc, hz]; exact eg, by rw [hl]; simp; omega, ?_, ?_⟩
      · have e2 : off + (s.length - (skip false s).length) = off + ((g ++ u).length - (skip false (g ++ u)).length) := by rw [hsk, hl]; simp
        rw [List.nil_append, e2]
        refine .cons _ _ _ _ _ (by rw [hsk]; exact hne) (by rw [hsk]; exact hf) ?_
        rw [hsk, List.drop_length]
        exact .nil _ _ fun y => rfl
      · rw [hd, hl] at h3
        rw [List.length_append, ← Nat.add_assoc]
        exact h3
  | u :: p, off, s, t, l, h => by
    rw [List.cons_append] at h
    cases h with
    | cons _ _ k x _ h1 h2 h3 =>
      obtain ⟨a, b, e, ho, hc, hb⟩ := L.cutBehind h3
      obtain ⟨g, eg, hy⟩ := skip_split false s h1
      have hl := split_len eg
      obtain ⟨hp, hne, _⟩ := first_spec h2
      have er : skip false s = x ++ (a ++ b) := by
        rw [← e]
        obtain ⟨z, hz⟩ := hp
        rw [← hz, List.drop_left]
      have hi := skip_idem false s
      have hxa : skip false (x ++ a) = x ++ a := by
        refine skip_front (v := b) (by simp [hne]) ?_
        rw [List.append_assoc, ← er]
        exact hi
      have hf : first (x ++ a) = some (k, x) := by
        refine first_front (v := b) ?_ (by simp)
        rw [List.append_assoc, ← er]
        exact h2
      refine ⟨g ++ (x ++ a), b, by rw [eg, er]; simp, ?_, ?_, ?_⟩
      · rw [ho, hl]; simp; omega
      · have hsk : skip false (g ++ (x ++ a)) = x ++ a := (hy _).trans hxa
        have e2 : off + (s.length - (skip false s).length) = off + ((g ++ (x ++ a)).length - (skip false (g ++ (x ++ a))).length) := by rw [hsk, hl]; simp
        rw [List.cons_append, e2]
        refine .cons _ _ _ _ _ (by rw [hsk]; simp [hne]) (by rw [hsk]; exact hf) ?_
        rw [← e2, hsk, List.drop_left]
        exact hc
      · rw [show off + (g ++ (x ++ a)).length = off + (s.length - (skip false s).length) + x.length + a.length from by rw [hl]; simp; omega]
        exact hb
/-! ### what the laws want -/
/-- The string up to a token. -/
theorem lex_prefix {s : Str} {p l : List Tok} {t : Tok} (h : lex s = .ok (p ++ t :: l)) : t.off ≤ s.length ∧ lex (s.take t.off) = .ok p := by
  obtain ⟨a, b, rfl, ho, hc, _, _⟩ := (L.of_lex h).cut
  rw [Nat.zero_add] at ho
  refine ⟨by rw [ho]; simp, ?_⟩
  rw [ho, List.take_left]
  exact hc.l.lex
/-- A gap ahead of a token. -/
theorem lex_gap {s g : Str} {l : List Tok} {t : Tok} (h : lex s = .ok l) (ht : t ∈ l) (hg : ∀ z, skip false (g ++ z) = skip false z) (hs : ∀ c, g.head? = some c → Safe c) (hne : g ≠ []) :
    t.off ≤ s.length ∧ ∃ l', lex (s.take t.off ++ g ++ s.drop t.off) = .ok l' ∧ l'.map strip = l.map strip := by
  obtain ⟨p, q, rfl⟩ := List.append_of_mem ht
  obtain ⟨a, b, rfl, ho, hc, hb, _⟩ := (L.of_lex h).cut
  rw [Nat.zero_add] at ho
  refine ⟨by rw [ho]; simp, ?_⟩
  obtain ⟨q', h1, h2⟩ := hb.shift (0 + a.length + g.length)
  refine ⟨p ++ q', ?_, by rw [List.map_append, List.map_append, h2]⟩
  rw [ho, List.take_left, List.drop_left, List.append_assoc]
  refine (hc.app ?_ (h1.gap hg)).lex
  intro c hc
  refine hs c ?_
  cases g with
  | nil => exact absurd rfl hne
  | cons d g => exact hc
theorem lex_feed {s t : Str} {l m : List Tok} (hs : lex s = .ok l) (ht : lex t = .ok m) : ∃ l', lex (s ++ 10 :: t) = .ok l' ∧ l'.map strip = l.map strip ++ m.map strip := by
  obtain ⟨m', h1, h2⟩ := (L.of_lex ht).shift (0 + (s ++ [10]).length)
  have hc := (L.of_lex hs).feed
  refine ⟨l ++ m', ?_, by rw [List.map_append, h2]⟩
  have hx : ∀ {off : Nat} {a : Str} {p : List Tok}, L off a p → ∀ {x : Str} {q : List Tok}, L (off + (a ++ [10]).length) x q → L off (a ++ 10 :: x) (p ++ q) := by
    intro off a p h
    induction h with
    | nil off s h =>
      intro x q hq
      rw [show s ++ 10 :: x = (s ++ [10]) ++ x from by simp]
      exact hq.gap fun z => by rw [List.append_assoc]; exact skip_close false s h z
    | cons off s k t l h1 h2 _ ih =>
      intro x q hq
      have hlt := (first_spec h2).1.length_le
      have hk := skip_le false s
      have hs := skip_app false s (10 :: x) h1 (fun c hc => by cases hc; decide)
      have e : off + ((s ++ 10 :: x).length - (skip false (s ++ 10 :: x)).length) = off + (s.length - (skip false s).length) := by rw [hs, List.length_append, List.length_append]; omega
      rw [List.cons_append, ← e]
      refine .cons _ _ _ _ _ (by rw [hs]; simp) (by rw [hs]; exact first_app h2 (.inr fun c hc => by cases hc; exact safe_feed)) ?_
      rw [e, hs, List.drop_append_of_le_length hlt]
      refine ih ?_
      rw [List.length_append, List.length_drop, show off + (s.length - (skip false s).length) + t.length + ((skip false s).length - t.length + ([10] : Str).length) = off + (s ++ [10]).length from by rw [List.length_append]; omega]
      exact hq
  exact (hx (L.of_lex hs) h1).lex
theorem not_two {c : UInt8} (d : UInt8) (hc : c = 40 ∨ c = 41) : [c, d] ∉ signs := by
  rcases hc with rfl | rfl <;> simp [signs]
theorem first_mark {c : UInt8} (hc : c = 40 ∨ c = 41) (y : Str) : first (c :: y) = some (4, [c]) := by
  have h1 : letterB c = false := by rcases hc with rfl | rfl <;> decide
  have h2 : digitB c = false := by rcases hc with rfl | rfl <;> decide
  have h3 : [c] ∈ signs := by rcases hc with rfl | rfl <;> decide
  unfold first
  simp only [h1, h2, Bool.false_eq_true, if_false]
  unfold sign
  rw [if_neg, if_pos]
  · rfl
  · exact h3
  · rintro ⟨h4, h5⟩
    cases y with
    | nil => simp at h5
    | cons d y => exact not_two d hc h4
theorem L.mark {c : UInt8} (hc : c = 40 ∨ c = 41) {off : Nat} {y : Str} {l : List Tok} (h : L (off + 1) y l) : L off (c :: y) (⟨4, [c], off⟩ :: l) := by
  have hs : skip false (c :: y) = c :: y := by rw [skip, if_neg (by rcases hc with rfl | rfl <;> decide), if_neg (by rintro ⟨e, _⟩; rcases hc with rfl | rfl <;> cases e)]
  have := L.cons off (c :: y) 4 [c] l (by rw [hs]; simp) (by rw [hs]; exact first_mark hc y) (by rw [hs]; simpa using h)
  rw [hs] at this
  simpa using this
/-- A pair of brackets around some tokens. -/
theorem lex_marks {s : Str} {p m0 mr q : List Tok} {t1 t2 : Tok} (h : lex s = .ok (p ++ (t1 :: mr) ++ q)) (hm : t1 :: mr = m0 ++ [t2]) :
    ∃ a b c, s = a ++ b ++ c ∧ t1.off = a.length ∧ t2.off + t2.text.length = (a ++ b).length ∧ ∃ l', lex (a ++ 40 :: (b ++ 41 :: c)) = .ok l' ∧ l'.map strip = p.map strip ++ ⟨4, [40], 0⟩ :: ((t1 :: mr).map strip ++ ⟨4, [41], 0⟩ :: q.map strip) := by
  have h0 := L.of_lex h
  rw [List.append_assoc, List.cons_append] at h0
  obtain ⟨a, b0, rfl, ho, hc, hb, _⟩ := h0.cut
  rw [← List.cons_append, hm, List.append_assoc, List.singleton_append] at hb
  obtain ⟨b, c, rfl, ho2, hc2, hq⟩ := hb.cutBehind
  rw [Nat.zero_add] at ho ho2
  refine ⟨a, b, c, by simp, ho, by rw [ho2]; simp, ?_⟩
  obtain ⟨q', h1, h2⟩ := hq.shift (0 + a.length + 1 + b.length + 1)
  obtain ⟨z, h3, h4⟩ := (hc2.app (fun d hd => by cases hd; exact safe_close) (L.mark (c := 41) (y := c) (.inr rfl) (hq.shift (0 + a.length + b.length + 1)).choose_spec.1)).shift (0 + a.length + 1)
  refine ⟨_, (hc.app (fun d hd => by cases hd; exact safe_open) (L.mark (c := 40) (.inl rfl) h3)).lex, ?_⟩
  rw [List.map_append, List.map_cons, h4, List.map_append, List.map_cons, (hq.shift (0 + a.length + b.length + 1)).choose_spec.2, hm]
  rfl
end Bir
