/- The lexer as a relation: cuts before and behind a token, and strings set together. -/
import Derived.Test.YtdijffojppjmfaaDoorQh
import Derived.Test.YtdijffojppjmfaaDoorRc
set_option linter.unusedVariables false
set_option linter.unusedSimpArgs false
namespace Bir
/-- The tokens of a string that begins at an offset. -/
inductive L : Nat → Str → List Tok → Prop
  | nil (off : Nat) (s : Str) : skip false s = [] → L off s []
  | cons (off : Nat) (s : Str) (k : Nat) (t : Str) (l : List Tok) : skip false s ≠ [] → first (skip false s) = some (k, t) → L (off + (s.length - (skip false s).length) + t.length) ((skip false s).drop t.length) l →
      L off s (⟨k, t, off + (s.length - (skip false s).length)⟩ :: l)
/-- And its end is in no remark. -/
inductive LC : Nat → Str → List Tok → Prop
  | nil (off : Nat) (s : Str) : (∀ y, skip false (s ++ y) = skip false y) → LC off s []
  | cons (off : Nat) (s : Str) (k : Nat) (t : Str) (l : List Tok) : skip false s ≠ [] → first (skip false s) = some (k, t) → LC (off + (s.length - (skip false s).length) + t.length) ((skip false s).drop t.length) l →
      LC off s (⟨k, t, off + (s.length - (skip false s).length)⟩ :: l)
theorem LC.l {off : Nat} {s : Str} {l : List Tok} (h : LC off s l) : L off s l := by
  induction h with
  | nil off s h => exact .nil _ _ (by have := h []; rwa [List.append_nil] at this)
  | cons off s k t l h1 h2 _ ih => exact .cons _ _ _ _ _ h1 h2 ih
theorem L.of_lexF : ∀ (n off : Nat) (s : Str) (l : List Tok), lexF n (off + (s.length - (skip false s).length)) (skip false s) = .ok l → L off s l
  | 0, _, _, _, h => by cases h
  | n + 1, off, s, l, h => by
    cases hs : skip false s with
    | nil =>
      rw [hs] at h
      cases h
      exact .nil _ _ hs
    | cons c r =>
      rw [hs] at h
      cases hf : first (c :: r) with
      | none => unfold lexF at h; rw [hf] at h; cases h
      | some p =>
        obtain ⟨k, t⟩ := p
        unfold lexF at h
        rw [hf] at h
        simp only at h
        have hle := (first_spec hf).1.length_le
        cases hr : lexF n (off + (s.length - (c :: r).length) + ((c :: r).length - (skip false ((c :: r).drop t.length)).length)) (skip false ((c :: r).drop t.length)) with
        | bad a => rw [hr] at h; cases h
        | ok l' =>
          rw [hr] at h
          injection h with h
          subst h
          have hk := skip_le false ((c :: r).drop t.length)
          rw [show off + (s.length - (c :: r).length) + ((c :: r).length - (skip false ((c :: r).drop t.length)).length) = off + (s.length - (c :: r).length) + t.length + (((c :: r).drop t.length).length - (skip false ((c :: r).drop t.length)).length) from by rw [List.length_drop] at hk ⊢; omega] at hr
          have ih := L.of_lexF n _ _ _ hr
          rw [← hs] at ih hf ⊢
          exact .cons _ _ _ _ _ (by rw [hs]; simp) hf ih
theorem L.of_lex {s : Str} {l : List Tok} (h : lex s = .ok l) : L 0 s l := L.of_lexF (s.length + 1) 0 s l (by rw [Nat.zero_add]; exact h)
theorem L.lexF {off : Nat} {s : Str} {l : List Tok} (h : L off s l) : ∀ n, (skip false s).length < n → lexF n (off + (s.length - (skip false s).length)) (skip false s) = .ok l := by
  induction h with
  | nil off s h =>
    intro n hn
    obtain ⟨m, rfl⟩ : ∃ m, n = m + 1 := ⟨n - 1, by omega⟩
    rw [h]
    rfl
  | cons off s k t l h1 h2 _ ih =>
    intro n hn
    obtain ⟨m, rfl⟩ : ∃ m, n = m + 1 := ⟨n - 1, by omega⟩
    obtain ⟨hp, hne, _⟩ := first_spec h2
    have hle := hp.length_le
    have hpos : 0 < t.length := List.length_pos_iff.2 hne
    have hk := skip_le false ((skip false s).drop t.length)
    have := ih m (by rw [List.length_drop] at hk; omega)
    cases hs : skip false s with
    | nil => exact absurd hs h1
    | cons c r =>
      rw [hs] at h2 this hk hle
      unfold Bir.lexF
      rw [h2]
      simp only
      rw [show off + (s.length - (c :: r).length) + ((c :: r).length - (skip false ((c :: r).drop t.length)).length) = off + (s.length - (c :: r).length) + t.length + (((c :: r).drop t.length).length - (skip false ((c :: r).drop t.length)).length) from by rw [List.length_drop] at hk ⊢; omega, this]
      rfl
theorem L.lex {s : Str} {l : List Tok} (h : L 0 s l) : lex s = .ok l := by
  have := h.lexF (s.length + 1) (by have := skip_le false s; omega)
  rwa [Nat.zero_add] at this

/-! ### gaps -/
theorem skip_f (c : UInt8) (r : Str) : skip false (c :: r) = if blankB c then skip false r else if c = 47 ∧ r.head? = some 47 then skip true r else c :: r := rfl
theorem skip_t (c : UInt8) (r : Str) : skip true (c :: r) = if c = 10 then skip false r else skip true r := rfl
theorem skip_idem : ∀ (b : Bool) (s : Str), skip false (skip b s) = skip b s
  | b, [] => by cases b <;> rfl
  | false, c :: r => by
    by_cases h1 : blankB c = true
    · rw [skip_f, if_pos h1]; exact skip_idem false r
    · by_cases h2 : c = 47 ∧ r.head? = some 47
      · rw [skip_f, if_neg h1, if_pos h2]; exact skip_idem true r
      · rw [skip_f, if_neg h1, if_neg h2, skip_f, if_neg h1, if_neg h2]
  | true, c :: r => by
    by_cases h1 : c = 10
    · rw [skip_t, if_pos h1]; exact skip_idem false r
    · rw [skip_t, if_neg h1]; exact skip_idem true r
/-- What is skipped ahead of something is closed. -/
theorem skip_split : ∀ (b : Bool) (s : Str), skip b s ≠ [] → ∃ a, s = a ++ skip b s ∧ ∀ y, skip b (a ++ y) = skip false y
  | b, [], h => by cases b <;> exact absurd rfl h
  | false, c :: r, h => by
    by_cases h1 : blankB c = true
    · rw [skip_f, if_pos h1] at h ⊢
      obtain ⟨a, e, hy⟩ := skip_split false r h
      refine ⟨c :: a, by rw [List.cons_append, ← e], fun y => ?_⟩
      rw [List.cons_append, skip_f, if_pos h1]
      exact hy y
    · by_cases h2 : c = 47 ∧ r.head? = some 47
      · rw [skip_f, if_neg h1, if_pos h2] at h ⊢
        obtain ⟨a, e, hy⟩ := skip_split true r h
        refine ⟨c :: a, by rw [List.cons_append, ← e], fun y => ?_⟩
        have ha : a ≠ [] := by
          rintro rfl
          rw [List.nil_append] at e
          cases r with
          | nil => simp at h2
          | cons d r =>
            have := skip_le true r
            have := skip_le false r
            have h3 := congrArg List.length e
            rw [skip_t] at h3
            split at h3 <;> simp at h3 <;> omega
        have hh : (a ++ y).head? = some 47 := by
          cases a with
          | nil => exact absurd rfl ha
          | cons d a =>
            have h4 := h2.2
            rw [e] at h4
            simpa using h4
        rw [List.cons_append, skip_f, if_neg h1, if_pos ⟨h2.1, hh⟩]
        exact hy y
      · rw [skip_f, if_neg h1, if_neg h2]
        exact ⟨[], rfl, fun y => rfl⟩
  | true, c :: r, h => by
    by_cases h1 : c = 10
    · rw [skip_t, if_pos h1] at h ⊢
      obtain ⟨a, e, hy⟩ := skip_split false r h
      refine ⟨c :: a, by rw [List.cons_append, ← e], fun y => ?_⟩
      rw [List.cons_append, skip_t, if_pos h1]
      exact hy y
    · rw [skip_t, if_neg h1] at h ⊢
      obtain ⟨a, e, hy⟩ := skip_split true r h
      refine ⟨c :: a, by rw [List.cons_append, ← e], fun y => ?_⟩
      rw [List.cons_append, skip_t, if_neg h1]
      exact hy y
theorem head_app {r y : Str} (h : r.head? = some 47) : (r ++ y).head? = some 47 := by
  cases r with
  | nil => simp at h
  | cons d r => simpa using h
/-- Where nothing is left, a line feed closes. -/
theorem skip_close : ∀ (b : Bool) (s : Str), skip b s = [] → ∀ y, skip b (s ++ 10 :: y) = skip false y
  | false, [], _, y => by
    rw [List.nil_append, skip_f, if_pos (by decide)]
  | true, [], _, y => by
    rw [List.nil_append, skip_t, if_pos rfl]
  | false, c :: r, h, y => by
    rw [List.cons_append]
    by_cases h1 : blankB c = true
    · rw [skip_f, if_pos h1] at h ⊢
      exact skip_close false r h y
    · by_cases h2 : c = 47 ∧ r.head? = some 47
      · rw [skip_f, if_neg h1, if_pos h2] at h
        rw [skip_f, if_neg h1, if_pos ⟨h2.1, head_app h2.2⟩]
        exact skip_close true r h y
      · rw [skip_f, if_neg h1, if_neg h2] at h
        cases h
  | true, c :: r, h, y => by
    rw [List.cons_append]
    by_cases h1 : c = 10
    · rw [skip_t, if_pos h1] at h ⊢
      exact skip_close false r h y
    · rw [skip_t, if_neg h1] at h ⊢
      exact skip_close true r h y
/-- A byte that no token before it takes in, and that begins no remark. -/
structure Safe (c : UInt8) : Prop where
  word : wordB c = false
  slash : c ≠ 47
  sgn : ∀ d, [d, c] ∉ signs
theorem Safe.of (c : UInt8) (h1 : wordB c = false) (h2 : c ≠ 47) (h3 : signs.all (fun s => s.length != 2 || s.getLast? != some c) = true) : Safe c := by
  refine ⟨h1, h2, fun d hd => ?_⟩
  have := List.all_eq_true.1 h3 _ hd
  simp at this
theorem safe_open : Safe 40 := .of _ (by decide) (by decide) (by decide)
theorem safe_close : Safe 41 := .of _ (by decide) (by decide) (by decide)
theorem safe_tab : Safe 9 := .of _ (by decide) (by decide) (by decide)
theorem safe_feed : Safe 10 := .of _ (by decide) (by decide) (by decide)
/-- What is left unskipped, something stands behind it. -/
theorem skip_app : ∀ (b : Bool) (s y : Str), skip b s ≠ [] → (∀ c, y.head? = some c → c ≠ 47) → skip b (s ++ y) = skip b s ++ y
  | b, [], _, h, _ => by cases b <;> exact absurd rfl h
  | false, c :: r, y, h, hy => by
    rw [List.cons_append]
    by_cases h1 : blankB c = true
    · rw [skip_f, if_pos h1] at h
      rw [skip_f, if_pos h1, skip_f, if_pos h1]
      exact skip_app false r y h hy
    · by_cases h2 : c = 47 ∧ r.head? = some 47
      · rw [skip_f, if_neg h1, if_pos h2] at h
        rw [skip_f, if_neg h1, if_pos ⟨h2.1, head_app h2.2⟩, skip_f, if_neg h1, if_pos h2]
        exact skip_app true r y h hy
      · have hh : ¬ (c = 47 ∧ (r ++ y).head? = some 47) := by
          rintro ⟨e1, e2⟩
          cases r with
          | nil => exact hy 47 (by simpa using e2) rfl
          | cons d r => exact h2 ⟨e1, by simpa using e2⟩
        rw [skip_f, if_neg h1, if_neg hh, skip_f, if_neg h1, if_neg h2]
        rfl
  | true, c :: r, y, h, hy => by
    rw [List.cons_append]
    by_cases h1 : c = 10
    · rw [skip_t, if_pos h1] at h
      rw [skip_t, if_pos h1, skip_t, if_pos h1]
      exact skip_app false r y h hy
    · rw [skip_t, if_neg h1] at h
      rw [skip_t, if_neg h1, skip_t, if_neg h1]
      exact skip_app true r y h hy
/-- A beginning of what is left unskipped is so, too. -/
theorem skip_front {u v : Str} (hu : u ≠ []) (h : skip false (u ++ v) = u ++ v) : skip false u = u := by
  cases u with
  | nil => exact absurd rfl hu
  | cons c r =>
    rw [List.cons_append] at h
    by_cases h1 : blankB c = true
    · rw [skip_f, if_pos h1] at h
      have := skip_le false (r ++ v)
      have h3 := congrArg List.length h
      simp at h3 this
      omega
    · by_cases h2 : c = 47 ∧ (r ++ v).head? = some 47
      · rw [skip_f, if_neg h1, if_pos h2] at h
        have := skip_le true (r ++ v)
        have h3 := congrArg List.length h
        simp at h3 this
        omega
      · rw [skip_f, if_neg h1, if_neg]
        rintro ⟨e1, e2⟩
        exact h2 ⟨e1, head_app e2⟩

/-! ### the first token, with something behind -/
theorem takeWhile_app {p : UInt8 → Bool} : ∀ {s y : Str}, ((s.takeWhile p).length < s.length ∨ ∀ c, y.head? = some c → p c = false) → (s ++ y).takeWhile p = s.takeWhile p
  | [], y, h => by
    cases y with
    | nil => rfl
    | cons c y =>
      rcases h with h | h
      · simp at h
      · simp [List.takeWhile_cons, h c rfl]
  | c :: r, y, h => by
    rw [List.cons_append, List.takeWhile_cons, List.takeWhile_cons]
    split
    · rename_i hc
      rw [takeWhile_app (s := r) (y := y)]
      rcases h with h | h
      · left
        rw [List.takeWhile_cons, if_pos hc] at h
        simpa using h
      · exact .inr h
    · rfl
theorem takeWhile_front {p : UInt8 → Bool} : ∀ {u v : Str}, ((u ++ v).takeWhile p).length ≤ u.length → u.takeWhile p = (u ++ v).takeWhile p
  | [], v, h => by
    have := List.eq_nil_of_length_eq_zero (Nat.le_zero.1 h)
    rw [this]
    rfl
  | c :: r, v, h => by
    rw [List.cons_append, List.takeWhile_cons] at h ⊢
    rw [List.takeWhile_cons]
    split
    · rename_i hc
      rw [if_pos hc] at h
      rw [takeWhile_front (u := r) (v := v) (by simpa using h)]
    · rfl
theorem digit_word {c : UInt8} (h : wordB c = false) : digitB c = false := by
  unfold wordB at h
  exact (Bool.or_eq_false_iff.1 h).2
theorem sign_two {s t : Str} (h2 : s.take 2 = t.take 2) (h1 : s.take 1 = t.take 1) (hl : 2 ≤ s.length ↔ 2 ≤ t.length) : sign s = sign t := by
  unfold sign
  simp only [h2, h1, hl]
theorem first_app {s y t : Str} {k : Nat} (h : first s = some (k, t)) (hy : t.length < s.length ∨ ∀ c, y.head? = some c → Safe c) : first (s ++ y) = some (k, t) := by
  cases s with
  | nil => cases h
  | cons c r =>
    rw [List.cons_append]
    unfold first at h ⊢
    simp only at h ⊢
    have hw : (c :: (r ++ y)) = (c :: r) ++ y := rfl
    split at h
    · rename_i hl
      rw [if_pos hl]
      have e : ((c :: r) ++ y).takeWhile wordB = (c :: r).takeWhile wordB := by
        refine takeWhile_app (hy.imp (fun hh => ?_) (fun hh c hc => (hh c hc).word))
        split at h <;> · cases h; exact hh
      rw [hw, e]
      exact h
    · rename_i hl
      rw [if_neg hl]
      split at h
      · rename_i hd
        rw [if_pos hd]
        have e : ((c :: r) ++ y).takeWhile digitB = (c :: r).takeWhile digitB := by
          refine takeWhile_app (hy.imp (fun hh => ?_) (fun hh c hc => digit_word (hh c hc).word))
          cases h; exact hh
        rw [hw, e]
        exact h
      · rename_i hd
        rw [if_neg hd]
        cases hs : sign (c :: r) with
        | none => rw [hs] at h; cases h
        | some u =>
          rw [hs] at h
          injection h with h
          injection h with h0 h
          subst h0 h
          have : sign (c :: (r ++ y)) = some u := by
            cases r with
            | cons d r =>
              have e : sign (c :: d :: (r ++ y)) = sign (c :: d :: r) := sign_two rfl rfl (by simp)
              exact e.trans hs
            | nil =>
              have hu : u = [c] := by
                unfold sign at hs
                simp at hs
                exact hs.2.symm
              have hc : [c] ∈ signs := hu ▸ (sign_spec hs).1
              subst hu
              cases y with
              | nil => exact hs
              | cons d y =>
                have hd := (hy.resolve_left (by simp)) d rfl
                unfold sign
                rw [if_neg, if_pos]
                · rfl
                · exact hc
                · rintro ⟨h1, _⟩
                  exact hd.sgn c h1
          rw [this]
          rfl
theorem first_front {u v t : Str} {k : Nat} (h : first (u ++ v) = some (k, t)) (hl : t.length ≤ u.length) : first u = some (k, t) := by
  cases u with
  | nil =>
    have := (first_spec h).2.1
    exact absurd (List.eq_nil_of_length_eq_zero (Nat.le_zero.1 hl)) this
  | cons c r =>
    rw [List.cons_append] at h
    unfold first at h ⊢
    simp only at h ⊢
    have hw : (c :: (r ++ v)) = (c :: r) ++ v := rfl
    split at h
    · rename_i hl1
      rw [if_pos hl1]
      have e : (c :: r).takeWhile wordB = ((c :: r) ++ v).takeWhile wordB := by
        refine takeWhile_front ?_
        rw [hw] at h
        split at h <;> · cases h; exact hl
      rw [e]
      exact h
    · rename_i hl1
      rw [if_neg hl1]
      split at h
      · rename_i hd
        rw [if_pos hd]
        have e : (c :: r).takeWhile digitB = ((c :: r) ++ v).takeWhile digitB := by
          refine takeWhile_front ?_
          rw [hw] at h
          cases h; exact hl
        rw [e]
        exact h
      · rename_i hd
        rw [if_neg hd]
        cases hs : sign (c :: (r ++ v)) with
        | none => rw [hs] at h; cases h
        | some u =>
          rw [hs] at h
          injection h with h
          injection h with h0 h
          subst h0 h
          have : sign (c :: r) = some u := by
            cases r with
            | cons d r =>
              have e : sign (c :: d :: r) = sign (c :: d :: (r ++ v)) := sign_two rfl rfl (by simp)
              exact e.trans hs
            | nil =>
              have h1 := (sign_spec hs).1
              have h2 := (sign_spec hs).2
              have hu : u = [c] := by
                rcases u with _ | ⟨a, _ | ⟨b, u⟩⟩
                · exact absurd h1 (by decide)
                · have := List.prefix_iff_eq_take.1 h2
                  simpa using this
                · simp at hl
              subst hu
              unfold sign
              rw [if_neg, if_pos]
              · rfl
              · exact h1
              · simp
          rw [this]
          rfl
end Bir
