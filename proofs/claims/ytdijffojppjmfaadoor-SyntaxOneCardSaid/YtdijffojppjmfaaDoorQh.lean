/- The tokens that the lexer's iterator hands on, plainly. -/
import Derived.Test.YtdijffojppjmfaaDoorPa
set_option linter.unusedVariables false
set_option linter.unusedSimpArgs false
namespace Bir
/-- The tokens that come; the last one has kind 0 where none begins. -/
def scanF : Nat → Nat → Str → List Tok
  | 0, _, _ => []
  | _ + 1, _, [] => []
  | n + 1, off, c :: r =>
    match first (c :: r) with
    | none => [⟨0, [], off⟩]
    | some (k, t) => ⟨k, t, off⟩ :: scanF n (off + ((c :: r).length - (skip false ((c :: r).drop t.length)).length)) (skip false ((c :: r).drop t.length))
def scan (s : Str) : List Tok := scanF (s.length + 1) (s.length - (skip false s).length) (skip false s)
theorem scanF_some {n off k : Nat} {s t : Str} (hs : s ≠ []) (h : first s = some (k, t)) : scanF (n + 1) off s = ⟨k, t, off⟩ :: scanF n (off + (s.length - (skip false (s.drop t.length)).length)) (skip false (s.drop t.length)) := by
  cases s with
  | nil => exact absurd rfl hs
  | cons c r => rw [scanF, h]
theorem scanF_none {n off : Nat} {s : Str} (hs : s ≠ []) (h : first s = none) : scanF (n + 1) off s = [⟨0, [], off⟩] := by
  cases s with
  | nil => exact absurd rfl hs
  | cons c r => rw [scanF, h]
theorem skip_suffix : ∀ (b : Bool) (s : Str), skip b s <:+ s
  | b, [] => by cases b <;> exact List.suffix_refl _
  | false, c :: r => by
    unfold skip
    split
    · exact (skip_suffix false r).trans (List.suffix_cons _ _)
    · split
      · exact (skip_suffix true r).trans (List.suffix_cons _ _)
      · exact List.suffix_refl _
  | true, c :: r => by
    unfold skip
    split
    · exact (skip_suffix false r).trans (List.suffix_cons _ _)
    · exact (skip_suffix true r).trans (List.suffix_cons _ _)
theorem drop_skip (b : Bool) (s : Str) : s.drop (s.length - (skip b s).length) = skip b s := (List.suffix_iff_eq_drop.1 (skip_suffix b s)).symm
theorem skip_le (b : Bool) (s : Str) : (skip b s).length ≤ s.length := (skip_suffix b s).length_le
theorem sign_spec {s t : Str} (h : sign s = some t) : t ∈ signs ∧ t <+: s := by
  unfold sign at h
  split at h
  · rename_i h2; cases h; exact ⟨h2.1, List.take_prefix _ _⟩
  · split at h
    · rename_i h2; cases h; exact ⟨h2, List.take_prefix _ _⟩
    · cases h
theorem of_takeWhile {p : UInt8 → Bool} {s : Str} {c : UInt8} (h : c ∈ s.takeWhile p) : p c = true := by
  induction s with
  | nil => simp at h
  | cons d r ih =>
    rw [List.takeWhile_cons] at h
    split at h
    · rename_i hd
      rcases List.mem_cons.1 h with rfl | h
      · exact hd
      · exact ih h
    · simp at h
theorem takeWhile_prefix' (p : UInt8 → Bool) (s : Str) : s.takeWhile p <+: s := List.takeWhile_prefix p
theorem first_spec {s t : Str} {k : Nat} (h : first s = some (k, t)) : t <+: s ∧ t ≠ [] ∧ (k = 1 ∨ k = 2 ∨ k = 3 ∨ k = 4) ∧ (k = 3 → ∀ c ∈ t, digitB c = true) ∧ (k = 4 → t ∈ signs) ∧ (k = 2 → t ∈ words) := by
  cases s with
  | nil => cases h
  | cons c r =>
    unfold first at h
    simp only at h
    split at h
    · rename_i hl
      have hw : wordB c = true := by simp [wordB, hl]
      have hne : (c :: r).takeWhile wordB ≠ [] := by simp [List.takeWhile_cons, hw]
      split at h
      · rename_i hm
        cases h
        exact ⟨takeWhile_prefix' _ _, hne, by simp, by simp, by simp, fun _ => hm⟩
      · cases h
        exact ⟨takeWhile_prefix' _ _, hne, by simp, by simp, by simp, by simp⟩
    · split at h
      · rename_i hd
        cases h
        refine ⟨takeWhile_prefix' _ _, by simp [List.takeWhile_cons, hd], by simp, fun _ c hc => ?_, by simp, by simp⟩
        exact of_takeWhile hc
      · cases hs : sign (c :: r) with
        | none => rw [hs] at h; cases h
        | some u =>
          rw [hs] at h
          cases h
          obtain ⟨h1, h2⟩ := sign_spec hs
          refine ⟨h2, ?_, by simp, by simp, fun _ => h1, by simp⟩
          intro e
          rw [e] at h1
          revert h1
          decide
theorem scan_lexF : ∀ (n off : Nat) (s : Str), s.length < n → (∃ l, lexF n off s = .ok l ∧ scanF n off s = l ∧ (∀ t ∈ l, t.kind ≠ 0)) ∨ (∃ l at_, lexF n off s = .bad at_ ∧ scanF n off s = l ++ [⟨0, [], at_⟩] ∧ (∀ t ∈ l, t.kind ≠ 0))
  | 0, _, _, h => absurd h (by omega)
  | _ + 1, off, [], _ => .inl ⟨[], rfl, rfl, fun t ht => absurd ht List.not_mem_nil⟩
  | n + 1, off, c :: r, h => by
    unfold lexF scanF
    cases hf : first (c :: r) with
    | none => exact .inr ⟨[], off, rfl, rfl, fun t ht => absurd ht List.not_mem_nil⟩
    | some p =>
      obtain ⟨k, t⟩ := p
      obtain ⟨hp, hne, hk, _⟩ := first_spec hf
      have hk0 : k ≠ 0 := by omega
      have hlen : (skip false ((c :: r).drop t.length)).length < n := by
        have h1 := skip_le false ((c :: r).drop t.length)
        have h2 : 0 < t.length := List.length_pos_iff.2 hne
        have h3 := hp.length_le
        rw [List.length_drop] at h1
        omega
      rcases scan_lexF n (off + ((c :: r).length - (skip false ((c :: r).drop t.length)).length)) _ hlen with ⟨l, h1, h2, h3⟩ | ⟨l, a, h1, h2, h3⟩
      · refine .inl ⟨⟨k, t, off⟩ :: l, by simp only [h1, LexR.cons], by simp only [h2], fun u hu => ?_⟩
        rcases List.mem_cons.1 hu with rfl | hu
        · exact hk0
        · exact h3 u hu
      · refine .inr ⟨⟨k, t, off⟩ :: l, a, by simp only [h1, LexR.cons], by simp only [h2]; rfl, fun u hu => ?_⟩
        rcases List.mem_cons.1 hu with rfl | hu
        · exact hk0
        · exact h3 u hu
theorem scan_lex (s : Str) : (∃ l, lex s = .ok l ∧ scan s = l ∧ (∀ t ∈ l, t.kind ≠ 0)) ∨ (∃ l at_, lex s = .bad at_ ∧ scan s = l ++ [⟨0, [], at_⟩] ∧ (∀ t ∈ l, t.kind ≠ 0)) :=
  scan_lexF _ _ _ (by have := skip_le false s; omega)
theorem scanF_len : ∀ (n off : Nat) (s : Str), (scanF n off s).length ≤ s.length
  | 0, _, _ => by simp [scanF]
  | _ + 1, _, [] => by simp [scanF]
  | n + 1, off, c :: r => by
    unfold scanF
    cases hf : first (c :: r) with
    | none => simp
    | some p =>
      obtain ⟨k, t⟩ := p
      obtain ⟨hp, hne, _⟩ := first_spec hf
      have h1 := skip_le false ((c :: r).drop t.length)
      have h2 : 0 < t.length := List.length_pos_iff.2 hne
      have h3 := scanF_len n (off + ((c :: r).length - (skip false ((c :: r).drop t.length)).length)) (skip false ((c :: r).drop t.length))
      simp only [List.length_cons]
      simp only [List.length_drop, List.length_cons] at h1 h3 ⊢
      omega
theorem scan_len (s : Str) : (scan s).length ≤ s.length := Nat.le_trans (scanF_len _ _ _) (skip_le false s)
theorem scanF_ok : ∀ (n off : Nat) (s : Str), s.length ≤ 1000000 → ∀ t ∈ scanF n off s, t.kind ≠ 0 → t.ok
  | 0, _, _, _, t, h, _ => absurd h List.not_mem_nil
  | _ + 1, _, [], _, t, h, _ => absurd h List.not_mem_nil
  | n + 1, off, c :: r, hs, t, h, h0 => by
    unfold scanF at h
    cases hf : first (c :: r) with
    | none =>
      rw [hf] at h
      obtain rfl := List.mem_singleton.1 h
      exact absurd rfl h0
    | some p =>
      obtain ⟨k, u⟩ := p
      rw [hf] at h
      obtain ⟨h1, h2, h3, h4, h5, h6⟩ := first_spec hf
      rcases List.mem_cons.1 h with rfl | h
      · exact ⟨h2, Nat.le_trans h1.length_le hs, h4, h5, h6⟩
      · refine scanF_ok n _ _ ?_ t h h0
        have a := skip_le false ((c :: r).drop u.length)
        rw [List.length_drop] at a
        omega
theorem lex_ok {s : Str} {l : List Tok} (hs : s.length ≤ 1000000) (h : lex s = .ok l) : (∀ t ∈ l, t.ok) ∧ l.length ≤ s.length := by
  rcases scan_lex s with ⟨l', h1, h2, h3⟩ | ⟨l', a, h1, _⟩
  · rw [h] at h1
    cases h1
    have := scan_len s
    rw [h2] at this
    exact ⟨fun t ht => scanF_ok _ _ _ (Nat.le_trans (skip_le false s) hs) t (by show t ∈ scan s; rw [h2]; exact ht) (h3 t ht), this⟩
  · rw [h] at h1
    cases h1
end Bir
