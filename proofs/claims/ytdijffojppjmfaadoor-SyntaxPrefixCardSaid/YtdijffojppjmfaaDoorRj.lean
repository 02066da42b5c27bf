/- What the laws on prefixes, blanks and two programs say of the readings, plainly. -/
import Derived.Test.YtdijffojppjmfaaDoorQp
import Derived.Test.YtdijffojppjmfaaDoorRi
import Derived.Test.YtdijffojppjmfaaDoorRd
import Derived.Test.YtdijffojppjmfaaDoorRf
set_option linter.unusedVariables false
namespace Bir
open Go.Proofs.YtdijffojppjmfaaDoor
theorem readRes_err {α : Type} {p : List Tok → R α} {s : Str} {l l2 : List Tok} {k : Nat} (hl : s.length ≤ 20000) (hok : lex s = .ok l) (hy : p l = .err l2 k) : readRes p s = (none, offAt s.length l2, k) := by
  unfold readRes
  rw [if_neg (by omega), hok]
  simp only [hy]
theorem parseP_ok {s : Str} {l : List Tok} {x : Pr} (hl : s.length ≤ 20000) (hok : lex s = .ok l) (hy : prog fuel0 fuel0 [] [] l = .ok x []) : parseP s = if 60 < deepP x.funcs then (none, 0, 3) else (some x, 0, 0) := by
  unfold parseP
  rw [readRes_ok hl hok hy]
  rfl
theorem parseP_bad {s : Str} {l l2 : List Tok} {k : Nat} (hl : s.length ≤ 20000) (hok : lex s = .ok l) (hy : prog fuel0 fuel0 [] [] l = .err l2 k) : parseP s = (none, offAt s.length l2, k) := by
  unfold parseP
  rw [readRes_err hl hok hy]
/-- What a reading that comes to a program is. -/
theorem parseP_some {s : Str} {x : Pr} {a k : Nat} (hs : s.length ≤ 20001) (h : parseP s = (some x, a, k)) : s.length ≤ 20000 ∧ a = 0 ∧ k = 0 ∧ deepP x.funcs ≤ 60 ∧ ∃ l, lex s = .ok l ∧ prog fuel0 fuel0 [] [] l = .ok x [] := by
  rcases readRes_cases (prog fuel0 fuel0 [] []) s (fun l => prog_k _ _ _ _ l) (fun l hl => prog_out (lex_len hs hl)) with ⟨y, l, h1, h2, h3, h4⟩ | ⟨a', k', _, h4⟩
  · unfold parseP at h
    rw [h4] at h
    simp only at h
    split at h
    · cases h
    · cases h
      exact ⟨h2, rfl, rfl, by omega, l, h1, h3⟩
  · unfold parseP at h
    rw [h4] at h
    cases h
theorem parseP_none {s : Str} {a k : Nat} (hs : s.length ≤ 20001) (h : parseP s = (none, a, k)) : k ≠ 0 := by
  rcases readRes_cases (prog fuel0 fuel0 [] []) s (fun l => prog_k _ _ _ _ l) (fun l hl => prog_out (lex_len hs hl)) with ⟨y, l, h1, h2, h3, h4⟩ | ⟨a', k', hk, h4⟩
  · unfold parseP at h
    rw [h4] at h
    simp only at h
    split at h <;> cases h
    simp
  · unfold parseP at h
    rw [h4] at h
    cases h
    omega
theorem prefix_law {t : Str} {r : Option Pr} {a : Nat} {l : List Tok} (ht : t.length ≤ 20001) (h : parseP t = (r, a, 4)) (hal : a ≤ t.length) (hl : lex t = .ok l) :
    ∃ r' n g, parseP (t.take a) = (r', n, g) ∧ (g = 0 ∨ g = 4 ∧ n = (t.take a).length ∨ g = 3 ∧ n = 0) := by
  by_cases hlen : 20000 < t.length
  · have : parseP t = (none, 0, 3) := by unfold parseP readRes; rw [if_pos hlen]
    rw [this] at h
    cases h
  · have hne : prog fuel0 fuel0 [] [] l ≠ .out := prog_out (lex_len ht hl)
    cases hp : prog fuel0 fuel0 [] [] l with
    | out => exact absurd hp hne
    | ok x l' =>
      obtain rfl := prog_nil_end _ _ _ _ _ _ _ hp
      rw [parseP_ok (by omega) hl hp] at h
      split at h <;> cases h
    | err l' k =>
      have hb := parseP_bad (by omega) hl hp
      rw [hb] at h
      cases h
      have hs : l' <:+ l := by
        have := prog_suf fuel0 fuel0 [] [] l
        rw [hp] at this
        exact this
      obtain ⟨p, rfl⟩ := hs
      cases l' with
      | nil =>
        have e : offAt t.length [] = t.length := rfl
        rw [e] at hal hb ⊢
        rw [List.take_length]
        exact ⟨_, _, _, hb, .inr (.inl ⟨rfl, rfl⟩)⟩
      | cons u q =>
        have e : offAt t.length (u :: q) = u.off := rfl
        rw [e] at hal ⊢
        have hx := (lex_prefix hl).2
        have hlt : (t.take u.off).length ≤ 20000 := by rw [List.length_take]; omega
        have hn2 : prog fuel0 fuel0 [] [] p ≠ .out := prog_out (lex_len (by omega) hx)
        rcases prog_prefix hp hn2 with ⟨x, h1⟩ | h1
        · rw [parseP_ok hlt hx h1]
          split
          · exact ⟨_, _, _, rfl, .inr (.inr ⟨rfl, rfl⟩)⟩
          · exact ⟨_, _, _, rfl, .inl rfl⟩
        · rw [parseP_bad hlt hx h1]
          exact ⟨_, _, _, rfl, .inr (.inl ⟨rfl, rfl⟩)⟩
/-- Blanks and a remark. -/
def gapS : Str := [9, 47, 47, 32, 59, 32, 125, 32, 120, 10, 32, 13]
theorem gap_skip (z : Str) : skip false (gapS ++ z) = skip false z := by
  simp [gapS, skip, blankB]
theorem blanks_law {t : Str} {x : Pr} {a k : Nat} {l : List Tok} {u : Tok} (ht : t.length ≤ 20001) (h : parseP t = (some x, a, k)) (hl : lex t = .ok l) (hu : u ∈ l) (hlen : t.length + 12 ≤ 20000) :
    u.off ≤ t.length ∧ parseP (t.take u.off ++ gapS ++ t.drop u.off) = (some x, 0, 0) := by
  obtain ⟨h1, rfl, rfl, hd, l', hl', hp⟩ := parseP_some ht h
  rw [hl] at hl'
  cases hl'
  obtain ⟨h2, m, hm, hs⟩ := lex_gap hl hu gap_skip (fun c hc => by cases hc; exact safe_tab) (by simp [gapS])
  refine ⟨h2, ?_⟩
  have := prog_alike hs.symm hp
  rw [parseP_ok (by simp [gapS]; omega) hm this, if_neg (by omega)]
theorem one_law {s t : Str} {x y : Pr} {a k b j : Nat} (hs : s.length ≤ 20001) (ht : t.length ≤ 20001) (h1 : parseP s = (some x, a, k)) (h2 : parseP t = (some y, b, j)) (hlen : s.length + t.length < 20000) :
    (x.arrays.length + y.arrays.length ≤ 16 ∧ x.funcs.length + y.funcs.length ≤ 40 → parseP (s ++ 10 :: t) = (some ⟨x.arrays ++ y.arrays, x.funcs ++ y.funcs⟩, 0, 0)) ∧
    (¬ (x.arrays.length + y.arrays.length ≤ 16 ∧ x.funcs.length + y.funcs.length ≤ 40) → ∃ n, parseP (s ++ 10 :: t) = (none, n, 3)) := by
  obtain ⟨h3, _, _, hd, l, hl, hp⟩ := parseP_some hs h1
  obtain ⟨h4, _, _, he, m, hm, hq⟩ := parseP_some ht h2
  obtain ⟨l', hl', hst⟩ := lex_feed hl hm
  have hll := (lex_ok (by omega) hl).2
  have hlm := (lex_ok (by omega) hm).2
  have ho := prog_one hp hq (by omega)
  have hsz : (s ++ 10 :: t).length ≤ 20000 := by simp; omega
  rw [← List.map_append] at hst
  refine ⟨fun hc => ?_, fun hc => ?_⟩
  · rw [parseP_ok hsz hl' (prog_alike hst.symm (ho.1 hc)), if_neg (by rw [deepP_app]; omega)]
  · obtain ⟨e, h5⟩ := ho.2 hc
    obtain ⟨e', h6, _⟩ := prog_alike_err hst.symm h5
    exact ⟨_, parseP_bad hsz hl' h6⟩
end Bir
