/- The reference's lexer: All, Lex, Short. -/
import Derived.Test.YtdijffojppjmfaaDoorSb
set_option linter.unusedVariables false
set_option linter.unusedSimpArgs false
namespace Bir
def LexR.pre (p : List Tok) : LexR → LexR
  | .ok l => .ok (p ++ l)
  | .bad n => .bad n
theorem LexR.pre_nil (r : LexR) : r.pre [] = r := by cases r <;> rfl
theorem LexR.pre_cons (p : List Tok) (t : Tok) (r : LexR) : (r.cons t).pre p = r.pre (p ++ [t]) := by
  cases r with
  | ok l => simp [LexR.pre, LexR.cons]
  | bad n => rfl
end Bir
namespace Go.Proofs.YtdijffojppjmfaaDoor
open Go.RowKit Bir Go.BW
theorem skipAt_le (s : Str) (k : Nat) : skipAt s k ≤ s.length := by unfold skipAt; omega
theorem skipAt_drop (s : Str) (k : Nat) : s.drop (skipAt s k) = skip false (s.drop k) := by
  unfold skipAt
  have h1 := (skip_suffix false (s.drop k)).trans (List.drop_suffix k s)
  exact (List.suffix_iff_eq_drop.1 h1).symm
theorem skipAt_ge (s : Str) (k : Nat) (hk : k ≤ s.length) : k ≤ skipAt s k := by
  unfold skipAt
  have := skip_le false (s.drop k)
  rw [List.length_drop] at this
  omega
theorem lexF_step {m k : Nat} {s : Str} (hk : k < s.length) :
    lexF (m + 1) k (s.drop k) = match first (s.drop k) with
      | none => .bad k
      | some (kd, t) => (lexF m (skipAt s (k + t.length)) (s.drop (skipAt s (k + t.length)))).cons ⟨kd, t, k⟩ := by
  have hne : s.drop k ≠ [] := fun h => by have := congrArg List.length h; rw [List.length_drop] at this; simp at this; omega
  cases hd : s.drop k with
  | nil => exact absurd hd hne
  | cons c r =>
    conv => lhs; unfold lexF
    cases hf : first (c :: r) with
    | none => rfl
    | some p =>
      obtain ⟨kd, t⟩ := p
      simp only
      have e1 : skip false ((c :: r).drop t.length) = s.drop (skipAt s (k + t.length)) := by rw [skipAt_drop, ← hd, List.drop_drop]
      have hl := skipAt_le s (k + t.length)
      have e2 : k + ((c :: r).length - (s.drop (skipAt s (k + t.length))).length) = skipAt s (k + t.length) := by
        have h1 := (first_spec hf).1.length_le
        rw [← hd] at h1 ⊢
        have hge := skipAt_ge s (k + t.length) (by rw [List.length_drop] at h1; omega)
        rw [List.length_drop, List.length_drop]
        omega
      rw [e1, e2]
def RAPost (s : Str) (w : World) (en : Ending) (w' : World) : Prop :=
  Below w.heap.size w w' ∧ ((∃ a : Nat, lex s = .bad a ∧ en = .returned (.tuple #[.slice none 0 0, .int .i64 a, .bool false])) ∨
    ∃ l A c, lex s = .ok l ∧ en = .returned (.tuple #[.slice A l.length c, .int .i64 0, .bool true]) ∧ l.length ≤ c ∧ c ≤ 9223372036854775807 ∧ (l = [] ∨ ∃ tb, A = some ⟨tb, 0, none⟩ ∧ w.heap.size ≤ tb ∧ tb < w'.heap.size ∧ ToksAt w' tb 0 l))
theorem toks_of_own {w W : World} {base : Nat} {A : Option Addr} {c : Nat} {l : List Tok} (h : W.ownsRow base 49 3 (.slice A l.length c) l.length (tokCells l)) (hb : w.heap.size ≤ base) :
    l.length ≤ c ∧ c ≤ 9223372036854775807 ∧ (l = [] ∨ ∃ tb, A = some ⟨tb, 0, none⟩ ∧ w.heap.size ≤ tb ∧ tb < W.heap.size ∧ ToksAt W tb 0 l) := by
  refine ⟨?_, ?_, ?_⟩
  · obtain ⟨A', c', e, hc⟩ := (VRow.of_own h).slice
    injection e with _ _ e
    omega
  · rcases h.2 with ⟨h1, _⟩ | ⟨g, cap, cur, h1, _, _, _, h2, _⟩
    · injection h1 with _ _ h1; omega
    · injection h1 with _ _ h1; simp only [maxLen] at h2; omega
  · rcases h.2 with ⟨_, h1⟩ | ⟨g, cap, cur, h1, hg, hh, _, _, _, _⟩
    · exact .inl (List.eq_nil_of_length_eq_zero h1)
    · injection h1 with h1 _ _
      refine .inr ⟨g, h1, by omega, (Array.getElem?_eq_some_iff.1 hh).1, fun j t hj => ?_⟩
      subst h1
      obtain ⟨k0, k1, k2⟩ := tokCells_at _ j t hj
      have hcell : ∀ i u, (tokCells l)[i]? = some u → W.cell? ⟨g, 0 + i, none⟩ = some u := fun i u hu => by
        have := h.cells (g := g) rfl i u hu
        rwa [show (⟨g, 0, none⟩ : Addr).add i = ⟨g, 0 + i, none⟩ from by unfold Addr.add; split <;> simp_all] at this
      exact ⟨hcell _ _ k0, hcell _ _ k1, hcell _ _ k2⟩
set_option maxRecDepth 100000 in
set_option maxHeartbeats 4000000 in
theorem rall_calls (s : Str) (hs : s.length ≤ 1000000) (w : World) : Calls Tryd.prog 49 #[.string (ba s)] w (RAPost s w) := by
  have hx0 : lex s = lexF (s.length + 1) (skipAt s 0) (s.drop (skipAt s 0)) := by rw [skipAt_drop]; rfl
  have HX0 := Lib.hid hx0
  clear hx0
  go_enter Tryd.func49, Tryd.ntmps49
  go_wp2_with fail
  refine (rskip_calls s 0 (by omega) hs _).mono ?_
  rintro en w1 ⟨rfl, rfl⟩
  have hz := skipAt_le s 0
  go_wp2_with fail
  go_loopw [5, 6] (fun o a wr => ∃ (pre : List Tok) (k m : Nat), k ≤ s.length ∧ a = .int .i64 k ∧ wr.ownsRow w.heap.size 49 3 o pre.length (tokCells pre) ∧ pre.length ≤ k ∧ Below w.heap.size w wr ∧ s.length - k < m ∧ Hid (lex s = (lexF m k (s.drop k)).pre pre)) (fun _ a _ => s.length - (intOf a).toNat)
  case atStart => exact ⟨[], skipAt s 0, s.length + 1, hz, rfl, World.ownsRow_nil _ _ _ _, by simp, Below.refl _ _, by omega, Lib.hid (by rw [LexR.pre_nil]; exact HX0.out)⟩
  case round =>
    obtain ⟨pre, k, m, hk, rfl, hown, hpk, hb, hm, hg⟩ := hrel
    obtain ⟨A, c, rfl, _⟩ := (VRow.of_own hown).slice
    by_cases hlt : k < s.length
    · obtain ⟨m, rfl⟩ : ∃ m', m = m' + 1 := ⟨m - 1, by omega⟩
      have hst := lexF_step (m := m) hlt
      have HOWN := Lib.hid hown
      clear hown
      go_wp2_with fail
      cases hf : first (s.drop k) with
      | none =>
        have HV : Hid (nextV (s.drop k) = (4, [], false)) := Lib.hid (by unfold nextV; rw [hf])
        have HL : Hid (lex s = .bad k) := Lib.hid (by rw [hg.out, hst, hf]; rfl)
        clear hst hf
        refine (rnext_calls s k hlt hs _).mono ?_
        rw [HV.out]
        rintro en w1 ⟨rfl, hb1⟩
        go_wp2_with fail
        refine bodyPost_ret (v := .tuple #[.slice none 0 0, .int .i64 k, .bool false]) (by simp [results, Tryd.results49, go_sem]) rfl ⟨(hb.trans (hb1.mono hb.size)).alloc (by have := hb.size; have := hb1.size; omega) _, .inl ⟨k, HL.out, rfl⟩⟩
      | some p =>
        obtain ⟨kd, t⟩ := p
        have HV : Hid (nextV (s.drop k) = (kd, t, true)) := Lib.hid (by unfold nextV; rw [hf])
        have hsp := first_spec hf
        have htl : k + t.length ≤ s.length := by have := hsp.1.length_le; rw [List.length_drop] at this; omega
        have ht0 : 0 < t.length := List.length_pos_iff.2 hsp.2.1
        have HL : Hid (lex s = (lexF m (skipAt s (k + t.length)) (s.drop (skipAt s (k + t.length)))).pre (pre ++ [⟨kd, t, k⟩])) := Lib.hid (by rw [hg.out, hst, hf]; exact LexR.pre_cons _ _ _)
        have hge := skipAt_ge s (k + t.length) htl
        have hle := skipAt_le s (k + t.length)
        clear hst hf hsp hg
        refine (rnext_calls s k hlt hs _).mono ?_
        rw [HV.out]
        rintro en w1 ⟨rfl, hb1⟩
        have hsz := hb.size
        have hsz1 := hb1.size
        have hown1 := (ownsRow_same HOWN.out (w1 := w1) (fun g hg => hb1.block g (ownsRow_block HOWN.out hg).2))
        have HO1 := Lib.hid (hown1.alloc (.cells #[.int .i64 kd, .string (ba t), .int .i64 k] 49))
        have HB1 := Lib.hid ((hb.trans (hb1.mono hb.size)).alloc (by omega) (.cells #[.int .i64 kd, .string (ba t), .int .i64 k] 49))
        have hn := cells3.new w1 (.int .i64 kd) (.string (ba t)) (.int .i64 k) 49
        have hlt1 : w1.heap.size < (w1.alloc (.cells #[.int .i64 kd, .string (ba t), .int .i64 k] 49)).heap.size := by simp
        have hsz2 : (w1.alloc (.cells #[.int .i64 kd, .string (ba t), .int .i64 k] 49)).heap.size = w1.heap.size + 1 := by simp
        have hob := (fun g hg => ownsRow_block hown1 (g := g) hg)
        have HOB := Lib.hid hob
        clear hown1 hb hb1 HOWN hob
        have hE : Value.slice (some ⟨w1.heap.size + 1, 0, none⟩) 1 1 = Value.slice (some ⟨(w1.alloc (.cells #[.int .i64 kd, .string (ba t), .int .i64 k] 49)).heap.size, 0, none⟩) 1 1 := congrArg (fun n => Value.slice (some ⟨n, 0, none⟩) 1 1) hsz2.symm
        have HE := Lib.hid hE
        have HN := Lib.hid hn
        clear hE hn
        go_wp2_with (at_builtin; refine append_one (w1.alloc (.cells #[.int .i64 kd, .string (ba t), .int .i64 k] 49)) w.heap.size rfl _ _ 42 49 _ 3 32 rfl Tryd.underlying42 infoTok rfl (by decide) (by decide) (.slice A pre.length c) pre.length (tokCells pre) [.int .i64 kd, .string (ba t), .int .i64 k] rfl (by exact HE.out) rfl (by simp [Value.oneCell']) HO1.out (by omega) (by omega) ?_; intro v1 w7 hown7 hg7 hat7; have hx7 : Ext (fun b => (Value.slice A pre.length c).ownBlock = some b) (w1.alloc (.cells #[.int .i64 kd, .string (ba t), .int .i64 k] 49)) w7 := (Ext.refl _ _).grown hg7 (fun k hk => .inl hk); obtain ⟨a0, a1, a2⟩ := HN.out.ext hx7 (fun hk => by have := (HOB.out _ hk).2; omega); have hB7 : Below w.heap.size w w7 := HB1.out.trans (hx7.to_below (by omega) (fun b hb => (HOB.out b hb).1)); rw [← tokCells_snoc pre ⟨kd, t, k⟩] at hown7; have HO7 := Lib.hid hown7; obtain ⟨A', c', rfl, _⟩ := (VRow.of_own hown7).slice; have HB7 := Lib.hid hB7; (have ht6 : t.length ≤ 1000000 := by omega); clear hx7 hg7 hat7 hown7 hB7)
        refine (rskip_calls s (k + t.length) htl hs _).mono ?_
        rintro en w8 ⟨rfl, rfl⟩
        go_wp2_with fail
        refine ⟨⟨pre ++ [⟨kd, t, k⟩], skipAt s (k + t.length), m, hle, rfl, by rw [List.length_append]; exact HO7.out, by simp; omega, HB7.out, by omega, HL⟩, by simp [intOf]; omega⟩
    · obtain rfl : k = s.length := by omega
      have HL : Hid (lex s = .ok pre) := Lib.hid (by
        rw [hg.out, List.drop_length]
        cases m with
        | zero => omega
        | succ m => simp [lexF, LexR.pre])
      have hfin := toks_of_own hown (Nat.le_refl _)
      have HF := Lib.hid hfin
      clear hfin hown hg
      go_wp2_with fail
      refine bodyPost_ret (v := .tuple #[.slice A pre.length c, .int .i64 0, .bool true]) (by simp [results, Tryd.results49, go_sem]) rfl ⟨hb, .inr ⟨pre, A, c, HL.out, rfl, HF.out.1, HF.out.2.1, HF.out.2.2⟩⟩
set_option maxRecDepth 100000 in
set_option maxHeartbeats 2000000 in
theorem rlex_calls (s : Str) (hs : s.length ≤ 1000000) (w : World) : Calls Tryd.prog 24 #[.string (ba s)] w (LPost s w) := by
  by_cases hl : 20000 < s.length
  · have e1 : decide ((20000 : Int) < (s.length : Int)) = true := by simp; omega
    go_enter Tryd.func24, Tryd.ntmps24
    go_wp2_with fail
    exact bodyPost_ret (v := .tuple #[.slice none 0 0, .int .i64 0, .int .i64 3]) (by simp [results, Tryd.results24, go_sem]) rfl ⟨Below.refl _ _, .inl ⟨hl, rfl⟩⟩
  · have e1 : decide ((20000 : Int) < (s.length : Int)) = false := by simp; omega
    go_enter Tryd.func24, Tryd.ntmps24
    go_wp2_with fail
    refine (rall_calls s hs _).mono ?_
    rintro en w1 ⟨hb, (⟨a, hbad, rfl⟩ | ⟨l, A, c, hok, rfl, h1, h2, h3⟩)⟩
    · have HB := Lib.hid hbad
      clear hbad
      go_wp2_with fail
      exact bodyPost_ret (v := .tuple #[.slice none 0 0, .int .i64 a, .int .i64 4]) (by simp [results, Tryd.results24, go_sem]) rfl ⟨hb, .inr ⟨by omega, .inl ⟨a, HB.out, rfl⟩⟩⟩
    · have HB := Lib.hid hok
      have H3 := Lib.hid h3
      clear hok h3
      go_wp2_with fail
      exact bodyPost_ret (v := .tuple #[.slice A l.length c, .int .i64 0, .int .i64 0]) (by simp [results, Tryd.results24, go_sem]) rfl ⟨hb, .inr ⟨by omega, .inr ⟨l, A, c, HB.out, rfl, h1, h2, H3.out⟩⟩⟩
theorem short_calls (s : Str) (hs : s.length ≤ 9223372036854775807) (w : World) : Calls Tryd.prog 13 #[.string (ba s)] w fun r w' => r = .returned (.string (ba (s.take 20001))) ∧ w = w' := by
  have hx : (ba s).extract 0 (min (s.length : Int) 20001).toNat = ba (s.take 20001) := by
    rw [ba_to]
    congr 1
    rw [show (min (s.length : Int) 20001).toNat = min s.length 20001 from by omega]
    rcases Nat.le_total s.length 20001 with h | h
    · rw [Nat.min_eq_left h, List.take_length, List.take_of_length_le h]
    · rw [Nat.min_eq_right h]
  have HX := Lib.hid hx
  clear hx
  go_enter Tryd.func13, Tryd.ntmps13
  go_wp2_with fail
  go_ret
  exact ⟨congrArg (fun b => Ending.returned (.string b)) HX.out, rfl⟩
end Go.Proofs.YtdijffojppjmfaaDoor
