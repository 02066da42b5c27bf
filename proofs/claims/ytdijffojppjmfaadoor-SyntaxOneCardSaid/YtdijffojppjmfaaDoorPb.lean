/- The parser's smallest methods, walked: next, is, take, must, fail, name, few. -/
import Derived.Test.YtdijffojppjmfaaDoorPw
import Derived.Test.YtdijffojppjmfaaDoorProg
import Derived.KernelRfl
import Derived.Outline
import Derived.WalkLawsBesides
import Derived.Lib.Hide
set_option linter.unusedVariables false
namespace Go.Proofs.YtdijffojppjmfaaDoor
open Go.RowKit Bir Go.BW

section
variable {w : World} {pb tb e : Nat} {l : List Tok}
theorem tok_field0 (k s a : Value) (w : World) : (Instr.field 49 (.agg #[k, s, a]) 0).run Tryd.prog w = .ok k w := by kernel_rfl
theorem tok_field1 (k s a : Value) (w : World) : (Instr.field 49 (.agg #[k, s, a]) 1).run Tryd.prog w = .ok s w := by kernel_rfl
theorem tok_field2 (k s a : Value) (w : World) : (Instr.field 49 (.agg #[k, s, a]) 2).run Tryd.prog w = .ok a w := by kernel_rfl
attribute [go_sem] tok_field0 tok_field1 tok_field2
abbrev pp (pb : Nat) : Value := .pointer (some ⟨pb, 0, none⟩)

theorem next_nil (h : PSt w pb tb e []) :
    Calls Tryd.prog 106 #[pp pb] w fun r w' => r = .returned (.agg #[.int .i64 0, .string ⟨#[]⟩, .int .i64 e]) ∧ Below w.heap.size w w' := by
  obtain ⟨A, c, h0, h2, h3, h4⟩ := h.list
  have h1 := h.fin
  have hb := h.pb_lt
  clear h4 h
  go_enter Tryd.func106, Tryd.ntmps106
  go_wp2
  refine bodyPost_ret (v := .agg #[.int .i64 0, .string ⟨#[]⟩, .int .i64 e]) (by simp [results, Tryd.results106, go_sem]) rfl ⟨rfl, (Below.refl _ _).alloc (Nat.le_refl _) _⟩

theorem next_cons {t : Tok} (h : PSt w pb tb e (t :: l)) :
    Calls Tryd.prog 106 #[pp pb] w fun r w' => r = .returned (.agg #[.int .i64 t.kind, .string (ba t.text), .int .i64 t.off]) ∧ Below w.heap.size w w' := by
  obtain ⟨A, c, h0, h2, h3, h4⟩ := h.list
  obtain ⟨off, rfl, h5⟩ := h4 (by simp)
  obtain ⟨c0, c1, c2⟩ := h5.head
  have hb := h.pb_lt
  have htb := h.tb_lt
  have hne : (((t :: l).length : Int) == 0) = false := beq_eq_false_iff_ne.2 (by simp only [List.length_cons]; omega)
  have hlt : (0 : Int) < ((t :: l).length : Int) := by simp only [List.length_cons]; omega
  clear h4 h5 h
  generalize (t :: l).length = n at *
  go_enter Tryd.func106, Tryd.ntmps106
  go_wp2
  refine bodyPost_ret (v := .agg #[.int .i64 t.kind, .string (ba t.text), .int .i64 t.off]) (by simp [results, Tryd.results106, go_sem]) rfl ⟨rfl, (Below.refl _ _).alloc (Nat.le_refl _) _⟩

theorem is_calls (h : PSt w pb tb e l) (s : Str) :
    Calls Tryd.prog 71 #[pp pb, .string (ba s)] w fun r w' => r = .returned (.bool (Bir.is s l)) ∧ Below w.heap.size w w' := by
  cases l with
  | nil =>
    go_enter Tryd.func71, Tryd.ntmps71
    go_wp2_with (go_at_call 106; refine (next_nil h).mono ?_; rintro e1 w1 ⟨rfl, hb1⟩)
    go_ret
    exact ⟨rfl, hb1.trans ((Below.refl _ _).alloc hb1.size _)⟩
  | cons t l =>
    by_cases k4 : t.kind = 4
    · have e4 : ((t.kind : Int) == 4) = true := by simp [k4]
      have hfin : Bir.is s (t :: l) = (t.text == s) := by simp [Bir.is, k4]
      rw [hfin]
      clear k4 hfin
      go_enter Tryd.func71, Tryd.ntmps71
      go_wp2_with (go_at_call 106; refine (next_cons h).mono ?_; rintro e1 w1 ⟨rfl, hb1⟩)
      go_ret
      exact ⟨rfl, hb1.trans ((Below.refl _ _).alloc hb1.size _)⟩
    · have e4 : ((t.kind : Int) == 4) = false := beq_eq_false_iff_ne.2 (by omega)
      by_cases k2 : t.kind = 2
      · have e2 : ((t.kind : Int) == 2) = true := by simp [k2]
        have hfin : Bir.is s (t :: l) = (t.text == s) := by simp [Bir.is, k2]
        rw [hfin]
        clear k4 k2 hfin
        go_enter Tryd.func71, Tryd.ntmps71
        go_wp2_with (go_at_call 106; refine (next_cons h).mono ?_; rintro e1 w1 ⟨rfl, hb1⟩)
        go_ret
        exact ⟨rfl, hb1.trans ((Below.refl _ _).alloc hb1.size _)⟩
      · have e2 : ((t.kind : Int) == 2) = false := beq_eq_false_iff_ne.2 (by omega)
        have hfin : Bir.is s (t :: l) = false := by simp [Bir.is, k2, k4]
        rw [hfin]
        clear k4 k2 hfin
        go_enter Tryd.func71, Tryd.ntmps71
        go_wp2_with (go_at_call 106; refine (next_cons h).mono ?_; rintro e1 w1 ⟨rfl, hb1⟩)
        go_ret
        exact ⟨rfl, hb1.trans ((Below.refl _ _).alloc hb1.size _)⟩

theorem take_no (h : PSt w pb tb e l) (s : Str) (hs : Bir.is s l = false) :
    Calls Tryd.prog 84 #[pp pb, .string (ba s)] w fun r w' => r = .returned (.bool false) ∧ Below w.heap.size w w' := by
  go_enter Tryd.func84, Tryd.ntmps84
  go_wp2_with (go_at_call 71; refine (is_calls h s).mono ?_; rintro e1 w1 ⟨rfl, hb1⟩)
  go_ret
  exact ⟨rfl, hb1⟩
theorem take_yes (h : PSt w pb tb e l) (s : Str) (hs : Bir.is s l = true) :
    Calls Tryd.prog 84 #[pp pb, .string (ba s)] w fun r w' => r = .returned (.bool true) ∧ Ext (· = pb) w w' ∧ PSt w' pb tb e l.tail := by
  cases l with
  | nil => simp [Bir.is] at hs
  | cons t l =>
    go_enter Tryd.func84, Tryd.ntmps84
    go_wp2_with fail
    refine (is_calls h s).mono ?_
    rintro e1 w1 ⟨rfl, hb1⟩
    have h1 := h.below hb1
    have hx := Ext.of_below hb1 (· = pb)
    clear h hb1
    obtain ⟨A, c, h0, h2, h3, h4⟩ := h1.list
    obtain ⟨off, rfl, h5⟩ := h4 (by simp)
    have hf := h1.nofrz
    have H5 := Lib.hid h5
    have H1 := Lib.hid h1
    have H2 := Lib.hid h2
    clear h1 h2 h4 h5
    simp only [List.length_cons] at *
    go_wp2_with fail
    · go_ret
      have hl := H2.out
      exact ⟨rfl, hx.setCell (.inl rfl) _, H1.out.moved (by omega) (by omega) fun hn => absurd (List.length_pos_iff.2 hn) (by omega)⟩
    · go_ret
      have hl := H2.out
      exact ⟨rfl, hx.setCell (.inl rfl) _, H1.out.moved (by omega) (by omega) fun hn => ⟨off + 3, rfl, H5.out.tail⟩⟩

/-- How the parser ends where something is wrong: a panic, with the error at the next token. -/
def offAt (e : Nat) : List Tok → Nat
  | [] => e
  | t :: _ => t.off
abbrev wrongAt (a k : Nat) : List PanicEntry := [{ v := .iface 107 (.agg #[.int .i64 a, .int .i64 k]), recovered := false }]
theorem fail_calls (h : PSt w pb tb e l) (k : Nat) :
    Calls Tryd.prog 70 #[pp pb, .int .i64 k] w fun r w' => r = .panicked (wrongAt (offAt e l) k) ∧ Below w.heap.size w w' := by
  cases l with
  | nil =>
    go_enter Tryd.func70, Tryd.ntmps70
    go_wp2_with (go_at_call 106; refine (next_nil h).mono ?_; rintro e1 w1 ⟨rfl, hb1⟩)
    exact ⟨rfl, rfl, hb1⟩
  | cons t l =>
    go_enter Tryd.func70, Tryd.ntmps70
    go_wp2_with (go_at_call 106; refine (next_cons h).mono ?_; rintro e1 w1 ⟨rfl, hb1⟩)
    exact ⟨rfl, rfl, hb1⟩

theorem must_yes (h : PSt w pb tb e l) (s : Str) (hs : Bir.is s l = true) :
    Calls Tryd.prog 85 #[pp pb, .string (ba s)] w fun r w' => r = .returned (.tuple #[]) ∧ Ext (· = pb) w w' ∧ PSt w' pb tb e l.tail := by
  go_enter Tryd.func85, Tryd.ntmps85
  go_wp2_with (go_at_call 84; refine (take_yes h s hs).mono ?_; rintro e1 w1 ⟨rfl, hx1, h1⟩)
  go_end0
  exact ⟨rfl, hx1, h1⟩
theorem must_no (h : PSt w pb tb e l) (s : Str) (hs : Bir.is s l = false) :
    Calls Tryd.prog 85 #[pp pb, .string (ba s)] w fun r w' => r = .panicked (wrongAt (offAt e l) 4) ∧ Below w.heap.size w w' := by
  go_enter Tryd.func85, Tryd.ntmps85
  go_wp2_with fail
  refine (take_no h s hs).mono ?_
  rintro e1 w1 ⟨rfl, hb1⟩
  go_wp2_with fail
  refine (fail_calls (h.below hb1) 4).mono ?_
  rintro e1 w2 ⟨rfl, hb2⟩
  exact ⟨rfl, rfl, hb1.trans (hb2.mono hb1.size)⟩

theorem name_yes {t : Tok} (h : PSt w pb tb e (t :: l)) (hk : t.kind = 1) (hl : t.text.length ≤ 40) :
    Calls Tryd.prog 107 #[pp pb] w fun r w' => r = .returned (.string (ba t.text)) ∧ Ext (· = pb) w w' ∧ PSt w' pb tb e l := by
  have e1 : ((t.kind : Int) != 1) = false := by simp [hk]
  have e2 : decide ((40 : Int) < (t.text.length : Int)) = false := by simp; omega
  clear hk
  go_enter Tryd.func107, Tryd.ntmps107
  go_wp2_with fail
  refine (next_cons h).mono ?_
  rintro e1 w1 ⟨rfl, hb1⟩
  have h1 := h.below hb1
  have hx := Ext.of_below hb1 (· = pb)
  clear h hb1
  obtain ⟨A, c, h0, h2, h3, h4⟩ := h1.list
  obtain ⟨off, rfl, h5⟩ := h4 (by simp)
  have hf := h1.nofrz
  have hp := h1.pb_lt
  have H5 := Lib.hid h5
  have H1 := Lib.hid h1
  have H2 := Lib.hid h2
  clear h1 h2 h4 h5
  simp only [List.length_cons] at *
  go_wp2_with fail
  · go_ret
    have hl := H2.out
    exact ⟨rfl, (hx.setCell (.inl rfl) _).alloc _, (H1.out.moved (by omega) (by omega) fun hn => absurd (List.length_pos_iff.2 hn) (by omega)).alloc _⟩
  · go_ret
    have hl := H2.out
    exact ⟨rfl, (hx.setCell (.inl rfl) _).alloc _, (H1.out.moved (by omega) (by omega) fun hn => ⟨off + 3, rfl, H5.out.tail⟩).alloc _⟩
theorem name_form (h : PSt w pb tb e l) (hk : kindOf l ≠ 1) :
    Calls Tryd.prog 107 #[pp pb] w fun r w' => r = .panicked (wrongAt (offAt e l) 4) ∧ Below w.heap.size w w' := by
  cases l with
  | nil =>
    go_enter Tryd.func107, Tryd.ntmps107
    go_wp2_with fail
    refine (next_nil h).mono ?_
    rintro e1 w1 ⟨rfl, hb1⟩
    have h1 := (h.below hb1).alloc (.cells #[.int .i64 0, .string ⟨#[]⟩, .int .i64 e] 49)
    go_wp2_with fail
    refine (fail_calls h1 4).mono ?_
    rintro e2 w2 ⟨rfl, hb2⟩
    exact ⟨rfl, rfl, hb1.trans (((Below.refl _ _).alloc hb1.size _).trans (hb2.mono (by have := hb1.size; simp; omega)))⟩
  | cons t l =>
    have e1 : ((t.kind : Int) != 1) = true := by simp [kindOf] at hk; rw [bne_iff_ne]; omega
    clear hk
    go_enter Tryd.func107, Tryd.ntmps107
    go_wp2_with fail
    refine (next_cons h).mono ?_
    rintro e1 w1 ⟨rfl, hb1⟩
    have h1 := (h.below hb1).alloc (.cells #[.int .i64 t.kind, .string (ba t.text), .int .i64 t.off] 49)
    go_wp2_with fail
    refine (fail_calls h1 4).mono ?_
    rintro e2 w2 ⟨rfl, hb2⟩
    exact ⟨rfl, rfl, hb1.trans (((Below.refl _ _).alloc hb1.size _).trans (hb2.mono (by have := hb1.size; simp; omega)))⟩
theorem name_long {t : Tok} (h : PSt w pb tb e (t :: l)) (hk : t.kind = 1) (hl : 40 < t.text.length) :
    Calls Tryd.prog 107 #[pp pb] w fun r w' => r = .panicked (wrongAt t.off 3) ∧ Below w.heap.size w w' := by
  have e1 : ((t.kind : Int) != 1) = false := by simp [hk]
  have e2 : decide ((40 : Int) < (t.text.length : Int)) = true := by simp; omega
  clear hk
  go_enter Tryd.func107, Tryd.ntmps107
  go_wp2_with fail
  refine (next_cons h).mono ?_
  rintro e1 w1 ⟨rfl, hb1⟩
  have h1 := (h.below hb1).alloc (.cells #[.int .i64 t.kind, .string (ba t.text), .int .i64 t.off] 49)
  go_wp2_with fail
  refine (fail_calls h1 3).mono ?_
  rintro e2 w2 ⟨rfl, hb2⟩
  exact ⟨rfl, rfl, hb1.trans (((Below.refl _ _).alloc hb1.size _).trans (hb2.mono (by have := hb1.size; simp; omega)))⟩
theorem few_ok (h : PSt w pb tb e l) (n m : Int) (hn : n < m) :
    Calls Tryd.prog 72 #[pp pb, .int .i64 n, .int .i64 m] w fun r w' => r = .returned (.tuple #[]) ∧ w = w' := by
  have e1 : decide (m ≤ n) = false := by simp; omega
  go_enter Tryd.func72, Tryd.ntmps72
  go_wp2
  go_end0
  exact ⟨rfl, rfl⟩
theorem few_no (h : PSt w pb tb e l) (n m : Int) (hn : m ≤ n) :
    Calls Tryd.prog 72 #[pp pb, .int .i64 n, .int .i64 m] w fun r w' => r = .panicked (wrongAt (offAt e l) 3) ∧ Below w.heap.size w w' := by
  have e1 : decide (m ≤ n) = true := by simp; omega
  go_enter Tryd.func72, Tryd.ntmps72
  go_wp2_with fail
  refine (fail_calls h 3).mono ?_
  rintro e2 w2 ⟨rfl, hb2⟩
  exact ⟨rfl, rfl, hb2⟩
theorem begins_kind {t : Tok} (h : PSt w pb tb e (t :: l)) (hk : t.kind = 1 ∨ t.kind = 3) :
    Calls Tryd.prog 159 #[pp pb] w fun r w' => r = .returned (.bool true) ∧ Below w.heap.size w w' := by
  by_cases h1 : t.kind = 1
  · have e1 : ((t.kind : Int) == 1) = true := by simp [h1]
    clear hk h1
    go_enter Tryd.func159, Tryd.ntmps159
    go_wp2_with fail
    refine (next_cons h).mono ?_
    rintro e1 w1 ⟨rfl, hb1⟩
    go_wp2_with fail
    go_ret
    exact ⟨rfl, hb1⟩
  · have e1 : ((t.kind : Int) == 1) = false := beq_eq_false_iff_ne.2 (by omega)
    have e2 : ((t.kind : Int) == 3) = true := by rw [beq_iff_eq]; omega
    clear hk h1
    go_enter Tryd.func159, Tryd.ntmps159
    go_wp2_with fail
    refine (next_cons h).mono ?_
    rintro e1 w1 ⟨rfl, hb1⟩
    go_wp2_with fail
    go_ret
    exact ⟨rfl, hb1⟩
theorem begins_sign {t : Tok} (h : PSt w pb tb e (t :: l)) (h1 : t.kind ≠ 1) (h3 : t.kind ≠ 3) :
    Calls Tryd.prog 159 #[pp pb] w fun r w' => r = .returned (.bool (Bir.is [40] (t :: l) || Bir.is [45] (t :: l) || Bir.is [33] (t :: l))) ∧ Below w.heap.size w w' := by
  have e1 : ((t.kind : Int) == 1) = false := beq_eq_false_iff_ne.2 (by omega)
  have e2 : ((t.kind : Int) == 3) = false := beq_eq_false_iff_ne.2 (by omega)
  clear h1 h3
  cases h40 : Bir.is [40] (t :: l) with
  | true =>
    go_enter Tryd.func159, Tryd.ntmps159
    go_wp2_with fail
    refine (next_cons h).mono ?_
    rintro e1 w1 ⟨rfl, hb1⟩
    go_wp2_with fail
    refine (is_calls (h.below hb1) [40]).mono ?_
    rintro e1 w2 ⟨rfl, hb2⟩
    go_wp2_with fail
    go_ret
    exact ⟨rfl, hb1.trans (hb2.mono hb1.size)⟩
  | false =>
    cases h45 : Bir.is [45] (t :: l) with
    | true =>
      go_enter Tryd.func159, Tryd.ntmps159
      go_wp2_with fail
      refine (next_cons h).mono ?_
      rintro e1 w1 ⟨rfl, hb1⟩
      go_wp2_with fail
      refine (is_calls (h.below hb1) [40]).mono ?_
      rintro e1 w2 ⟨rfl, hb2⟩
      go_wp2_with fail
      refine (is_calls ((h.below hb1).below hb2) [45]).mono ?_
      rintro e1 w3 ⟨rfl, hb3⟩
      go_wp2_with fail
      go_ret
      exact ⟨rfl, (hb1.trans (hb2.mono hb1.size)).trans (hb3.mono (Nat.le_trans hb1.size hb2.size))⟩
    | false =>
      go_enter Tryd.func159, Tryd.ntmps159
      go_wp2_with fail
      refine (next_cons h).mono ?_
      rintro e1 w1 ⟨rfl, hb1⟩
      go_wp2_with fail
      refine (is_calls (h.below hb1) [40]).mono ?_
      rintro e1 w2 ⟨rfl, hb2⟩
      go_wp2_with fail
      refine (is_calls ((h.below hb1).below hb2) [45]).mono ?_
      rintro e1 w3 ⟨rfl, hb3⟩
      go_wp2_with fail
      refine (is_calls (((h.below hb1).below hb2).below hb3) [33]).mono ?_
      rintro e1 w4 ⟨rfl, hb4⟩
      go_wp2_with fail
      go_ret
      exact ⟨by simp, ((hb1.trans (hb2.mono hb1.size)).trans (hb3.mono (Nat.le_trans hb1.size hb2.size))).trans (hb4.mono (Nat.le_trans hb1.size (Nat.le_trans hb2.size hb3.size)))⟩
theorem begins_nil (h : PSt w pb tb e []) :
    Calls Tryd.prog 159 #[pp pb] w fun r w' => r = .returned (.bool false) ∧ Below w.heap.size w w' := by
  have h40 : Bir.is [40] [] = false := rfl
  have h45 : Bir.is [45] [] = false := rfl
  have h33 : Bir.is [33] [] = false := rfl
  go_enter Tryd.func159, Tryd.ntmps159
  go_wp2_with fail
  refine (next_nil h).mono ?_
  rintro e1 w1 ⟨rfl, hb1⟩
  go_wp2_with fail
  refine (is_calls (h.below hb1) [40]).mono ?_
  rintro e1 w2 ⟨rfl, hb2⟩
  go_wp2_with fail
  refine (is_calls ((h.below hb1).below hb2) [45]).mono ?_
  rintro e1 w3 ⟨rfl, hb3⟩
  go_wp2_with fail
  refine (is_calls (((h.below hb1).below hb2).below hb3) [33]).mono ?_
  rintro e1 w4 ⟨rfl, hb4⟩
  go_wp2_with fail
  go_ret
  exact ⟨rfl, ((hb1.trans (hb2.mono hb1.size)).trans (hb3.mono (Nat.le_trans hb1.size hb2.size))).trans (hb4.mono (Nat.le_trans hb1.size (Nat.le_trans hb2.size hb3.size)))⟩
theorem begins_calls (h : PSt w pb tb e l) :
    Calls Tryd.prog 159 #[pp pb] w fun r w' => r = .returned (.bool (Bir.begins l)) ∧ Below w.heap.size w w' := by
  cases l with
  | nil => exact begins_nil h
  | cons t l =>
    by_cases h1 : t.kind = 1 ∨ t.kind = 3
    · have : Bir.begins (t :: l) = true := by rcases h1 with h1 | h1 <;> simp [Bir.begins, kindOf, h1]
      rw [this]
      exact begins_kind h h1
    · have hh1 : t.kind ≠ 1 := fun h => h1 (.inl h)
      have g1 : (t.kind == 1) = false := beq_eq_false_iff_ne.2 hh1
      have hh3 : t.kind ≠ 3 := fun h => h1 (.inr h)
      have g3 : (t.kind == 3) = false := beq_eq_false_iff_ne.2 hh3
      have : Bir.begins (t :: l) = (Bir.is [40] (t :: l) || Bir.is [45] (t :: l) || Bir.is [33] (t :: l)) := by simp [Bir.begins, kindOf, g1, g3]
      rw [this]
      exact begins_sign h hh1 hh3
end
end Go.Proofs.YtdijffojppjmfaaDoor
