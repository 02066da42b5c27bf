/- The lexer's small functions, walked: letter, digit, while. -/
import Derived.Test.YtdijffojppjmfaaDoorPb
import Derived.Shelf.Abstract
import Derived.Deep.QuietTactic
import Derived.BigQuiet
set_option linter.unusedVariables false
namespace Go.Proofs.YtdijffojppjmfaaDoor
open Go.RowKit Bir Go.BW

theorem letter_calls (c : UInt8) (w : World) :
    Calls Tryd.prog 148 #[.int .u8 c.toNat] w fun r w' => r = .returned (.bool (letterB c)) ∧ w = w' := by
  have hc := c.toNat_lt
  unfold letterB
  generalize c.toNat = n at *
  by_cases h1 : 97 ≤ n
  · have e1 : decide ((97 : Int) ≤ (n : Int)) = true := by simp; omega
    by_cases h2 : n ≤ 122
    · have e2 : decide ((n : Int) ≤ 122) = true := by simp; omega
      have e3 : decide (97 ≤ n ∧ n ≤ 122 ∨ 65 ≤ n ∧ n ≤ 90 ∨ n = 95) = true := by simp; omega
      rw [e3]
      clear e3 h1 h2
      go_enter Tryd.func148, Tryd.ntmps148
      go_wp2
      go_ret
      exact ⟨rfl, rfl⟩
    · have e2 : decide ((n : Int) ≤ 122) = false := by simp; omega
      have e3 : decide (97 ≤ n ∧ n ≤ 122 ∨ 65 ≤ n ∧ n ≤ 90 ∨ n = 95) = false := by simp; omega
      have e4 : decide ((65 : Int) ≤ (n : Int)) = true := by simp; omega
      have e5 : decide ((n : Int) ≤ 90) = false := by simp; omega
      have e6 : ((n : Int) == 95) = false := beq_eq_false_iff_ne.2 (by omega)
      rw [e3]
      clear e3 h1 h2
      go_enter Tryd.func148, Tryd.ntmps148
      go_wp2
      go_ret
      exact ⟨rfl, rfl⟩
  · have e1 : decide ((97 : Int) ≤ (n : Int)) = false := by simp; omega
    by_cases h2 : 65 ≤ n
    · have e4 : decide ((65 : Int) ≤ (n : Int)) = true := by simp; omega
      by_cases h3 : n ≤ 90
      · have e5 : decide ((n : Int) ≤ 90) = true := by simp; omega
        have e3 : decide (97 ≤ n ∧ n ≤ 122 ∨ 65 ≤ n ∧ n ≤ 90 ∨ n = 95) = true := by simp; omega
        rw [e3]
        clear e3 h1 h2 h3
        go_enter Tryd.func148, Tryd.ntmps148
        go_wp2
        go_ret
        exact ⟨rfl, rfl⟩
      · have e5 : decide ((n : Int) ≤ 90) = false := by simp; omega
        have e3 : decide (97 ≤ n ∧ n ≤ 122 ∨ 65 ≤ n ∧ n ≤ 90 ∨ n = 95) = ((n : Int) == 95) := by rw [Bool.eq_iff_iff]; simp; omega
        rw [e3]
        clear e3 h1 h2 h3
        go_enter Tryd.func148, Tryd.ntmps148
        go_wp2
        go_ret
        exact ⟨rfl, rfl⟩
    · have e4 : decide ((65 : Int) ≤ (n : Int)) = false := by simp; omega
      have e3 : decide (97 ≤ n ∧ n ≤ 122 ∨ 65 ≤ n ∧ n ≤ 90 ∨ n = 95) = false := by simp; omega
      have e6 : ((n : Int) == 95) = false := beq_eq_false_iff_ne.2 (by omega)
      rw [e3]
      clear e3 h1 h2
      go_enter Tryd.func148, Tryd.ntmps148
      go_wp2
      go_ret
      exact ⟨rfl, rfl⟩
theorem digit_calls (c : UInt8) (w : World) :
    Calls Tryd.prog 150 #[.int .u8 c.toNat] w fun r w' => r = .returned (.bool (digitB c)) ∧ w = w' := by
  have hc := c.toNat_lt
  unfold digitB
  generalize c.toNat = n at *
  by_cases h1 : 48 ≤ n
  · have e1 : decide ((48 : Int) ≤ (n : Int)) = true := by simp; omega
    have e3 : decide (48 ≤ n ∧ n ≤ 57) = decide ((n : Int) ≤ 57) := by rw [Bool.eq_iff_iff]; simp; omega
    rw [e3]
    clear e3 h1
    go_enter Tryd.func150, Tryd.ntmps150
    go_wp2
    go_ret
    exact ⟨rfl, rfl⟩
  · have e1 : decide ((48 : Int) ≤ (n : Int)) = false := by simp; omega
    have e3 : decide (48 ≤ n ∧ n ≤ 57) = false := by simp; omega
    rw [e3]
    clear e3 h1
    go_enter Tryd.func150, Tryd.ntmps150
    go_wp2
    go_ret
    exact ⟨rfl, rfl⟩
theorem wordfn_calls (c : UInt8) (w : World) :
    Calls Tryd.prog 149 #[.int .u8 c.toNat] w fun r w' => r = .returned (.bool (wordB c)) ∧ w = w' := by
  unfold wordB
  cases h : letterB c with
  | true =>
    go_enter Tryd.func149, Tryd.ntmps149
    go_wp2_with (go_at_call 148; refine (letter_calls c _).mono ?_; rintro e w' ⟨rfl, rfl⟩)
    go_ret
    exact ⟨rfl, rfl⟩
  | false =>
    go_enter Tryd.func149, Tryd.ntmps149
    go_wp2_with (first | (go_at_call 148; refine (letter_calls c _).mono ?_; rintro e w' ⟨rfl, rfl⟩) | (go_at_call 150; refine (digit_calls c _).mono ?_; rintro e w' ⟨rfl, rfl⟩))
    go_ret
    exact ⟨rfl, rfl⟩
theorem notline_calls (c : UInt8) (w : World) :
    Calls Tryd.prog 147 #[.int .u8 c.toNat] w fun r w' => r = .returned (.bool (c != 10)) ∧ w = w' := by
  have e : (c != 10) = ((c.toNat : Int) != 10) := by
    rw [Bool.eq_iff_iff, bne_iff_ne, bne_iff_ne, ne_eq, ne_eq, ← UInt8.toNat_inj]
    simp
    omega
  rw [e]
  clear e
  go_enter Tryd.func147, Tryd.ntmps147
  go_wp2
  go_ret
  exact ⟨rfl, rfl⟩

theorem takeWhile_step (p : UInt8 → Bool) (s : Str) (k : Nat) (h : ∀ j, j < k → ∃ c, s[j]? = some c ∧ p c = true) : k ≤ (s.takeWhile p).length := by
  induction s generalizing k with
  | nil =>
    cases k with
    | zero => simp
    | succ k => obtain ⟨c, hc, _⟩ := h 0 (by omega); simp at hc
  | cons c s ih =>
    cases k with
    | zero => simp
    | succ k =>
      obtain ⟨c', hc, hp⟩ := h 0 (by omega)
      obtain rfl : c = c' := by simpa using hc
      rw [List.takeWhile_cons, if_pos hp, List.length_cons]
      have := ih k (fun j hj => by simpa using h (j + 1) (by omega))
      omega
theorem takeWhile_stop (p : UInt8 → Bool) (s : Str) (k : Nat) (h : ∀ j, j < k → ∃ c, s[j]? = some c ∧ p c = true) (hs : ∀ c, s[k]? = some c → p c = false) : (s.takeWhile p).length = k := by
  induction s generalizing k with
  | nil =>
    cases k with
    | zero => simp
    | succ k => obtain ⟨c, hc, _⟩ := h 0 (by omega); simp at hc
  | cons c s ih =>
    cases k with
    | zero => rw [List.takeWhile_cons, hs c (by simp)]; simp
    | succ k =>
      obtain ⟨c', hc, hp⟩ := h 0 (by omega)
      obtain rfl : c = c' := by simpa using hc
      rw [List.takeWhile_cons, if_pos hp, List.length_cons, ih k (fun j hj => by simpa using h (j + 1) (by omega)) (fun c hc => hs c (by simpa using hc))]

/-- 'while': over whatever test that leaves the world alone. -/
theorem while_calls (g : Nat) (p : UInt8 → Bool) (eg : ∀ args w, (callFunc g args).run Tryd.prog w = .ok (.enter g args) w)
    (hp : ∀ (c : UInt8) (w : World), Calls Tryd.prog g #[.int .u8 c.toNat] w fun r w' => r = .returned (.bool (p c)) ∧ w = w') (s : Str) (w : World) (hs : s.length ≤ 1000000) :
    Calls Tryd.prog 143 #[.string (ba s), .func (.func g) #[] #[]] w fun r w' => r = .returned (.int .i64 (s.takeWhile p).length) ∧ w = w' := by
  have HP := Lib.hid hp
  clear hp
  go_enter Tryd.func143, Tryd.ntmps143
  go_wp2_with fail
  go_loop [8] (fun i => ∃ k : Nat, k ≤ s.length ∧ i = .int .i64 k ∧ Hid (∀ j, j < k → ∃ c, s[j]? = some c ∧ p c = true)) (fun i => s.length - (intOf i).toNat)
  case atStart => exact ⟨0, Nat.zero_le _, rfl, fun j hj => absurd hj (by omega)⟩
  case round =>
    obtain ⟨k, hk, rfl, hall⟩ := hrel
    by_cases hlt : k < s.length
    · have hb : k < (ba s).size := hlt
      have HG : Hid (s[k]? = some ((ba s)[k]'hb)) := List.getElem?_eq_getElem hlt
      cases hpc : p ((ba s)[k]'hb) with
      | true =>
        have HC : Hid (∀ w, Calls Tryd.prog g #[.int .u8 ((ba s)[k]'hb).toNat] w fun r w' => r = .returned (.bool true) ∧ w = w') := fun w => by
          have := HP.out ((ba s)[k]'hb) w
          rwa [hpc] at this
        have HP2 := Lib.hid hpc
        clear hpc
        go_wp2_with (go_at_fn g; refine (HC.out _).mono ?_; rintro e1 w1 ⟨rfl, rfl⟩)
        go_round
        case rel =>
          refine ⟨k + 1, by omega, by go_num, fun j hj => ?_⟩
          rcases Nat.lt_or_ge j k with h | h
          · exact hall j h
          · obtain rfl : j = k := by omega
            exact ⟨_, HG.out, HP2.out⟩
        case measure => simp [intOf]; omega
      | false =>
        have HC : Hid (∀ w, Calls Tryd.prog g #[.int .u8 ((ba s)[k]'hb).toNat] w fun r w' => r = .returned (.bool false) ∧ w = w') := fun w => by
          have := HP.out ((ba s)[k]'hb) w
          rwa [hpc] at this
        have HP2 := Lib.hid hpc
        clear hpc
        go_wp2_with (go_at_fn g; refine (HC.out _).mono ?_; rintro e1 w1 ⟨rfl, rfl⟩)
        go_ret
        refine ⟨?_, rfl⟩
        rw [takeWhile_stop p s k hall.out (fun c hc => by have := HG.out; rw [hc] at this; cases this; exact HP2.out)]
        rfl
    · go_wp2
      go_ret
      refine ⟨?_, rfl⟩
      obtain rfl : k = s.length := by omega
      rw [takeWhile_stop p s s.length hall.out (fun c hc => by rw [List.getElem?_eq_none (Nat.le_refl _)] at hc; cases hc)]
      rfl

/-! ### a number's value -/
theorem valueF_le (n : Nat) (s : Str) (r : Nat) (hn : n ≤ 9223372036854775807) (hs : ∀ c ∈ s, digitB c = true) (h : valueF n s = some r) : r ≤ 9223372036854775807 := by
  induction s generalizing n with
  | nil => simp [valueF] at h; omega
  | cons c s ih =>
    rw [valueF] at h
    split at h
    · cases h
    · have hc := hs c List.mem_cons_self
      unfold digitB at hc
      simp at hc
      exact ih _ (by omega) (fun c' h' => hs c' (List.mem_cons_of_mem _ h')) h
theorem takeWhile_all (p : UInt8 → Bool) (s : Str) (h : ∀ c ∈ s, p c = true) : s.takeWhile p = s := by
  induction s with
  | nil => rfl
  | cons c s ih => rw [List.takeWhile_cons, if_pos (h c List.mem_cons_self), ih (fun c' h' => h c' (List.mem_cons_of_mem _ h'))]
theorem digit_enters : ∀ args w, (callFunc 150 args).run Tryd.prog w = .ok (.enter 150 args) w := enters_of Tryd.func150 (by kernel_rfl) rfl
theorem drop_cons (s : Str) (k : Nat) (h : k < s.length) : s.drop k = s[k] :: s.drop (k + 1) := List.drop_eq_getElem_cons h

theorem below_drewN_alloc (w : World) (o : Obj) (n : Nat) : Below w.heap.size w ((w.alloc o).drewN n) := ⟨rfl, rfl, rfl, by simp, fun k hk => Below.heap_alloc w o k hk⟩
def NumIs (v : Option Nat) (r : Ending) : Prop :=
  match v with
  | some n => r = .returned (.tuple #[.int .i64 n, .int .i64 0])
  | none => r = .returned (.tuple #[.int .i64 0, .int .i64 3])
/-- 'Value' of a number's token. -/
theorem value_calls (s : Str) (o : Int) (w : World) (hs : s.length ≤ 1000000) (hne : s ≠ []) (hd : ∀ c ∈ s, digitB c = true) :
    Calls Tryd.prog 129 #[.agg #[.int .i64 3, .string (ba s), .int .i64 o]] w fun r w' => NumIs (value s) r ∧ Below w.heap.size w w' := by
  have hpos : 0 < s.length := List.length_pos_iff.2 hne
  have hz : ((s.length : Int) == 0) = false := beq_eq_false_iff_ne.2 (by omega)
  have hemp : (s == ([] : Str)) = false := by cases s with | nil => exact absurd rfl hne | cons c s => rfl
  have hw := fun w => while_calls 150 digitB digit_enters digit_calls s w hs
  rw [takeWhile_all _ _ hd] at hw
  have HW := Lib.hid hw
  have HD := Lib.hid hd
  clear hw hd
  go_enter Tryd.func129, Tryd.ntmps129
  go_wp2_with fail
  go_quiet ((go_at_call 143; exact Calls.quiet_of_same ((HW.out _).mono fun _ _ h => ⟨h.1, h.2.symm⟩)))
  go_wp2_with fail
  go_loopw [4, 27] (fun nv i wr => ∃ k n : Nat, k ≤ s.length ∧ n ≤ 9223372036854775807 ∧ nv = .int .i64 n ∧ i = .int .i64 k ∧ Hid (valueF n (s.drop k) = value s) ∧ Below w.heap.size w wr ∧ wr.cell? ⟨w.heap.size, 1, none⟩ = some (.string (ba s))) (fun _ i _ => s.length - (intOf i).toNat)
  case atStart => exact ⟨0, 0, Nat.zero_le _, by omega, rfl, rfl, rfl, below_drewN_alloc _ _ _, by simp⟩
  case round =>
    obtain ⟨k, n, hk, hn, rfl, rfl, hv, hbel, hcell⟩ := hrel
    by_cases hlt : k < s.length
    · have hb : k < (ba s).size := hlt
      have hdig := HD.out _ (List.getElem_mem (l := s) hlt)
      unfold digitB at hdig
      simp only [decide_eq_true_eq] at hdig
      have b0 : (48 : Int) ≤ (((ba s)[k]'hb).toNat : Int) := by have := hdig.1; show (48 : Int) ≤ ((s[k]).toNat : Int); omega
      have b1 : (((ba s)[k]'hb).toNat : Int) ≤ 57 := by have := hdig.2; show ((s[k]).toNat : Int) ≤ 57; omega
      clear hdig
      have hd := drop_cons s k hlt
      have HDr : Hid (s.drop k = ((ba s)[k]'hb) :: s.drop (k + 1)) := hd
      clear hd
      go_wp2_with fail
      · have hlt2 : (9223372036854775807 - ((((ba s)[k]'hb).toNat : Int) - 48)) / 10 < (n : Int) := by assumption
        go_ret2
        refine ⟨?_, hbel⟩
        have h := hv.out
        rw [HDr.out, valueF, if_pos (by omega)] at h
        rw [← h]
        rfl
      · have hle2 : (n : Int) ≤ (9223372036854775807 - ((((ba s)[k]'hb).toNat : Int) - 48)) / 10 := by assumption
        go_roundw
        case rel =>
          refine ⟨k + 1, 10 * n + (((ba s)[k]'hb).toNat - 48), by omega, by omega, ?_, by go_num, ?_, hbel, hcell⟩
          · congr 1
            omega
          · have h := hv.out
            rw [HDr.out, valueF, if_neg (by omega)] at h
            exact h
        case measure => simp [intOf]; omega
    · go_wp2
      go_ret2
      refine ⟨?_, hbel⟩
      have h := hv.out
      rw [List.drop_eq_nil_of_le (by omega), valueF] at h
      rw [← h]
      rfl
/-- 'Value' of what is no number's token. -/
theorem value_other (k : Int) (s : ByteArray) (o : Int) (w : World) (hk : k ≠ 3) :
    Calls Tryd.prog 129 #[.agg #[.int .i64 k, .string s, .int .i64 o]] w fun r w' => r = .returned (.tuple #[.int .i64 0, .int .i64 2]) ∧ Below w.heap.size w w' := by
  have e1 : (k != 3) = true := bne_iff_ne.2 hk
  clear hk
  go_enter Tryd.func129, Tryd.ntmps129
  go_wp2_with fail
  go_quiet (fail)
  go_wp2_with fail
  go_ret2
  exact ⟨rfl, below_drewN_alloc _ _ _⟩
end Go.Proofs.YtdijffojppjmfaaDoor
