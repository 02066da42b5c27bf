/- The reference's lexer: bytes, lists of strings, Skip. -/
import Derived.Test.YtdijffojppjmfaaDoorQj
set_option linter.unusedVariables false
set_option linter.unusedSimpArgs false
namespace Go.Proofs.YtdijffojppjmfaaDoor
open Go.RowKit Bir Go.BW
theorem rletter_calls (c : UInt8) (w : World) :
    Calls Tryd.prog 116 #[.int .u8 c.toNat] w fun r w' => r = .returned (.bool (letterB c)) ∧ w = w' := by
  have hc := c.toNat_lt
  unfold letterB
  generalize c.toNat = n at *
  by_cases h1 : 97 ≤ n
  · have e1 : decide ((97 : Int) ≤ (n : Int)) = true := by simp; omega
    by_cases h2 : n ≤ 122
    · have e2 : decide ((n : Int) ≤ 122) = true := by simp; omega
      have e3 : decide (97 ≤ n ∧ n ≤ 122 ∨ 65 ≤ n ∧ n ≤ 90 ∨ n = 95) = true := by simp; omega
      rw [e3]
      clear e3 h1 h2
      go_enter Tryd.func116, Tryd.ntmps116
      go_wp2
      go_ret
      exact ⟨rfl, rfl⟩
    · have e2 : decide ((n : Int) ≤ 122) = false := by simp; omega
      have e3 : decide (97 ≤ n ∧ n ≤ 122 ∨ 65 ≤ n ∧ n ≤ 90 ∨ n = 95) = false := by simp; omega
      have e4 : decide ((65 : Int) ≤ (n : Int)) = true := by simp; omega
      have e5 : decide ((n : Int) ≤ 90) = false := by simp; omega
      have e6 : ((n : Int) == 95) = false := beq_eq_false_iff_ne.2 (by omega)
      rw [e3]
      clear e3 h1 h2
      go_enter Tryd.func116, Tryd.ntmps116
      go_wp2
      go_ret
      exact ⟨rfl, rfl⟩
  · have e1 : decide ((97 : Int) ≤ (n : Int)) = false := by simp; omega
    by_cases h2 : 65 ≤ n
    · have e4 : decide ((65 : Int) ≤ (n : Int)) = true := by simp; omega
      by_cases h3 : n ≤ 90
      · have e5 : decide ((n : Int) ≤ 90) = true := by simp; omega
        have e3 : decide (97 ≤ n ∧ n ≤ 122 ∨ 65 ≤ n ∧ n ≤ 90 ∨ n = 95) = true := by simp; omega
        rw [e3]
        clear e3 h1 h2 h3
        go_enter Tryd.func116, Tryd.ntmps116
        go_wp2
        go_ret
        exact ⟨rfl, rfl⟩
      · have e5 : decide ((n : Int) ≤ 90) = false := by simp; omega
        have e3 : decide (97 ≤ n ∧ n ≤ 122 ∨ 65 ≤ n ∧ n ≤ 90 ∨ n = 95) = ((n : Int) == 95) := by rw [Bool.eq_iff_iff]; simp; omega
        rw [e3]
        clear e3 h1 h2 h3
        go_enter Tryd.func116, Tryd.ntmps116
        go_wp2
        go_ret
        exact ⟨rfl, rfl⟩
    · have e4 : decide ((65 : Int) ≤ (n : Int)) = false := by simp; omega
      have e3 : decide (97 ≤ n ∧ n ≤ 122 ∨ 65 ≤ n ∧ n ≤ 90 ∨ n = 95) = false := by simp; omega
      have e6 : ((n : Int) == 95) = false := beq_eq_false_iff_ne.2 (by omega)
      rw [e3]
      clear e3 h1 h2
      go_enter Tryd.func116, Tryd.ntmps116
      go_wp2
      go_ret
      exact ⟨rfl, rfl⟩
theorem rdigit_calls (c : UInt8) (w : World) :
    Calls Tryd.prog 117 #[.int .u8 c.toNat] w fun r w' => r = .returned (.bool (digitB c)) ∧ w = w' := by
  have hc := c.toNat_lt
  unfold digitB
  generalize c.toNat = n at *
  by_cases h1 : 48 ≤ n
  · have e1 : decide ((48 : Int) ≤ (n : Int)) = true := by simp; omega
    have e3 : decide (48 ≤ n ∧ n ≤ 57) = decide ((n : Int) ≤ 57) := by rw [Bool.eq_iff_iff]; simp; omega
    rw [e3]
    clear e3 h1
    go_enter Tryd.func117, Tryd.ntmps117
    go_wp2
    go_ret
    exact ⟨rfl, rfl⟩
  · have e1 : decide ((48 : Int) ≤ (n : Int)) = false := by simp; omega
    have e3 : decide (48 ≤ n ∧ n ≤ 57) = false := by simp; omega
    rw [e3]
    clear e3 h1
    go_enter Tryd.func117, Tryd.ntmps117
    go_wp2
    go_ret
    exact ⟨rfl, rfl⟩
theorem rblank_calls (c : UInt8) (w : World) :
    Calls Tryd.prog 115 #[.int .u8 c.toNat] w fun r w' => r = .returned (.bool (blankB c)) ∧ w = w' := by
  have hb : blankB c = decide (c.toNat = 32 ∨ c.toNat = 9 ∨ c.toNat = 10 ∨ c.toNat = 13) := by
    unfold blankB
    rw [Bool.eq_iff_iff]
    simp only [Bool.or_eq_true, beq_iff_eq, decide_eq_true_eq, ← UInt8.toNat_inj]
    simp
    omega
  rw [hb]
  clear hb
  generalize c.toNat = n
  by_cases h1 : n = 32
  · have e1 : ((n : Int) == 32) = true := by simp [h1]
    have e0 : decide (n = 32 ∨ n = 9 ∨ n = 10 ∨ n = 13) = true := by simp [h1]
    rw [e0]
    clear e0 h1
    go_enter Tryd.func115, Tryd.ntmps115
    go_wp2
    go_ret
    exact ⟨rfl, rfl⟩
  · have e1 : ((n : Int) == 32) = false := beq_eq_false_iff_ne.2 (by omega)
    by_cases h2 : n = 9
    · have e2 : ((n : Int) == 9) = true := by simp [h2]
      have e0 : decide (n = 32 ∨ n = 9 ∨ n = 10 ∨ n = 13) = true := by simp [h2]
      rw [e0]
      clear e0 h1 h2
      go_enter Tryd.func115, Tryd.ntmps115
      go_wp2
      go_ret
      exact ⟨rfl, rfl⟩
    · have e2 : ((n : Int) == 9) = false := beq_eq_false_iff_ne.2 (by omega)
      by_cases h3 : n = 10
      · have e3 : ((n : Int) == 10) = true := by simp [h3]
        have e0 : decide (n = 32 ∨ n = 9 ∨ n = 10 ∨ n = 13) = true := by simp [h3]
        rw [e0]
        clear e0 h1 h2 h3
        go_enter Tryd.func115, Tryd.ntmps115
        go_wp2
        go_ret
        exact ⟨rfl, rfl⟩
      · have e3 : ((n : Int) == 10) = false := beq_eq_false_iff_ne.2 (by omega)
        have e0 : decide (n = 32 ∨ n = 9 ∨ n = 10 ∨ n = 13) = ((n : Int) == 13) := by rw [Bool.eq_iff_iff]; simp; omega
        rw [e0]
        clear e0 h1 h2 h3
        go_enter Tryd.func115, Tryd.ntmps115
        go_wp2
        go_ret
        exact ⟨rfl, rfl⟩
theorem u8_eq (c : UInt8) (n : Nat) (hn : n < 256) : ((c.toNat : Int) == (n : Int)) = (c == UInt8.ofNat n) := by
  rw [Bool.eq_iff_iff, beq_iff_eq, beq_iff_eq, ← UInt8.toNat_inj]
  simp [UInt8.toNat_ofNat_of_lt' (show n < UInt8.size from hn)]
  omega
theorem u8_ne {c d : UInt8} (h : ¬ c = d) : ((c.toNat : Int) == (d.toNat : Int)) = false := by
  rw [beq_eq_false_iff_ne]
  intro e
  exact h (UInt8.toNat_inj.1 (by omega))
theorem u8_bne {c d : UInt8} (h : ¬ c = d) : ((c.toNat : Int) != (d.toNat : Int)) = true := by
  rw [bne_iff_ne]
  intro e
  exact h (UInt8.toNat_inj.1 (by omega))
theorem drop_at {s : Str} {k : Nat} (h : k < s.length) : s.drop k = s[k] :: s.drop (k + 1) := List.drop_eq_getElem_cons h
/-- Skip, from an offset on. -/
def skipAt (s : Str) (k : Nat) : Nat := s.length - (skip false (s.drop k)).length
set_option maxRecDepth 100000 in
set_option maxHeartbeats 2000000 in
theorem rskip_calls (s : Str) (k0 : Nat) (hk0 : k0 ≤ s.length) (hs : s.length ≤ 1000000) (w : World) :
    Calls Tryd.prog 89 #[.string (ba s), .int .i64 k0] w fun r w' => r = .returned (.int .i64 (skipAt s k0)) ∧ w = w' := by
  unfold skipAt
  generalize hR : skip false (s.drop k0) = R
  have HR := Lib.hid hR
  clear hR
  go_enter Tryd.func89, Tryd.ntmps89
  go_wp2_with fail
  go_loop [1] (fun a => ∃ k : Nat, k ≤ s.length ∧ a = .int .i64 k ∧ Hid (skip false (s.drop k) = R)) (fun a => s.length - (intOf a).toNat)
  case atStart => exact ⟨k0, hk0, rfl, HR⟩
  case round =>
    obtain ⟨k, hk, rfl, hin⟩ := hrel
    clear HR
    by_cases hlt : k < s.length
    · have hb : k < (ba s).size := hlt
      have HG : Hid ((ba s)[k]'hb = s[k]) := Lib.hid rfl
      have HD : Hid (s.drop k = (ba s)[k]'hb :: s.drop (k + 1)) := Lib.hid (drop_at hlt)
      cases hbl : blankB ((ba s)[k]'hb) with
      | true =>
        have HC : Hid (∀ w, Calls Tryd.prog 115 #[.int .u8 ((ba s)[k]'hb).toNat] w fun r w' => r = .returned (.bool true) ∧ w = w') := Lib.hid fun w => by
          have := rblank_calls ((ba s)[k]'hb) w
          rwa [hbl] at this
        have HN : Hid (skip false (s.drop (k + 1)) = R) := Lib.hid (by rw [← hin.out, HD.out, show skip false ((ba s)[k]'hb :: s.drop (k + 1)) = _ from rfl, skip, if_pos hbl])
        clear hbl
        go_wp2_with fail
        refine (HC.out _).mono ?_
        rintro en w1 ⟨rfl, rfl⟩
        go_wp2_with fail
        exact ⟨⟨k + 1, by omega, by go_num, HN⟩, by simp [intOf]; omega⟩
      | false =>
        have HC : Hid (∀ w, Calls Tryd.prog 115 #[.int .u8 ((ba s)[k]'hb).toNat] w fun r w' => r = .returned (.bool false) ∧ w = w') := Lib.hid fun w => by
          have := rblank_calls ((ba s)[k]'hb) w
          rwa [hbl] at this
        by_cases hrem : ((ba s)[k]'hb) = 47 ∧ ∃ h1 : k + 1 < (ba s).size, ((ba s)[k + 1]'h1) = 47
        · obtain ⟨h47, hb1, h48⟩ := hrem
          have h1 : k + 1 < s.length := hb1
          have e1 : ((((ba s)[k]'hb).toNat : Int) == 47) = true := by rw [h47]; rfl
          have e2 : ((((ba s)[k + 1]'hb1).toNat : Int) == 47) = true := by rw [h48]; rfl
          have d1 : decide ((k : Int) + 1 < (s.length : Int)) = true := by simp; omega
          have H47 := Lib.hid h47
          have HN : Hid (skip true (s.drop k) = R) := Lib.hid (by
            have h2 : s.drop (k + 1) = (ba s)[k + 1]'hb1 :: s.drop (k + 2) := drop_at h1
            rw [← hin.out, HD.out, h2, h47, h48]
            exact (skip_remark _).symm)
          clear hbl h47 h48
          go_wp2_with fail
          refine (HC.out _).mono ?_
          rintro en w1 ⟨rfl, rfl⟩
          go_wp2_with fail
          go_loop [1] (fun a => ∃ j : Nat, k ≤ j ∧ j ≤ s.length ∧ a = .int .i64 j ∧ Hid (skip true (s.drop j) = R)) (fun a => s.length - (intOf a).toNat)
          case atStart => exact ⟨k, Nat.le_refl _, hk, rfl, HN⟩
          case round =>
            obtain ⟨j, hkj, hj, rfl, hjn⟩ := hrel
            by_cases hjt : j < s.length
            · have hbj : j < (ba s).size := hjt
              have HDj : Hid (s.drop j = (ba s)[j]'hbj :: s.drop (j + 1)) := Lib.hid (drop_at hjt)
              by_cases h10 : ((ba s)[j]'hbj) = 10
              · have e3 : ((((ba s)[j]'hbj).toNat : Int) != 10) = false := by rw [h10]; rfl
                have hne : k < j := by
                  rcases Nat.lt_or_ge k j with h | h
                  · exact h
                  · obtain rfl : k = j := by omega
                    rw [H47.out] at h10
                    cases h10
                have HM : Hid (skip false (s.drop j) = R) := Lib.hid (by rw [← hjn.out, HDj.out, h10]; rfl)
                clear h10
                go_wp2_with fail
                exact ⟨⟨j, hj, rfl, HM⟩, by simp [intOf]; omega⟩
              · have e3 : ((((ba s)[j]'hbj).toNat : Int) != 10) = true := u8_bne (d := 10) h10
                have HM : Hid (skip true (s.drop (j + 1)) = R) := Lib.hid (by rw [← hjn.out, HDj.out, show skip true ((ba s)[j]'hbj :: s.drop (j + 1)) = _ from rfl, skip, if_neg h10])
                clear h10
                go_wp2_with fail
                exact ⟨⟨j + 1, by omega, by omega, by go_num, HM⟩, by simp [intOf]; omega⟩
            · obtain rfl : j = s.length := by omega
              have HM : Hid (skip false (s.drop s.length) = R) := Lib.hid (by have := hjn.out; rw [List.drop_length] at this ⊢; exact this)
              go_wp2_with fail
              exact ⟨⟨s.length, Nat.le_refl _, rfl, HM⟩, by simp [intOf]; omega⟩
        · have HF : Hid (s.length - R.length = k) := Lib.hid (by
            have : R = s.drop k := by
              rw [← hin.out, HD.out, show skip false ((ba s)[k]'hb :: s.drop (k + 1)) = _ from rfl, skip, if_neg (by rw [hbl]; simp), if_neg]
              rintro ⟨h1, h2⟩
              refine hrem ⟨h1, ?_⟩
              have hl : k + 1 < s.length := by
                rcases Nat.lt_or_ge (k + 1) s.length with h | h
                · exact h
                · rw [List.drop_eq_nil_of_le h] at h2; cases h2
              refine ⟨hl, ?_⟩
              rw [drop_at hl] at h2
              exact Option.some.inj h2
            rw [this, List.length_drop]
            omega)
          clear hbl
          by_cases h47 : ((ba s)[k]'hb) = 47
          · have e1 : ((((ba s)[k]'hb).toNat : Int) == 47) = true := by rw [h47]; rfl
            by_cases h1 : k + 1 < s.length
            · have hb1 : k + 1 < (ba s).size := h1
              have h48 : ¬ ((ba s)[k + 1]'hb1) = 47 := fun h => hrem ⟨h47, hb1, h⟩
              have e2 : ((((ba s)[k + 1]'hb1).toNat : Int) == 47) = false := u8_ne (d := 47) h48
              have d1 : decide ((k : Int) + 1 < (s.length : Int)) = true := by simp; omega
              clear hrem h47 h48
              go_wp2_with fail
              refine (HC.out _).mono ?_
              rintro en w1 ⟨rfl, rfl⟩
              go_wp2_with fail
              go_ret
              exact ⟨congrArg (fun n : Nat => Ending.returned (.int .i64 n)) HF.out.symm, rfl⟩
            · have d1 : decide ((k : Int) + 1 < (s.length : Int)) = false := by simp; omega
              clear hrem h47
              go_wp2_with fail
              refine (HC.out _).mono ?_
              rintro en w1 ⟨rfl, rfl⟩
              go_wp2_with fail
              go_ret
              exact ⟨congrArg (fun n : Nat => Ending.returned (.int .i64 n)) HF.out.symm, rfl⟩
          · have e1 : ((((ba s)[k]'hb).toNat : Int) == 47) = false := u8_ne (d := 47) h47
            clear hrem h47
            go_wp2_with fail
            refine (HC.out _).mono ?_
            rintro en w1 ⟨rfl, rfl⟩
            go_wp2_with fail
            go_ret
            exact ⟨congrArg (fun n : Nat => Ending.returned (.int .i64 n)) HF.out.symm, rfl⟩
    · obtain rfl : k = s.length := by omega
      have HF : Hid (s.length - R.length = s.length) := Lib.hid (by rw [← hin.out, List.drop_length]; rfl)
      go_wp2_with fail
      go_ret
      exact ⟨congrArg (fun n : Nat => Ending.returned (.int .i64 n)) HF.out.symm, rfl⟩
end Go.Proofs.YtdijffojppjmfaaDoor
