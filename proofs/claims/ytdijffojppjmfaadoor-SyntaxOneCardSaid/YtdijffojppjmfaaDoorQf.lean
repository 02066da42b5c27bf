/- The lexer's parts, walked: blanks, words and signs. -/
import Derived.Test.YtdijffojppjmfaaDoorPl
import Derived.Test.YtdijffojppjmfaaDoorPk
import Derived.IntWalk
import Derived.Lib.Strings
import Derived.Lib.Slices
import Derived.Lib.Walk
import Derived.Lib.Bytealg
set_option linter.unusedVariables false
set_option linter.unusedSimpArgs false
namespace Go.Proofs.YtdijffojppjmfaaDoor
open Go.RowKit Bir Go.BW
set_option maxHeartbeats 1000000 in
set_option maxRecDepth 100000 in
theorem lib_indexByte (s : ByteArray) (c : Int) (w : World) :
    Calls Tryd.prog 169 #[.string s, .int .u8 c] w fun e w' => e = .returned (.int .i64 (Lib.indexByte s.data.toList c.toNat.toUInt8)) ∧ w' = w := by
  go_enter Tryd.func169, Tryd.ntmps169
  go_wp2
  rw [run_callFunc_extern Tryd.func175 (by kernel_rfl) (by kernel_rfl) (by kernel_rfl) (e := Extern.BytealgIndexByte.indexByte) (by kernel_rfl), Lib.run_indexByteString]
  simp only [Result.andThen]
  rw [Oper.upon_value]
  go_wp2
  go_ret
  exact ⟨rfl, rfl⟩
set_option maxHeartbeats 1000000 in
theorem str_indexByte (s : ByteArray) (c : Int) (w : World) :
    Calls Tryd.prog 145 #[.string s, .int .u8 c] w fun e w' => e = .returned (.int .i64 (Lib.indexByte s.data.toList c.toNat.toUInt8)) ∧ w' = w := by
  go_enter Tryd.func145, Tryd.ntmps145
  go_wp2_with (go_at_call 169; refine (lib_indexByte _ _ _).mono ?_; rintro e w' ⟨rfl, rfl⟩)
  go_ret
  exact ⟨rfl, rfl⟩
set_option maxHeartbeats 1000000 in
theorem hasPrefix_calls (s p : ByteArray) (w : World) :
    Calls Tryd.prog 146 #[.string s, .string p] w fun e w' => e = .returned (.bool (Lib.hasPrefix s.data.toList p.data.toList)) ∧ w' = w := by
  rw [← Lib.hasPrefix_of_take, ← Lib.size_eq, ← Lib.size_eq]
  go_enter Tryd.func146, Tryd.ntmps146
  go_wp2
  · rename_i h
    go_ret
    refine ⟨?_, rfl⟩
    show Ending.returned (Value.bool ((s.extract 0 p.size).toList == p.toList)) = _
    rw [Lib.extract_toList, Lib.toList_data]
    simp [h]
  · rename_i h
    go_ret
    refine ⟨?_, rfl⟩
    show Ending.returned (Value.bool false) = _
    simp [h]
theorem blank_byte (c : UInt8) : decide (0 ≤ Lib.indexByte [32, 9, 10, 13] c) = blankB c := by
  have hc : ∀ n : Fin 256, decide (0 ≤ Lib.indexByte [32, 9, 10, 13] (UInt8.ofNat n)) = blankB (UInt8.ofNat n) := by decide +kernel
  have := hc ⟨c.toNat, c.toNat_lt⟩
  simpa using this
theorem blankfn_calls (c : UInt8) (w : World) :
    Calls Tryd.prog 144 #[.int .u8 c.toNat] w fun r w' => r = .returned (.bool (blankB c)) ∧ w = w' := by
  have e1 : decide (0 ≤ Lib.indexByte [32, 9, 10, 13] c) = blankB c := blank_byte c
  have e2 : ((c.toNat : Int).toNat).toUInt8 = c := by simp
  rw [← e1]
  clear e1
  go_enter Tryd.func144, Tryd.ntmps144
  go_wp2_with (go_at_call 145; refine (str_indexByte _ _ _).mono ?_; rintro e w' ⟨rfl, rfl⟩; rw [e2])
  go_ret
  exact ⟨rfl, rfl⟩
theorem blankfn_enters : ∀ (w : World) args, (callFunc 144 args).run Tryd.prog w = .ok (.enter 144 args) w := fun w args => enters_of Tryd.func144 (by kernel_rfl) rfl args w
theorem notline_enters : ∀ (w : World) args, (callFunc 147 args).run Tryd.prog w = .ok (.enter 147 args) w := fun w args => enters_of Tryd.func147 (by kernel_rfl) rfl args w
theorem wordfn_enters : ∀ (w : World) args, (callFunc 149 args).run Tryd.prog w = .ok (.enter 149 args) w := fun w args => enters_of Tryd.func149 (by kernel_rfl) rfl args w
/-! ### blanks, plainly -/
theorem skip_blanks (t : Str) : skip false (t.drop (t.takeWhile blankB).length) = skip false t := by
  induction t with
  | nil => rfl
  | cons c r ih =>
    rw [List.takeWhile_cons]
    cases h : blankB c with
    | true => simp only [if_true, List.length_cons, List.drop_succ_cons, ih]; simp [skip, h]
    | false => simp
theorem skip_line (t : Str) : skip false (t.drop (t.takeWhile (fun c => c != 10)).length) = skip true t := by
  induction t with
  | nil => rfl
  | cons c r ih =>
    rw [List.takeWhile_cons]
    by_cases h : c = 10
    · subst h; simp [skip, blankB]
    · have : (c != 10) = true := by simp [h]
      simp only [this, if_true, List.length_cons, List.drop_succ_cons, ih]
      simp [skip, h]
theorem skip_remark (r : Str) : skip false (47 :: 47 :: r) = skip true (47 :: 47 :: r) := by simp [skip, blankB]
theorem skip_done (t : Str) (h1 : (t.takeWhile blankB).length = 0) (h2 : Lib.hasPrefix t [47, 47] = false) : skip false t = t := by
  cases t with
  | nil => rfl
  | cons c r =>
    have hb : blankB c = false := by
      rw [List.takeWhile_cons] at h1
      cases h : blankB c with
      | false => rfl
      | true => rw [h] at h1; simp at h1
    have : ¬ (c = 47 ∧ r.head? = some 47) := by
      rintro ⟨rfl, h⟩
      cases r with
      | nil => simp at h
      | cons d r => simp at h; subst h; simp [Lib.hasPrefix, List.isPrefixOf] at h2
    simp [skip, hb, this]
theorem takeWhile_drop (p : UInt8 → Bool) (t : Str) : ((t.drop (t.takeWhile p).length).takeWhile p).length = 0 := by
  induction t with
  | nil => rfl
  | cons c r ih =>
    rw [List.takeWhile_cons]
    cases h : p c with
    | true => simpa using ih
    | false => simp [List.takeWhile_cons, h]
theorem takeWhile_length_le (p : UInt8 → Bool) (t : Str) : (t.takeWhile p).length ≤ t.length := (List.takeWhile_sublist p).length_le
theorem ba_from (s : Str) (k : Nat) (hk : k ≤ s.length) : (ba s).extract k (ba s).size = ba (s.drop k) := by
  apply ByteArray.ext
  show ((ba s).extract k (ba s).size).data = (s.drop k).toArray
  rw [ByteArray.data_extract]
  show s.toArray.extract k s.toArray.size = _
  simp [List.take_of_length_le]
set_option maxHeartbeats 1000000 in
theorem blank_calls (s : Str) (w : World) (hs : s.length ≤ 1000000) :
    Calls Tryd.prog 127 #[.string (ba s)] w fun r w' => r = .returned (.int .i64 (s.length - (skip false s).length : Nat)) ∧ w = w' := by
  go_enter Tryd.func127, Tryd.ntmps127
  go_wp2_with fail
  go_loop [3] (fun i => ∃ k : Nat, k ≤ s.length ∧ i = .int .i64 k ∧ Hid (skip false (s.drop k) = skip false s)) (fun i => s.length + 1 - (intOf i).toNat)
  case atStart => exact ⟨0, Nat.zero_le _, rfl, rfl⟩
  case round =>
    obtain ⟨k, hk, rfl, hall⟩ := hrel
    have EX := Lib.hid (ba_from s k hk)
    go_wp2_with fail
    rw [show (ba s).extract k (List.length s) = ba (s.drop k) from EX.out]
    refine (while_calls 144 blankB (fun args w => blankfn_enters w args) blankfn_calls (s.drop k) w (by simp; omega)).mono ?_
    rintro en w1 ⟨rfl, rfl⟩
    have hn1 := takeWhile_length_le blankB (s.drop k)
    rw [List.length_drop] at hn1
    have HS := Lib.hid (skip_blanks (s.drop k))
    have HZ := Lib.hid (takeWhile_drop blankB (s.drop k))
    rw [List.drop_drop] at HS HZ
    generalize ((s.drop k).takeWhile blankB).length = n1 at hn1 HS HZ ⊢
    have hk2 : k + n1 ≤ s.length := by omega
    have HS2 : Hid (skip false (s.drop (k + n1)) = skip false s) := by rw [← hall.out]; exact HS.out
    clear HS EX
    have EX := Lib.hid (ba_from s (k + n1) hk2)
    have HI := IntWalk.i64_in ((k : Int) + n1) (by omega)
    go_wp2_with fail
    rw [show (ba s).extract (k + n1) (List.length s) = ba (s.drop (k + n1)) from EX.out]
    refine (hasPrefix_calls _ _ _).mono ?_
    rintro en w1 ⟨rfl, rfl⟩
    rw [show (ba (s.drop (k + n1))).data.toList = s.drop (k + n1) from rfl, show (⟨#[47, 47]⟩ : ByteArray).data.toList = [47, 47] from rfl]
    cases hpre : Lib.hasPrefix (s.drop (k + n1)) [47, 47] with
    | false =>
      have HD := Lib.hid (skip_done _ HZ.out hpre)
      clear hpre
      go_wp2_with fail
      go_ret
      refine ⟨?_, rfl⟩
      rw [← HS2.out, HD.out, List.length_drop, show s.length - (s.length - (k + n1)) = k + n1 from by omega]
      rfl
    | true =>
      obtain ⟨r, hr⟩ : ∃ r, s.drop (k + n1) = 47 :: 47 :: r := by
        generalize s.drop (k + n1) = t at hpre
        match t, hpre with
        | [], h => simp [Lib.hasPrefix, List.isPrefixOf] at h
        | [a], h => simp [Lib.hasPrefix, List.isPrefixOf] at h
        | a :: b :: r, h =>
          simp [Lib.hasPrefix, List.isPrefixOf] at h
          exact ⟨r, by rw [← h.1, ← h.2]⟩
      have hn2 := takeWhile_length_le (fun c => c != 10) (s.drop (k + n1))
      rw [List.length_drop] at hn2
      have hn3 : 2 ≤ ((s.drop (k + n1)).takeWhile (fun c => c != 10)).length := by rw [hr]; simp
      have HL := Lib.hid (skip_line (s.drop (k + n1)))
      rw [List.drop_drop] at HL
      have HL2 : Hid (skip false (s.drop (k + n1 + ((s.drop (k + n1)).takeWhile (fun c => c != 10)).length)) = skip false s) := by
        rw [HL.out, ← HS2.out, hr, skip_remark]
        rfl
      clear HL hpre hr HS2 HZ
      go_wp2_with fail
      rw [show (ba s).extract (k + n1) (List.length s) = ba (s.drop (k + n1)) from EX.out]
      refine (while_calls 147 (fun c => c != 10) (fun args w => notline_enters w args) notline_calls (s.drop (k + n1)) _ (by simp; omega)).mono ?_
      rintro en w1 ⟨rfl, rfl⟩
      generalize ((s.drop (k + n1)).takeWhile (fun c => c != 10)).length = n2 at hn2 hn3 HL2 ⊢
      have HI2 := IntWalk.i64_in (((k + n1 : Nat) : Int) + n2) (by omega)
      go_wp2_with fail
      go_round
      case rel => exact ⟨k + n1 + n2, by omega, by go_num, HL2⟩
      case measure => simp [intOf]; omega
/-! ### words and signs -/
def strsObj (l : List Str) : Obj := .cells (l.map (fun s => Value.string (ba s))).toArray 9
theorem words_calls (w : World) : Calls Tryd.prog 151 #[] w fun r w' => r = .returned (.slice (some ⟨w.heap.size, 0, none⟩) 13 13) ∧ w' = w.alloc (strsObj words) := by
  go_enter Tryd.func151, Tryd.ntmps151
  go_wp2
  go_ret
  exact ⟨rfl, rfl⟩
theorem signs_calls (w : World) : Calls Tryd.prog 152 #[] w fun r w' => r = .returned (.slice (some ⟨w.heap.size, 0, none⟩) 30 30) ∧ w' = w.alloc (strsObj signs) := by
  go_enter Tryd.func152, Tryd.ntmps152
  go_wp2
  go_ret
  exact ⟨rfl, rfl⟩
theorem strsObj_at (w : World) (l : List Str) (hl : l.length ≤ 1000000) (hne : l ≠ []) : StrsAt (w.alloc (strsObj l)) (w.heap.size + 1) (.slice (some ⟨w.heap.size, 0, none⟩) l.length l.length) l :=
  ⟨_, _, rfl, hl, fun _ => ⟨w.heap.size, 0, rfl, by omega, fun j s hj => by simp [strsObj, hj]⟩⟩
theorem words_at (w : World) : StrsAt (w.alloc (strsObj words)) (w.heap.size + 1) (.slice (some ⟨w.heap.size, 0, none⟩) 13 13) words := strsObj_at w words (by decide) (by decide)
theorem signs_at (w : World) : StrsAt (w.alloc (strsObj signs)) (w.heap.size + 1) (.slice (some ⟨w.heap.size, 0, none⟩) 30 30) signs := strsObj_at w signs (by decide) (by decide)
end Go.Proofs.YtdijffojppjmfaaDoor
