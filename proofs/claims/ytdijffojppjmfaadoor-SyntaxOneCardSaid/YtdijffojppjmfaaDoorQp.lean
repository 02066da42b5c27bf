/- Parse and ParseExpr, walked. -/
import Derived.Test.YtdijffojppjmfaaDoorQo
set_option linter.unusedVariables false
set_option linter.unusedSimpArgs false
namespace Bir
/-- What Parse and ParseExpr come to: the tree, or an offset and an error. -/
def parseX (s : Str) : Option Ex × Nat × Nat :=
  match readRes (gram fuel0).expr s with
  | (some x, _, _) => if 60 < deepE x then (none, 0, 3) else (some x, 0, 0)
  | (none, a, k) => (none, a, k)
def parseP (s : Str) : Option Pr × Nat × Nat :=
  match readRes (prog fuel0 fuel0 [] []) s with
  | (some x, _, _) => if 60 < deepP x.funcs then (none, 0, 3) else (some x, 0, 0)
  | (none, a, k) => (none, a, k)
theorem readRes_cases {α : Type} (p : List Tok → R α) (s : Str) (hk : ∀ l, (p l).K) (ho : ∀ l, lex s = .ok l → p l ≠ .out) :
    (∃ x l, lex s = .ok l ∧ s.length ≤ 20000 ∧ p l = .ok x [] ∧ readRes p s = (some x, 0, 0)) ∨ ∃ a k, (k = 3 ∨ k = 4) ∧ readRes p s = (none, a, k) := by
  unfold readRes
  split
  · exact .inr ⟨0, 3, .inl rfl, rfl⟩
  · rename_i hl
    split
    · exact .inr ⟨_, 4, .inr rfl, rfl⟩
    · rename_i l hl2
      have h1 := hk l
      have h2 := ho l hl2
      cases hp : p l with
      | out => exact absurd hp h2
      | err l' k =>
        rw [hp] at h1
        exact .inr ⟨_, k, h1, rfl⟩
      | ok x l' =>
        cases l' with
        | nil => exact .inl ⟨x, l, hl2, by omega, hp, rfl⟩
        | cons t l' => exact .inr ⟨_, 4, .inr rfl, rfl⟩
end Bir
namespace Go.Proofs.YtdijffojppjmfaaDoor
open Go.RowKit Bir Go.BW
theorem lex_len {s : Str} {l : List Tok} (hs : s.length ≤ 20001) (h : lex s = .ok l) : l.length ≤ 20001 := by
  have := (lex_ok (by omega) h).2
  omega
theorem px_end {w W : World} {tm : Array Value} {r : Option Ex} {off k : Nat} {x0 x1 : Int} {x2 : ByteArray} {x3 z0 z1 z2 z3 : Value} (hb : Below w.heap.size w W) (hc : cells4 W w.heap.size z0 z1 z2 z3) (h2 : tm[2]? = some (.pointer (some ⟨w.heap.size, 0, none⟩))) (h3 : tm[3]? = some (.int .i64 off)) (h4 : tm[4]? = some (.int .i64 k))
    (hv : match r with | none => Value.agg #[.int .i64 x0, .int .i64 x1, .string x2, x3] = zE | some x => ExVal w x (.agg #[.int .i64 x0, .int .i64 x1, .string x2, x3]) (set4 W w.heap.size (.int .i64 x0) (.int .i64 x1) (.string x2) x3)) :
    bodyPost Tryd.prog Tryd.f19 (ReadPost zE ExVal w (r, off, k)) .ret { tmps := tm, defers := [] } (set4 W w.heap.size (.int .i64 x0) (.int .i64 x1) (.string x2) x3) := by
  obtain ⟨q0, q1, q2, q3⟩ := set4_cells (.int .i64 x0) (.int .i64 x1) (.string x2) x3 hc.1 hc.2.1 hc.2.2.1 hc.2.2.2
  have hB : Below w.heap.size w (set4 W w.heap.size (.int .i64 x0) (.int .i64 x1) (.string x2) x3) := hb.trans ((ext_set4 W w.heap.size _ _ _ _).to_below hb.size (fun b hb => by omega))
  generalize set4 W w.heap.size (.int .i64 x0) (.int .i64 x1) (.string x2) x3 = W' at *
  cases r <;> exact bodyPost_ret (v := .tuple #[.agg #[.int .i64 x0, .int .i64 x1, .string x2, x3], .int .i64 off, .int .i64 k]) (by simp [results, Tryd.results19, go_sem, h2, h3, h4, q0, q1, q2, q3]) rfl ⟨hB, _, rfl, hv⟩
set_option maxRecDepth 100000 in
set_option maxHeartbeats 1000000 in
theorem parseExpr_calls {w : World} (s : Str) (hs : s.length ≤ 20001) (hlev : LevAt w w.heap.size) :
    Calls Tryd.prog 19 #[.string (ba s)] w (ReadPost zE ExVal w (parseX s)) := by
  have HRC := Lib.hid (readE_calls (w := w.alloc (.cells #[.int .i64 0, .int .i64 0, .string ⟨#[]⟩, .slice none 0 0] 36)) (s := s) fuel0 (by unfold fuel0; omega) (by omega) (hlev.keep (by simp) (fun b hb => Below.heap_alloc _ _ b hb)) (fun l hl => expr_out (lex_len hs hl)))
  rcases readRes_cases (gram fuel0).expr s (fun l => (gram_k _).expr l) (fun l hl => expr_out (lex_len hs hl)) with ⟨x, l, hl, hl2, hp, hrd⟩ | ⟨a, k, hk, hrd⟩
  · have HP : Hid (parseX s = if 60 < deepE x then (none, 0, 3) else (some x, 0, 0)) := Lib.hid (by unfold parseX; rw [hrd])
    rw [hrd] at HRC
    have hsz : sizeE x ≤ 1000000000 := by
      have := (gram_sz fuel0).expr l
      rw [hp] at this
      have h2 := lex_len hs hl
      have : sizeE x + 0 ≤ l.length := this
      omega
    have HSZ := Lib.hid hsz
    clear hl hp hrd hsz
    by_cases hd : 60 < deepE x
    · have e1 : decide ((60 : Int) < (deepE x : Int)) = true := by simp; omega
      have HF : Hid (parseX s = (none, 0, 3)) := Lib.hid (by rw [HP.out, if_pos hd])
      clear hd HP
      go_enter Tryd.func19, Tryd.ntmps19
      go_wp2_with fail
      refine HRC.out.mono ?_
      rintro en w1 ⟨hb1, v, rfl, kv, rfl, hr⟩
      obtain ⟨A1, c1, rfl, _⟩ := hr.slice
      have hz1 := hb1.size
      rw [World.size_alloc] at hz1
      have q := (cells4.new w (.int .i64 0) (.int .i64 0) (.string ⟨#[]⟩) (.slice none 0 0) 36).ext (Ext.of_below hb1 (fun _ => False)) id
      have qf := frz_ext (frozen_new w #[.int .i64 0, .int .i64 0, .string ⟨#[]⟩, .slice none 0 0] 36) (Ext.of_below hb1 (fun _ => False)) (by simp) id
      have HB1 := Lib.hid hb1
      have HR1 := Lib.hid hr
      clear hb1 hr
      go_wp2_with fail
      refine (deepExpr_calls (sizeE x) x (Nat.le_refl _) HSZ.out (HR1.out.keep (w1 := _) (ok' := fun _ => True) (by rw [World.size_alloc]; omega) fun b _ hlt => ⟨Below.heap_alloc _ _ b hlt, trivial⟩)).mono ?_
      rintro en w2 ⟨rfl, hb2⟩
      obtain ⟨q0, q1, q2, q3⟩ := cells4.ext (cells4.ext q ((Ext.refl (fun _ => False) w1).alloc (.cells #[.int .i64 x.kind, .int .i64 x.num, .string (ba x.name), .slice A1 x.kids.length c1] 36)) id) (Ext.of_below hb2 (fun _ => False)) id
      have qf2 := frz_ext (frz_ext qf ((Ext.refl (fun _ => False) w1).alloc (.cells #[.int .i64 x.kind, .int .i64 x.num, .string (ba x.name), .slice A1 x.kids.length c1] 36)) (by omega) id) (Ext.of_below hb2 (fun _ => False)) (by rw [World.size_alloc]; omega) id
      have HB2 := Lib.hid hb2
      clear q qf hb2
      go_wp2_with fail
      rw [HF.out]
      exact px_end ((((Below.refl w.heap.size w).alloc (Nat.le_refl _) _).trans (HB1.out.mono (by simp))).trans (((Below.refl w1.heap.size w1).alloc (Nat.le_refl _) _).mono (by omega)) |>.trans (HB2.out.mono (by rw [World.size_alloc]; omega))) ⟨q0, q1, q2, q3⟩ rfl rfl rfl rfl
    · have e1 : decide ((60 : Int) < (deepE x : Int)) = false := by simp; omega
      have HF : Hid (parseX s = (some x, 0, 0)) := Lib.hid (by rw [HP.out, if_neg hd])
      clear hd HP
      go_enter Tryd.func19, Tryd.ntmps19
      go_wp2_with fail
      refine HRC.out.mono ?_
      rintro en w1 ⟨hb1, v, rfl, kv, rfl, hr⟩
      obtain ⟨A1, c1, rfl, _⟩ := hr.slice
      have hz1 := hb1.size
      rw [World.size_alloc] at hz1
      have q := (cells4.new w (.int .i64 0) (.int .i64 0) (.string ⟨#[]⟩) (.slice none 0 0) 36).ext (Ext.of_below hb1 (fun _ => False)) id
      have qf := frz_ext (frozen_new w #[.int .i64 0, .int .i64 0, .string ⟨#[]⟩, .slice none 0 0] 36) (Ext.of_below hb1 (fun _ => False)) (by simp) id
      have HB1 := Lib.hid hb1
      have HR1 := Lib.hid hr
      clear hb1 hr
      go_wp2_with fail
      refine (deepExpr_calls (sizeE x) x (Nat.le_refl _) HSZ.out (HR1.out.keep (w1 := _) (ok' := fun _ => True) (by rw [World.size_alloc]; omega) fun b _ hlt => ⟨Below.heap_alloc _ _ b hlt, trivial⟩)).mono ?_
      rintro en w2 ⟨rfl, hb2⟩
      obtain ⟨q0, q1, q2, q3⟩ := cells4.ext (cells4.ext q ((Ext.refl (fun _ => False) w1).alloc (.cells #[.int .i64 x.kind, .int .i64 x.num, .string (ba x.name), .slice A1 x.kids.length c1] 36)) id) (Ext.of_below hb2 (fun _ => False)) id
      have qf2 := frz_ext (frz_ext qf ((Ext.refl (fun _ => False) w1).alloc (.cells #[.int .i64 x.kind, .int .i64 x.num, .string (ba x.name), .slice A1 x.kids.length c1] 36)) (by omega) id) (Ext.of_below hb2 (fun _ => False)) (by rw [World.size_alloc]; omega) id
      have HB2 := Lib.hid hb2
      obtain ⟨p0, p1, p2, p3⟩ := (cells4.new w1 (.int .i64 x.kind) (.int .i64 x.num) (.string (ba x.name)) (.slice A1 x.kids.length c1) 36).ext (Ext.of_below hb2 (fun _ => False)) id
      clear q qf hb2
      go_wp2_with fail
      rw [HF.out]
      refine px_end ((((Below.refl w.heap.size w).alloc (Nat.le_refl _) _).trans (HB1.out.mono (by simp))).trans (((Below.refl w1.heap.size w1).alloc (Nat.le_refl _) _).mono (by omega)) |>.trans (HB2.out.mono (by rw [World.size_alloc]; omega))) ⟨q0, q1, q2, q3⟩ rfl rfl rfl ⟨_, rfl, ?_⟩
      have E := ((((Ext.refl (fun b => b = w.heap.size) w1).alloc (.cells #[.int .i64 x.kind, .int .i64 x.num, .string (ba x.name), .slice A1 x.kids.length c1] 36)).below HB2.out).trans' (ext_set4 w2 w.heap.size (.int .i64 x.kind) (.int .i64 x.num) (.string (ba x.name)) (.slice A1 x.kids.length c1)))
      have hr' := HR1.out
      rw [World.size_alloc] at hr'
      exact hr'.ext E (fun b hb => by omega) (by omega)
  · have HF : Hid (parseX s = (none, a, k)) := Lib.hid (by unfold parseX; rw [hrd])
    rw [hrd] at HRC
    have e1 : ((k : Int) == 0) = false := beq_eq_false_iff_ne.2 (by omega)
    clear hk hrd
    go_enter Tryd.func19, Tryd.ntmps19
    go_wp2_with fail
    refine HRC.out.mono ?_
    rintro en w1 ⟨hb1, v, rfl, rfl⟩
    have hz1 := hb1.size
    rw [World.size_alloc] at hz1
    obtain ⟨q0, q1, q2, q3⟩ := ((cells4.new w (.int .i64 0) (.int .i64 0) (.string ⟨#[]⟩) (.slice none 0 0) 36).ext (Ext.of_below hb1 (fun _ => False)) id).ext ((Ext.refl (fun _ => False) w1).alloc (.cells #[.int .i64 0, .int .i64 0, .string ⟨#[]⟩, .slice none 0 0] 36)) id
    have qf := frz_ext (frz_ext (frozen_new w #[.int .i64 0, .int .i64 0, .string ⟨#[]⟩, .slice none 0 0] 36) (Ext.of_below hb1 (fun _ => False)) (by simp) id) ((Ext.refl (fun _ => False) w1).alloc (.cells #[.int .i64 0, .int .i64 0, .string ⟨#[]⟩, .slice none 0 0] 36)) (by omega) id
    have HB1 := Lib.hid hb1
    clear hb1
    go_wp2_with fail
    rw [HF.out]
    exact px_end ((((Below.refl w.heap.size w).alloc (Nat.le_refl _) _).trans (HB1.out.mono (by simp))).trans (((Below.refl w1.heap.size w1).alloc (Nat.le_refl _) _).mono (by omega))) ⟨q0, q1, q2, q3⟩ rfl rfl rfl rfl
end Go.Proofs.YtdijffojppjmfaaDoor
