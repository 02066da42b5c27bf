/- Depths, walked. -/
import Derived.Test.YtdijffojppjmfaaDoorQn
import Derived.Test.YtdijffojppjmfaaDoorRa
import Derived.Deep.RegionHeld3
import Derived.IntWalk
set_option linter.unusedVariables false
set_option linter.unusedSimpArgs false
namespace Go.Proofs.YtdijffojppjmfaaDoor
open Go.RowKit Bir Go.BW
abbrev cells4a (w : World) (b o : Nat) (x0 x1 x2 x3 : Value) : Prop := w.cell? ⟨b, o, none⟩ = some x0 ∧ w.cell? ⟨b, o + 1, none⟩ = some x1 ∧ w.cell? ⟨b, o + 2, none⟩ = some x2 ∧ w.cell? ⟨b, o + 3, none⟩ = some x3
/-- An element of a row. -/
theorem erow_at {w : World} {ok : Nat → Prop} {A : Option Addr} {n c : Nat} {xs : List Ex} (h : ERow w ok (.slice A n c) xs) {k : Nat} (hk : k < xs.length) :
    ∃ b off kv, A = some ⟨b, off, none⟩ ∧ b < w.heap.size ∧ cells4a w b (off + k * 4) (.int .i64 xs[k].kind) (.int .i64 xs[k].num) (.string (ba xs[k].name)) kv ∧ ERow w ok kv xs[k].kids := by
  generalize hv : Value.slice A n c = v at h
  cases h with
  | nil => simp at hk
  | row b off c' xs f hok hb hc h hkk =>
    injection hv with h1 _ _
    obtain ⟨a0, a1, a2, a3⟩ := h k xs[k] (List.getElem?_eq_getElem hk)
    rw [Nat.mul_comm 4 k] at a0 a1 a2 a3
    exact ⟨b, off, f k, h1, hb, ⟨a0, a1, a2, a3⟩, hkk k xs[k] (List.getElem?_eq_getElem hk)⟩
theorem take_snoc' {α : Type} (l : List α) (k : Nat) (h : k < l.length) : l.take (k + 1) = l.take k ++ [l[k]] := by rw [List.take_succ_eq_append_getElem h]
set_option maxRecDepth 100000 in
set_option maxHeartbeats 1000000 in
theorem deepExpr_calls : ∀ (m : Nat) (x : Ex) {w : World} {ok : Nat → Prop} {kv : Value}, sizeE x ≤ m → m ≤ 1000000000 → ERow w ok kv x.kids →
    Calls Tryd.prog 44 #[.agg #[.int .i64 x.kind, .int .i64 x.num, .string (ba x.name), kv]] w fun en w' => en = .returned (.int .i64 (deepE x)) ∧ Below w.heap.size w w'
  | 0, x, w, ok, kv, h, _, _ => absurd h (by rw [sizeE_eq]; omega)
  | m + 1, x, w, ok, kv, h, hm, hr => by
    have ih := deepExpr_calls m
    obtain ⟨A, c, rfl, hc⟩ := hr.slice
    have hsz := sizeE_eq x
    have hlen := len_sizeEs x.kids
    have HS : Hid (∀ y ∈ x.kids, sizeE y ≤ m) := Lib.hid fun y hy => by have := mem_sizeEs hy; omega
    have HD := Lib.hid (deepE_eq x)
    have HI := Lib.hid ih
    have HR := Lib.hid hr
    have hl9 : x.kids.length ≤ 1000000000 := by omega
    have HQ : Hid (deepEs x.kids ≤ 1000000000) := Lib.hid (by have := deepEs_size x.kids; omega)
    clear ih hsz hlen h hr
    go_enter Tryd.func44, Tryd.ntmps44
    go_wp2_with fail
    go_loopw [3, 9] (fun n i wr => ∃ k : Nat, k ≤ x.kids.length ∧ i = .int .i64 k ∧ n = .int .i64 (deepEs (x.kids.take k) : Nat) ∧ Below w.heap.size w wr) (fun _ i _ => x.kids.length - (intOf i).toNat)
    case atStart => exact ⟨0, Nat.zero_le _, rfl, by simp [deepEs], (Below.refl _ w).alloc (Nat.le_refl _) _⟩
    case round =>
      obtain ⟨k, hk, rfl, rfl, hb⟩ := hrel
      by_cases hlt : k < x.kids.length
      · obtain ⟨b, off, kv, rfl, hbl, ⟨a0, a1, a2, a3⟩, hkr⟩ := erow_at (HR.out.keep (w1 := ‹World›) (ok' := fun _ => True) hb.size fun b _ hlt => ⟨hb.block b hlt, trivial⟩) hlt
        obtain ⟨A1, c1, rfl, _⟩ := hkr.slice
        have HK := Lib.hid hkr
        clear hkr
        have HT : Hid (deepEs (x.kids.take (k + 1)) = max (deepEs (x.kids.take k)) (deepE x.kids[k])) := Lib.hid (by rw [take_snoc' _ _ hlt, deepEs_snoc])
        have HSk : Hid (sizeE x.kids[k] ≤ m) := Lib.hid (HS.out _ (List.getElem_mem hlt))
        generalize x.kids[k] = y at *
        go_wp2_with fail
        refine (HI.out y HSk.out (by omega) (HK.out.keep (w1 := _) (ok' := fun _ => True) (by rw [World.size_alloc]; omega) fun b _ hlt => ⟨Below.heap_alloc _ _ b hlt, trivial⟩)).mono ?_
        rintro en w2 ⟨rfl, hb2⟩
        go_wp2_with fail
        refine ⟨⟨k + 1, by omega, by go_num, ?_, (hb.trans (((Below.refl _ wr).alloc (Nat.le_refl _) _).mono hb.size)).trans (hb2.mono (by have := hb.size; rw [World.size_alloc]; omega))⟩, by simp [intOf]; omega⟩
        rw [HT.out]
        exact congrArg (Value.int IntKind.i64) (by omega)
      · obtain rfl : k = x.kids.length := by omega
        rw [List.take_length]
        have hq : (deepEs x.kids : Int) ≤ 1000000000 := by have := HQ.out; omega
        go_wp2_with fail
        go_ret
        exact ⟨by rw [HD.out]; exact congrArg (fun v => Ending.returned (Value.int IntKind.i64 v)) (by omega), hb⟩
/-- An element of a row of statements. -/
abbrev cells5a (w : World) (b o : Nat) (x0 x1 x2 x3 x4 : Value) : Prop := w.cell? ⟨b, o, none⟩ = some x0 ∧ w.cell? ⟨b, o + 1, none⟩ = some x1 ∧ w.cell? ⟨b, o + 2, none⟩ = some x2 ∧ w.cell? ⟨b, o + 3, none⟩ = some x3 ∧ w.cell? ⟨b, o + 4, none⟩ = some x4
theorem srow_at {w : World} {ok : Nat → Prop} {A : Option Addr} {n c : Nat} {xs : List St} (h : SRow w ok (.slice A n c) xs) {k : Nat} (hk : k < xs.length) :
    ∃ b off ev bv lv, A = some ⟨b, off, none⟩ ∧ b < w.heap.size ∧ cells5a w b (off + k * 5) (.int .i64 xs[k].kind) (.string (ba xs[k].name)) ev bv lv ∧ ERow w ok ev xs[k].exprs ∧ SRow w ok bv xs[k].body ∧ SRow w ok lv xs[k].els := by
  generalize hv : Value.slice A n c = v at h
  cases h with
  | nil => simp at hk
  | row b off c' xs f g e hok hb hc h h1 h2 h3 =>
    injection hv with hA _ _
    have hg := List.getElem?_eq_getElem hk
    obtain ⟨a0, a1, a2, a3, a4⟩ := h k xs[k] hg
    rw [Nat.mul_comm 5 k] at a0 a1 a2 a3 a4
    exact ⟨b, off, f k, g k, e k, hA, hb, ⟨a0, a1, a2, a3, a4⟩, h1 k _ hg, h2 k _ hg, h3 k _ hg⟩
set_option maxRecDepth 100000 in
set_option maxHeartbeats 2000000 in
theorem deepBlock_calls : ∀ (m : Nat) (l : List St) {w : World} {ok : Nat → Prop} {lv : Value}, sizeB l ≤ m → m ≤ 1000000000 → SRow w ok lv l →
    Calls Tryd.prog 75 #[lv] w fun en w' => en = .returned (.int .i64 (deepB l)) ∧ Below w.heap.size w w' := by
  intro m
  induction m using Nat.strongRecOn with
  | _ m ih =>
    intro l w ok lv h hm hr
    obtain ⟨A, c, rfl, hc⟩ := hr.slice
    have hlen := len_sizeB l
    have HS : Hid (∀ y ∈ l, sizeS y ≤ m) := Lib.hid fun y hy => by have := mem_sizeB hy; omega
    have HI := Lib.hid ih
    have HR := Lib.hid hr
    have hl9 : l.length ≤ 1000000000 := by omega
    have HDT : Hid (∀ k, deepB (l.take k) ≤ 1000000000) := Lib.hid fun k => by have := deepB_size (l.take k); have h2 := sizeB_app (l.take k) (l.drop k); rw [List.take_append_drop] at h2; omega
    clear ih hlen h hr
    go_enter Tryd.func75, Tryd.ntmps75
    go_wp2_with fail
    go_loopw [3, 10] (fun n i wr => ∃ k : Nat, k ≤ l.length ∧ i = .int .i64 k ∧ n = .int .i64 (deepB (l.take k) : Nat) ∧ Below w.heap.size w wr) (fun _ i _ => l.length - (intOf i).toNat)
    case atStart => exact ⟨0, Nat.zero_le _, rfl, by simp [deepB], Below.refl _ w⟩
    case round =>
      obtain ⟨k, hk, rfl, rfl, hb⟩ := hrel
      by_cases hlt : k < l.length
      · obtain ⟨b, off, ev, bv, lv, rfl, hbl, ⟨a0, a1, a2, a3, a4⟩, he, hbb, hll⟩ := srow_at (HR.out.keep (w1 := ‹World›) (ok' := fun _ => True) hb.size fun b _ hlt => ⟨hb.block b hlt, trivial⟩) hlt
        obtain ⟨A1, c1, rfl, _⟩ := he.slice
        obtain ⟨A2, c2, rfl, _⟩ := hbb.slice
        obtain ⟨A3, c3, rfl, _⟩ := hll.slice
        have HE := Lib.hid he
        have HBB := Lib.hid hbb
        have HLL := Lib.hid hll
        clear he hbb hll
        have HT : Hid (deepB (l.take (k + 1)) = max (deepB (l.take k)) (deepS l[k])) := Lib.hid (by rw [take_snoc' _ _ hlt, deepB_snoc])
        have HSk : Hid (sizeS l[k] ≤ m) := Lib.hid (HS.out _ (List.getElem_mem hlt))
        generalize l[k] = y at *
        have hsz := sizeS_eq y
        have hms := HSk.out
        have hd1 := deepB_size y.body
        have hd2 := deepB_size y.els
        have hd3 := deepEs_size y.exprs
        have hb1 : (deepB y.body : Int) ≤ 1000000000 := by omega
        have hb2 : (deepB y.els : Int) ≤ 1000000000 := by omega
        have HSZ := Lib.hid hsz
        clear hsz hms hd1 hd2 hd3
        go_wp2_with fail
        obtain ⟨q0, q1, q2, q3, q4⟩ := cells5.new wr (.int .i64 y.kind) (.string (ba y.name)) (.slice A1 y.exprs.length c1) (.slice A2 y.body.length c2) (.slice A3 y.els.length c3) 98
        have hW0 : Below w.heap.size w (wr.alloc (.cells #[.int .i64 y.kind, .string (ba y.name), .slice A1 y.exprs.length c1, .slice A2 y.body.length c2, .slice A3 y.els.length c3] 98)) := hb.alloc hb.size _
        have hKR : ∀ b', b' < wr.heap.size → (wr.alloc (.cells #[.int .i64 y.kind, .string (ba y.name), .slice A1 y.exprs.length c1, .slice A2 y.body.length c2, .slice A3 y.els.length c3] 98)).heap[b']? = wr.heap[b']? := fun b' h => Below.heap_alloc _ _ b' h
        have hlt0 : wr.heap.size < (wr.alloc (.cells #[.int .i64 y.kind, .string (ba y.name), .slice A1 y.exprs.length c1, .slice A2 y.body.length c2, .slice A3 y.els.length c3] 98)).heap.size := by simp
        generalize wr.alloc (.cells #[.int .i64 y.kind, .string (ba y.name), .slice A1 y.exprs.length c1, .slice A2 y.body.length c2, .slice A3 y.els.length c3] 98) = W0 at q0 q1 q2 q3 q4 hW0 hKR hlt0 ⊢
        have HB1 : Hid (∀ W', Below W0.heap.size W0 W' → Calls Tryd.prog 75 #[.slice A2 y.body.length c2] W' fun en w' => en = .returned (.int .i64 (deepB y.body)) ∧ Below W0.heap.size W0 w') := Lib.hid fun W' hW =>
          (HI.out (sizeB y.body) (by have := HSZ.out; have := HSk.out; omega) y.body (Nat.le_refl _) (by have := HSZ.out; have := HSk.out; omega) (HBB.out.keep (w1 := W') (ok' := fun _ => True) (by have := hW.size; omega) fun b' _ hl => ⟨(hW.block b' (by omega)).trans (hKR b' hl), trivial⟩)).mono fun en w' h => ⟨h.1, hW.trans (h.2.mono hW.size)⟩
        have HB2 : Hid (∀ W', Below W0.heap.size W0 W' → Calls Tryd.prog 75 #[.slice A3 y.els.length c3] W' fun en w' => en = .returned (.int .i64 (deepB y.els)) ∧ Below W0.heap.size W0 w') := Lib.hid fun W' hW =>
          (HI.out (sizeB y.els) (by have := HSZ.out; have := HSk.out; omega) y.els (Nat.le_refl _) (by have := HSZ.out; have := HSk.out; omega) (HLL.out.keep (w1 := W') (ok' := fun _ => True) (by have := hW.size; omega) fun b' _ hl => ⟨(hW.block b' (by omega)).trans (hKR b' hl), trivial⟩)).mono fun en w' h => ⟨h.1, hW.trans (h.2.mono hW.size)⟩
        have HBE : Hid (∀ W', Below W0.heap.size W0 W' → ERow W' (fun _ => True) (.slice A1 y.exprs.length c1) y.exprs) := Lib.hid fun W' hW =>
          HE.out.keep (w1 := W') (ok' := fun _ => True) (by have := hW.size; omega) fun b' _ hl => ⟨(hW.block b' (by omega)).trans (hKR b' hl), trivial⟩
        have HR0 : Hid (Below W0.heap.size W0 W0.drew) := Lib.hid (Below.refl _ _).drew
        have HKR := Lib.hid hKR
        have HCE := Lib.hid q2
        have HD0 : Hid (deepB (l.take k) ≤ 1000000000) := Lib.hid (HDT.out k)
        clear hKR q0 q1 q2
        go_region_held3 (fun w' => w'.cell? ⟨wr.heap.size, 3, none⟩ = some (.slice A2 y.body.length c2) ∧ w'.cell? ⟨wr.heap.size, 4, none⟩ = some (.slice A3 y.els.length c3)) (go_keep)
          (first
            | (go_at_call 75; (with_reducible refine (HB1.out _ ?_).mono ?_); (first | exact hbW | exact HR0.out); rintro en w3 ⟨rfl, hbW⟩; have k3 := (hbW.cell (p := ⟨wr.heap.size, 3, none⟩) hlt0).trans q3; have k4 := (hbW.cell (p := ⟨wr.heap.size, 4, none⟩) hlt0).trans q4)
            | (go_at_call 75; (with_reducible refine (HB2.out _ ?_).mono ?_); (first | exact hbW | exact HR0.out); rintro en w3 ⟨rfl, hbW⟩; have k3 := (hbW.cell (p := ⟨wr.heap.size, 3, none⟩) hlt0).trans q3; have k4 := (hbW.cell (p := ⟨wr.heap.size, 4, none⟩) hlt0).trans q4))
        have kE := (hbW.cell (p := ⟨wr.heap.size, 2, none⟩) hlt0)
        have kE2 := HCE.out
        rw [← kE] at kE2
        have wz := hbW.size
        have HBW := Lib.hid hbW
        have hd0 : deepB (l.take k) ≤ 1000000000 := HD0.out
        rw [IntWalk.i64_in ((deepB y.body : Int) + 1) (by omega), IntWalk.i64_in ((deepB y.els : Int) + 1) (by omega)]
        obtain ⟨d0, hd0e⟩ : ∃ d0 : Nat, d0 = max (deepB (l.take k)) (max (deepB y.body + 1) (deepB y.els + 1)) := ⟨_, rfl⟩
        rw [show (if (if (deepB (l.take k) : Int) < (deepB y.body : Int) + 1 then (deepB y.body : Int) + 1 else (deepB (l.take k) : Int)) < (deepB y.els : Int) + 1 then (deepB y.els : Int) + 1 else if (deepB (l.take k) : Int) < (deepB y.body : Int) + 1 then (deepB y.body : Int) + 1 else (deepB (l.take k) : Int)) = (d0 : Int) from by split <;> split <;> omega]
        have HD0E := Lib.hid hd0e
        have hd1 : 1 ≤ d0 := by omega
        have hd2 : d0 ≤ 1000000001 := by omega
        have hel := len_sizeEs y.exprs
        have hel9 : y.exprs.length ≤ 1000000000 := by have := HSZ.out; have := HSk.out; omega
        clear hbW hd0e kE hel
        go_wp2_with fail
        go_loopw [3, 27] (fun n i wq => ∃ j : Nat, j ≤ y.exprs.length ∧ i = .int .i64 j ∧ n = .int .i64 (max d0 (deepEs (y.exprs.take j) + 1) : Nat) ∧ Below W0.heap.size W0 wq) (fun _ i _ => y.exprs.length - (intOf i).toNat)
        case atStart => exact ⟨0, Nat.zero_le _, rfl, by simp [deepEs]; omega, HBW.out⟩
        case round =>
          obtain ⟨j, hj, rfl, rfl, hbq⟩ := hrel
          by_cases hjt : j < y.exprs.length
          · obtain ⟨b2, off2, kv, hA1, hb2l, ⟨e0, e1, e2, e3⟩, hkr⟩ := erow_at (HBE.out _ hbq) hjt
            subst hA1
            obtain ⟨A4, c4, rfl, _⟩ := hkr.slice
            have HK := Lib.hid hkr
            clear hkr
            have HT2 : Hid (max d0 (deepEs (y.exprs.take (j + 1)) + 1) = max (max d0 (deepEs (y.exprs.take j) + 1)) (deepE y.exprs[j] + 1)) := Lib.hid (by rw [take_snoc' _ _ hjt, deepEs_snoc]; omega)
            have hzs : sizeE y.exprs[j] ≤ 1000000000 := by have := mem_sizeEs (List.getElem_mem hjt); have := HSZ.out; have := HSk.out; omega
            have hzd : (deepE y.exprs[j] : Int) ≤ 1000000000 := by have := deepE_size y.exprs[j]; omega
            have HZS := Lib.hid hzs
            clear hzs
            generalize y.exprs[j] = z at *
            generalize hq0 : max d0 (deepEs (y.exprs.take j) + 1) = q0 at *
            have HQ0 := Lib.hid hq0
            clear hq0
            go_wp2_with fail
            refine (deepExpr_calls (sizeE z) z (Nat.le_refl _) HZS.out (HK.out.keep (w1 := _) (ok' := fun _ => True) (by rw [World.size_alloc]; omega) fun b _ hlt => ⟨Below.heap_alloc _ _ b hlt, trivial⟩)).mono ?_
            rintro en w2 ⟨rfl, hb2⟩
            go_wp2_with fail
            refine ⟨⟨j + 1, by omega, by go_num, ?_, (hbq.trans (((Below.refl _ _).alloc (Nat.le_refl _) _).mono hbq.size)).trans (hb2.mono (by have := hbq.size; rw [World.size_alloc]; omega))⟩, by simp [intOf]; omega⟩
            rw [HT2.out]
            exact congrArg (Value.int IntKind.i64) (by omega)
          · obtain rfl : j = y.exprs.length := by omega
            have hfin : max d0 (deepEs (y.exprs.take y.exprs.length) + 1) = deepB (l.take (k + 1)) := by
              rw [List.take_length, HT.out, deepS_eq y, HD0E.out]
              omega
            rw [hfin]
            have HFIN := Lib.hid hfin
            clear hfin
            go_wp2_with fail
            exact ⟨⟨k + 1, by omega, by go_num, rfl, hW0.trans (hbq.mono hW0.size)⟩, by simp [intOf]; omega⟩
      · obtain rfl : k = l.length := by omega
        rw [List.take_length]
        go_wp2_with fail
        go_ret
        exact ⟨rfl, hb⟩
theorem FnCells.len {w : World} {ok : Nat → Prop} {cs : List Value} {xs : List Bir.Fn} (h : FnCells w ok cs xs) : cs.length = 3 * xs.length := by
  induction h with
  | nil => rfl
  | snoc h _ _ ih => simp [ih]; omega
theorem FnCells.at {w : World} {ok : Nat → Prop} {cs : List Value} {xs : List Bir.Fn} (h : FnCells w ok cs xs) : ∀ {k : Nat} (hk : k < xs.length), ∃ pv bv, cs[k * 3]? = some (.string (ba xs[k].name)) ∧ cs[k * 3 + 1]? = some pv ∧ cs[k * 3 + 2]? = some bv ∧ StrRow w ok pv xs[k].params ∧ SRow w ok bv xs[k].body := by
  induction h with
  | nil => intro k hk; simp at hk
  | @snoc cs xs x pv bv h hp hb ih =>
    intro k hk
    have hl := FnCells.len h
    rcases Nat.lt_or_ge k xs.length with h1 | h1
    · obtain ⟨pv', bv', h2, h3, h4, h5, h6⟩ := ih h1
      rw [List.getElem_append_left h1]
      exact ⟨pv', bv', by rw [List.getElem?_append_left (by omega)]; exact h2, by rw [List.getElem?_append_left (by omega)]; exact h3, by rw [List.getElem?_append_left (by omega)]; exact h4, h5, h6⟩
    · simp only [List.length_append, List.length_cons, List.length_nil] at hk
      obtain rfl : k = xs.length := by omega
      rw [List.getElem_append_right (Nat.le_refl _)]
      simp only [Nat.sub_self, List.getElem_cons_zero]
      exact ⟨pv, bv, by rw [List.getElem?_append_right (by omega), show xs.length * 3 - cs.length = 0 from by omega]; rfl, by rw [List.getElem?_append_right (by omega), show xs.length * 3 + 1 - cs.length = 1 from by omega]; rfl, by rw [List.getElem?_append_right (by omega), show xs.length * 3 + 2 - cs.length = 2 from by omega]; rfl, hp, hb⟩
/-- An element of a row of functions. -/
theorem fnrow_at {w : World} {ok : Nat → Prop} {A : Option Addr} {n c : Nat} {xs : List Bir.Fn} (h : FnRow w ok (.slice A n c) xs) {k : Nat} (hk : k < xs.length) :
    ∃ b off pv bv, A = some ⟨b, off, none⟩ ∧ b < w.heap.size ∧ w.cell? ⟨b, off + k * 3, none⟩ = some (.string (ba xs[k].name)) ∧ w.cell? ⟨b, off + k * 3 + 1, none⟩ = some pv ∧ w.cell? ⟨b, off + k * 3 + 2, none⟩ = some bv ∧ StrRow w ok pv xs[k].params ∧ SRow w ok bv xs[k].body := by
  obtain ⟨cs, ⟨hl, c', hc, hv⟩, hf⟩ := h
  obtain ⟨pv, bv, h2, h3, h4, h5, h6⟩ := FnCells.at hf hk
  rcases hv with ⟨h0, _⟩ | ⟨b, off, hv, hok, hb, hcell⟩
  · omega
  · injection hv with hA _ _
    exact ⟨b, off, pv, bv, hA, hb, hcell _ _ h2, by rw [Nat.add_assoc]; exact hcell _ _ h3, by rw [Nat.add_assoc]; exact hcell _ _ h4, h5, h6⟩
set_option maxRecDepth 100000 in
set_option maxHeartbeats 1000000 in
theorem deepProgram_calls (fs : List Bir.Fn) {w : World} {ok : Nat → Prop} {A0 : Option Addr} {n0 c0 : Nat} {fv : Value} (hs : sizeP fs + fs.length ≤ 1000000000) (hr : FnRow w ok fv fs) :
    Calls Tryd.prog 37 #[.agg #[.slice A0 n0 c0, fv]] w fun en w' => en = .returned (.int .i64 (deepP fs)) ∧ Below w.heap.size w w' := by
  obtain ⟨A, c, rfl, hc⟩ : ∃ A c, fv = .slice A fs.length c ∧ fs.length ≤ c := by
    obtain ⟨cs, h1, _⟩ := hr
    exact h1.slice
  have HS : Hid (∀ y ∈ fs, sizeB y.body ≤ 1000000000) := Lib.hid fun y hy => by have := mem_sizeP hy; omega
  have HR := Lib.hid hr
  have hl9 : fs.length ≤ 1000000000 := by omega
  clear hr hs
  go_enter Tryd.func37, Tryd.ntmps37
  go_wp2_with fail
  go_loopw [3, 9] (fun n i wr => ∃ k : Nat, k ≤ fs.length ∧ i = .int .i64 k ∧ n = .int .i64 (deepP (fs.take k) : Nat) ∧ Below w.heap.size w wr) (fun _ i _ => fs.length - (intOf i).toNat)
  case atStart => exact ⟨0, Nat.zero_le _, rfl, by simp [deepP], (Below.refl _ w).alloc (Nat.le_refl _) _⟩
  case round =>
    obtain ⟨k, hk, rfl, rfl, hb⟩ := hrel
    by_cases hlt : k < fs.length
    · obtain ⟨b, off, pv, bv, rfl, hbl, a0, a1, a2, hp, hkr⟩ := fnrow_at (HR.out.keep (w1 := ‹World›) (ok' := fun _ => True) hb.size fun b _ hlt => ⟨hb.block b hlt, trivial⟩) hlt
      obtain ⟨A1, c1, rfl, _⟩ := hkr.slice
      obtain ⟨A2, c2, rfl, _⟩ := VRow.slice hp
      have HK := Lib.hid hkr
      clear hkr hp
      have HT : Hid (deepP (fs.take (k + 1)) = max (deepP (fs.take k)) (deepB fs[k].body)) := Lib.hid (by rw [take_snoc' _ _ hlt, deepP_snoc])
      have HSk : Hid (sizeB fs[k].body ≤ 1000000000) := Lib.hid (HS.out _ (List.getElem_mem hlt))
      generalize fs[k] = y at *
      go_wp2_with fail
      refine (deepBlock_calls (sizeB y.body) y.body (Nat.le_refl _) HSk.out (HK.out.keep (w1 := _) (ok' := fun _ => True) (by rw [World.size_alloc]; omega) fun b _ hlt => ⟨Below.heap_alloc _ _ b hlt, trivial⟩)).mono ?_
      rintro en w2 ⟨rfl, hb2⟩
      go_wp2_with fail
      refine ⟨⟨k + 1, by omega, by go_num, ?_, (hb.trans (((Below.refl _ _).alloc (Nat.le_refl _) _).mono hb.size)).trans (hb2.mono (by have := hb.size; rw [World.size_alloc]; omega))⟩, by simp [intOf]; omega⟩
      rw [HT.out]
      exact congrArg (Value.int IntKind.i64) (by omega)
    · obtain rfl : k = fs.length := by omega
      rw [List.take_length]
      go_wp2_with fail
      go_ret
      exact ⟨rfl, hb⟩
end Go.Proofs.YtdijffojppjmfaaDoor
