/- The reference's SameExpr and sameExprs, walked. The reference's sameStmts, walked. The reference's Same, walked, where the two programs are one. -/
import Derived.Test.YtdijffojppjmfaaDoorQo
import Derived.Test.YtdijffojppjmfaaDoorRa
import Derived.Deep.RegionHeld3
import Derived.Deep.QuietTactic
import Derived.BigQuiet
set_option linter.unusedVariables false
set_option linter.unusedSimpArgs false
namespace Go.Proofs.YtdijffojppjmfaaDoor
open Go.RowKit Bir Go.BW
/-- What the two functions say, of trees up to a size. -/
structure SameX (m : Nat) : Prop where
  one : ∀ (x y : Ex) {w : World} {ok ok' : Nat → Prop} {u v : Value}, 2 * sizeE x ≤ m → ERow w ok u x.kids → ERow w ok' v y.kids →
    Calls Tryd.prog 22 #[.agg #[.int .i64 x.kind, .int .i64 x.num, .string (ba x.name), u], .agg #[.int .i64 y.kind, .int .i64 y.num, .string (ba y.name), v]] w fun en w' => en = .returned (.bool (sameE x y)) ∧ Below w.heap.size w w'
  list : ∀ (a b : List Ex) {w : World} {ok ok' : Nat → Prop} {u v : Value}, 2 * sizeEs a + 1 ≤ m → ERow w ok u a → ERow w ok' v b →
    Calls Tryd.prog 48 #[u, v] w fun en w' => en = .returned (.bool (sameEs a b)) ∧ Below w.heap.size w w'
theorem erow_below {w w' : World} {ok : Nat → Prop} {v : Value} {xs : List Ex} (h : ERow w ok v xs) (hb : Below w.heap.size w w') : ERow w' (fun _ => True) v xs := h.keep hb.size fun b _ hl => ⟨hb.block b hl, trivial⟩
theorem srow_below {w w' : World} {ok : Nat → Prop} {v : Value} {xs : List St} (h : SRow w ok v xs) (hb : Below w.heap.size w w') : SRow w' (fun _ => True) v xs := h.keep hb.size fun b _ hl => ⟨hb.block b hl, trivial⟩
set_option maxRecDepth 100000 in
set_option maxHeartbeats 2000000 in
theorem sameExpr_step {m : Nat} (ih : ∀ k, k < m → SameX k) (x y : Ex) {w : World} {ok ok' : Nat → Prop} {u v : Value} (hm : 2 * sizeE x ≤ m) (hx : ERow w ok u x.kids) (hy : ERow w ok' v y.kids) :
    Calls Tryd.prog 22 #[.agg #[.int .i64 x.kind, .int .i64 x.num, .string (ba x.name), u], .agg #[.int .i64 y.kind, .int .i64 y.num, .string (ba y.name), v]] w fun en w' => en = .returned (.bool (sameE x y)) ∧ Below w.heap.size w w' := by
  have hd := sameE_def x y
  have hsz := sizeE_eq x
  obtain ⟨A1, c1, rfl, _⟩ := hx.slice
  obtain ⟨A2, c2, rfl, _⟩ := hy.slice
  have hW : ∀ o1 o2, Below w.heap.size w ((w.alloc o1).alloc o2) := fun o1 o2 => ((Below.refl _ w).alloc (Nat.le_refl _) _).alloc (by simp) _
  have HW := Lib.hid hW
  cases e1 : (x.kind == y.kind) with
  | false =>
    have HF : Hid (sameE x y = false) := Lib.hid (by rw [hd, e1]; rfl)
    clear hd hsz hx hy hW
    go_enter Tryd.func22, Tryd.ntmps22
    go_wp2_with fail
    go_ret
    exact ⟨by rw [HF.out]; rfl, HW.out _ _⟩
  | true =>
    cases e2 : (x.num == y.num) with
    | false =>
      have HF : Hid (sameE x y = false) := Lib.hid (by rw [hd, e1, e2]; rfl)
      clear hd hsz hx hy hW
      go_enter Tryd.func22, Tryd.ntmps22
      go_wp2_with fail
      go_ret
      exact ⟨by rw [HF.out]; rfl, HW.out _ _⟩
    | true =>
      cases e3 : (x.name == y.name) with
      | false =>
        have HF : Hid (sameE x y = false) := Lib.hid (by rw [hd, e1, e2, e3]; rfl)
        clear hd hsz hx hy hW
        go_enter Tryd.func22, Tryd.ntmps22
        go_wp2_with fail
        go_ret
        exact ⟨by rw [HF.out]; rfl, HW.out _ _⟩
      | true =>
        have HF : Hid (sameE x y = sameEs x.kids y.kids) := Lib.hid (by rw [hd, e1, e2, e3]; rfl)
        have HC : Hid (∀ o1 o2, Calls Tryd.prog 48 #[.slice A1 x.kids.length c1, .slice A2 y.kids.length c2] ((w.alloc o1).alloc o2) fun en w' => en = .returned (.bool (sameEs x.kids y.kids)) ∧ Below ((w.alloc o1).alloc o2).heap.size ((w.alloc o1).alloc o2) w') := Lib.hid fun o1 o2 =>
          (ih (m - 1) (by omega)).list x.kids y.kids (by omega) (erow_below hx (hW o1 o2)) (erow_below hy (hW o1 o2))
        clear hd hsz hx hy hW ih
        go_enter Tryd.func22, Tryd.ntmps22
        go_wp2_with fail
        refine (HC.out _ _).mono ?_
        rintro en w1 ⟨rfl, hb1⟩
        go_wp2_with fail
        go_ret
        exact ⟨by rw [HF.out]; rfl, (HW.out _ _).trans (hb1.mono (HW.out _ _).size)⟩
theorem sameEs_false {a b : List Ex} {k : Nat} {x y : Ex} (hx : a[k]? = some x) (hy : b[k]? = some y) (h : sameE x y = false) : sameEs a b = false := by
  rw [Bool.eq_false_iff]
  intro ht
  have := ((sameEs_at a b).1 ht).2 k x y hx hy
  rw [h] at this
  cases this
set_option maxRecDepth 100000 in
set_option maxHeartbeats 4000000 in
theorem sameExprs_step {m : Nat} (hm9 : m ≤ 1000000000) (ih : ∀ k, k < m → SameX k) (a b : List Ex) {w : World} {ok ok' : Nat → Prop} {u v : Value} (hm : 2 * sizeEs a + 1 ≤ m) (hx : ERow w ok u a) (hy : ERow w ok' v b) :
    Calls Tryd.prog 48 #[u, v] w fun en w' => en = .returned (.bool (sameEs a b)) ∧ Below w.heap.size w w' := by
  have hlen := len_sizeEs a
  obtain ⟨A1, c1, rfl, _⟩ := hx.slice
  obtain ⟨A2, c2, rfl, _⟩ := hy.slice
  have HX := Lib.hid hx
  have HY := Lib.hid hy
  have HS : Hid (∀ z ∈ a, 2 * sizeE z ≤ m - 1) := Lib.hid fun z hz => by have := mem_sizeEs hz; omega
  have HI := Lib.hid (ih (m - 1) (by omega))
  have hl9 : a.length ≤ 1000000000 := by omega
  clear ih hx hy hlen hm
  by_cases hne : a.length = b.length
  · have e0 : ((a.length : Int) != (b.length : Int)) = false := by simp [hne]
    have HNE := Lib.hid hne
    clear hne
    go_enter Tryd.func48, Tryd.ntmps48
    go_wp2_with fail
    go_loopw [5] (fun i wr => ∃ k : Nat, k ≤ a.length ∧ i = .int .i64 k ∧ Hid (∀ j, j < k → ∀ x y, a[j]? = some x → b[j]? = some y → sameE x y = true) ∧ Below w.heap.size w wr) (fun i _ => a.length - (intOf i).toNat)
    case atStart => exact ⟨0, Nat.zero_le _, rfl, Lib.hid fun j hj => absurd hj (by omega), Below.refl _ w⟩
    case round =>
      obtain ⟨k, hk, rfl, hall, hb⟩ := hrel
      by_cases hlt : k < a.length
      · have hlt2 : k < b.length := by have := HNE.out; omega
        obtain ⟨b1, o1, u1, rfl, hbl1, ⟨a0, a1, a2, a3⟩, hr1⟩ := erow_at (erow_below HX.out hb) hlt
        obtain ⟨b2, o2, u2, rfl, hbl2, ⟨e0', e1, e2, e3⟩, hr2⟩ := erow_at (erow_below HY.out hb) hlt2
        obtain ⟨A3, c3, rfl, _⟩ := hr1.slice
        obtain ⟨A4, c4, rfl, _⟩ := hr2.slice
        have HGA : Hid (a[k]? = some a[k]) := Lib.hid (List.getElem?_eq_getElem hlt)
        have HGB : Hid (b[k]? = some b[k]) := Lib.hid (List.getElem?_eq_getElem hlt2)
        have HSk := Lib.hid (HS.out _ (List.getElem_mem hlt))
        have HR1 := Lib.hid hr1
        have HR2 := Lib.hid hr2
        generalize a[k] = x at *
        generalize b[k] = y at *
        have HC : Hid (Calls Tryd.prog 22 #[.agg #[.int .i64 x.kind, .int .i64 x.num, .string (ba x.name), .slice A3 x.kids.length c3], .agg #[.int .i64 y.kind, .int .i64 y.num, .string (ba y.name), .slice A4 y.kids.length c4]] wr.drew fun en w' => en = .returned (.bool (sameE x y)) ∧ Below wr.drew.heap.size wr.drew w') := Lib.hid (HI.out.one x y HSk.out (erow_below HR1.out (Below.refl _ wr).drew) (erow_below HR2.out (Below.refl _ wr).drew))
        clear hr1 hr2
        have d1 : (k : Int) < (a.length : Int) := by omega
        have d2 : (k : Int) < (b.length : Int) := by omega
        go_wp2_with fail
        go_region_held3 (fun w' => (w'.cell? ⟨b1, o1 + k * 4, none⟩ = some (.int .i64 x.kind) ∧ w'.cell? ⟨b1, o1 + k * 4 + 1, none⟩ = some (.int .i64 x.num) ∧ w'.cell? ⟨b1, o1 + k * 4 + 2, none⟩ = some (.string (ba x.name)) ∧ w'.cell? ⟨b1, o1 + k * 4 + 3, none⟩ = some (.slice A3 x.kids.length c3)) ∧ w'.cell? ⟨b2, o2 + k * 4, none⟩ = some (.int .i64 y.kind) ∧ w'.cell? ⟨b2, o2 + k * 4 + 1, none⟩ = some (.int .i64 y.num) ∧ w'.cell? ⟨b2, o2 + k * 4 + 2, none⟩ = some (.string (ba y.name)) ∧ w'.cell? ⟨b2, o2 + k * 4 + 3, none⟩ = some (.slice A4 y.kids.length c4)) (go_keep)
          (first
            | (go_at_call 22; refine HC.out.mono ?_; rintro en w2 ⟨rfl, hb2⟩; have hx2 := Ext.of_below hb2 (fun _ => False); replace a0 := cell_ext (w := wr.drew) a0 hx2 id; replace a1 := cell_ext (w := wr.drew) a1 hx2 id; replace a2 := cell_ext (w := wr.drew) a2 hx2 id; replace a3 := cell_ext (w := wr.drew) a3 hx2 id; replace e0' := cell_ext (w := wr.drew) e0' hx2 id; replace e1 := cell_ext (w := wr.drew) e1 hx2 id; replace e2 := cell_ext (w := wr.drew) e2 hx2 id; replace e3 := cell_ext (w := wr.drew) e3 hx2 id))
        have HB2 : Hid (Below w.heap.size w w2) := Lib.hid (hb.drew.trans (hb2.mono hb.size))
        clear a0 a1 a2 a3 e0' e1 e2 e3 hx2 hb2
        cases hxy : sameE x y with
        | true =>
          have HN : Hid (∀ j, j < k + 1 → ∀ x y, a[j]? = some x → b[j]? = some y → sameE x y = true) := Lib.hid fun j hj x' y' hx' hy' => by
            rcases Nat.lt_or_ge j k with h | h
            · exact hall.out j h x' y' hx' hy'
            · obtain rfl : j = k := by omega
              rw [HGA.out] at hx'
              rw [HGB.out] at hy'
              cases hx'
              cases hy'
              exact hxy
          clear hxy
          go_wp2_with fail
          exact ⟨⟨k + 1, by omega, by go_num, HN, HB2.out⟩, by simp [intOf]; omega⟩
        | false =>
          have HF : Hid (sameEs a b = false) := Lib.hid (sameEs_false HGA.out HGB.out hxy)
          clear hxy
          go_wp2_with fail
          go_ret
          exact ⟨by rw [HF.out]; rfl, HB2.out⟩
      · obtain rfl : k = a.length := by omega
        have HF : Hid (sameEs a b = true) := Lib.hid ((sameEs_at a b).2 ⟨HNE.out, fun j x y hx hy => hall.out j (List.getElem?_eq_some_iff.1 hx).1 x y hx hy⟩)
        go_wp2_with fail
        go_ret
        exact ⟨by rw [HF.out]; rfl, hb⟩
  · have e0 : ((a.length : Int) != (b.length : Int)) = true := by simp; omega
    have HF : Hid (sameEs a b = false) := Lib.hid (by rw [Bool.eq_false_iff]; intro ht; exact hne ((sameEs_at a b).1 ht).1)
    clear hne
    go_enter Tryd.func48, Tryd.ntmps48
    go_wp2_with fail
    go_ret
    exact ⟨by rw [HF.out]; rfl, Below.refl _ w⟩
theorem sameX : ∀ m, m ≤ 1000000000 → SameX m := by
  intro m
  induction m using Nat.strongRecOn with
  | _ m ih =>
    intro hm
    exact ⟨fun x y {w ok ok' u v} h hx hy => sameExpr_step (m := m) (fun k hk => ih k hk (by omega)) x y h hx hy, fun a b {w ok ok' u v} h hx hy => sameExprs_step hm (fun k hk => ih k hk (by omega)) a b h hx hy⟩
end Go.Proofs.YtdijffojppjmfaaDoor
set_option linter.unusedVariables false
set_option linter.unusedSimpArgs false
namespace Go.Proofs.YtdijffojppjmfaaDoor
open Go.RowKit Bir Go.BW
theorem sameB_false {a b : List St} {k : Nat} {x y : St} (hx : a[k]? = some x) (hy : b[k]? = some y) (h : sameS x y = false) : sameB a b = false := by
  rw [Bool.eq_false_iff]
  intro ht
  have := ((sameB_at a b).1 ht).2 k x y hx hy
  rw [h] at this
  cases this
theorem two_boxes (w : World) (a0 a1 a2 a3 a4 b0 b1 b2 b3 b4 : Value) (t : TypeId) :
    cells5 ((w.alloc (.cells #[a0, a1, a2, a3, a4] t)).alloc (.cells #[b0, b1, b2, b3, b4] t)).drew w.heap.size a0 a1 a2 a3 a4 ∧ cells5 ((w.alloc (.cells #[a0, a1, a2, a3, a4] t)).alloc (.cells #[b0, b1, b2, b3, b4] t)).drew (w.heap.size + 1) b0 b1 b2 b3 b4 ∧ Below w.heap.size w ((w.alloc (.cells #[a0, a1, a2, a3, a4] t)).alloc (.cells #[b0, b1, b2, b3, b4] t)).drew := by
  have E : Ext (fun _ => False) (w.alloc (.cells #[a0, a1, a2, a3, a4] t)) ((w.alloc (.cells #[a0, a1, a2, a3, a4] t)).alloc (.cells #[b0, b1, b2, b3, b4] t)).drew := ((Ext.refl _ _).alloc _).drew
  have n2 := cells5.new (w.alloc (.cells #[a0, a1, a2, a3, a4] t)) b0 b1 b2 b3 b4 t
  rw [World.size_alloc] at n2
  exact ⟨(cells5.new w a0 a1 a2 a3 a4 t).ext E id, n2, (((Below.refl _ w).alloc (Nat.le_refl _) _).alloc (by simp) _).drew⟩
def SameL (m : Nat) : Prop := ∀ (a b : List St) {w : World} {ok ok' : Nat → Prop} {u v : Value}, sizeB a ≤ m → SRow w ok u a → SRow w ok' v b →
    Calls Tryd.prog 41 #[u, v] w fun en w' => en = .returned (.bool (sameB a b)) ∧ Below w.heap.size w w'
set_option maxRecDepth 100000 in
set_option maxHeartbeats 8000000 in
theorem sameStmts_step {m : Nat} (hm9 : m ≤ 400000000) (ih : ∀ k, k < m → SameL k) (a b : List St) {w : World} {ok ok' : Nat → Prop} {u v : Value} (hm : sizeB a ≤ m) (hx : SRow w ok u a) (hy : SRow w ok' v b) :
    Calls Tryd.prog 41 #[u, v] w fun en w' => en = .returned (.bool (sameB a b)) ∧ Below w.heap.size w w' := by
  have hlen := len_sizeB a
  obtain ⟨A1, c1, rfl, _⟩ := hx.slice
  obtain ⟨A2, c2, rfl, _⟩ := hy.slice
  have HX := Lib.hid hx
  have HY := Lib.hid hy
  have HS : Hid (∀ z ∈ a, sizeS z ≤ m) := Lib.hid fun z hz => by have := mem_sizeB hz; omega
  have HI := Lib.hid ih
  have hl9 : a.length ≤ 1000000000 := by omega
  clear ih hx hy hlen hm
  by_cases hne : a.length = b.length
  · have e0 : ((a.length : Int) != (b.length : Int)) = false := by simp [hne]
    have HNE := Lib.hid hne
    clear hne
    go_enter Tryd.func41, Tryd.ntmps41
    go_wp2_with fail
    go_loopw [5] (fun i wr => ∃ k : Nat, k ≤ a.length ∧ i = .int .i64 k ∧ Hid (∀ j, j < k → ∀ x y, a[j]? = some x → b[j]? = some y → sameS x y = true) ∧ Below w.heap.size w wr) (fun i _ => a.length - (intOf i).toNat)
    case atStart => exact ⟨0, Nat.zero_le _, rfl, Lib.hid fun j hj => absurd hj (by omega), Below.refl _ w⟩
    case round =>
      obtain ⟨k, hk, rfl, hall, hb⟩ := hrel
      by_cases hlt : k < a.length
      · have hlt2 : k < b.length := by have := HNE.out; omega
        obtain ⟨b1, o1, u1, u2, u3, rfl, hbl1, ⟨a0, a1, a2, a3, a4⟩, hr1, hr2, hr3⟩ := srow_at (srow_below HX.out hb) hlt
        obtain ⟨b2, o2, v1, v2, v3, rfl, hbl2, ⟨e0', e1, e2, e3, e4⟩, hs1, hs2, hs3⟩ := srow_at (srow_below HY.out hb) hlt2
        obtain ⟨B1, n1, rfl, _⟩ := hr1.slice
        obtain ⟨B2, n2, rfl, _⟩ := hr2.slice
        obtain ⟨B3, n3, rfl, _⟩ := hr3.slice
        obtain ⟨C1, m1, rfl, _⟩ := hs1.slice
        obtain ⟨C2, m2, rfl, _⟩ := hs2.slice
        obtain ⟨C3, m3, rfl, _⟩ := hs3.slice
        have HGA : Hid (a[k]? = some a[k]) := Lib.hid (List.getElem?_eq_getElem hlt)
        have HGB : Hid (b[k]? = some b[k]) := Lib.hid (List.getElem?_eq_getElem hlt2)
        have HSk := Lib.hid (HS.out _ (List.getElem_mem hlt))
        have HR := Lib.hid (And.intro hr1 (And.intro hr2 hr3))
        have HT := Lib.hid (And.intro hs1 (And.intro hs2 hs3))
        generalize a[k] = x at *
        generalize b[k] = y at *
        clear hr1 hr2 hr3 hs1 hs2 hs3
        have d1 : (k : Int) < (a.length : Int) := by omega
        have d2 : (k : Int) < (b.length : Int) := by omega
        have f1 : b1 ≠ wr.heap.size := by omega
        have f2 : b2 ≠ wr.heap.size := by omega
        have f3 : b1 ≠ wr.heap.size + 1 := by omega
        have f4 : b2 ≠ wr.heap.size + 1 := by omega
        go_wp2_with fail
        go_region
        · clear a0 a1 a2 a3 a4 e0' e1 e2 e3 e4 d1 d2 f1 f2 f3 f4
          have hq := two_boxes wr (.int .i64 x.kind) (.string (ba x.name)) (.slice B1 x.exprs.length n1) (.slice B2 x.body.length n2) (.slice B3 x.els.length n3) (.int .i64 y.kind) (.string (ba y.name)) (.slice C1 y.exprs.length m1) (.slice C2 y.body.length m2) (.slice C3 y.els.length m3) 98
          generalize ((wr.alloc (.cells #[.int .i64 x.kind, .string (ba x.name), .slice B1 x.exprs.length n1, .slice B2 x.body.length n2, .slice B3 x.els.length n3] 98)).alloc (.cells #[.int .i64 y.kind, .string (ba y.name), .slice C1 y.exprs.length m1, .slice C2 y.body.length m2, .slice C3 y.els.length m3] 98)).drew = W at hq ⊢
          obtain ⟨⟨A0, A1', A2', A3, A4⟩, ⟨C0, C1', C2', C3', C4⟩, hW⟩ := hq
          have hBW := hb.trans (hW.mono hb.size)
          have HBW := Lib.hid hBW
          have HRR : Hid (∀ W', Below wr.heap.size wr W' → Calls Tryd.prog 48 #[.slice B1 x.exprs.length n1, .slice C1 y.exprs.length m1] W' fun en w' => en = .returned (.bool (sameEs x.exprs y.exprs)) ∧ Below W'.heap.size W' w') := Lib.hid fun W' h => (sameX (2 * sizeEs x.exprs + 1) (by have := sizeS_eq x; have := HSk.out; omega)).list x.exprs y.exprs (Nat.le_refl _) (erow_below HR.out.1 h) (erow_below HT.out.1 h)
          have HRB : Hid (∀ W', Below wr.heap.size wr W' → Calls Tryd.prog 41 #[.slice B2 x.body.length n2, .slice C2 y.body.length m2] W' fun en w' => en = .returned (.bool (sameB x.body y.body)) ∧ Below W'.heap.size W' w') := Lib.hid fun W' h => (HI.out (sizeB x.body) (by have := sizeS_eq x; have := HSk.out; omega)) x.body y.body (Nat.le_refl _) (srow_below HR.out.2.1 h) (srow_below HT.out.2.1 h)
          have HRE : Hid (∀ W', Below wr.heap.size wr W' → Calls Tryd.prog 41 #[.slice B3 x.els.length n3, .slice C3 y.els.length m3] W' fun en w' => en = .returned (.bool (sameB x.els y.els)) ∧ Below W'.heap.size W' w') := Lib.hid fun W' h => (HI.out (sizeB x.els) (by have := sizeS_eq x; have := HSk.out; omega)) x.els y.els (Nat.le_refl _) (srow_below HR.out.2.2 h) (srow_below HT.out.2.2 h)
          have HW := Lib.hid hW
          clear hW hBW hb
          cases g1 : (x.kind == y.kind) with
          | false =>
            have g1' : (x.kind != y.kind) = true := by rw [bne, g1]; rfl
            have HF : Hid (sameB a b = false) := Lib.hid (sameB_false HGA.out HGB.out (by rw [sameS_def, g1]; simp))
            clear g1
            go_wp2_with fail
            go_ret
            exact ⟨by rw [HF.out]; rfl, HBW.out⟩
          | true =>
            have g1' : (x.kind != y.kind) = false := by rw [bne, g1]; rfl
            cases g2 : (x.name == y.name) with
            | false =>
              have HF : Hid (sameB a b = false) := Lib.hid (sameB_false HGA.out HGB.out (by rw [sameS_def, g1, g2]; simp))
              clear g1
              go_wp2_with fail
              go_ret
              exact ⟨by rw [HF.out]; rfl, HBW.out⟩
            | true =>
              have G12 := Lib.hid (And.intro g1 g2)
              clear g1
              go_wp2_with fail
              clear g2 g1'
              refine (HRR.out _ HW.out).mono ?_
              rintro en w2 ⟨rfl, hb2⟩
              have HW2 := Lib.hid (HW.out.trans (hb2.mono HW.out.size))
              have HBW2 := Lib.hid (HBW.out.trans (hb2.mono HBW.out.size))
              obtain ⟨A0, A1', A2', A3, A4⟩ := cells5.ext ⟨A0, A1', A2', A3, A4⟩ (Ext.of_below hb2 (fun _ => False)) id
              obtain ⟨C0, C1', C2', C3', C4⟩ := cells5.ext ⟨C0, C1', C2', C3', C4⟩ (Ext.of_below hb2 (fun _ => False)) id
              clear hb2
              cases g3 : sameEs x.exprs y.exprs with
              | false =>
                have HF : Hid (sameB a b = false) := Lib.hid (sameB_false HGA.out HGB.out (by rw [sameS_def, G12.out.1, G12.out.2, g3]; simp))
                clear g3
                go_wp2_with fail
                go_ret
                exact ⟨by rw [HF.out]; rfl, HBW2.out⟩
              | true =>
                have G3 := Lib.hid g3
                clear g3
                go_wp2_with fail
                refine (HRB.out _ HW2.out).mono ?_
                rintro en w3 ⟨rfl, hb2⟩
                have HW3 := Lib.hid (HW2.out.trans (hb2.mono HW2.out.size))
                have HBW3 := Lib.hid (HBW2.out.trans (hb2.mono HBW2.out.size))
                obtain ⟨A0, A1', A2', A3, A4⟩ := cells5.ext ⟨A0, A1', A2', A3, A4⟩ (Ext.of_below hb2 (fun _ => False)) id
                obtain ⟨C0, C1', C2', C3', C4⟩ := cells5.ext ⟨C0, C1', C2', C3', C4⟩ (Ext.of_below hb2 (fun _ => False)) id
                clear hb2
                cases g4 : sameB x.body y.body with
                | false =>
                  have HF : Hid (sameB a b = false) := Lib.hid (sameB_false HGA.out HGB.out (by rw [sameS_def, G12.out.1, G12.out.2, G3.out, g4]; simp))
                  clear g4
                  go_wp2_with fail
                  go_ret
                  exact ⟨by rw [HF.out]; rfl, HBW3.out⟩
                | true =>
                  have G4 := Lib.hid g4
                  clear g4
                  go_wp2_with fail
                  refine (HRE.out _ HW3.out).mono ?_
                  rintro en w4 ⟨rfl, hb2⟩
                  have HBW4 := Lib.hid (HBW3.out.trans (hb2.mono HBW3.out.size))
                  clear hb2
                  cases g5 : sameB x.els y.els with
                  | false =>
                    have HF : Hid (sameB a b = false) := Lib.hid (sameB_false HGA.out HGB.out (by rw [sameS_def, G12.out.1, G12.out.2, G3.out, G4.out, g5]; simp))
                    clear g5
                    go_wp2_with fail
                    go_ret
                    exact ⟨by rw [HF.out]; rfl, HBW4.out⟩
                  | true =>
                    have HN : Hid (∀ j, j < k + 1 → ∀ x y, a[j]? = some x → b[j]? = some y → sameS x y = true) := Lib.hid fun j hj x' y' hx' hy' => by
                      rcases Nat.lt_or_ge j k with h | h
                      · exact hall.out j h x' y' hx' hy'
                      · obtain rfl : j = k := by omega
                        rw [HGA.out] at hx'
                        rw [HGB.out] at hy'
                        cases hx'
                        cases hy'
                        rw [sameS_def, G12.out.1, G12.out.2, G3.out, G4.out, g5]
                        rfl
                    clear g5
                    go_wp2_with fail
                    exact ⟨⟨k + 1, by omega, by go_num, HN, HBW4.out⟩, by simp [intOf]; omega⟩
        · clear a0 a1 a2 a3 a4 e0' e1 e2 e3 e4 d1 d2 f1 f2 f3 f4
          have hq := two_boxes wr (.int .i64 y.kind) (.string (ba y.name)) (.slice C1 y.exprs.length m1) (.slice C2 y.body.length m2) (.slice C3 y.els.length m3) (.int .i64 x.kind) (.string (ba x.name)) (.slice B1 x.exprs.length n1) (.slice B2 x.body.length n2) (.slice B3 x.els.length n3) 98
          generalize ((wr.alloc (.cells #[.int .i64 y.kind, .string (ba y.name), .slice C1 y.exprs.length m1, .slice C2 y.body.length m2, .slice C3 y.els.length m3] 98)).alloc (.cells #[.int .i64 x.kind, .string (ba x.name), .slice B1 x.exprs.length n1, .slice B2 x.body.length n2, .slice B3 x.els.length n3] 98)).drew = W at hq ⊢
          obtain ⟨⟨A0, A1', A2', A3, A4⟩, ⟨C0, C1', C2', C3', C4⟩, hW⟩ := hq
          have hBW := hb.trans (hW.mono hb.size)
          have HBW := Lib.hid hBW
          have HRR : Hid (∀ W', Below wr.heap.size wr W' → Calls Tryd.prog 48 #[.slice B1 x.exprs.length n1, .slice C1 y.exprs.length m1] W' fun en w' => en = .returned (.bool (sameEs x.exprs y.exprs)) ∧ Below W'.heap.size W' w') := Lib.hid fun W' h => (sameX (2 * sizeEs x.exprs + 1) (by have := sizeS_eq x; have := HSk.out; omega)).list x.exprs y.exprs (Nat.le_refl _) (erow_below HR.out.1 h) (erow_below HT.out.1 h)
          have HRB : Hid (∀ W', Below wr.heap.size wr W' → Calls Tryd.prog 41 #[.slice B2 x.body.length n2, .slice C2 y.body.length m2] W' fun en w' => en = .returned (.bool (sameB x.body y.body)) ∧ Below W'.heap.size W' w') := Lib.hid fun W' h => (HI.out (sizeB x.body) (by have := sizeS_eq x; have := HSk.out; omega)) x.body y.body (Nat.le_refl _) (srow_below HR.out.2.1 h) (srow_below HT.out.2.1 h)
          have HRE : Hid (∀ W', Below wr.heap.size wr W' → Calls Tryd.prog 41 #[.slice B3 x.els.length n3, .slice C3 y.els.length m3] W' fun en w' => en = .returned (.bool (sameB x.els y.els)) ∧ Below W'.heap.size W' w') := Lib.hid fun W' h => (HI.out (sizeB x.els) (by have := sizeS_eq x; have := HSk.out; omega)) x.els y.els (Nat.le_refl _) (srow_below HR.out.2.2 h) (srow_below HT.out.2.2 h)
          have HW := Lib.hid hW
          clear hW hBW hb
          cases g1 : (x.kind == y.kind) with
          | false =>
            have g1' : (x.kind != y.kind) = true := by rw [bne, g1]; rfl
            have HF : Hid (sameB a b = false) := Lib.hid (sameB_false HGA.out HGB.out (by rw [sameS_def, g1]; simp))
            clear g1
            go_wp2_with fail
            go_ret
            exact ⟨by rw [HF.out]; rfl, HBW.out⟩
          | true =>
            have g1' : (x.kind != y.kind) = false := by rw [bne, g1]; rfl
            cases g2 : (x.name == y.name) with
            | false =>
              have HF : Hid (sameB a b = false) := Lib.hid (sameB_false HGA.out HGB.out (by rw [sameS_def, g1, g2]; simp))
              clear g1
              go_wp2_with fail
              go_ret
              exact ⟨by rw [HF.out]; rfl, HBW.out⟩
            | true =>
              have G12 := Lib.hid (And.intro g1 g2)
              clear g1
              go_wp2_with fail
              clear g2 g1'
              refine (HRR.out _ HW.out).mono ?_
              rintro en w2 ⟨rfl, hb2⟩
              have HW2 := Lib.hid (HW.out.trans (hb2.mono HW.out.size))
              have HBW2 := Lib.hid (HBW.out.trans (hb2.mono HBW.out.size))
              obtain ⟨A0, A1', A2', A3, A4⟩ := cells5.ext ⟨A0, A1', A2', A3, A4⟩ (Ext.of_below hb2 (fun _ => False)) id
              obtain ⟨C0, C1', C2', C3', C4⟩ := cells5.ext ⟨C0, C1', C2', C3', C4⟩ (Ext.of_below hb2 (fun _ => False)) id
              clear hb2
              cases g3 : sameEs x.exprs y.exprs with
              | false =>
                have HF : Hid (sameB a b = false) := Lib.hid (sameB_false HGA.out HGB.out (by rw [sameS_def, G12.out.1, G12.out.2, g3]; simp))
                clear g3
                go_wp2_with fail
                go_ret
                exact ⟨by rw [HF.out]; rfl, HBW2.out⟩
              | true =>
                have G3 := Lib.hid g3
                clear g3
                go_wp2_with fail
                refine (HRB.out _ HW2.out).mono ?_
                rintro en w3 ⟨rfl, hb2⟩
                have HW3 := Lib.hid (HW2.out.trans (hb2.mono HW2.out.size))
                have HBW3 := Lib.hid (HBW2.out.trans (hb2.mono HBW2.out.size))
                obtain ⟨A0, A1', A2', A3, A4⟩ := cells5.ext ⟨A0, A1', A2', A3, A4⟩ (Ext.of_below hb2 (fun _ => False)) id
                obtain ⟨C0, C1', C2', C3', C4⟩ := cells5.ext ⟨C0, C1', C2', C3', C4⟩ (Ext.of_below hb2 (fun _ => False)) id
                clear hb2
                cases g4 : sameB x.body y.body with
                | false =>
                  have HF : Hid (sameB a b = false) := Lib.hid (sameB_false HGA.out HGB.out (by rw [sameS_def, G12.out.1, G12.out.2, G3.out, g4]; simp))
                  clear g4
                  go_wp2_with fail
                  go_ret
                  exact ⟨by rw [HF.out]; rfl, HBW3.out⟩
                | true =>
                  have G4 := Lib.hid g4
                  clear g4
                  go_wp2_with fail
                  refine (HRE.out _ HW3.out).mono ?_
                  rintro en w4 ⟨rfl, hb2⟩
                  have HBW4 := Lib.hid (HBW3.out.trans (hb2.mono HBW3.out.size))
                  clear hb2
                  cases g5 : sameB x.els y.els with
                  | false =>
                    have HF : Hid (sameB a b = false) := Lib.hid (sameB_false HGA.out HGB.out (by rw [sameS_def, G12.out.1, G12.out.2, G3.out, G4.out, g5]; simp))
                    clear g5
                    go_wp2_with fail
                    go_ret
                    exact ⟨by rw [HF.out]; rfl, HBW4.out⟩
                  | true =>
                    have HN : Hid (∀ j, j < k + 1 → ∀ x y, a[j]? = some x → b[j]? = some y → sameS x y = true) := Lib.hid fun j hj x' y' hx' hy' => by
                      rcases Nat.lt_or_ge j k with h | h
                      · exact hall.out j h x' y' hx' hy'
                      · obtain rfl : j = k := by omega
                        rw [HGA.out] at hx'
                        rw [HGB.out] at hy'
                        cases hx'
                        cases hy'
                        rw [sameS_def, G12.out.1, G12.out.2, G3.out, G4.out, g5]
                        rfl
                    clear g5
                    go_wp2_with fail
                    exact ⟨⟨k + 1, by omega, by go_num, HN, HBW4.out⟩, by simp [intOf]; omega⟩
      · obtain rfl : k = a.length := by omega
        have HF : Hid (sameB a b = true) := Lib.hid ((sameB_at a b).2 ⟨HNE.out, fun j x y hx hy => hall.out j (List.getElem?_eq_some_iff.1 hx).1 x y hx hy⟩)
        go_wp2_with fail
        go_ret
        exact ⟨by rw [HF.out]; rfl, hb⟩
  · have e0 : ((a.length : Int) != (b.length : Int)) = true := by simp; omega
    have HF : Hid (sameB a b = false) := Lib.hid (by rw [Bool.eq_false_iff]; intro ht; exact hne ((sameB_at a b).1 ht).1)
    clear hne
    go_enter Tryd.func41, Tryd.ntmps41
    go_wp2_with fail
    go_ret
    exact ⟨by rw [HF.out]; rfl, Below.refl _ w⟩
end Go.Proofs.YtdijffojppjmfaaDoor
set_option linter.unusedVariables false
set_option linter.unusedSimpArgs false
namespace Go.Proofs.YtdijffojppjmfaaDoor
open Go.RowKit Bir Go.BW
theorem sameL : ∀ m, m ≤ 400000000 → SameL m := by
  intro m
  induction m using Nat.strongRecOn with
  | _ m ih =>
    intro hm a b w ok ok' u v h hx hy
    exact sameStmts_step hm (fun k hk => ih k hk (by omega)) a b h hx hy
theorem below_dn {n : Nat} {w w1 : World} (h : Below n w w1) (k : Nat) : Below n w (w1.drewN k) := ⟨h.os, h.tape, h.output, h.size, h.block⟩
theorem two_boxes3 (w : World) (a0 a1 a2 b0 b1 b2 : Value) (t : TypeId) :
    cells3 ((w.alloc (.cells #[a0, a1, a2] t)).alloc (.cells #[b0, b1, b2] t)).drew w.heap.size a0 a1 a2 ∧ cells3 ((w.alloc (.cells #[a0, a1, a2] t)).alloc (.cells #[b0, b1, b2] t)).drew (w.heap.size + 1) b0 b1 b2 ∧ Below w.heap.size w ((w.alloc (.cells #[a0, a1, a2] t)).alloc (.cells #[b0, b1, b2] t)).drew := by
  have E : Ext (fun _ => False) (w.alloc (.cells #[a0, a1, a2] t)) ((w.alloc (.cells #[a0, a1, a2] t)).alloc (.cells #[b0, b1, b2] t)).drew := ((Ext.refl _ _).alloc _).drew
  have n2 := cells3.new (w.alloc (.cells #[a0, a1, a2] t)) b0 b1 b2 t
  rw [World.size_alloc] at n2
  exact ⟨(cells3.new w a0 a1 a2 t).ext E id, n2, (((Below.refl _ w).alloc (Nat.le_refl _) _).alloc (by simp) _).drew⟩
theorem sameB_refl (a : List St) : sameB a a = true := (sameB_eq a a).2 rfl
theorem arrrow_at {w : World} {ok : Nat → Prop} {A : Option Addr} {n c : Nat} {xs : List Arr} (h : ArrRow w ok (.slice A n c) xs) {k : Nat} (hk : k < xs.length) :
    ∃ b off, A = some ⟨b, off, none⟩ ∧ b < w.heap.size ∧ w.cell? ⟨b, off + k * 2, none⟩ = some (.string (ba xs[k].name)) ∧ w.cell? ⟨b, off + k * 2 + 1, none⟩ = some (.int .i64 xs[k].size) := by
  obtain ⟨hl, c', hc, hv⟩ := h
  rcases hv with ⟨h0, _⟩ | ⟨b, off, hv, hok, hb, hcell⟩
  · omega
  · injection hv with hA _ _
    have hat : ∀ (l : List Arr) (j : Nat) (hj : j < l.length), (arrCells l)[j * 2]? = some (.string (ba l[j].name)) ∧ (arrCells l)[j * 2 + 1]? = some (.int .i64 l[j].size) := by
      intro l
      induction l with
      | nil => intro j hj; simp at hj
      | cons a l ih =>
        intro j hj
        cases j with
        | zero => exact ⟨rfl, rfl⟩
        | succ j =>
          obtain ⟨h1, h2⟩ := ih j (by simpa using hj)
          rw [show arrCells (a :: l) = [.string (ba a.name), .int .i64 a.size] ++ arrCells l from rfl]
          refine ⟨?_, ?_⟩
          · rw [show (j + 1) * 2 = j * 2 + 2 from by omega, List.getElem?_append_right (by simp)]; simpa using h1
          · rw [show (j + 1) * 2 + 1 = j * 2 + 1 + 2 from by omega, List.getElem?_append_right (by simp)]; simpa using h2
    obtain ⟨h1, h2⟩ := hat xs k hk
    exact ⟨b, off, hA, hb, hcell _ _ h1, by rw [Nat.add_assoc]; exact hcell _ _ h2⟩
theorem strrow_at {w : World} {ok : Nat → Prop} {A : Option Addr} {n c : Nat} {xs : List Str} (h : StrRow w ok (.slice A n c) xs) {k : Nat} (hk : k < xs.length) :
    ∃ b off, A = some ⟨b, off, none⟩ ∧ b < w.heap.size ∧ w.cell? ⟨b, off + k, none⟩ = some (.string (ba xs[k])) := by
  obtain ⟨hl, c', hc, hv⟩ := h
  rcases hv with ⟨h0, _⟩ | ⟨b, off, hv, hok, hb, hcell⟩
  · omega
  · injection hv with hA _ _
    exact ⟨b, off, hA, hb, hcell _ _ (by simp [strCells, hk])⟩
theorem row_below {w w' : World} {ok : Nat → Prop} {size n : Nat} {v : Value} {cs : List Value} (h : VRow w ok size v n cs) (hb : Below w.heap.size w w') : VRow w' (fun _ => True) size v n cs := VRow.keep h hb.size fun b _ hl => ⟨hb.block b hl, trivial⟩
theorem fn_below {w w' : World} {ok : Nat → Prop} {v : Value} {xs : List Bir.Fn} (h : FnRow w ok v xs) (hb : Below w.heap.size w w') : FnRow w' (fun _ => True) v xs := FnRow.keep h hb.size fun b _ hl => ⟨hb.block b hl, trivial⟩
set_option maxRecDepth 100000 in
set_option maxHeartbeats 8000000 in
theorem same_eq (x : Pr) {w : World} {ok ok' : Nat → Prop} {av fv av' fv' : Value} (hs : x.arrays.length + x.funcs.length + sizeP x.funcs ≤ 100000000) (hp : ∀ f ∈ x.funcs, f.params.length ≤ 1000000)
    (ha : ArrRow w ok av x.arrays) (hf : FnRow w ok fv x.funcs) (ha' : ArrRow w ok' av' x.arrays) (hf' : FnRow w ok' fv' x.funcs) :
    Calls Tryd.prog 18 #[.agg #[av, fv], .agg #[av', fv']] w fun en w' => en = .returned (.bool true) ∧ Below w.heap.size w w' := by
  obtain ⟨A1, c1, rfl, _⟩ := VRow.slice ha
  obtain ⟨A2, c2, rfl, _⟩ := VRow.slice ha'
  obtain ⟨A3, c3, rfl, _⟩ : ∃ A c, fv = .slice A x.funcs.length c ∧ x.funcs.length ≤ c := by obtain ⟨cs, h1, _⟩ := hf; exact VRow.slice h1
  obtain ⟨A4, c4, rfl, _⟩ : ∃ A c, fv' = .slice A x.funcs.length c ∧ x.funcs.length ≤ c := by obtain ⟨cs, h1, _⟩ := hf'; exact VRow.slice h1
  have HA := Lib.hid ha
  have HA' := Lib.hid ha'
  have HF := Lib.hid hf
  have HF' := Lib.hid hf'
  have HP := Lib.hid hp
  have HSZ : Hid (∀ f ∈ x.funcs, sizeB f.body ≤ 100000000) := Lib.hid fun f h => by have := mem_sizeP h; omega
  have hl1 : x.arrays.length ≤ 100000000 := by omega
  have hl2 : x.funcs.length ≤ 100000000 := by omega
  have hW : Below w.heap.size w ((w.alloc (.cells #[.slice A1 x.arrays.length c1, .slice A3 x.funcs.length c3] 26)).alloc (.cells #[.slice A2 x.arrays.length c2, .slice A4 x.funcs.length c4] 26)) := ((Below.refl _ w).alloc (Nat.le_refl _) _).alloc (by simp) _
  have n1 := (cells2.new w (.slice A1 x.arrays.length c1) (.slice A3 x.funcs.length c3) 26).ext ((Ext.refl (fun _ => False) _).alloc (.cells #[.slice A2 x.arrays.length c2, .slice A4 x.funcs.length c4] 26)) id
  have n2 := cells2.new (w.alloc (.cells #[.slice A1 x.arrays.length c1, .slice A3 x.funcs.length c3] 26)) (.slice A2 x.arrays.length c2) (.slice A4 x.funcs.length c4) 26
  rw [World.size_alloc] at n2
  have HW := Lib.hid hW
  have HN1 := Lib.hid n1
  have HN2 := Lib.hid n2
  clear ha ha' hf hf' hp hs hW n1 n2
  go_enter Tryd.func18, Tryd.ntmps18
  go_wp2_with fail
  generalize (w.alloc (.cells #[.slice A1 x.arrays.length c1, .slice A3 x.funcs.length c3] 26)).alloc (.cells #[.slice A2 x.arrays.length c2, .slice A4 x.funcs.length c4] 26) = W0 at HW HN1 HN2 ⊢
  have z1 : w.heap.size < W0.heap.size := World.block_lt_of_cell? W0 _ HN1.out.1
  have z2 : w.heap.size + 1 < W0.heap.size := World.block_lt_of_cell? W0 _ HN2.out.1
  generalize hQ : w.heap.size + 1 = Q at HN2 z2 ⊢
  clear hQ
  go_loopw [5] (fun i wr => ∃ k : Nat, k ≤ x.arrays.length ∧ i = .int .i64 k ∧ Below W0.heap.size W0 wr) (fun i _ => x.arrays.length - (intOf i).toNat)
  case atStart => exact ⟨0, Nat.zero_le _, rfl, Below.refl _ W0⟩
  case round =>
    obtain ⟨k, hk, rfl, hb⟩ := hrel
    obtain ⟨p0, p1⟩ := HN1.out.ext (Ext.of_below hb (fun _ => False)) id
    obtain ⟨r0, r1⟩ := HN2.out.ext (Ext.of_below hb (fun _ => False)) id
    have hWr := HW.out.trans (hb.mono HW.out.size)
    by_cases hlt : k < x.arrays.length
    · obtain ⟨b1, o1, rfl, hbl1, a0, a1⟩ := arrrow_at (row_below HA.out hWr) hlt
      obtain ⟨b2, o2, rfl, hbl2, e0, e1⟩ := arrrow_at (row_below HA'.out hWr) hlt
      generalize x.arrays[k] = z at *
      have d1 : (k : Int) < (x.arrays.length : Int) := by omega
      go_wp2_with fail
      go_quiet (fail)
      go_wp2_with fail
      exact ⟨⟨k + 1, by omega, by go_num, below_dn hb _⟩, by simp [intOf]; omega⟩
    · obtain rfl : k = x.arrays.length := by omega
      go_wp2_with fail
      go_loopw [6] (fun i wq => ∃ k : Nat, k ≤ x.funcs.length ∧ i = .int .i64 k ∧ Below W0.heap.size W0 wq) (fun i _ => x.funcs.length - (intOf i).toNat)
      case atStart => exact ⟨0, Nat.zero_le _, rfl, hb⟩
      case round =>
        obtain ⟨j, hj, rfl, hbq⟩ := hrel
        clear p0 p1 r0 r1 hWr
        obtain ⟨p0, p1⟩ := HN1.out.ext (Ext.of_below hbq (fun _ => False)) id
        obtain ⟨r0, r1⟩ := HN2.out.ext (Ext.of_below hbq (fun _ => False)) id
        have hWr := HW.out.trans (hbq.mono HW.out.size)
        by_cases hjt : j < x.funcs.length
        · obtain ⟨b1, o1, B0, B9, rfl, hbl1, a0, a1, a2, hp1, hs1⟩ := fnrow_at (fn_below HF.out hWr) hjt
          obtain ⟨b2, o2, C0, C9, rfl, hbl2, e0, e1, e2, hp2, hs2⟩ := fnrow_at (fn_below HF'.out hWr) hjt
          obtain ⟨B1, n1, rfl, _⟩ := VRow.slice hp1
          obtain ⟨B2, n2, rfl, _⟩ := hs1.slice
          obtain ⟨C1, m1, rfl, _⟩ := VRow.slice hp2
          obtain ⟨C2, m2, rfl, _⟩ := hs2.slice
          have HR := Lib.hid (And.intro hp1 hs1)
          have HT := Lib.hid (And.intro hp2 hs2)
          have HSf := Lib.hid (HSZ.out _ (List.getElem_mem hjt))
          have hpl := HP.out _ (List.getElem_mem hjt)
          clear hp1 hs1 hp2 hs2
          generalize x.funcs[j] = f at *
          have d1 : (j : Int) < (x.funcs.length : Int) := by omega
          have f1 : b1 ≠ wr.heap.size := by omega
          have f2 : b2 ≠ wr.heap.size := by omega
          have f3 : b1 ≠ wr.heap.size + 1 := by omega
          have f4 : b2 ≠ wr.heap.size + 1 := by omega
          have hz0 := HN1.out
          have z3 := hbq.size
          have f5 : w.heap.size ≠ wr.heap.size := by omega
          have f6 : w.heap.size ≠ wr.heap.size + 1 := by omega
          have f7 : Q ≠ wr.heap.size := by omega
          have f8 : Q ≠ wr.heap.size + 1 := by omega
          have l1 : w.heap.size < wr.heap.size := by omega
          have l2 : Q < wr.heap.size := by omega
          have l3 : w.heap.size < wr.heap.size + 1 := by omega
          have l4 : Q < wr.heap.size + 1 := by omega
          clear hz0
          go_wp2_with fail
          go_region
          · clear a0 a1 a2 e0 e1 e2 d1 f1 f2 f3 f4 f5 f6 f7 f8
            have hq := two_boxes3 wr (.string (ba f.name)) (.slice B1 f.params.length n1) (.slice B2 f.body.length n2) (.string (ba f.name)) (.slice C1 f.params.length m1) (.slice C2 f.body.length m2) 76
            generalize ((wr.alloc (.cells #[.string (ba f.name), .slice B1 f.params.length n1, .slice B2 f.body.length n2] 76)).alloc (.cells #[.string (ba f.name), .slice C1 f.params.length m1, .slice C2 f.body.length m2] 76)).drew = W at hq ⊢
            obtain ⟨⟨s0, s1, s2⟩, ⟨t0, t1, t2⟩, hW⟩ := hq
            have hBW := hbq.trans (hW.mono hbq.size)
            have HW1 := Lib.hid hW
            have HBW := Lib.hid hBW
            have HRB : Hid (Calls Tryd.prog 41 #[.slice B2 f.body.length n2, .slice C2 f.body.length m2] W fun en w' => en = .returned (.bool true) ∧ Below W.heap.size W w') := Lib.hid ((sameL (sizeB f.body) (by have := HSf.out; omega) f.body f.body (Nat.le_refl _) (srow_below HR.out.2 hW) (srow_below HT.out.2 hW)).mono (fun en w' h => ⟨by rw [h.1, sameB_refl], h.2⟩))
            have HTS := Lib.hid (And.intro (And.intro s0 (And.intro s1 s2)) (And.intro t0 (And.intro t1 t2)))
            clear hW hBW hbq p0 p1 r0 r1 hWr
            go_wp2_with fail
            refine HRB.out.mono ?_
            rintro en w2 ⟨rfl, hb2⟩
            have HB2 := Lib.hid hb2
            clear s0 s1 s2 t0 t1 t2
            obtain ⟨s0, s1, s2⟩ := cells3.ext HTS.out.1 (Ext.of_below hb2 (fun _ => False)) id
            obtain ⟨t0, t1, t2⟩ := cells3.ext HTS.out.2 (Ext.of_below hb2 (fun _ => False)) id
            clear hb2
            go_wp2_with fail
            clear s0 s1 s2 t0 t1 t2
            go_loopw [9] (fun i wz => ∃ k : Nat, k ≤ f.params.length ∧ i = .int .i64 k ∧ Below W.heap.size W wz) (fun i _ => f.params.length - (intOf i).toNat)
            case atStart => exact ⟨0, Nat.zero_le _, rfl, HB2.out⟩
            case round =>
              obtain ⟨q, hq, rfl, hbz⟩ := hrel
              obtain ⟨s0, s1, s2⟩ := cells3.ext HTS.out.1 (Ext.of_below hbz (fun _ => False)) id
              obtain ⟨t0, t1, t2⟩ := cells3.ext HTS.out.2 (Ext.of_below hbz (fun _ => False)) id
              by_cases hqt : q < f.params.length
              · obtain ⟨b3, o3, rfl, hbl3, a0⟩ := strrow_at (row_below HR.out.1 (HW1.out.trans (hbz.mono HW1.out.size))) hqt
                obtain ⟨b4, o4, rfl, hbl4, e0⟩ := strrow_at (row_below HT.out.1 (HW1.out.trans (hbz.mono HW1.out.size))) hqt
                generalize f.params[q] = z at *
                have d3 : (q : Int) < (f.params.length : Int) := by omega
                go_wp2_with fail
                go_quiet (fail)
                go_wp2_with fail
                exact ⟨⟨q + 1, by omega, by go_num, below_dn hbz _⟩, by simp [intOf]; omega⟩
              · obtain rfl : q = f.params.length := by omega
                go_wp2_with fail
                exact ⟨⟨j + 1, by omega, by go_num, HBW.out.trans (hbz.mono HBW.out.size)⟩, by simp [intOf]; omega⟩
          · clear a0 a1 a2 e0 e1 e2 d1 f1 f2 f3 f4 f5 f6 f7 f8
            have hq := two_boxes3 wr (.string (ba f.name)) (.slice C1 f.params.length m1) (.slice C2 f.body.length m2) (.string (ba f.name)) (.slice B1 f.params.length n1) (.slice B2 f.body.length n2) 76
            generalize ((wr.alloc (.cells #[.string (ba f.name), .slice C1 f.params.length m1, .slice C2 f.body.length m2] 76)).alloc (.cells #[.string (ba f.name), .slice B1 f.params.length n1, .slice B2 f.body.length n2] 76)).drew = W at hq ⊢
            obtain ⟨⟨s0, s1, s2⟩, ⟨t0, t1, t2⟩, hW⟩ := hq
            have hBW := hbq.trans (hW.mono hbq.size)
            have HW1 := Lib.hid hW
            have HBW := Lib.hid hBW
            have HRB : Hid (Calls Tryd.prog 41 #[.slice B2 f.body.length n2, .slice C2 f.body.length m2] W fun en w' => en = .returned (.bool true) ∧ Below W.heap.size W w') := Lib.hid ((sameL (sizeB f.body) (by have := HSf.out; omega) f.body f.body (Nat.le_refl _) (srow_below HR.out.2 hW) (srow_below HT.out.2 hW)).mono (fun en w' h => ⟨by rw [h.1, sameB_refl], h.2⟩))
            have HTS := Lib.hid (And.intro (And.intro s0 (And.intro s1 s2)) (And.intro t0 (And.intro t1 t2)))
            clear hW hBW hbq p0 p1 r0 r1 hWr
            go_wp2_with fail
            refine HRB.out.mono ?_
            rintro en w2 ⟨rfl, hb2⟩
            have HB2 := Lib.hid hb2
            clear s0 s1 s2 t0 t1 t2
            obtain ⟨s0, s1, s2⟩ := cells3.ext HTS.out.1 (Ext.of_below hb2 (fun _ => False)) id
            obtain ⟨t0, t1, t2⟩ := cells3.ext HTS.out.2 (Ext.of_below hb2 (fun _ => False)) id
            clear hb2
            go_wp2_with fail
            clear s0 s1 s2 t0 t1 t2
            go_loopw [9] (fun i wz => ∃ k : Nat, k ≤ f.params.length ∧ i = .int .i64 k ∧ Below W.heap.size W wz) (fun i _ => f.params.length - (intOf i).toNat)
            case atStart => exact ⟨0, Nat.zero_le _, rfl, HB2.out⟩
            case round =>
              obtain ⟨q, hq, rfl, hbz⟩ := hrel
              obtain ⟨s0, s1, s2⟩ := cells3.ext HTS.out.1 (Ext.of_below hbz (fun _ => False)) id
              obtain ⟨t0, t1, t2⟩ := cells3.ext HTS.out.2 (Ext.of_below hbz (fun _ => False)) id
              by_cases hqt : q < f.params.length
              · obtain ⟨b3, o3, rfl, hbl3, a0⟩ := strrow_at (row_below HR.out.1 (HW1.out.trans (hbz.mono HW1.out.size))) hqt
                obtain ⟨b4, o4, rfl, hbl4, e0⟩ := strrow_at (row_below HT.out.1 (HW1.out.trans (hbz.mono HW1.out.size))) hqt
                generalize f.params[q] = z at *
                have d3 : (q : Int) < (f.params.length : Int) := by omega
                go_wp2_with fail
                go_quiet (fail)
                go_wp2_with fail
                exact ⟨⟨q + 1, by omega, by go_num, below_dn hbz _⟩, by simp [intOf]; omega⟩
              · obtain rfl : q = f.params.length := by omega
                go_wp2_with fail
                exact ⟨⟨j + 1, by omega, by go_num, HBW.out.trans (hbz.mono HBW.out.size)⟩, by simp [intOf]; omega⟩
        · obtain rfl : j = x.funcs.length := by omega
          go_wp2_with fail
          go_ret
          exact ⟨rfl, hWr⟩
end Go.Proofs.YtdijffojppjmfaaDoor
