/- append of a row to an own row; two programs' rows, one behind the other. -/
import Derived.Test.YtdijffojppjmfaaDoorQq
set_option linter.unusedVariables false
set_option linter.unusedSimpArgs false
namespace Go.BW
open Go.RowKit Bir
theorem run_append_row {P : Program} (w : World) (base : Nat) (t ty e : TypeId) (z : Value) (size bytes : Nat)
    (ht : P.underlying t = some (.slice e)) (hinfo : (P.info? e).map (fun i => (i.zero, i.size, i.bytes)) = some (some z, size, bytes)) (hz : z.cells.size = size) (hs0 : 0 < size) (hb0 : 0 < bytes)
    (v : Value) (n : Nat) (xs : List Value) (HO : w.ownsRow base e size v n xs) {ok : Nat → Prop} (A : Option Addr) (m c : Nat) (ys : List Value) (hr : VRow w ok size (.slice A m c) m ys) (h1 : ∀ u ∈ ys, u.oneCell' = true)
    (hl : (n + m) * bytes ≤ 140737488355328) (hbase : base ≤ w.heap.size) :
    ∃ v1 w1, (Builtin.append_ #[t, t] ty #[v, .slice A m c]).run P w = .ok v1 w1 ∧ w1.ownsRow base e size v1 (n + m) (xs ++ ys) ∧ Ext (fun b => v.ownBlock = some b) w w1 ∧ (v1.ownBlock = v.ownBlock ∨ ∃ b, v1.ownBlock = some b ∧ w.heap.size ≤ b) ∧ VRow w1 (From base) size v n xs := by
  obtain ⟨i, hi, hzz⟩ := Option.map_eq_some_iff.1 hinfo
  simp only [Prod.mk.injEq] at hzz
  obtain ⟨hz0, rfl, rfl⟩ := hzz
  obtain ⟨hyl, c', hc', hrow⟩ := hr
  have hmx : n + m ≤ 140737488355328 := Nat.le_trans (Nat.le_mul_of_pos_right _ hb0) hl
  cases A with
  | none =>
    have hm0 : m = 0 := by
      rcases hrow with ⟨h0, _⟩ | ⟨b, off, he, _⟩
      · exact h0
      · injection he with he; cases he
    subst hm0
    have hy : ys = [] := List.eq_nil_of_length_eq_zero (by simpa using hyl)
    subst hy
    refine ⟨v, w, ?_, by simpa using HO, Ext.refl _ _, .inl rfl, VRow.of_own HO⟩
    rcases HO.2 with ⟨rfl, rfl⟩ | ⟨g, cap, cur, rfl, _, _, hnc, _⟩
    · simp [Builtin.append_, run_underlying ht, sizeOf, typeInfo, hi, Builtin.lenOf, Builtin.firstCells]
    · simp [Builtin.append_, run_underlying ht, sizeOf, typeInfo, hi, Builtin.lenOf, Builtin.firstCells, hnc, storeCells]
  | some ad =>
    have hnews : ∀ j u, ys[j]? = some u → w.cell? (ad.add j) = some u := fun j u hu => by
      rcases hrow with ⟨h0, _⟩ | ⟨b, off, he, _, _, hc⟩
      · subst h0
        have hy : ys = [] := List.eq_nil_of_length_eq_zero (by simpa using hyl)
        rw [hy] at hu
        simp at hu
      · injection he with he _ _
        injection he with he
        subst he
        have := hc j u hu
        rwa [show (⟨b, off, none⟩ : Addr).add j = ⟨b, off + j, none⟩ from by unfold Addr.add; split <;> simp_all]
    have h63 : n + m ≤ maxLen := by simp only [maxLen]; omega
    obtain ⟨v1, w1, hrun, hown, hg, _, hat⟩ := run_append_own_at (P := P) w base t ty e i z i.size i.bytes ht hi hz0 rfl rfl hz hs0 v n xs HO ad m c ys hyl hnews h1 h63 hl hbase
    refine ⟨v1, w1, hrun, hown, (Ext.refl _ w).grown hg (fun k hk => .inl hk), hat.imp id fun h => ⟨_, h, Nat.le_refl _⟩, ?_⟩
    rcases HO.2 with ⟨rfl, rfl⟩ | ⟨g, cap, cur, rfl, hbg, hgh, hnc, hcm, hcs, htake⟩
    · have hx : xs = [] := List.eq_nil_of_length_eq_zero (by simpa using HO.1)
      rw [hx]
      exact VRow.nil _ _ _
    · by_cases hroom : n + m ≤ cap
      · have hfit : n * i.size + ys.length ≤ cur.size := by rw [hyl, hcs, ← Nat.add_mul]; exact Nat.mul_le_mul_right _ hroom
        have hr2 := run_append_room (P := P) w t ty e i ht hi g n cap cur hgh ad m c ys hyl hnews h1 hroom hfit
        rw [hrun] at hr2
        injection hr2 with hv hw
        subst hv
        refine ⟨HO.1, cap, hnc, .inr ⟨g, 0, rfl, hbg, ?_, fun j u hj => ?_⟩⟩
        · have := hg.size; have := (Array.getElem?_eq_some_iff.1 hgh).1; omega
        · have hlt : j < xs.length := (List.getElem?_eq_some_iff.1 hj).1
          have := hown.cells (g := g) rfl j u (by rw [List.getElem?_append_left hlt]; exact hj)
          rwa [show (⟨g, 0, none⟩ : Addr).add j = ⟨g, 0 + j, none⟩ from by unfold Addr.add; split <;> simp_all] at this
      · have holds : ∀ j u, xs[j]? = some u → w.cell? ((⟨g, 0, none⟩ : Addr).add j) = some u := HO.cells (g := g) rfl
        have hr2 := run_append_grow (P := P) w t ty e i z ht hi hz0 ⟨g, 0, none⟩ n cap xs HO.1 holds ad m c ys hyl hnews (by omega) (by omega) (growslice_fits (by omega) hl)
        rw [hrun] at hr2
        injection hr2 with hv hw
        have hE : Ext (fun _ => False) w w1 := by
          rw [hw]
          exact ((Ext.refl _ w).drew).alloc _
        exact VRow.keep (VRow.of_own HO) hE.size fun b hb hlt => ⟨hE.block b hlt id, hb⟩
theorem append_row_op {P : Program} {o : Oper} {a : Act} {K : Act → World → Prop} {Q : Exit → Act → World → Prop} (w : World) (base : Nat) (s x : Operand) (t e : TypeId) (z : Value) (size bytes : Nat)
    (ho : o.op = .call { callee := .builtin .append, args := #[s, x], argTypes := #[t, t] })
    (ht : P.underlying t = some (.slice e)) (hinfo : (P.info? e).map (fun i => (i.zero, i.size, i.bytes)) = some (some z, size, bytes)) (hz : z.cells.size = size) (hs0 : 0 < size) (hb0 : 0 < bytes)
    (v : Value) (n : Nat) (xs : List Value) (hs : a.eval s = v) (HO : w.ownsRow base e size v n xs) {ok : Nat → Prop} (A : Option Addr) (m c : Nat) (ys : List Value) (hx : a.eval x = .slice A m c) (hr : VRow w ok size (.slice A m c) m ys) (h1 : ∀ u ∈ ys, u.oneCell' = true)
    (hl : (n + m) * bytes ≤ 140737488355328) (hbase : base ≤ w.heap.size)
    (h : ∀ v1 w1, w1.ownsRow base e size v1 (n + m) (xs ++ ys) → Ext (fun b => v.ownBlock = some b) w w1 → (v1.ownBlock = v.ownBlock ∨ ∃ b, v1.ownBlock = some b ∧ w.heap.size ≤ b) → VRow w1 (From base) size v n xs → K (a.put o.dst v1) w1) :
    Oper.wp P o a w K Q := by
  obtain ⟨v1, w1, hrun, h2, h3, h4, h5⟩ := run_append_row w base t o.type e z size bytes ht hinfo hz hs0 hb0 v n xs HO A m c ys hr h1 hl hbase
  unfold Oper.wp execOp
  simp only [ho, resolve, invoke, builtin, Sem.run_bind, Sem.run_pure, Result.andThen_ok, List.map_toArray, List.map_cons, List.map_nil, hs, hx, hrun]
  exact h v1 w1 h2 h3 h4 h5
theorem arrCells_app (xs ys : List Arr) : arrCells (xs ++ ys) = arrCells xs ++ arrCells ys := by simp [arrCells]
theorem arrCells_one (xs : List Arr) : ∀ u ∈ arrCells xs, u.oneCell' = true := by
  intro u hu
  obtain ⟨a, _, hu⟩ := List.mem_flatMap.1 hu
  simp at hu
  rcases hu with rfl | rfl <;> rfl
theorem FnCells.one {w : World} {ok : Nat → Prop} {cs : List Value} {xs : List Bir.Fn} (h : FnCells w ok cs xs) : ∀ u ∈ cs, u.oneCell' = true := by
  induction h with
  | nil => intro u hu; cases hu
  | snoc h hp hb ih =>
    intro u hu
    obtain ⟨A, c, rfl, _⟩ := VRow.slice hp
    obtain ⟨B, d, rfl, _⟩ := hb.slice
    rcases List.mem_append.1 hu with hu | hu
    · exact ih u hu
    · simp at hu
      rcases hu with rfl | rfl | rfl <;> rfl
theorem FnCells.append {w : World} {ok : Nat → Prop} {cs ds : List Value} {xs ys : List Bir.Fn} (h : FnCells w ok cs xs) (k : FnCells w ok ds ys) : FnCells w ok (cs ++ ds) (xs ++ ys) := by
  induction k with
  | nil => simpa using h
  | snoc k hp hb ih =>
    rw [← List.append_assoc, ← List.append_assoc]
    exact .snoc ih hp hb
end Go.BW
