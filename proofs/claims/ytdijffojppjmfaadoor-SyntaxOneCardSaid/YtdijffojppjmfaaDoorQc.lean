/- Rows of strings, of arrays and of functions; append as one operation. -/
import Derived.Test.YtdijffojppjmfaaDoorQb
set_option linter.unusedVariables false
set_option linter.unusedSimpArgs false
namespace Go.BW
open Go.RowKit Bir
/-- A row of n elements that are size cells each: what they hold, in blocks that satisfy ok. -/
def VRow (w : World) (ok : Nat → Prop) (size : Nat) (v : Value) (n : Nat) (cs : List Value) : Prop :=
  cs.length = n * size ∧ ∃ c, n ≤ c ∧ ((n = 0 ∧ ∃ A, v = .slice A 0 c) ∨ ∃ b off, v = .slice (some ⟨b, off, none⟩) n c ∧ ok b ∧ b < w.heap.size ∧ ∀ j u, cs[j]? = some u → w.cell? ⟨b, off + j, none⟩ = some u)
section
variable {w w1 : World} {ok ok' : Nat → Prop} {v : Value} {size n : Nat} {cs : List Value}
theorem VRow.nil (w : World) (ok : Nat → Prop) (size : Nat) : VRow w ok size (.slice none 0 0) 0 [] := ⟨by simp, 0, Nat.le_refl _, .inl ⟨rfl, none, rfl⟩⟩
theorem VRow.keep (h : VRow w ok size v n cs) (hs : w.heap.size ≤ w1.heap.size) (hk : ∀ b, ok b → b < w.heap.size → w1.heap[b]? = w.heap[b]? ∧ ok' b) : VRow w1 ok' size v n cs := by
  obtain ⟨hl, c, hc, h⟩ := h
  refine ⟨hl, c, hc, h.imp id ?_⟩
  rintro ⟨b, off, rfl, hb, hlt, hcell⟩
  obtain ⟨h1, h2⟩ := hk b hb hlt
  exact ⟨b, off, rfl, h2, Nat.lt_of_lt_of_le hlt hs, fun j u hj => cell_same h1 (hcell j u hj)⟩
theorem VRow.ext {S : Nat → Prop} {n0 m : Nat} (h : VRow w (From n0) size v n cs) (hx : Ext S w w1) (hS : ∀ b, S b → b < n0) (hm : m ≤ n0) : VRow w1 (From m) size v n cs :=
  h.keep hx.size fun b hb hlt => ⟨hx.block b hlt (fun hs => by have := hS b hs; have : n0 ≤ b := hb; omega), Nat.le_trans hm hb⟩
theorem VRow.slice (h : VRow w ok size v n cs) : ∃ A c, v = .slice A n c ∧ n ≤ c := by
  obtain ⟨_, c, hc, ⟨rfl, A, rfl⟩ | ⟨b, off, rfl, _⟩⟩ := h
  · exact ⟨A, c, rfl, hc⟩
  · exact ⟨_, c, rfl, hc⟩
theorem VRow.of_own {base : Nat} {t : TypeId} (h : w.ownsRow base t size v n cs) : VRow w (From base) size v n cs := by
  refine ⟨h.1, ?_⟩
  rcases h.2 with ⟨rfl, rfl⟩ | ⟨g, cap, cur, rfl, hg, hh, hl, _⟩
  · exact ⟨0, Nat.le_refl _, .inl ⟨rfl, none, rfl⟩⟩
  · refine ⟨cap, hl, .inr ⟨g, 0, rfl, hg, (Array.getElem?_eq_some_iff.1 hh).1, fun i u hu => ?_⟩⟩
    have := h.cells (g := g) rfl i u hu
    rwa [show (⟨g, 0, none⟩ : Addr).add i = ⟨g, 0 + i, none⟩ from by unfold Addr.add; split <;> simp_all] at this
theorem own_move {pb base : Nat} {t : TypeId} (h : w.ownsRow base t size v n cs) (hx : Ext (· = pb) w w1) (hp : pb < base) : w1.ownsRow base t size v n cs :=
  ownsRow_same h fun k hk => by
    obtain ⟨h1, h2⟩ := ownsRow_block h hk
    exact hx.block k h2 (by omega)
theorem own_keep {S : Nat → Prop} {base : Nat} {t : TypeId} (h : w.ownsRow base t size v n cs) (hx : Ext S w w1) (hp : ∀ b, S b → v.ownBlock = some b → False) : w1.ownsRow base t size v n cs :=
  ownsRow_same h fun k hk => by
    obtain ⟨h1, h2⟩ := ownsRow_block h hk
    exact hx.block k h2 fun hs => hp k hs hk
end
def strCells (xs : List Str) : List Value := xs.map fun s => .string (ba s)
def StrRow (w : World) (ok : Nat → Prop) (v : Value) (xs : List Str) : Prop := VRow w ok 1 v xs.length (strCells xs)
def arrCells (xs : List Arr) : List Value := xs.flatMap fun a => [.string (ba a.name), .int .i64 a.size]
def ArrRow (w : World) (ok : Nat → Prop) (v : Value) (xs : List Arr) : Prop := VRow w ok 2 v xs.length (arrCells xs)
/-- The cells of some functions, one behind the other. -/
inductive FnCells (w : World) (ok : Nat → Prop) : List Value → List Bir.Fn → Prop where
  | nil : FnCells w ok [] []
  | snoc {cs : List Value} {xs : List Bir.Fn} {x : Bir.Fn} {pv bv : Value} (h : FnCells w ok cs xs) (hp : StrRow w ok pv x.params) (hb : SRow w ok bv x.body) : FnCells w ok (cs ++ [.string (ba x.name), pv, bv]) (xs ++ [x])
def FnRow (w : World) (ok : Nat → Prop) (v : Value) (xs : List Bir.Fn) : Prop := ∃ cs, VRow w ok 3 v xs.length cs ∧ FnCells w ok cs xs
section
variable {w w1 : World} {ok ok' : Nat → Prop} {v : Value}
theorem FnCells.keep {cs : List Value} {xs : List Bir.Fn} (h : FnCells w ok cs xs) (hs : w.heap.size ≤ w1.heap.size) (hk : ∀ b, ok b → b < w.heap.size → w1.heap[b]? = w.heap[b]? ∧ ok' b) : FnCells w1 ok' cs xs := by
  induction h with
  | nil => exact .nil
  | snoc h hp hb ih => exact .snoc ih (VRow.keep hp hs hk) (hb.keep hs hk)
theorem FnRow.keep {xs : List Bir.Fn} (h : FnRow w ok v xs) (hs : w.heap.size ≤ w1.heap.size) (hk : ∀ b, ok b → b < w.heap.size → w1.heap[b]? = w.heap[b]? ∧ ok' b) : FnRow w1 ok' v xs := by
  obtain ⟨cs, h1, h2⟩ := h
  exact ⟨cs, h1.keep hs hk, h2.keep hs hk⟩
theorem strCells_snoc (xs : List Str) (x : Str) : strCells (xs ++ [x]) = strCells xs ++ [.string (ba x)] := by simp [strCells]
theorem arrCells_snoc (xs : List Arr) (x : Arr) : arrCells (xs ++ [x]) = arrCells xs ++ [.string (ba x.name), .int .i64 x.size] := by simp [arrCells]
end
end Go.BW
namespace Go.Proofs.YtdijffojppjmfaaDoor
open Go.RowKit Bir Go.BW
theorem infoStr : (Tryd.prog.info? 9).map (fun i => (i.zero, i.size, i.bytes)) = some (some (.string ⟨#[]⟩), 1, 16) := by kernel_rfl
theorem infoArr : (Tryd.prog.info? 73).map (fun i => (i.zero, i.size, i.bytes)) = some (some (.agg #[.string ⟨#[]⟩, .int .i64 0]), 2, 24) := by kernel_rfl
theorem infoFn : (Tryd.prog.info? 76).map (fun i => (i.zero, i.size, i.bytes)) = some (some (.agg #[.string ⟨#[]⟩, .slice none 0 0, .slice none 0 0]), 3, 64) := by kernel_rfl
section
variable {P : Program} {o : Oper} {a : Act} {K : Act → World → Prop} {Q : Exit → Act → World → Prop}
theorem append_one_op (W : World) (base : Nat) (s x : Operand) (t e : TypeId) (z : Value) (size bytes : Nat)
    (ho : o.op = .call { callee := .builtin .append, args := #[s, x], argTypes := #[t, t] })
    (ht : P.underlying t = some (.slice e)) (hinfo : (P.info? e).map (fun i => (i.zero, i.size, i.bytes)) = some (some z, size, bytes)) (hz : z.cells.size = size) (hs0 : 0 < size) (hb0 : 0 < bytes)
    (v : Value) (n : Nat) (xs ys : List Value) (hs : a.eval s = v) (hx : a.eval x = .slice (some ⟨W.heap.size, 0, none⟩) 1 1) (hys : ys.length = size) (h1 : ∀ u ∈ ys, u.oneCell' = true)
    (HO : W.ownsRow base e size v n xs) (hbase : base ≤ W.heap.size) (hl : (n + 1) * bytes ≤ 140737488355328)
    (h : ∀ v1 w1, w1.ownsRow base e size v1 (n + 1) (xs ++ ys) → Ext (fun b => v.ownBlock = some b) W w1 → (v1.ownBlock = v.ownBlock ∨ ∃ b, v1.ownBlock = some b ∧ W.heap.size ≤ b) → K (a.put o.dst v1) w1) :
    Oper.wp P o a (W.alloc (.cells ys.toArray e)) K Q := by
  obtain ⟨i0, hi, hzz⟩ := Option.map_eq_some_iff.1 hinfo
  simp only [Prod.mk.injEq] at hzz
  obtain ⟨hz0, hz1, hz2⟩ := hzz
  have hlen : n + 1 ≤ 140737488355328 := Nat.le_trans (Nat.le_mul_of_pos_right _ hb0) hl
  obtain ⟨v1, w1, hr, hown, hg, _, hat⟩ := run_append_own_at (P := P) (W.alloc (.cells ys.toArray e)) base t o.type e i0 z size bytes ht hi hz0 hz1 hz2 hz hs0 v n xs (HO.alloc _) ⟨W.heap.size, 0, none⟩ 1 1 ys (by rw [hys]; simp)
    (fun j u hj => by
      rw [show (⟨W.heap.size, 0, none⟩ : Addr).add j = ⟨W.heap.size, j, none⟩ from by unfold Addr.add; split <;> simp_all]
      simp [hj]) h1 (by simp only [maxLen]; omega) hl (by simp; omega)
  unfold Oper.wp execOp
  simp only [ho, resolve, invoke, builtin, Sem.run_bind, Sem.run_pure, Result.andThen_ok, List.map_toArray, List.map_cons, List.map_nil, hs, hx, hr]
  refine h v1 w1 hown ?_ ?_
  · exact ((Ext.refl _ W).alloc _).trans ((Ext.refl (fun b => v.ownBlock = some b) _).grown hg (fun k hk => .inl hk)) (fun i hi => .inl hi)
  · rcases hat with hat | hat
    · exact .inl hat
    · exact .inr ⟨_, hat, by simp⟩
end
end Go.Proofs.YtdijffojppjmfaaDoor
