/- Trees in memory: rows of expressions and of statements that are read; rows that a call itself makes. -/
import Derived.Test.YtdijffojppjmfaaDoorPw
import Derived.Maps.AppendAt
import Derived.Laws.OwnMore
import Derived.Deep.OwnRows
set_option linter.unusedVariables false
namespace Go.BW
open Go.RowKit Bir

/-- A row of expressions: what a slice value reads as; its rows lie in blocks that satisfy ok. -/
inductive ERow (w : World) (ok : Nat → Prop) : Value → List Ex → Prop where
  | nil (A : Option Addr) (c : Nat) : ERow w ok (.slice A 0 c) []
  | row (b off c : Nat) (xs : List Ex) (f : Nat → Value) (hok : ok b) (hb : b < w.heap.size) (hc : xs.length ≤ c)
      (h : ∀ j x, xs[j]? = some x → w.cell? ⟨b, off + 4 * j, none⟩ = some (.int .i64 x.kind) ∧ w.cell? ⟨b, off + 4 * j + 1, none⟩ = some (.int .i64 x.num) ∧
        w.cell? ⟨b, off + 4 * j + 2, none⟩ = some (.string (ba x.name)) ∧ w.cell? ⟨b, off + 4 * j + 3, none⟩ = some (f j))
      (hk : ∀ j x, xs[j]? = some x → ERow w ok (f j) x.kids) : ERow w ok (.slice (some ⟨b, off, none⟩) xs.length c) xs
/-- An expression as a value. -/
def EVal (w : World) (ok : Nat → Prop) (v : Value) (x : Ex) : Prop := ∃ kv, v = .agg #[.int .i64 x.kind, .int .i64 x.num, .string (ba x.name), kv] ∧ ERow w ok kv x.kids
/-- A row of statements. -/
inductive SRow (w : World) (ok : Nat → Prop) : Value → List St → Prop where
  | nil (A : Option Addr) (c : Nat) : SRow w ok (.slice A 0 c) []
  | row (b off c : Nat) (xs : List St) (f g h : Nat → Value) (hok : ok b) (hb : b < w.heap.size) (hc : xs.length ≤ c)
      (hh : ∀ j x, xs[j]? = some x → w.cell? ⟨b, off + 5 * j, none⟩ = some (.int .i64 x.kind) ∧ w.cell? ⟨b, off + 5 * j + 1, none⟩ = some (.string (ba x.name)) ∧
        w.cell? ⟨b, off + 5 * j + 2, none⟩ = some (f j) ∧ w.cell? ⟨b, off + 5 * j + 3, none⟩ = some (g j) ∧ w.cell? ⟨b, off + 5 * j + 4, none⟩ = some (h j))
      (he : ∀ j x, xs[j]? = some x → ERow w ok (f j) x.exprs) (hs : ∀ j x, xs[j]? = some x → SRow w ok (g j) x.body) (hl : ∀ j x, xs[j]? = some x → SRow w ok (h j) x.els) :
      SRow w ok (.slice (some ⟨b, off, none⟩) xs.length c) xs
def SVal (w : World) (ok : Nat → Prop) (v : Value) (x : St) : Prop :=
  ∃ ev bv lv, v = .agg #[.int .i64 x.kind, .string (ba x.name), ev, bv, lv] ∧ ERow w ok ev x.exprs ∧ SRow w ok bv x.body ∧ SRow w ok lv x.els

section
variable {w w1 : World} {ok ok' : Nat → Prop} {v : Value}
theorem cell_same {b o : Nat} {u : Value} (hk : w1.heap[b]? = w.heap[b]?) (h : w.cell? ⟨b, o, none⟩ = some u) : w1.cell? ⟨b, o, none⟩ = some u := (World.cell?_of_block (w := w) (a := ⟨b, o, none⟩) hk).trans h
/-- What the rows' blocks keep, and whatever more is let. -/
theorem ERow.keep {xs : List Ex} (h : ERow w ok v xs) (hs : w.heap.size ≤ w1.heap.size) (hk : ∀ b, ok b → b < w.heap.size → w1.heap[b]? = w.heap[b]? ∧ ok' b) : ERow w1 ok' v xs := by
  induction h with
  | nil A c => exact .nil A c
  | row b off c xs f hok hb hc h _ ih =>
    obtain ⟨hkb, hok'⟩ := hk b hok hb
    refine .row b off c xs f hok' (Nat.lt_of_lt_of_le hb hs) hc (fun j x hj => ?_) (fun j x hj => ih j x hj)
    obtain ⟨h0, h1, h2, h3⟩ := h j x hj
    exact ⟨cell_same hkb h0, cell_same hkb h1, cell_same hkb h2, cell_same hkb h3⟩
theorem SRow.keep {xs : List St} (h : SRow w ok v xs) (hs : w.heap.size ≤ w1.heap.size) (hk : ∀ b, ok b → b < w.heap.size → w1.heap[b]? = w.heap[b]? ∧ ok' b) : SRow w1 ok' v xs := by
  induction h with
  | nil A c => exact .nil A c
  | row b off c xs f g l hok hb hc h he _ _ ihs ihl =>
    obtain ⟨hkb, hok'⟩ := hk b hok hb
    refine .row b off c xs f g l hok' (Nat.lt_of_lt_of_le hb hs) hc (fun j x hj => ?_) (fun j x hj => (he j x hj).keep hs hk) (fun j x hj => ihs j x hj) (fun j x hj => ihl j x hj)
    obtain ⟨h0, h1, h2, h3, h4⟩ := h j x hj
    exact ⟨cell_same hkb h0, cell_same hkb h1, cell_same hkb h2, cell_same hkb h3, cell_same hkb h4⟩
/-- From block n on. -/
abbrev From (n : Nat) : Nat → Prop := fun b => n ≤ b
theorem ERow.ext {S : Nat → Prop} {n m : Nat} {xs : List Ex} (h : ERow w (From n) v xs) (hx : Ext S w w1) (hS : ∀ b, S b → b < n) (hm : m ≤ n) : ERow w1 (From m) v xs :=
  h.keep hx.size fun b hb hlt => ⟨hx.block b hlt (fun hs => by have := hS b hs; have : n ≤ b := hb; omega), Nat.le_trans hm hb⟩
theorem SRow.ext {S : Nat → Prop} {n m : Nat} {xs : List St} (h : SRow w (From n) v xs) (hx : Ext S w w1) (hS : ∀ b, S b → b < n) (hm : m ≤ n) : SRow w1 (From m) v xs :=
  h.keep hx.size fun b hb hlt => ⟨hx.block b hlt (fun hs => by have := hS b hs; have : n ≤ b := hb; omega), Nat.le_trans hm hb⟩
theorem ERow.slice {xs : List Ex} (h : ERow w ok v xs) : ∃ A c, v = .slice A xs.length c ∧ xs.length ≤ c := by
  cases h with
  | nil A c => exact ⟨A, c, rfl, Nat.zero_le _⟩
  | row b off c xs f hok hb hc h hk => exact ⟨_, c, rfl, hc⟩
theorem SRow.slice {xs : List St} (h : SRow w ok v xs) : ∃ A c, v = .slice A xs.length c ∧ xs.length ≤ c := by
  cases h with
  | nil A c => exact ⟨A, c, rfl, Nat.zero_le _⟩
  | row b off c xs f g l hok hb hc h he hs hl => exact ⟨_, c, rfl, hc⟩
theorem ERow.nil' (w : World) (ok : Nat → Prop) : ERow w ok (.slice none 0 0) [] := .nil none 0
theorem SRow.nil' (w : World) (ok : Nat → Prop) : SRow w ok (.slice none 0 0) [] := .nil none 0
theorem EVal.ext {S : Nat → Prop} {n m : Nat} {x : Ex} (h : EVal w (From n) v x) (hx : Ext S w w1) (hS : ∀ b, S b → b < n) (hm : m ≤ n) : EVal w1 (From m) v x := by
  obtain ⟨kv, e, h⟩ := h
  exact ⟨kv, e, h.ext hx hS hm⟩
theorem SVal.ext {S : Nat → Prop} {n m : Nat} {x : St} (h : SVal w (From n) v x) (hx : Ext S w w1) (hS : ∀ b, S b → b < n) (hm : m ≤ n) : SVal w1 (From m) v x := by
  obtain ⟨a, b, c, e, h1, h2, h3⟩ := h
  exact ⟨a, b, c, e, h1.ext hx hS hm, h2.ext hx hS hm, h3.ext hx hS hm⟩
end

/-! ### rows that a call makes -/
/-- The cells of some expressions, one behind the other. -/
def ECells (w : World) (ok : Nat → Prop) (cs : List Value) (xs : List Ex) : Prop :=
  cs.length = xs.length * 4 ∧ ∀ j x, xs[j]? = some x → ∃ kv, cs[4 * j]? = some (.int .i64 x.kind) ∧ cs[4 * j + 1]? = some (.int .i64 x.num) ∧ cs[4 * j + 2]? = some (.string (ba x.name)) ∧ cs[4 * j + 3]? = some kv ∧ ERow w ok kv x.kids
def SCells (w : World) (ok : Nat → Prop) (cs : List Value) (xs : List St) : Prop :=
  cs.length = xs.length * 5 ∧ ∀ j x, xs[j]? = some x → ∃ ev bv lv, cs[5 * j]? = some (.int .i64 x.kind) ∧ cs[5 * j + 1]? = some (.string (ba x.name)) ∧ cs[5 * j + 2]? = some ev ∧ cs[5 * j + 3]? = some bv ∧ cs[5 * j + 4]? = some lv ∧ ERow w ok ev x.exprs ∧ SRow w ok bv x.body ∧ SRow w ok lv x.els
section
variable {w w1 : World} {ok ok' : Nat → Prop} {v : Value} {cs : List Value}
theorem ECells.nil (w : World) (ok : Nat → Prop) : ECells w ok [] [] := ⟨rfl, fun j x h => by simp at h⟩
theorem SCells.nil (w : World) (ok : Nat → Prop) : SCells w ok [] [] := ⟨rfl, fun j x h => by simp at h⟩
theorem ECells.keep {xs : List Ex} (h : ECells w ok cs xs) (hs : w.heap.size ≤ w1.heap.size) (hk : ∀ b, ok b → b < w.heap.size → w1.heap[b]? = w.heap[b]? ∧ ok' b) : ECells w1 ok' cs xs :=
  ⟨h.1, fun j x hj => let ⟨kv, h0, h1, h2, h3, h4⟩ := h.2 j x hj; ⟨kv, h0, h1, h2, h3, h4.keep hs hk⟩⟩
theorem SCells.keep {xs : List St} (h : SCells w ok cs xs) (hs : w.heap.size ≤ w1.heap.size) (hk : ∀ b, ok b → b < w.heap.size → w1.heap[b]? = w.heap[b]? ∧ ok' b) : SCells w1 ok' cs xs :=
  ⟨h.1, fun j x hj => let ⟨a, b, c, h0, h1, h2, h3, h4, h5, h6, h7⟩ := h.2 j x hj; ⟨a, b, c, h0, h1, h2, h3, h4, h5.keep hs hk, h6.keep hs hk, h7.keep hs hk⟩⟩
theorem ECells.snoc {xs : List Ex} {x : Ex} {kv : Value} (h : ECells w ok cs xs) (hx : ERow w ok kv x.kids) : ECells w ok (cs ++ [.int .i64 x.kind, .int .i64 x.num, .string (ba x.name), kv]) (xs ++ [x]) := by
  refine ⟨by simp [h.1]; omega, fun j y hj => ?_⟩
  rcases Nat.lt_or_ge j xs.length with hlt | hge
  · rw [List.getElem?_append_left hlt] at hj
    obtain ⟨kv, h0, h1, h2, h3, h4⟩ := h.2 j y hj
    have := h.1
    exact ⟨kv, by rw [List.getElem?_append_left (by omega)]; exact h0, by rw [List.getElem?_append_left (by omega)]; exact h1, by rw [List.getElem?_append_left (by omega)]; exact h2, by rw [List.getElem?_append_left (by omega)]; exact h3, h4⟩
  · rw [List.getElem?_append_right hge] at hj
    have hj0 : j = xs.length := by
      rcases Nat.lt_or_ge (j - xs.length) 1 with h1 | h1
      · omega
      · rw [List.getElem?_eq_none (by simpa using h1)] at hj
        cases hj
    subst hj0
    obtain rfl : x = y := by simpa using hj
    have := h.1
    exact ⟨kv, by rw [List.getElem?_append_right (by omega), show 4 * xs.length - cs.length = 0 from by omega]; rfl, by rw [List.getElem?_append_right (by omega), show 4 * xs.length + 1 - cs.length = 1 from by omega]; rfl,
      by rw [List.getElem?_append_right (by omega), show 4 * xs.length + 2 - cs.length = 2 from by omega]; rfl, by rw [List.getElem?_append_right (by omega), show 4 * xs.length + 3 - cs.length = 3 from by omega]; rfl, hx⟩
theorem SCells.snoc {xs : List St} {x : St} {ev bv lv : Value} (h : SCells w ok cs xs) (he : ERow w ok ev x.exprs) (hb : SRow w ok bv x.body) (hl : SRow w ok lv x.els) : SCells w ok (cs ++ [.int .i64 x.kind, .string (ba x.name), ev, bv, lv]) (xs ++ [x]) := by
  refine ⟨by simp [h.1]; omega, fun j y hj => ?_⟩
  rcases Nat.lt_or_ge j xs.length with hlt | hge
  · rw [List.getElem?_append_left hlt] at hj
    obtain ⟨a, b, c, h0, h1, h2, h3, h4, h5, h6, h7⟩ := h.2 j y hj
    have := h.1
    exact ⟨a, b, c, by rw [List.getElem?_append_left (by omega)]; exact h0, by rw [List.getElem?_append_left (by omega)]; exact h1, by rw [List.getElem?_append_left (by omega)]; exact h2, by rw [List.getElem?_append_left (by omega)]; exact h3, by rw [List.getElem?_append_left (by omega)]; exact h4, h5, h6, h7⟩
  · rw [List.getElem?_append_right hge] at hj
    have hj0 : j = xs.length := by
      rcases Nat.lt_or_ge (j - xs.length) 1 with h1 | h1
      · omega
      · rw [List.getElem?_eq_none (by simpa using h1)] at hj
        cases hj
    subst hj0
    obtain rfl : x = y := by simpa using hj
    have := h.1
    exact ⟨ev, bv, lv, by rw [List.getElem?_append_right (by omega), show 5 * xs.length - cs.length = 0 from by omega]; rfl, by rw [List.getElem?_append_right (by omega), show 5 * xs.length + 1 - cs.length = 1 from by omega]; rfl,
      by rw [List.getElem?_append_right (by omega), show 5 * xs.length + 2 - cs.length = 2 from by omega]; rfl, by rw [List.getElem?_append_right (by omega), show 5 * xs.length + 3 - cs.length = 3 from by omega]; rfl,
      by rw [List.getElem?_append_right (by omega), show 5 * xs.length + 4 - cs.length = 4 from by omega]; rfl, he, hb, hl⟩
/-- A block whose first cells are these is a row. -/
theorem ERow.of_cells {xs : List Ex} {b c : Nat} (h : ECells w ok cs xs) (hok : ok b) (hb : b < w.heap.size) (hc : xs.length ≤ c) (hcell : ∀ i u, cs[i]? = some u → w.cell? ⟨b, i, none⟩ = some u) : ERow w ok (.slice (some ⟨b, 0, none⟩) xs.length c) xs := by
  have hf : ∀ j, ∃ kv, ∀ x, xs[j]? = some x → cs[4 * j + 3]? = some kv ∧ ERow w ok kv x.kids := fun j => by
    cases hx : xs[j]? with
    | none => exact ⟨undef, fun x h => by cases h⟩
    | some x =>
      obtain ⟨kv, _, _, _, h3, h4⟩ := h.2 j x hx
      exact ⟨kv, fun y hy => by cases hy; exact ⟨h3, h4⟩⟩
  refine .row b 0 c xs (fun j => (hf j).choose) hok hb hc (fun j x hj => ?_) (fun j x hj => ((hf j).choose_spec x hj).2)
  obtain ⟨kv, h0, h1, h2, _, _⟩ := h.2 j x hj
  simp only [Nat.zero_add]
  exact ⟨hcell _ _ h0, hcell _ _ h1, hcell _ _ h2, hcell _ _ ((hf j).choose_spec x hj).1⟩
theorem SRow.of_cells {xs : List St} {b c : Nat} (h : SCells w ok cs xs) (hok : ok b) (hb : b < w.heap.size) (hc : xs.length ≤ c) (hcell : ∀ i u, cs[i]? = some u → w.cell? ⟨b, i, none⟩ = some u) : SRow w ok (.slice (some ⟨b, 0, none⟩) xs.length c) xs := by
  have hf : ∀ j, ∃ p : Value × Value × Value, ∀ x, xs[j]? = some x → cs[5 * j + 2]? = some p.1 ∧ cs[5 * j + 3]? = some p.2.1 ∧ cs[5 * j + 4]? = some p.2.2 ∧ ERow w ok p.1 x.exprs ∧ SRow w ok p.2.1 x.body ∧ SRow w ok p.2.2 x.els := fun j => by
    cases hx : xs[j]? with
    | none => exact ⟨(undef, undef, undef), fun x h => by cases h⟩
    | some x =>
      obtain ⟨ev, bv, lv, _, _, h2, h3, h4, h5, h6, h7⟩ := h.2 j x hx
      exact ⟨(ev, bv, lv), fun y hy => by cases hy; exact ⟨h2, h3, h4, h5, h6, h7⟩⟩
  refine .row b 0 c xs (fun j => (hf j).choose.1) (fun j => (hf j).choose.2.1) (fun j => (hf j).choose.2.2) hok hb hc (fun j x hj => ?_) (fun j x hj => ((hf j).choose_spec x hj).2.2.2.1) (fun j x hj => ((hf j).choose_spec x hj).2.2.2.2.1) (fun j x hj => ((hf j).choose_spec x hj).2.2.2.2.2)
  obtain ⟨_, _, _, h0, h1, _⟩ := h.2 j x hj
  have hq := (hf j).choose_spec x hj
  simp only [Nat.zero_add]
  exact ⟨hcell _ _ h0, hcell _ _ h1, hcell _ _ hq.1, hcell _ _ hq.2.1, hcell _ _ hq.2.2.1⟩
end

/-- A row of expressions that the call itself makes (element type t), from block n on. -/
def EAcc (t : TypeId) (w : World) (n : Nat) (v : Value) (xs : List Ex) : Prop := ∃ cs, w.ownsRow n t 4 v xs.length cs ∧ ECells w (fun b => n ≤ b ∧ some b ≠ v.ownBlock) cs xs
def SAcc (t : TypeId) (w : World) (n : Nat) (v : Value) (xs : List St) : Prop := ∃ cs, w.ownsRow n t 5 v xs.length cs ∧ SCells w (fun b => n ≤ b ∧ some b ≠ v.ownBlock) cs xs
section
variable {w w1 : World} {t : TypeId} {n : Nat} {v : Value}
theorem EAcc.nil (t : TypeId) (w : World) (n : Nat) : EAcc t w n (.slice none 0 0) [] := ⟨[], World.ownsRow_nil .., .nil _ _⟩
theorem SAcc.nil (t : TypeId) (w : World) (n : Nat) : SAcc t w n (.slice none 0 0) [] := ⟨[], World.ownsRow_nil .., .nil _ _⟩
theorem ownsRow_same {base size k : Nat} {e : TypeId} {xs : List Value} (h : w.ownsRow base e size v k xs) (hm : ∀ k, v.ownBlock = some k → w1.heap[k]? = w.heap[k]?) : w1.ownsRow base e size v k xs := by
  obtain ⟨h1, h2⟩ := h
  refine ⟨h1, ?_⟩
  rcases h2 with h2 | ⟨g, cap, cur, rfl, hg, hh, r⟩
  · exact .inl h2
  · exact .inr ⟨g, cap, cur, rfl, hg, (hm g (by simp [Value.ownBlock])).trans hh, r⟩
theorem ownsRow_block {base size k g : Nat} {e : TypeId} {xs : List Value} (h : w.ownsRow base e size v k xs) (hk : v.ownBlock = some g) : base ≤ g ∧ g < w.heap.size := by
  rcases h.2 with ⟨rfl, _⟩ | ⟨b, cap, cur, rfl, hb, hh, _⟩
  · simp [Value.ownBlock] at hk
  · obtain rfl : b = g := by simpa [Value.ownBlock] using hk
    exact ⟨hb, (Array.getElem?_eq_some_iff.1 hh).1⟩
theorem EAcc.ext {S : Nat → Prop} {xs : List Ex} (h : EAcc t w n v xs) (hx : Ext S w w1) (hS : ∀ b, S b → b < n) : EAcc t w1 n v xs := by
  obtain ⟨cs, ho, hc⟩ := h
  refine ⟨cs, ownsRow_same ho fun k hk => ?_, hc.keep hx.size fun b hb hlt => ⟨hx.block b hlt fun hs => ?_, hb⟩⟩
  · obtain ⟨h1, h2⟩ := ownsRow_block ho hk
    exact hx.block k h2 fun hs => by have := hS k hs; omega
  · have := hS b hs; have := hb.1; omega
theorem SAcc.ext {S : Nat → Prop} {xs : List St} (h : SAcc t w n v xs) (hx : Ext S w w1) (hS : ∀ b, S b → b < n) : SAcc t w1 n v xs := by
  obtain ⟨cs, ho, hc⟩ := h
  refine ⟨cs, ownsRow_same ho fun k hk => ?_, hc.keep hx.size fun b hb hlt => ⟨hx.block b hlt fun hs => ?_, hb⟩⟩
  · obtain ⟨h1, h2⟩ := ownsRow_block ho hk
    exact hx.block k h2 fun hs => by have := hS k hs; omega
  · have := hS b hs; have := hb.1; omega
/-- What was made reads as a row. -/
theorem EAcc.row {xs : List Ex} (h : EAcc t w n v xs) : ERow w (From n) v xs := by
  obtain ⟨cs, ho, hc⟩ := h
  rcases ho.2 with ⟨rfl, h0⟩ | ⟨g, cap, cur, rfl, hg, hh, hl, _, hs, ht⟩
  · obtain rfl : xs = [] := List.eq_nil_of_length_eq_zero h0
    exact .nil' _ _
  · refine .of_cells (hc.keep (ok' := From n) (Nat.le_refl _) fun b hb _ => ⟨rfl, hb.1⟩) hg (Array.getElem?_eq_some_iff.1 hh).1 hl fun i u hu => ?_
    have := ho.cells (g := g) rfl i u hu
    rwa [show (⟨g, 0, none⟩ : Addr).add i = ⟨g, i, none⟩ from by unfold Addr.add; split <;> simp_all] at this
theorem SAcc.row {xs : List St} (h : SAcc t w n v xs) : SRow w (From n) v xs := by
  obtain ⟨cs, ho, hc⟩ := h
  rcases ho.2 with ⟨rfl, h0⟩ | ⟨g, cap, cur, rfl, hg, hh, hl, _, hs, ht⟩
  · obtain rfl : xs = [] := List.eq_nil_of_length_eq_zero h0
    exact .nil' _ _
  · refine .of_cells (hc.keep (ok' := From n) (Nat.le_refl _) fun b hb _ => ⟨rfl, hb.1⟩) hg (Array.getElem?_eq_some_iff.1 hh).1 hl fun i u hu => ?_
    have := ho.cells (g := g) rfl i u hu
    rwa [show (⟨g, 0, none⟩ : Addr).add i = ⟨g, i, none⟩ from by unfold Addr.add; split <;> simp_all] at this
end

/-! ### one element more -/
section
variable {P : Program} {ops : Array Oper} {rest : List Oper} {o : Oper} {a : Act} {Q : Exit → Act → World → Prop}
theorem append_one (W : World) (base : Nat) (hgd : o.guard = none) (s x : Operand) (t e : TypeId) (z : Value) (size bytes : Nat)
    (ho : o.op = .call { callee := .builtin .append, args := #[s, x], argTypes := #[t, t] })
    (ht : P.underlying t = some (.slice e)) (hinfo : (P.info? e).map (fun i => (i.zero, i.size, i.bytes)) = some (some z, size, bytes)) (hz : z.cells.size = size) (hs0 : 0 < size) (hb0 : 0 < bytes)
    (v : Value) (n : Nat) (xs ys : List Value) (hs : a.eval s = v) (hx : a.eval x = .slice (some ⟨W.heap.size, 0, none⟩) 1 1) (hys : ys.length = size) (h1 : ∀ u ∈ ys, u.oneCell' = true)
    (HO : W.ownsRow base e size v n xs) (hbase : base ≤ W.heap.size) (hl : (n + 1) * bytes ≤ 140737488355328)
    (h : ∀ v1 w1, w1.ownsRow base e size v1 (n + 1) (xs ++ ys) → W.grownBy w1 v.ownBlock → (v1.ownBlock = v.ownBlock ∨ ∃ b, v1.ownBlock = some b ∧ W.heap.size ≤ b) → wpList P ops Q rest (a.put o.dst v1) w1) :
    wpList P ops Q (o :: rest) a (W.alloc (.cells ys.toArray e)) := by
  obtain ⟨i0, hi, hzz⟩ := Option.map_eq_some_iff.1 hinfo
  simp only [Prod.mk.injEq] at hzz
  obtain ⟨hz0, hz1, hz2⟩ := hzz
  have hlen : n + 1 ≤ 140737488355328 := Nat.le_trans (Nat.le_mul_of_pos_right _ hb0) hl
  refine wpList_append_own_at (W.alloc (.cells ys.toArray e)) hgd s x t ho base e i0 z size bytes ht hi hz0 hz1 hz2 hz hs0 v n xs hs (HO.alloc _) ⟨W.heap.size, 0, none⟩ 1 1 ys hx (by rw [hys]; simp)
    (fun j u hj => ?_) h1 (by simp only [maxLen]; omega) hl (by simp; omega) ?_
  · rw [show (⟨W.heap.size, 0, none⟩ : Addr).add j = ⟨W.heap.size, j, none⟩ from by unfold Addr.add; split <;> simp_all]
    simp [hj]
  intro v1 w1 hown hg _ hat
  refine h v1 w1 hown (World.grownBy.trans (World.grownBy_alloc W _ _) hg) ?_
  rcases hat with hat | hat
  · exact .inl hat
  · exact .inr ⟨_, hat, by simp⟩
end
theorem EAcc.grow {t : TypeId} {W w1 : World} {n : Nat} {v v1 : Value} {xs : List Ex} {x : Ex} {kv : Value} {cs : List Value} (hc : ECells W (fun b => n ≤ b ∧ some b ≠ v.ownBlock) cs xs) (hx : ERow W (fun b => n ≤ b ∧ some b ≠ v.ownBlock) kv x.kids)
    (hown : w1.ownsRow n t 4 v1 (xs.length + 1) (cs ++ [.int .i64 x.kind, .int .i64 x.num, .string (ba x.name), kv])) (hg : W.grownBy w1 v.ownBlock) (hat : v1.ownBlock = v.ownBlock ∨ ∃ b, v1.ownBlock = some b ∧ W.heap.size ≤ b) : EAcc t w1 n v1 (xs ++ [x]) := by
  refine ⟨_, by rw [List.length_append]; exact hown, (hc.snoc hx).keep hg.size fun b hb hlt => ⟨hg.block b hlt hb.2, hb.1, ?_⟩⟩
  rcases hat with h | ⟨b', h, hle⟩
  · rw [h]; exact hb.2
  · rw [h]; intro e; injection e with e; omega
theorem SAcc.grow {t : TypeId} {W w1 : World} {n : Nat} {v v1 : Value} {xs : List St} {x : St} {ev bv lv : Value} {cs : List Value} (hc : SCells W (fun b => n ≤ b ∧ some b ≠ v.ownBlock) cs xs) (he : ERow W (fun b => n ≤ b ∧ some b ≠ v.ownBlock) ev x.exprs) (hb : SRow W (fun b => n ≤ b ∧ some b ≠ v.ownBlock) bv x.body) (hl : SRow W (fun b => n ≤ b ∧ some b ≠ v.ownBlock) lv x.els)
    (hown : w1.ownsRow n t 5 v1 (xs.length + 1) (cs ++ [.int .i64 x.kind, .string (ba x.name), ev, bv, lv])) (hg : W.grownBy w1 v.ownBlock) (hat : v1.ownBlock = v.ownBlock ∨ ∃ b, v1.ownBlock = some b ∧ W.heap.size ≤ b) : SAcc t w1 n v1 (xs ++ [x]) := by
  refine ⟨_, by rw [List.length_append]; exact hown, (hc.snoc he hb hl).keep hg.size fun b hb hlt => ⟨hg.block b hlt hb.2, hb.1, ?_⟩⟩
  rcases hat with h | ⟨b', h, hle⟩
  · rw [h]; exact hb.2
  · rw [h]; intro e; injection e with e; omega
theorem ERow.apart {w : World} {n m : Nat} {v u : Value} {xs : List Ex} (h : ERow w (From m) v xs) (hn : n ≤ m) (hu : ∀ k, u.ownBlock = some k → k < m) : ERow w (fun b => n ≤ b ∧ some b ≠ u.ownBlock) v xs :=
  h.keep (Nat.le_refl _) fun b hb _ => ⟨rfl, Nat.le_trans hn hb, fun e => by have := hu b e.symm; have : m ≤ b := hb; omega⟩
theorem SRow.apart {w : World} {n m : Nat} {v u : Value} {xs : List St} (h : SRow w (From m) v xs) (hn : n ≤ m) (hu : ∀ k, u.ownBlock = some k → k < m) : SRow w (fun b => n ≤ b ∧ some b ≠ u.ownBlock) v xs :=
  h.keep (Nat.le_refl _) fun b hb _ => ⟨rfl, Nat.le_trans hn hb, fun e => by have := hu b e.symm; have : m ≤ b := hb; omega⟩
theorem EAcc.slice {t : TypeId} {w : World} {n : Nat} {v : Value} {xs : List Ex} (h : EAcc t w n v xs) : ∃ A c, v = .slice A xs.length c := by
  obtain ⟨A, c, e, _⟩ := h.row.slice
  exact ⟨A, c, e⟩
theorem SAcc.slice {t : TypeId} {w : World} {n : Nat} {v : Value} {xs : List St} (h : SAcc t w n v xs) : ∃ A c, v = .slice A xs.length c := by
  obtain ⟨A, c, e, _⟩ := h.row.slice
  exact ⟨A, c, e⟩
theorem EAcc.block {t : TypeId} {w : World} {n : Nat} {v : Value} {xs : List Ex} (h : EAcc t w n v xs) : ∀ k, v.ownBlock = some k → n ≤ k ∧ k < w.heap.size := fun k hk => by
  obtain ⟨cs, ho, _⟩ := h
  exact ownsRow_block ho hk
theorem SAcc.block {t : TypeId} {w : World} {n : Nat} {v : Value} {xs : List St} (h : SAcc t w n v xs) : ∀ k, v.ownBlock = some k → n ≤ k ∧ k < w.heap.size := fun k hk => by
  obtain ⟨cs, ho, _⟩ := h
  exact ownsRow_block ho hk
end Go.BW
