/- The reference's reader: its state in memory, what a call of it may have turned, its small methods. The reference's reader: its small methods, walked at exact states: is, kind, stop, take, must. The reference's Value. The reference's reader: name, number. A method of the reader's under way: its local blocks and the trees that it holds; its result. The reference's reader: said. -/
import Derived.Test.YtdijffojppjmfaaDoorSx
import Derived.Test.YtdijffojppjmfaaDoorRa
import Derived.Test.YtdijffojppjmfaaDoorUa
import Derived.Test.YtdijffojppjmfaaDoorPk
import Derived.BigQuiet
import Derived.Test.YtdijffojppjmfaaDoorQc
import Derived.Deep.RegionLaw
import Derived.Test.YtdijffojppjmfaaDoorWLast
set_option linter.unusedVariables false
set_option linter.unusedSimpArgs false
namespace Go.BW
open Go.RowKit Bir
/-- A block that holds spans. -/
def isSpan (w : World) (b : Nat) : Prop := ∃ cs fr, w.heap[b]? = some (.cells cs 47 fr)
theorem isSpan.lt {w : World} {b : Nat} (h : isSpan w b) : b < w.heap.size := by
  obtain ⟨cs, fr, h⟩ := h
  exact (Array.getElem?_eq_some_iff.1 h).1
theorem isSpan.same {w w1 : World} {b : Nat} (h : w1.heap[b]? = w.heap[b]?) : isSpan w1 b ↔ isSpan w b := by unfold isSpan; rw [h]
theorem isSpan.setCell (w : World) (p : Addr) (v : Value) (b : Nat) : isSpan (w.setCell p v) b ↔ isSpan w b := by
  by_cases hb : b = p.block
  · subst hb
    unfold isSpan World.setCell
    simp only [Array.getElem?_modify, if_true]
    cases hh : w.heap[p.block]? with
    | none => simp
    | some o => cases o <;> simp
  · exact isSpan.same (Below.heap_setCell w p v b hb)
/-- What a call of the reader's may have turned: the reader's block, blocks of spans, and what is new. -/
structure RX (rb : Nat) (w w' : World) : Prop where
  ext : Ext (fun b => b = rb ∨ (rb < b ∧ isSpan w b)) w w'
section
variable {rb : Nat} {w w1 w2 : World}
theorem RX.refl (rb : Nat) (w : World) : RX rb w w := ⟨Ext.refl _ w⟩
theorem RX.old (h : RX rb w w1) {b : Nat} (hb : b < w.heap.size) (hr : b ≠ rb) (h1 : isSpan w1 b) : isSpan w b := by
  by_cases hs : isSpan w b
  · exact hs
  · exact (isSpan.same (h.ext.block b hb (fun hh => hh.elim hr fun q => hs q.2))).1 h1
theorem RX.trans (h : RX rb w w1) (k : RX rb w1 w2) : RX rb w w2 := by
  refine ⟨h.ext.trans k.ext fun i hi => ?_⟩
  rcases hi with rfl | hi
  · exact .inl (.inl rfl)
  · rcases Nat.lt_or_ge i w.heap.size with hlt | hge
    · by_cases hr : i = rb
      · exact .inl (.inl hr)
      · exact .inl (.inr ⟨hi.1, h.old hlt hr hi.2⟩)
    · exact .inr hge
theorem RX.of_below (h : Below w.heap.size w w1) : RX rb w w1 := ⟨Ext.of_below h _⟩
theorem RX.below (h : RX rb w w1) (k : Below w1.heap.size w1 w2) : RX rb w w2 := h.trans (.of_below k)
theorem RX.alloc (h : RX rb w w1) (o : Obj) : RX rb w (w1.alloc o) := h.below ((Below.refl _ _).alloc (Nat.le_refl _) _)
theorem RX.drew (h : RX rb w w1) : RX rb w w1.drew := h.below (Below.refl _ _).drew
theorem RX.set (h : RX rb w w1) {p : Addr} (hp : p.block = rb ∨ w.heap.size ≤ p.block) (v : Value) : RX rb w (w1.setCell p v) :=
  ⟨h.ext.setCell (hp.imp (fun e => .inl e) id) v⟩
end
/-- Blocks that trees may lie in. -/
def okT (w : World) (n : Nat) (b : Nat) : Prop := n ≤ b ∧ ¬ isSpan w b
section
variable {rb n : Nat} {w w1 w2 : World} {v : Value}
theorem erow_rx {xs : List Ex} (h : ERow w (okT w n) v xs) (hx : RX rb w w1) (hr : rb < n) : ERow w1 (okT w1 n) v xs :=
  h.keep hx.ext.size fun b hb hl => ⟨hx.ext.block b hl (fun hh => hh.elim (fun e => by have := hb.1; omega) fun q => hb.2 q.2), hb.1, fun hs => hb.2 (hx.old hl (by have := hb.1; omega) hs)⟩
theorem srow_rx {xs : List St} (h : SRow w (okT w n) v xs) (hx : RX rb w w1) (hr : rb < n) : SRow w1 (okT w1 n) v xs :=
  h.keep hx.ext.size fun b hb hl => ⟨hx.ext.block b hl (fun hh => hh.elim (fun e => by have := hb.1; omega) fun q => hb.2 q.2), hb.1, fun hs => hb.2 (hx.old hl (by have := hb.1; omega) hs)⟩
theorem erow_low {m : Nat} {xs : List Ex} (h : ERow w (okT w n) v xs) (hm : m ≤ n) : ERow w (okT w m) v xs := h.keep (Nat.le_refl _) fun b hb _ => ⟨rfl, Nat.le_trans hm hb.1, hb.2⟩
theorem srow_low {m : Nat} {xs : List St} (h : SRow w (okT w n) v xs) (hm : m ≤ n) : SRow w (okT w m) v xs := h.keep (Nat.le_refl _) fun b hb _ => ⟨rfl, Nat.le_trans hm hb.1, hb.2⟩
end
abbrev cells6 (w : World) (b : Nat) (x0 x1 x2 x3 x4 x5 : Value) : Prop := w.cell? ⟨b, 0, none⟩ = some x0 ∧ w.cell? ⟨b, 1, none⟩ = some x1 ∧ w.cell? ⟨b, 2, none⟩ = some x2 ∧ w.cell? ⟨b, 3, none⟩ = some x3 ∧ w.cell? ⟨b, 4, none⟩ = some x4 ∧ w.cell? ⟨b, 5, none⟩ = some x5
def spanCells (l : List (Nat × Nat)) : List Value := l.flatMap fun p => [.int .i64 p.1, .int .i64 p.2]
/-- The reader at block rb: all tokens (they lie in block tb), the string's length, and where it is, what is wrong, where, and the spans. -/
structure RSt (w : World) (rb tb e : Nat) (T : List Tok) (at_ k pos : Nat) (sp : List (Nat × Nat)) : Prop where
  rb_lt : rb < w.heap.size
  fz : ∀ o, w.frozen? ⟨rb, o, none⟩ = false
  at_le : at_ ≤ T.length
  len : T.length ≤ 20001
  splen : sp.length ≤ 1000000000
  wf : ∀ t ∈ T, t.ok
  noS : ¬ isSpan w rb
  toks : T ≠ [] → tb < w.heap.size ∧ tb ≠ rb ∧ ¬ isSpan w tb ∧ ToksAt w tb 0 T
  cells : ∃ A c v, cells6 w rb (.slice A T.length c) (.int .i64 e) (.int .i64 at_) (.int .i64 k) (.int .i64 pos) v ∧ T.length ≤ c ∧ (T ≠ [] → A = some ⟨tb, 0, none⟩) ∧ w.ownsRow (rb + 1) 47 2 v sp.length (spanCells sp)
section
variable {w w1 : World} {rb tb e at_ k pos : Nat} {T : List Tok} {sp : List (Nat × Nat)}
theorem own_span {base n : Nat} {v : Value} {cs : List Value} (h : w.ownsRow base 47 2 v n cs) {g : Nat} (hg : v.ownBlock = some g) : isSpan w g := by
  rcases h.2 with ⟨rfl, _⟩ | ⟨b, cap, cur, rfl, _, hh, _⟩
  · simp [Value.ownBlock] at hg
  · obtain rfl : b = g := by simpa [Value.ownBlock] using hg
    exact ⟨_, _, hh⟩
theorem RSt.below (h : RSt w rb tb e T at_ k pos sp) (hb : Below w.heap.size w w1) : RSt w1 rb tb e T at_ k pos sp := by
  obtain ⟨A, c, v, ⟨q0, q1, q2, q3, q4, q5⟩, h2, h3, h4⟩ := h.cells
  have E := Ext.of_below hb (fun _ => False)
  refine ⟨Nat.lt_of_lt_of_le h.rb_lt hb.size, frz_ext h.fz E h.rb_lt id, h.at_le, h.len, h.splen, h.wf, fun hs => h.noS ((isSpan.same (hb.block rb h.rb_lt)).1 hs), fun hn => ?_, A, c, v, ⟨cell_ext q0 E id, cell_ext q1 E id, cell_ext q2 E id, cell_ext q3 E id, cell_ext q4 E id, cell_ext q5 E id⟩, h2, h3, ?_⟩
  · obtain ⟨a, b, c, d⟩ := h.toks hn
    exact ⟨Nat.lt_of_lt_of_le a hb.size, b, fun hs => c ((isSpan.same (hb.block tb a)).1 hs), d.keep (hb.block tb a)⟩
  · exact ownsRow_same h4 fun g hg => hb.block g (ownsRow_block h4 hg).2
theorem RSt.drew (h : RSt w rb tb e T at_ k pos sp) : RSt w.drew rb tb e T at_ k pos sp := h.below (Below.refl _ _).drew
theorem RSt.alloc (h : RSt w rb tb e T at_ k pos sp) (o : Obj) : RSt (w.alloc o) rb tb e T at_ k pos sp := h.below ((Below.refl _ _).alloc (Nat.le_refl _) _)
/-- The next token's cells. -/
theorem RSt.tok (h : RSt w rb tb e T at_ k pos sp) (hlt : at_ < T.length) : ∃ c v, cells6 w rb (.slice (some ⟨tb, 0, none⟩) T.length c) (.int .i64 e) (.int .i64 at_) (.int .i64 k) (.int .i64 pos) v ∧ T.length ≤ c ∧
    w.cell? ⟨tb, at_ * 3, none⟩ = some (.int .i64 T[at_].kind) ∧ w.cell? ⟨tb, at_ * 3 + 1, none⟩ = some (.string (ba T[at_].text)) ∧ w.cell? ⟨tb, at_ * 3 + 2, none⟩ = some (.int .i64 T[at_].off) := by
  have hn : T ≠ [] := fun h0 => by rw [h0] at hlt; simp at hlt
  obtain ⟨A, c, v, q, h2, h3, h4⟩ := h.cells
  obtain ⟨a, b, d, ht⟩ := h.toks hn
  obtain ⟨t0, t1, t2⟩ := ht at_ T[at_] (List.getElem?_eq_getElem hlt)
  rw [Nat.zero_add, Nat.mul_comm 3 at_] at t0 t1 t2
  rw [h3 hn] at q
  exact ⟨c, v, q, h2, t0, t1, t2⟩
end
end Go.BW
set_option linter.unusedVariables false
set_option linter.unusedSimpArgs false
namespace Go.BW
open Go.RowKit Bir Go.Proofs.YtdijffojppjmfaaDoor
abbrev RM (w : World) (rb tb e : Nat) (T : List Tok) (s : RS) : Prop := RSt w rb tb e T s.at_ s.k s.pos s.sp
theorem below_dn0 (w : World) (k : Nat) : Below w.heap.size w (w.drewN k) := ⟨rfl, rfl, rfl, Nat.le_refl _, fun _ _ => rfl⟩
theorem below_dn2 (w : World) (j k : Nat) : Below w.heap.size w ((w.drewN j).drewN k) := ⟨rfl, rfl, rfl, Nat.le_refl _, fun _ _ => rfl⟩
section
variable {w w1 : World} {rb tb e a k pos : Nat} {T : List Tok} {sp : List (Nat × Nat)}
theorem RSt.set (h : RSt w rb tb e T a k pos sp) {o : Nat} {x : Value} {a' k' pos' : Nat} (ha : a' ≤ T.length)
    (hc : ∀ A v, cells6 w rb A (.int .i64 e) (.int .i64 a) (.int .i64 k) (.int .i64 pos) v → cells6 (w.setCell ⟨rb, o, none⟩ x) rb A (.int .i64 e) (.int .i64 a') (.int .i64 k') (.int .i64 pos') v) :
    RSt (w.setCell ⟨rb, o, none⟩ x) rb tb e T a' k' pos' sp := by
  obtain ⟨A, c, v, q, h2, h3, h4⟩ := h.cells
  refine ⟨by simpa [World.setCell] using h.rb_lt, fun o' => by rw [World.frozen?_setCell]; exact h.fz o', ha, h.len, h.splen, h.wf, fun hs => h.noS ((isSpan.setCell _ _ _ _).1 hs), fun hn => ?_, A, c, v, hc _ v q, h2, h3, ?_⟩
  · obtain ⟨p, q, r, s⟩ := h.toks hn
    exact ⟨by simpa [World.setCell] using p, q, fun hs => r ((isSpan.setCell _ _ _ _).1 hs), s.keep (Below.heap_setCell w _ _ tb q)⟩
  · exact ownsRow_same h4 fun g hg => Below.heap_setCell w _ _ g (fun hgr : g = rb => h.noS (hgr ▸ own_span h4 hg))
theorem RSt.set2 (h : RSt w rb tb e T a k pos sp) (a' : Nat) (ha : a' ≤ T.length) : RSt (w.setCell ⟨rb, 2, none⟩ (.int .i64 a')) rb tb e T a' k pos sp :=
  h.set ha fun A v ⟨q0, q1, q2, q3, q4, q5⟩ => ⟨(World.cell?_setCell_other _ _ _ _ (by simp)).trans q0, (World.cell?_setCell_other _ _ _ _ (by simp)).trans q1, cell_same_set q2, (World.cell?_setCell_other _ _ _ _ (by simp)).trans q3, (World.cell?_setCell_other _ _ _ _ (by simp)).trans q4, (World.cell?_setCell_other _ _ _ _ (by simp)).trans q5⟩
theorem RSt.set3 (h : RSt w rb tb e T a k pos sp) (k' : Nat) : RSt (w.setCell ⟨rb, 3, none⟩ (.int .i64 k')) rb tb e T a k' pos sp :=
  h.set h.at_le fun A v ⟨q0, q1, q2, q3, q4, q5⟩ => ⟨(World.cell?_setCell_other _ _ _ _ (by simp)).trans q0, (World.cell?_setCell_other _ _ _ _ (by simp)).trans q1, (World.cell?_setCell_other _ _ _ _ (by simp)).trans q2, cell_same_set q3, (World.cell?_setCell_other _ _ _ _ (by simp)).trans q4, (World.cell?_setCell_other _ _ _ _ (by simp)).trans q5⟩
theorem RSt.set4 (h : RSt w rb tb e T a k pos sp) (pos' : Nat) : RSt (w.setCell ⟨rb, 4, none⟩ (.int .i64 pos')) rb tb e T a k pos' sp :=
  h.set h.at_le fun A v ⟨q0, q1, q2, q3, q4, q5⟩ => ⟨(World.cell?_setCell_other _ _ _ _ (by simp)).trans q0, (World.cell?_setCell_other _ _ _ _ (by simp)).trans q1, (World.cell?_setCell_other _ _ _ _ (by simp)).trans q2, (World.cell?_setCell_other _ _ _ _ (by simp)).trans q3, cell_same_set q4, (World.cell?_setCell_other _ _ _ _ (by simp)).trans q5⟩
end
end Go.BW
namespace Go.Proofs.YtdijffojppjmfaaDoor
open Go.RowKit Bir Go.BW
section
variable {w : World} {rb tb e a k pos : Nat} {T : List Tok} {s : RS} {sp : List (Nat × Nat)}
set_option maxHeartbeats 8000000 in
set_option maxRecDepth 100000 in
theorem ris_calls (h : RM w rb tb e T s) (t0 : Str) :
    Calls Tryd.prog 76 #[pp rb, .string (ba t0)] w fun r w' => r = .returned (.bool (Bir.is t0 (s.next T))) ∧ Below w.heap.size w w' := by
  by_cases hk : s.k = 0
  · by_cases hlt : s.at_ < T.length
    · rw [RS.next_at hk hlt]
      obtain ⟨a, k, pos, sp⟩ := s
      replace h : RSt w rb tb e T a k pos sp := h
      replace hlt : a < T.length := hlt
      obtain rfl : k = 0 := hk
      show Calls Tryd.prog 76 #[pp rb, .string (ba t0)] w fun r w' => r = .returned (.bool (Bir.is t0 (T[a] :: T.drop (a + 1)))) ∧ Below w.heap.size w w'
      obtain ⟨c, v, ⟨q0, q1, q2, q3, q4, q5⟩, h2, u0, u1, u2⟩ := h.tok hlt
      have hl := h.len
      have e1 : decide ((a : Int) < (T.length : Int)) = true := by simp; omega
      have e3 : (0 : Int) ≤ (a : Int) := by omega
      have e4 : (a : Int) < (T.length : Int) := by omega
      rw [show Bir.is t0 (T[a] :: T.drop (a + 1)) = ((T[a].kind == 4 || T[a].kind == 2) && T[a].text == t0) from rfl]
      clear h
      generalize T[a] = t at u0 u1 u2 ⊢
      by_cases hs : t.text = t0
      · have es : (t.text == t0) = true := by rw [hs]; exact beq_self_eq_true _
        by_cases k2 : t.kind = 2
        · have e2 : ((t.kind : Int) == 2) = true := by simp [k2]
          have hf : ((t.kind == 4 || t.kind == 2) && t.text == t0) = true := by simp [k2, hs]
          rw [hf]
          clear k2 hf hs
          go_enter Tryd.func76, Tryd.ntmps76
          go_wp2_with fail
          go_quiet (fail)
          go_wp2_with fail
          go_ret
          exact ⟨rfl, below_dn0 _ _⟩
        · have e2 : ((t.kind : Int) == 2) = false := beq_eq_false_iff_ne.2 (by omega)
          have hf : ((t.kind == 4 || t.kind == 2) && t.text == t0) = ((t.kind : Int) == 4) := by
            by_cases k4 : t.kind = 4
            · simp [k4, hs]
            · have : ((t.kind : Int) == 4) = false := beq_eq_false_iff_ne.2 (by omega)
              simp [k4, k2, this]
          rw [hf]
          clear k2 hf hs
          go_enter Tryd.func76, Tryd.ntmps76
          go_wp2_with fail
          go_quiet (fail)
          go_wp2_with fail
          go_ret
          exact ⟨rfl, below_dn0 _ _⟩
      · have es : (t.text == t0) = false := beq_eq_false_iff_ne.2 hs
        have hf : ((t.kind == 4 || t.kind == 2) && t.text == t0) = false := by simp [hs]
        rw [hf]
        clear hf hs
        go_enter Tryd.func76, Tryd.ntmps76
        go_wp2_with fail
        go_quiet (fail)
        go_wp2_with fail
        go_ret
        exact ⟨rfl, below_dn0 _ _⟩
    · rw [RS.next_end (by omega)]
      obtain ⟨a, k, pos, sp⟩ := s
      replace h : RSt w rb tb e T a k pos sp := h
      replace hlt : ¬ a < T.length := hlt
      obtain rfl : k = 0 := hk
      obtain ⟨A, c, v, ⟨q0, q1, q2, q3, q4, q5⟩, h2, h3, h4⟩ := h.cells
      have e1 : decide (a < T.length) = false := decide_eq_false hlt
      show Calls Tryd.prog 76 #[pp rb, .string (ba t0)] w fun r w' => r = .returned (.bool false) ∧ Below w.heap.size w w'
      clear h2 h3 h4 h hlt
      go_enter Tryd.func76, Tryd.ntmps76
      go_wp2_with fail
      go_quiet (fail)
      go_wp2_with fail
      go_ret
      exact ⟨rfl, below_dn0 _ _⟩
  · rw [RS.next_no hk]
    obtain ⟨a, k, pos, sp⟩ := s
    replace h : RSt w rb tb e T a k pos sp := h
    replace hk : k ≠ 0 := hk
    obtain ⟨A, c, v, ⟨q0, q1, q2, q3, q4, q5⟩, h2, h3, h4⟩ := h.cells
    have e0 : ((k : Int) == 0) = false := beq_eq_false_iff_ne.2 (by omega)
    show Calls Tryd.prog 76 #[pp rb, .string (ba t0)] w fun r w' => r = .returned (.bool false) ∧ Below w.heap.size w w'
    clear h2 h3 h4 h hk
    go_enter Tryd.func76, Tryd.ntmps76
    go_wp2_with fail
    go_quiet (fail)
    go_wp2_with fail
    go_ret
    exact ⟨rfl, below_dn0 _ _⟩
set_option maxHeartbeats 8000000 in
set_option maxRecDepth 100000 in
theorem rkind_quiet (h : RM w rb tb e T s) :
    Calls Tryd.prog 110 #[pp rb] w fun r w' => r = .returned (.int .i64 (kindOf (s.next T))) ∧ ∃ n, w' = w.drewN n := by
  by_cases hk : s.k = 0
  · by_cases hlt : s.at_ < T.length
    · rw [RS.next_at hk hlt]
      obtain ⟨a, k, pos, sp⟩ := s
      replace h : RSt w rb tb e T a k pos sp := h
      replace hlt : a < T.length := hlt
      obtain rfl : k = 0 := hk
      show Calls Tryd.prog 110 #[pp rb] w fun r w' => r = .returned (.int .i64 T[a].kind) ∧ ∃ n, w' = w.drewN n
      obtain ⟨c, v, ⟨q0, q1, q2, q3, q4, q5⟩, h2, u0, u1, u2⟩ := h.tok hlt
      have e1 : decide (T.length ≤ a) = false := decide_eq_false (by omega)
      have e3 : (0 : Int) ≤ (a : Int) := by omega
      have e4 : (a : Int) < (T.length : Int) := by omega
      clear h
      generalize T[a] = t at u0 u1 u2 ⊢
      go_enter Tryd.func110, Tryd.ntmps110
      go_wp2_with fail
      go_quiet (fail)
      go_wp2_with fail
      go_quiet (fail)
      go_wp2_with fail
      go_ret
      exact ⟨rfl, _, World.drewN_drewN _ _ _⟩
    · rw [RS.next_end (by omega)]
      obtain ⟨a, k, pos, sp⟩ := s
      replace h : RSt w rb tb e T a k pos sp := h
      replace hlt : ¬ a < T.length := hlt
      obtain rfl : k = 0 := hk
      obtain ⟨A, c, v, ⟨q0, q1, q2, q3, q4, q5⟩, h2, h3, h4⟩ := h.cells
      have e1 : decide (T.length ≤ a) = true := decide_eq_true (by omega)
      show Calls Tryd.prog 110 #[pp rb] w fun r w' => r = .returned (.int .i64 0) ∧ ∃ n, w' = w.drewN n
      clear h2 h3 h4 h hlt
      go_enter Tryd.func110, Tryd.ntmps110
      go_wp2_with fail
      go_quiet (fail)
      go_wp2_with fail
      go_ret
      exact ⟨rfl, _, rfl⟩
  · rw [RS.next_no hk]
    obtain ⟨a, k, pos, sp⟩ := s
    replace h : RSt w rb tb e T a k pos sp := h
    replace hk : k ≠ 0 := hk
    obtain ⟨A, c, v, ⟨q0, q1, q2, q3, q4, q5⟩, h2, h3, h4⟩ := h.cells
    have e0 : ((k : Int) != 0) = true := bne_iff_ne.2 (by omega)
    show Calls Tryd.prog 110 #[pp rb] w fun r w' => r = .returned (.int .i64 0) ∧ ∃ n, w' = w.drewN n
    clear h2 h3 h4 h hk
    go_enter Tryd.func110, Tryd.ntmps110
    go_wp2_with fail
    go_quiet (fail)
    go_wp2_with fail
    go_ret
    exact ⟨rfl, _, rfl⟩
theorem rkind_calls (h : RM w rb tb e T s) :
    Calls Tryd.prog 110 #[pp rb] w fun r w' => r = .returned (.int .i64 (kindOf (s.next T))) ∧ Below w.heap.size w w' := by
  refine (rkind_quiet h).mono ?_
  rintro en w' ⟨rfl, n, rfl⟩
  exact ⟨rfl, below_dn0 _ _⟩
set_option maxHeartbeats 8000000 in
set_option maxRecDepth 100000 in
theorem rstop_calls (h : RM w rb tb e T s) (c0 : Nat) (hc0 : c0 ≠ 0) :
    Calls Tryd.prog 46 #[pp rb, .int .i64 c0] w fun r w' => r = .returned (.tuple #[]) ∧ RX rb w w' ∧ RM w' rb tb e T (s.stop T e c0) := by
  obtain ⟨a, k, pos, sp⟩ := s
  replace h : RSt w rb tb e T a k pos sp := h
  by_cases hk : k = 0
  · subst hk
    have hf := h.fz
    have hrb := h.rb_lt
    by_cases hlt : a < T.length
    · obtain ⟨c, v, ⟨q0, q1, q2, q3, q4, q5⟩, h2, t0, t1, t2⟩ := h.tok hlt
      have hn : T ≠ [] := fun h0 => by rw [h0] at hlt; simp at hlt
      have htb := (h.toks hn).1
      have hne := (h.toks hn).2.1
      have hd : T.drop a = T[a] :: T.drop (a + 1) := List.drop_eq_getElem_cons hlt
      have hS : (RS.mk a 0 pos sp).stop T e c0 = ⟨a, c0, T[a].off, sp⟩ := by unfold RS.stop; rw [if_pos rfl, hd]; rfl
      rw [hS]
      show Calls Tryd.prog 46 #[pp rb, .int .i64 c0] w fun r w' => r = .returned (.tuple #[]) ∧ RX rb w w' ∧ RSt w' rb tb e T a c0 T[a].off sp
      have e1 : decide (a < T.length) = true := decide_eq_true hlt
      have e3 : (0 : Int) ≤ (a : Int) := by omega
      have e4 : (a : Int) < (T.length : Int) := by omega
      have H := Lib.hid h
      have HN := Lib.hid hn
      clear hS hd h hn
      generalize T[a] = t at t0 t1 t2 ⊢
      go_enter Tryd.func46, Tryd.ntmps46
      go_wp2_with fail
      have E3 := (Ext.refl (fun b => b = rb) w).setCell (p := ⟨rb, 3, none⟩) (.inl rfl) (.int .i64 c0)
      have E4 := E3.setCell (p := ⟨rb, 4, none⟩) (.inl rfl) (.int .i64 e)
      have HA := Lib.hid (((H.out.set3 c0).set4 e))
      have HX := Lib.hid ((((RX.refl rb w).set (p := ⟨rb, 3, none⟩) (.inl rfl) (.int .i64 c0)).set (p := ⟨rb, 4, none⟩) (.inl rfl) (.int .i64 e)))
      have u0 := (cell_ext (b := tb) (o := a * 3) t0 E4 (fun h => hne h))
      have u2 := (cell_ext (b := tb) (o := a * 3 + 2) t2 E4 (fun h => hne h))
      generalize (w.setCell ⟨rb, 3, none⟩ (.int .i64 c0)).setCell ⟨rb, 4, none⟩ (.int .i64 e) = W at HA HX u0 u2 ⊢
      clear t0 t1 t2 E3 E4 q0 q1 q2 q3 q4 q5
      obtain ⟨A, c', v', ⟨q0, q1, q2, q3, q4, q5⟩, h2', h3', h4'⟩ := HA.out.cells
      obtain rfl := h3' HN.out
      clear h4' h2' h3'
      go_quiet (fail)
      rename_i nq
      have HB := Lib.hid (fun n => HA.out.below (below_dn0 W n))
      have HY := Lib.hid (fun n => HX.out.below (below_dn0 W n))
      have f1 : ∀ o, W.frozen? ⟨rb, o, none⟩ = false := HA.out.fz
      clear HA HX hf
      go_wp2_with fail
      go_region
      all_goals
        go_wp2_with fail
        go_end0
        exact ⟨rfl, (HY.out _).set (p := ⟨rb, 4, none⟩) (.inl rfl) _, (HB.out _).set4 t.off⟩
    · obtain ⟨A0, c, v, ⟨q0, q1, q2, q3, q4, q5⟩, h2, h3, h4⟩ := h.cells
      have hS : (RS.mk a 0 pos sp).stop T e c0 = ⟨a, c0, e, sp⟩ := by unfold RS.stop; rw [if_pos rfl, List.drop_eq_nil_of_le (Nat.le_of_not_lt hlt)]; rfl
      rw [hS]
      show Calls Tryd.prog 46 #[pp rb, .int .i64 c0] w fun r w' => r = .returned (.tuple #[]) ∧ RX rb w w' ∧ RSt w' rb tb e T a c0 e sp
      have e1 : decide (a < T.length) = false := decide_eq_false hlt
      have H := Lib.hid h
      clear hS h h2 h3 h4 hlt
      go_enter Tryd.func46, Tryd.ntmps46
      go_wp2_with fail
      have HA := Lib.hid (((H.out.set3 c0).set4 e))
      have HX := Lib.hid ((((RX.refl rb w).set (p := ⟨rb, 3, none⟩) (.inl rfl) (.int .i64 c0)).set (p := ⟨rb, 4, none⟩) (.inl rfl) (.int .i64 e)))
      generalize (w.setCell ⟨rb, 3, none⟩ (.int .i64 c0)).setCell ⟨rb, 4, none⟩ (.int .i64 e) = W at HA HX ⊢
      clear q0 q1 q2 q3 q4 q5
      obtain ⟨A, c', v', ⟨q0, q1, q2, q3, q4, q5⟩, h2', h3', h4'⟩ := HA.out.cells
      clear h4' h2' h3'
      go_quiet (fail)
      rename_i nq
      go_wp2_with fail
      go_end0
      exact ⟨rfl, HX.out.below (below_dn0 W _), HA.out.below (below_dn0 W _)⟩
  · have H := Lib.hid h
    have hS : (RS.mk a k pos sp).stop T e c0 = ⟨a, k, pos, sp⟩ := if_neg hk
    rw [hS]
    obtain ⟨A, c, v, ⟨q0, q1, q2, q3, q4, q5⟩, h2, h3, h4⟩ := h.cells
    have e0 : ((k : Int) != 0) = true := bne_iff_ne.2 (by omega)
    clear h2 h3 h4 h hk hS
    go_enter Tryd.func46, Tryd.ntmps46
    go_wp2_with fail
    (try simp only [Exit.inBlock, Exit.then])
    refine bodyPost_ret (results_none rfl _ _ _) rfl ?_
    exact ⟨rfl, RX.refl _ _, H.out⟩
theorem rtake_no (h : RM w rb tb e T s) (t0 : Str) (hs : Bir.is t0 (s.next T) = false) :
    Calls Tryd.prog 87 #[pp rb, .string (ba t0)] w fun r w' => r = .returned (.bool false) ∧ Below w.heap.size w w' := by
  have H := Lib.hid (ris_calls h t0)
  rw [hs] at H
  clear hs h
  go_enter Tryd.func87, Tryd.ntmps87
  go_wp2_with fail
  refine H.out.mono ?_
  rintro en w1 ⟨rfl, hb1⟩
  go_wp2_with fail
  go_ret
  exact ⟨rfl, hb1⟩
theorem rtake_yes (h : RM w rb tb e T s) (t0 : Str) (hs : Bir.is t0 (s.next T) = true) :
    Calls Tryd.prog 87 #[pp rb, .string (ba t0)] w fun r w' => r = .returned (.bool true) ∧ RX rb w w' ∧ RM w' rb tb e T s.adv := by
  have H := Lib.hid (ris_calls h t0)
  rw [hs] at H
  obtain ⟨hk, hlt⟩ := RS.next_is hs
  obtain ⟨a, k, pos, sp⟩ := s
  replace h : RSt w rb tb e T a k pos sp := h
  replace hlt : a < T.length := hlt
  show Calls Tryd.prog 87 #[pp rb, .string (ba t0)] w fun r w' => r = .returned (.bool true) ∧ RX rb w w' ∧ RSt w' rb tb e T (a + 1) k pos sp
  have HX := Lib.hid (fun w1 (hb : Below w.heap.size w w1) => h.below hb)
  clear hs h hk
  go_enter Tryd.func87, Tryd.ntmps87
  go_wp2_with fail
  refine H.out.mono ?_
  rintro en w1 ⟨rfl, hb1⟩
  have h := HX.out w1 hb1
  have hlen := h.len
  have hf := h.fz
  have hrb := h.rb_lt
  obtain ⟨A, c, v, ⟨q0, q1, q2, q3, q4, q5⟩, h2, h3, h4⟩ := h.cells
  have e2 : IntKind.i64.wrap ((a : Int) + 1) = (a : Int) + 1 := IntWalk.i64_in _ (by omega)
  have HH := Lib.hid h
  have HR := Lib.hid (RX.of_below (rb := rb) hb1)
  clear h2 h3 h4 h hb1
  go_wp2_with fail
  go_ret
  exact ⟨rfl, HR.out.set (p := ⟨rb, 2, none⟩) (.inl rfl) _, HH.out.set2 (a + 1) hlt⟩
theorem rmust_calls (h : RM w rb tb e T s) (t0 : Str) :
    Calls Tryd.prog 78 #[pp rb, .string (ba t0)] w fun r w' => r = .returned (.tuple #[]) ∧ RX rb w w' ∧ RM w' rb tb e T (s.must T e t0) := by
  cases hs : Bir.is t0 (s.next T) with
  | true =>
    have hS : s.must T e t0 = s.adv := if_pos hs
    rw [hS]
    have H := Lib.hid (rtake_yes h t0 hs)
    clear hS hs h
    go_enter Tryd.func78, Tryd.ntmps78
    go_wp2_with fail
    refine H.out.mono ?_
    rintro en w1 ⟨rfl, hx, hr⟩
    go_wp2_with fail
    go_end0
    exact ⟨rfl, hx, hr⟩
  | false =>
    have hS : s.must T e t0 = s.stop T e 4 := if_neg (by rw [hs]; simp)
    rw [hS]
    have H := Lib.hid (rtake_no h t0 hs)
    have HS := Lib.hid (fun w1 (hb : Below w.heap.size w w1) => rstop_calls (RSt.below h hb) 4 (by omega))
    clear hS hs h
    go_enter Tryd.func78, Tryd.ntmps78
    go_wp2_with fail
    refine H.out.mono ?_
    rintro en w1 ⟨rfl, hb1⟩
    go_wp2_with fail
    refine (HS.out w1 hb1).mono ?_
    rintro en w2 ⟨rfl, hx, hr⟩
    go_wp2_with fail
    go_end0
    exact ⟨rfl, (RX.of_below hb1).trans hx, hr⟩
end
end Go.Proofs.YtdijffojppjmfaaDoor
set_option linter.unusedVariables false
set_option linter.unusedSimpArgs false
namespace Go.Proofs.YtdijffojppjmfaaDoor
open Go.RowKit Bir Go.BW
def RNumIs (v : Option Nat) (r : Ending) : Prop :=
  match v with
  | some n => r = .returned (.tuple #[.int .i64 n, .bool true])
  | none => r = .returned (.tuple #[.int .i64 0, .bool false])
set_option maxHeartbeats 8000000 in
set_option maxRecDepth 100000 in
theorem rvalue_calls (s : Str) (w : World) (hs : s.length ≤ 1000000) (hd : ∀ c ∈ s, digitB c = true) :
    Calls Tryd.prog 111 #[.string (ba s)] w fun r w' => RNumIs (value s) r ∧ w' = w := by
  have HD := Lib.hid hd
  clear hd
  go_enter Tryd.func111, Tryd.ntmps111
  go_wp2_with fail
  go_loopw [4, 5] (fun nv i wr => ∃ k n : Nat, k ≤ s.length ∧ n ≤ 9223372036854775807 ∧ nv = .int .i64 n ∧ i = .int .i64 k ∧ Hid (valueF n (s.drop k) = value s) ∧ wr = w) (fun _ i _ => s.length - (intOf i).toNat)
  case atStart => exact ⟨0, 0, Nat.zero_le _, by omega, rfl, rfl, rfl, rfl⟩
  case round =>
    obtain ⟨k, n, hk, hn, rfl, rfl, hv, rfl⟩ := hrel
    by_cases hlt : k < s.length
    · have hb : k < (ba s).size := hlt
      have hdig := HD.out _ (List.getElem_mem (l := s) hlt)
      unfold digitB at hdig
      simp only [decide_eq_true_eq] at hdig
      have b0 : (48 : Int) ≤ (((ba s)[k]'hb).toNat : Int) := by have := hdig.1; show (48 : Int) ≤ ((s[k]).toNat : Int); omega
      have b1 : (((ba s)[k]'hb).toNat : Int) ≤ 57 := by have := hdig.2; show ((s[k]).toNat : Int) ≤ 57; omega
      clear hdig
      have hd := drop_cons s k hlt
      have HDr : Hid (s.drop k = ((ba s)[k]'hb) :: s.drop (k + 1)) := hd
      clear hd
      go_wp2_with fail
      · have hlt2 : (9223372036854775807 - ((((ba s)[k]'hb).toNat : Int) - 48)) / 10 < (n : Int) := by assumption
        go_ret2
        refine ⟨?_, rfl⟩
        have h := hv.out
        rw [HDr.out, valueF, if_pos (by omega)] at h
        rw [← h]
        rfl
      · have hle2 : (n : Int) ≤ (9223372036854775807 - ((((ba s)[k]'hb).toNat : Int) - 48)) / 10 := by assumption
        go_roundw
        case rel =>
          refine ⟨k + 1, 10 * n + (((ba s)[k]'hb).toNat - 48), by omega, by omega, ?_, by go_num, ?_, trivial⟩
          · congr 1
            omega
          · have h := hv.out
            rw [HDr.out, valueF, if_neg (by omega)] at h
            exact h
        case measure => simp [intOf]; omega
    · go_wp2
      go_ret2
      refine ⟨?_, rfl⟩
      have h := hv.out
      rw [List.drop_eq_nil_of_le (by omega), valueF] at h
      rw [← h]
      rfl
end Go.Proofs.YtdijffojppjmfaaDoor
set_option linter.unusedVariables false
set_option linter.unusedSimpArgs false
namespace Go.Proofs.YtdijffojppjmfaaDoor
open Go.RowKit Bir Go.BW
section
variable {w : World} {rb tb e : Nat} {T : List Tok} {s : RS}
set_option maxHeartbeats 8000000 in
set_option maxRecDepth 100000 in
theorem rname_calls (h : RM w rb tb e T s) :
    Calls Tryd.prog 77 #[pp rb] w fun r w' => r = .returned (.string (ba (s.name T e).1)) ∧ RX rb w w' ∧ RM w' rb tb e T (s.name T e).2 := by
  have HK := Lib.hid (rkind_calls h)
  by_cases hk : kindOf (s.next T) = 1
  · cases hn : s.next T with
    | nil => rw [hn] at hk; exact absurd hk (by simp [kindOf])
    | cons t l =>
      rw [hn] at hk
      rw [show kindOf (s.next T) = 1 from by rw [hn]; exact hk] at HK
      obtain ⟨hk0, hlt, ht, _⟩ := RS.next_cons hn
      have hk1 : t.kind = 1 := hk
      have hN : s.name T e = if 40 < t.text.length then ([], s.stop T e 3) else (t.text, s.adv) := by unfold RS.name; rw [hn]; exact if_pos hk1
      have HX := Lib.hid (fun w1 (hb : Below w.heap.size w w1) => RSt.below h hb)
      by_cases h40 : 40 < t.text.length
      · have e5 : decide ((40 : Int) < (t.text.length : Int)) = true := by simp; omega
        rw [hN, if_pos h40]
        clear hk h hN hn hk1 hk0 h40
        go_enter Tryd.func77, Tryd.ntmps77
        go_wp2_with fail
        refine HK.out.mono ?_
        rintro en w1 ⟨rfl, hb1⟩
        have h := HX.out w1 hb1
        have hlen := h.len
        obtain ⟨c, v, ⟨q0, q1, q2, q3, q4, q5⟩, h2, t0, t1, t2⟩ := h.tok hlt
        rw [ht] at t0 t1 t2
        have e3 : (0 : Int) ≤ (s.at_ : Int) := by omega
        have e4 : (s.at_ : Int) < (T.length : Int) := by omega
        have HH := Lib.hid h
        have HR := Lib.hid (RX.of_below (rb := rb) hb1)
        clear h2 h hb1 ht HK HX
        go_wp2_with fail
        go_quiet (fail)
        rename_i nq
        have HST := Lib.hid (rstop_calls (HH.out.below (below_dn0 w1 nq)) 3 (by omega))
        have HR2 := Lib.hid (HR.out.below (below_dn0 w1 nq))
        go_wp2_with fail
        refine HST.out.mono ?_
        rintro en w2 ⟨rfl, hx, hr⟩
        go_wp2_with fail
        go_ret
        exact ⟨rfl, HR2.out.trans hx, hr⟩
      · have e5 : decide ((40 : Int) < (t.text.length : Int)) = false := by simp; omega
        rw [hN, if_neg h40]
        clear hk h hN hn hk1 hk0 h40
        go_enter Tryd.func77, Tryd.ntmps77
        go_wp2_with fail
        refine HK.out.mono ?_
        rintro en w1 ⟨rfl, hb1⟩
        have h := HX.out w1 hb1
        have hlen := h.len
        have hf := h.fz
        have hrb := h.rb_lt
        obtain ⟨c, v, ⟨q0, q1, q2, q3, q4, q5⟩, h2, t0, t1, t2⟩ := h.tok hlt
        rw [ht] at t0 t1 t2
        have e2 : IntKind.i64.wrap ((s.at_ : Int) + 1) = (s.at_ : Int) + 1 := IntWalk.i64_in _ (by omega)
        have e3 : (0 : Int) ≤ (s.at_ : Int) := by omega
        have e4 : (s.at_ : Int) < (T.length : Int) := by omega
        have HH := Lib.hid h
        have HR := Lib.hid (RX.of_below (rb := rb) hb1)
        clear h2 h hb1 ht HK HX
        go_wp2_with fail
        go_quiet (fail)
        rename_i nq
        have HH2 := Lib.hid (HH.out.below (below_dn0 w1 nq))
        have HR2 := Lib.hid (HR.out.below (below_dn0 w1 nq))
        go_wp2_with fail
        go_ret
        exact ⟨rfl, HR2.out.set (p := ⟨rb, 2, none⟩) (.inl rfl) _, HH2.out.set2 (s.at_ + 1) hlt⟩
  · have e1 : ((kindOf (s.next T) : Int) != 1) = true := bne_iff_ne.2 (by omega)
    have hN : s.name T e = ([], s.stop T e 4) := by
      unfold RS.name
      cases hn : s.next T with
      | nil => rfl
      | cons t l => rw [hn] at hk; exact if_neg hk
    rw [hN]
    have HS := Lib.hid (fun w1 (hb : Below w.heap.size w w1) => rstop_calls (RSt.below h hb) 4 (by omega))
    clear hN h hk
    generalize kindOf (s.next T) = ks at HK e1
    go_enter Tryd.func77, Tryd.ntmps77
    go_wp2_with fail
    refine HK.out.mono ?_
    rintro en w1 ⟨rfl, hb1⟩
    go_wp2_with fail
    refine (HS.out w1 hb1).mono ?_
    rintro en w2 ⟨rfl, hx, hr⟩
    go_wp2_with fail
    go_ret
    exact ⟨rfl, (RX.of_below hb1).trans hx, hr⟩
set_option maxHeartbeats 8000000 in
set_option maxRecDepth 100000 in
theorem rnumber_calls (h : RM w rb tb e T s) :
    Calls Tryd.prog 79 #[pp rb] w fun r w' => r = .returned (.int .i64 (s.number T e).1) ∧ RX rb w w' ∧ RM w' rb tb e T (s.number T e).2 := by
  have HK := Lib.hid (rkind_calls h)
  by_cases hk : kindOf (s.next T) = 3
  · cases hn : s.next T with
    | nil => rw [hn] at hk; exact absurd hk (by simp [kindOf])
    | cons t l =>
      rw [hn] at hk
      rw [show kindOf (s.next T) = 3 from by rw [hn]; exact hk] at HK
      obtain ⟨hk0, hlt, ht, _⟩ := RS.next_cons hn
      have hk1 : t.kind = 3 := hk
      have hN : s.number T e = (match value t.text with | some n => (n, s.adv) | none => (0, s.stop T e 3)) := by unfold RS.number; rw [hn]; exact if_pos hk1
      have HX := Lib.hid (fun w1 (hb : Below w.heap.size w w1) => RSt.below h hb)
      have hok : t.ok := h.wf t (ht ▸ List.getElem_mem hlt)
      have HV := Lib.hid (rvalue_calls t.text · hok.short (hok.num hk1))
      cases hv : value t.text with
      | none =>
        rw [hv] at HV hN
        have HW : Hid (∀ w, Calls Tryd.prog 111 #[.string (ba t.text)] w fun r w' => r = .returned (.tuple #[.int .i64 0, .bool false]) ∧ w' = w) := Lib.hid HV.out
        rw [hN]
        clear hk h hN hn hk1 hk0 hok hv
        go_enter Tryd.func79, Tryd.ntmps79
        go_wp2_with fail
        refine HK.out.mono ?_
        rintro en w1 ⟨rfl, hb1⟩
        have h := HX.out w1 hb1
        have hlen := h.len
        obtain ⟨c, v, ⟨q0, q1, q2, q3, q4, q5⟩, h2, t0, t1, t2⟩ := h.tok hlt
        rw [ht] at t0 t1 t2
        have e3 : (0 : Int) ≤ (s.at_ : Int) := by omega
        have e4 : (s.at_ : Int) < (T.length : Int) := by omega
        have HH := Lib.hid h
        have HR := Lib.hid (RX.of_below (rb := rb) hb1)
        clear h2 h hb1 ht HK HX
        go_wp2_with fail
        go_quiet ((go_at_call 111; exact Calls.quiet_of_same (HW.out _)))
        rename_i nq
        have HST := Lib.hid (fun n => rstop_calls (w := w1.drewN n) (s := s) (HH.out.below (below_dn0 w1 n)) 3 (by omega))
        go_wp2_with fail
        refine (HST.out _).mono ?_
        rintro en w2 ⟨rfl, hx, hr⟩
        go_wp2_with fail
        go_ret
        exact ⟨rfl, (HR.out.below (below_dn0 w1 _)).trans hx, hr⟩
      | some n =>
        rw [hv] at HV hN
        have HW : Hid (∀ w, Calls Tryd.prog 111 #[.string (ba t.text)] w fun r w' => r = .returned (.tuple #[.int .i64 n, .bool true]) ∧ w' = w) := Lib.hid HV.out
        rw [hN]
        clear hk h hN hn hk1 hk0 hok hv
        go_enter Tryd.func79, Tryd.ntmps79
        go_wp2_with fail
        refine HK.out.mono ?_
        rintro en w1 ⟨rfl, hb1⟩
        have h := HX.out w1 hb1
        have hlen := h.len
        have hf := h.fz
        have hrb := h.rb_lt
        obtain ⟨c, v, ⟨q0, q1, q2, q3, q4, q5⟩, h2, t0, t1, t2⟩ := h.tok hlt
        rw [ht] at t0 t1 t2
        have e2 : IntKind.i64.wrap ((s.at_ : Int) + 1) = (s.at_ : Int) + 1 := IntWalk.i64_in _ (by omega)
        have e3 : (0 : Int) ≤ (s.at_ : Int) := by omega
        have e4 : (s.at_ : Int) < (T.length : Int) := by omega
        have HH := Lib.hid h
        have HR := Lib.hid (RX.of_below (rb := rb) hb1)
        clear h2 h hb1 ht HK HX
        go_wp2_with fail
        go_quiet ((go_at_call 111; exact Calls.quiet_of_same (HW.out _)))
        rename_i nq
        go_wp2_with fail
        go_ret
        exact ⟨rfl, (HR.out.below (below_dn0 w1 _)).set (p := ⟨rb, 2, none⟩) (.inl rfl) _, (HH.out.below (below_dn0 w1 _)).set2 (s.at_ + 1) hlt⟩
  · have e1 : ((kindOf (s.next T) : Int) != 3) = true := bne_iff_ne.2 (by omega)
    have hN : s.number T e = (0, s.stop T e 4) := by
      unfold RS.number
      cases hn : s.next T with
      | nil => rfl
      | cons t l => rw [hn] at hk; exact if_neg hk
    rw [hN]
    have HS := Lib.hid (fun w1 (hb : Below w.heap.size w w1) => rstop_calls (RSt.below h hb) 4 (by omega))
    clear hN h hk
    generalize kindOf (s.next T) = ks at HK e1
    go_enter Tryd.func79, Tryd.ntmps79
    go_wp2_with fail
    refine HK.out.mono ?_
    rintro en w1 ⟨rfl, hb1⟩
    go_wp2_with fail
    refine (HS.out w1 hb1).mono ?_
    rintro en w2 ⟨rfl, hx, hr⟩
    go_wp2_with fail
    go_ret
    exact ⟨rfl, (RX.of_below hb1).trans hx, hr⟩
end
end Go.Proofs.YtdijffojppjmfaaDoor
set_option linter.unusedVariables false
set_option linter.unusedSimpArgs false
namespace Go.BW
open Go.RowKit Bir
/-- What a method holds: a block of its own, or rows. -/
inductive It where
  | blk (b : Nat) (t : TypeId) (cs : List Value)
  | ex (v : Value) (xs : List Ex)
  | st (v : Value) (xs : List St)
  | str (v : Value) (xs : List Str)
  | accE (v : Value) (xs : List Ex)
  | accS (v : Value) (xs : List St)
  | accN (v : Value) (xs : List Str)
  | accA (v : Value) (xs : List Arr)
  | accF (v : Value) (xs : List Bir.Fn)
def It.bl : It → Option Nat
  | .blk b _ _ => some b
  | .ex _ _ => none
  | .st _ _ => none
  | .str _ _ => none
  | .accE v _ => v.ownBlock
  | .accS v _ => v.ownBlock
  | .accN v _ => v.ownBlock
  | .accA v _ => v.ownBlock
  | .accF v _ => v.ownBlock
/-- Where trees may lie: from n on, in no block of spans, in none of these blocks. -/
def okL (w : World) (n : Nat) (bs : List (Option Nat)) (b : Nat) : Prop := n ≤ b ∧ ¬ isSpan w b ∧ some b ∉ bs
def It.holds (w : World) (n : Nat) (bs : List (Option Nat)) : It → Prop
  | .blk b t cs => n ≤ b ∧ t ≠ 47 ∧ w.heap[b]? = some (.cells cs.toArray t (0, 0))
  | .ex v xs => ERow w (okL w n bs) v xs
  | .st v xs => SRow w (okL w n bs) v xs
  | .str v xs => StrRow w (okL w n bs) v xs
  | .accE v xs => ∃ cs, w.ownsRow n 36 4 v xs.length cs ∧ ECells w (okL w n bs) cs xs
  | .accS v xs => ∃ cs, w.ownsRow n 98 5 v xs.length cs ∧ SCells w (okL w n bs) cs xs
  | .accN v xs => w.ownsRow n 9 1 v xs.length (strCells xs)
  | .accA v xs => w.ownsRow n 73 2 v xs.length (arrCells xs)
  | .accF v xs => ∃ cs, w.ownsRow n 76 3 v xs.length cs ∧ FnCells w (okL w n bs) cs xs
theorem owns_not {w : World} {base size n : Nat} {t : TypeId} {v : Value} {cs : List Value} (h : w.ownsRow base t size v n cs) (ht : t ≠ 47) {b : Nat} (hb : v.ownBlock = some b) : base ≤ b ∧ b < w.heap.size ∧ ¬ isSpan w b := by
  rcases h.2 with ⟨rfl, _⟩ | ⟨g, cap, cur, rfl, hg, hh, _⟩
  · simp [Value.ownBlock] at hb
  · obtain rfl : g = b := by simpa [Value.ownBlock] using hb
    refine ⟨hg, (Array.getElem?_eq_some_iff.1 hh).1, fun ⟨cs', fr, h2⟩ => ht ?_⟩
    rw [hh] at h2
    injection h2 with h2
    injection h2
theorem owns_keep {w w1 : World} {base base1 size n : Nat} {t : TypeId} {v : Value} {cs : List Value} (h : w.ownsRow base t size v n cs) (hb : base1 ≤ base) (hk : ∀ b, v.ownBlock = some b → w1.heap[b]? = w.heap[b]?) : w1.ownsRow base1 t size v n cs := by
  obtain ⟨h1, h2⟩ := ownsRow_same h hk
  refine ⟨h1, h2.imp id ?_⟩
  rintro ⟨g, cap, cur, e, hg, r⟩
  exact ⟨g, cap, cur, e, Nat.le_trans hb hg, r⟩
theorem It.keep {w w1 : World} {n n1 : Nat} {bs bs1 : List (Option Nat)} {i : It} (h : i.holds w n bs) (hn : n1 ≤ n) (hs : w.heap.size ≤ w1.heap.size)
    (hk : ∀ b, n ≤ b → b < w.heap.size → ¬ isSpan w b → (some b ∉ bs ∨ i.bl = some b) → w1.heap[b]? = w.heap[b]? ∧ (some b ∉ bs → some b ∉ bs1)) : i.holds w1 n1 bs1 := by
  have hr : ∀ b, okL w n bs b → b < w.heap.size → w1.heap[b]? = w.heap[b]? ∧ okL w1 n1 bs1 b := fun b hb hl => by
    obtain ⟨h1, h2⟩ := hk b hb.1 hl hb.2.1 (.inl hb.2.2)
    exact ⟨h1, Nat.le_trans hn hb.1, fun hh => hb.2.1 ((isSpan.same h1).1 hh), h2 hb.2.2⟩
  cases i with
  | blk b t cs =>
    obtain ⟨h1, h2, h3⟩ := h
    refine ⟨Nat.le_trans hn h1, h2, ?_⟩
    rw [(hk b h1 (Array.getElem?_eq_some_iff.1 h3).1 (fun ⟨cs', fr, hh⟩ => h2 (by rw [h3] at hh; injection hh with hh; injection hh)) (.inr rfl)).1]
    exact h3
  | ex v xs => exact ERow.keep h hs hr
  | st v xs => exact SRow.keep h hs hr
  | str v xs => exact VRow.keep h hs hr
  | accE v xs =>
    obtain ⟨cs, ho, hc⟩ := h
    exact ⟨cs, owns_keep ho hn fun b hb => let q := owns_not ho (by decide) hb; (hk b q.1 q.2.1 q.2.2 (.inr hb)).1, hc.keep hs hr⟩
  | accS v xs =>
    obtain ⟨cs, ho, hc⟩ := h
    exact ⟨cs, owns_keep ho hn fun b hb => let q := owns_not ho (by decide) hb; (hk b q.1 q.2.1 q.2.2 (.inr hb)).1, hc.keep hs hr⟩
  | accN v xs => exact owns_keep h hn fun b hb => let q := owns_not h (by decide) hb; (hk b q.1 q.2.1 q.2.2 (.inr hb)).1
  | accA v xs => exact owns_keep h hn fun b hb => let q := owns_not h (by decide) hb; (hk b q.1 q.2.1 q.2.2 (.inr hb)).1
  | accF v xs =>
    obtain ⟨cs, ho, hc⟩ := h
    exact ⟨cs, owns_keep ho hn fun b hb => let q := owns_not ho (by decide) hb; (hk b q.1 q.2.1 q.2.2 (.inr hb)).1, hc.keep hs hr⟩
/-- An item's own block. -/
theorem It.bl_not {w : World} {n : Nat} {bs : List (Option Nat)} {i : It} (h : i.holds w n bs) {b : Nat} (hb : i.bl = some b) : n ≤ b ∧ b < w.heap.size ∧ ¬ isSpan w b := by
  cases i with
  | blk b' t cs =>
    obtain rfl : b' = b := by injection hb
    exact ⟨h.1, (Array.getElem?_eq_some_iff.1 h.2.2).1, fun ⟨cs', fr, hh⟩ => h.2.1 (by rw [h.2.2] at hh; injection hh with hh; injection hh)⟩
  | ex v xs => cases hb
  | st v xs => cases hb
  | str v xs => cases hb
  | accE v xs => obtain ⟨cs, ho, _⟩ := h; exact owns_not ho (by decide) hb
  | accS v xs => obtain ⟨cs, ho, _⟩ := h; exact owns_not ho (by decide) hb
  | accN v xs => exact owns_not h (by decide) hb
  | accA v xs => exact owns_not h (by decide) hb
  | accF v xs => obtain ⟨cs, ho, _⟩ := h; exact owns_not ho (by decide) hb
/-- A method that began in w0. -/
structure RF (w0 w : World) (rb tb e : Nat) (T : List Tok) (s : RS) (L : List It) : Prop where
  lt : rb < w0.heap.size
  tlt : T ≠ [] → tb < w0.heap.size
  st : RM w rb tb e T s
  rx : RX rb w0 w
  it : ∀ i ∈ L, i.holds w w0.heap.size (L.map It.bl)
  dist : L.Pairwise fun i j => ∀ b, i.bl = some b → j.bl = some b → False
section
variable {w0 w w1 : World} {rb tb e : Nat} {T : List Tok} {s s1 : RS} {L : List It}
theorem RF.start (h : RM w rb tb e T s) : RF w w rb tb e T s [] := ⟨h.rb_lt, fun hn => (h.toks hn).1, h, RX.refl _ _, fun i hi => absurd hi List.not_mem_nil, .nil⟩
/-- Its blocks lie in memory, from w0's end on. -/
theorem RF.bl_lt (h : RF w0 w rb tb e T s L) {b : Nat} (hb : some b ∈ L.map It.bl) : w0.heap.size ≤ b ∧ b < w.heap.size := by
  obtain ⟨i, hi, he⟩ := List.mem_map.1 hb
  have := It.bl_not (h.it i hi) he
  exact ⟨this.1, this.2.1⟩
theorem RF.call (h : RF w0 w rb tb e T s L) (hx : RX rb w w1) (h1 : RM w1 rb tb e T s1) : RF w0 w1 rb tb e T s1 L :=
  ⟨h.lt, h.tlt, h1, h.rx.trans hx, fun i hi => It.keep (h.it i hi) (Nat.le_refl _) hx.ext.size fun b hb hl hs _ =>
    ⟨hx.ext.block b hl (fun hh => hh.elim (fun he => by have := h.lt; omega) fun q => hs q.2), id⟩, h.dist⟩
theorem RF.below (h : RF w0 w rb tb e T s L) (hb : Below w.heap.size w w1) : RF w0 w1 rb tb e T s L := h.call (RX.of_below hb) (h.st.below hb)
theorem RF.alloc (h : RF w0 w rb tb e T s L) (o : Obj) : RF w0 (w.alloc o) rb tb e T s L := h.below ((Below.refl _ _).alloc (Nat.le_refl _) _)
theorem RF.drew (h : RF w0 w rb tb e T s L) : RF w0 w.drew rb tb e T s L := h.below (Below.refl _ _).drew
theorem RF.drewN (h : RF w0 w rb tb e T s L) (n : Nat) : RF w0 (w.drewN n) rb tb e T s L := h.below (below_dn0 _ _)
theorem RF.size (h : RF w0 w rb tb e T s L) : w0.heap.size ≤ w.heap.size := h.rx.ext.size
theorem RF.push (h : RF w0 w rb tb e T s L) {i : It} (hi : i.bl = none) (hh : i.holds w w0.heap.size (L.map It.bl)) : RF w0 w rb tb e T s (i :: L) := by
  refine ⟨h.lt, h.tlt, h.st, h.rx, fun j hj => ?_, .cons (fun j hj b hb => by rw [hi] at hb; cases hb) h.dist⟩
  have hm : ∀ b, some b ∉ L.map It.bl → some b ∉ (i :: L).map It.bl := fun b hb => by
    rw [List.map_cons, hi]
    simpa using hb
  rcases List.mem_cons.1 hj with rfl | hj
  · exact It.keep hh (Nat.le_refl _) (Nat.le_refl _) fun b _ _ _ _ => ⟨rfl, hm b⟩
  · exact It.keep (h.it j hj) (Nat.le_refl _) (Nat.le_refl _) fun b _ _ _ _ => ⟨rfl, hm b⟩
/-- Trees that a call made are apart from all that was. -/
theorem RF.apart (h : RF w0 w rb tb e T s L) {b : Nat} (hb : okT w1 w.heap.size b) : okL w1 w0.heap.size (L.map It.bl) b :=
  ⟨Nat.le_trans h.size hb.1, hb.2, fun hm => by have := (h.bl_lt hm).2; have := hb.1; omega⟩
theorem okL_none {n : Nat} {bs : List (Option Nat)} {b : Nat} (h : okL w n bs b) : okL w n (none :: bs) b := ⟨h.1, h.2.1, fun hm => h.2.2 (by simpa using hm)⟩
theorem RF.callE (h : RF w0 w rb tb e T s L) (hx : RX rb w w1) (h1 : RM w1 rb tb e T s1) {v : Value} {xs : List Ex} (hv : ERow w1 (okT w1 w.heap.size) v xs) : RF w0 w1 rb tb e T s1 (.ex v xs :: L) :=
  (h.call hx h1).push rfl (hv.keep (Nat.le_refl _) fun b hb _ => ⟨rfl, h.apart hb⟩)
theorem RF.callB (h : RF w0 w rb tb e T s L) (hx : RX rb w w1) (h1 : RM w1 rb tb e T s1) {v : Value} {xs : List St} (hv : SRow w1 (okT w1 w.heap.size) v xs) : RF w0 w1 rb tb e T s1 (.st v xs :: L) :=
  (h.call hx h1).push rfl (hv.keep (Nat.le_refl _) fun b hb _ => ⟨rfl, h.apart hb⟩)
theorem RF.callS (h : RF w0 w rb tb e T s L) (hx : RX rb w w1) (h1 : RM w1 rb tb e T s1) {v1 v2 v3 : Value} {xs : List Ex} {b1 b2 : List St} (hv1 : ERow w1 (okT w1 w.heap.size) v1 xs) (hv2 : SRow w1 (okT w1 w.heap.size) v2 b1) (hv3 : SRow w1 (okT w1 w.heap.size) v3 b2) :
    RF w0 w1 rb tb e T s1 (.ex v1 xs :: .st v2 b1 :: .st v3 b2 :: L) :=
  (((h.call hx h1).push (i := .st v3 b2) rfl (hv3.keep (Nat.le_refl _) fun b hb _ => ⟨rfl, h.apart hb⟩)).push (i := .st v2 b1) rfl (hv2.keep (Nat.le_refl _) fun b hb _ => ⟨rfl, okL_none (h.apart hb)⟩)).push (i := .ex v1 xs) rfl (hv1.keep (Nat.le_refl _) fun b hb _ => ⟨rfl, okL_none (okL_none (h.apart hb))⟩)
theorem RF.pushE (h : RF w0 w rb tb e T s L) {v : Value} {xs : List Ex} (hv : ERow w (okL w w0.heap.size (L.map It.bl)) v xs) : RF w0 w rb tb e T s (.ex v xs :: L) := h.push rfl hv
theorem RF.pushB (h : RF w0 w rb tb e T s L) {v : Value} {xs : List St} (hv : SRow w (okL w w0.heap.size (L.map It.bl)) v xs) : RF w0 w rb tb e T s (.st v xs :: L) := h.push rfl hv
/-- A block of its own is made. -/
theorem RF.make (h : RF w0 w rb tb e T s L) (cs : List Value) (t : TypeId) (ht : t ≠ 47) : RF w0 (w.alloc (.cells cs.toArray t)) rb tb e T s (.blk w.heap.size t cs :: L) := by
  have ha := h.alloc (.cells cs.toArray t)
  refine ⟨h.lt, h.tlt, ha.st, ha.rx, fun j hj => ?_, .cons (fun j hj b hb hb2 => ?_) h.dist⟩
  · rcases List.mem_cons.1 hj with rfl | hj
    · exact ⟨h.size, ht, by show (w.heap.push _)[w.heap.size]? = _; exact Array.getElem?_push_size⟩
    · refine It.keep (h.it j hj) (Nat.le_refl _) (by simp) fun b hb hl hs hm => ⟨Below.heap_alloc _ _ b hl, fun hn hm2 => ?_⟩
      rw [List.map_cons] at hm2
      rcases List.mem_cons.1 hm2 with he | hm2
      · injection he with he
        omega
      · exact hn hm2
  · obtain rfl : w.heap.size = b := by injection hb
    have := (h.bl_lt (List.mem_map.2 ⟨j, hj, hb2⟩)).2
    omega
/-- An item's own block is written, or it moves to a new one. -/
theorem RF.grow (h : RF w0 w rb tb e T s L) (i : Nat) {x x' : It} (hi : L[i]? = some x) (hx : Ext (fun b => x.bl = some b) w w1) (hbl : x'.bl = x.bl ∨ ∃ b, x'.bl = some b ∧ w.heap.size ≤ b)
    (hh : ∀ hk : (∀ b, okL w w0.heap.size (L.map It.bl) b → b < w.heap.size → w1.heap[b]? = w.heap[b]? ∧ okL w1 w0.heap.size ((L.set i x').map It.bl) b), x'.holds w1 w0.heap.size ((L.set i x').map It.bl)) : RF w0 w1 rb tb e T s (L.set i x') := by
  have hmem := List.mem_of_getElem? hi
  have hxx := h.it _ hmem
  have hin : ∀ b, x.bl = some b → some b ∈ L.map It.bl := fun b hb => List.mem_map.2 ⟨x, hmem, hb⟩
  have hset : ∀ b, b < w.heap.size → some b ∉ L.map It.bl → some b ∉ (L.set i x').map It.bl := fun b hl hn hm => by
    obtain ⟨y, hy, hyb⟩ := List.mem_map.1 hm
    rcases List.mem_or_eq_of_mem_set hy with hy | rfl
    · exact hn (List.mem_map.2 ⟨y, hy, hyb⟩)
    · rcases hbl with hbl | ⟨b', hb', hge⟩
      · exact hn (hin b (hbl ▸ hyb))
      · rw [hb'] at hyb
        injection hyb with hyb
        omega
  have hok : ∀ b, okL w w0.heap.size (L.map It.bl) b → b < w.heap.size → w1.heap[b]? = w.heap[b]? ∧ okL w1 w0.heap.size ((L.set i x').map It.bl) b := fun b hb hl => by
    have he := hx.block b hl fun hxb => hb.2.2 (hin b hxb)
    exact ⟨he, hb.1, fun hs => hb.2.1 ((isSpan.same he).1 hs), hset b hl hb.2.2⟩
  have hrb : ¬ x.bl = some rb := fun hb => by have := (It.bl_not hxx hb).1; have := h.lt; omega
  refine ⟨h.lt, h.tlt, ?_, ⟨h.rx.ext.trans hx fun b hb => .inr (It.bl_not hxx hb).1⟩, fun y hy => ?_, ?_⟩
  · obtain ⟨p1, p2, p3, p4, p5, p6, p7, p8, A, c, v', ⟨q0, q1, q2, q3, q4, q5⟩, r2, r3, r4⟩ := h.st
    refine ⟨Nat.lt_of_lt_of_le p1 hx.size, frz_ext p2 hx p1 hrb, p3, p4, p5, p6, fun hs => p7 ((isSpan.same (hx.block rb p1 hrb)).1 hs), fun hn => ?_, A, c, v', ⟨cell_ext q0 hx hrb, cell_ext q1 hx hrb, cell_ext q2 hx hrb, cell_ext q3 hx hrb, cell_ext q4 hx hrb, cell_ext q5 hx hrb⟩, r2, r3, ?_⟩
    · obtain ⟨a1, a2, a3, a4⟩ := p8 hn
      have := h.tlt hn
      have he := hx.block tb a1 fun hb => by have := (It.bl_not hxx hb).1; omega
      exact ⟨Nat.lt_of_lt_of_le a1 hx.size, a2, fun hs => a3 ((isSpan.same he).1 hs), a4.keep he⟩
    · exact ownsRow_same r4 fun g hg => hx.block g (ownsRow_block r4 hg).2 fun hb => (It.bl_not hxx hb).2.2 (own_span r4 hg)
  · obtain ⟨j, hj, rfl⟩ := List.getElem_of_mem hy
    rw [List.length_set] at hj
    by_cases hji : j = i
    · subst hji
      rw [List.getElem_set_self]
      exact hh hok
    · rw [List.getElem_set_ne (by omega)]
      have hil : i < L.length := (List.getElem?_eq_some_iff.1 hi).1
      have hie : L[i] = x := (List.getElem?_eq_some_iff.1 hi).2
      refine It.keep (h.it _ (List.getElem_mem hj)) (Nat.le_refl _) hx.size fun b hb hl hs hm => ⟨hx.block b hl fun hxb => ?_, hset b hl⟩
      rcases hm with hm | hm
      · exact hm (hin b hxb)
      · rcases Nat.lt_or_ge j i with hlt | hge
        · exact (List.pairwise_iff_getElem.1 h.dist j i hj hil hlt) b hm (by rw [hie]; exact hxb)
        · exact (List.pairwise_iff_getElem.1 h.dist i j hil hj (by omega)) b (by rw [hie]; exact hxb) hm
  · rw [List.pairwise_iff_getElem]
    intro j k hj hk hjk b hb1 hb2
    have hj' : j < L.length := by rwa [List.length_set] at hj
    have hk' : k < L.length := by rwa [List.length_set] at hk
    have hil : i < L.length := (List.getElem?_eq_some_iff.1 hi).1
    have hie : L[i] = x := (List.getElem?_eq_some_iff.1 hi).2
    have hnew : ∀ (m : Nat) (hm : m < L.length), m ≠ i → L[m].bl = some b → x'.bl = some b → False := fun m hm hmi h1 h2 => by
      rcases hbl with hbl | ⟨b', hb', hge⟩
      · rw [hbl] at h2
        rcases Nat.lt_or_ge m i with hlt | hge
        · exact (List.pairwise_iff_getElem.1 h.dist m i hm hil hlt) b h1 (by rw [hie]; exact h2)
        · exact (List.pairwise_iff_getElem.1 h.dist i m hil hm (by omega)) b (by rw [hie]; exact h2) h1
      · rw [hb'] at h2
        injection h2 with h2
        have := (It.bl_not (h.it _ (List.getElem_mem hm)) h1).2.1
        omega
    by_cases hji : j = i
    · subst hji
      rw [List.getElem_set_self] at hb1
      rw [List.getElem_set_ne (by omega)] at hb2
      exact hnew k hk' (by omega) hb2 hb1
    · rw [List.getElem_set_ne (by omega)] at hb1
      by_cases hki : k = i
      · subst hki
        rw [List.getElem_set_self] at hb2
        exact hnew j hj' hji hb1 hb2
      · rw [List.getElem_set_ne (by omega)] at hb2
        exact (List.pairwise_iff_getElem.1 h.dist j k hj' hk' hjk) b hb1 hb2
/-- One element more. -/
theorem RF.appE (h : RF w0 w rb tb e T s L) (i : Nat) {v v1 : Value} {xs : List Ex} (hi : L[i]? = some (.accE v xs)) {cs : List Value} (hc : ECells w (okL w w0.heap.size (L.map It.bl)) cs xs) {x : Ex} {kv : Value} (hk : ERow w (okL w w0.heap.size (L.map It.bl)) kv x.kids)
    (hown : w1.ownsRow w0.heap.size 36 4 v1 (xs.length + 1) (cs ++ [.int .i64 x.kind, .int .i64 x.num, .string (ba x.name), kv])) (hg : w.grownBy w1 v.ownBlock) (hat : v1.ownBlock = v.ownBlock ∨ ∃ b, v1.ownBlock = some b ∧ w.heap.size ≤ b) :
    RF w0 w1 rb tb e T s (L.set i (.accE v1 (xs ++ [x]))) :=
  h.grow i hi (w1 := w1) ((Ext.refl _ w).grown hg fun k hk => .inl hk) hat fun hk2 => ⟨_, by rw [List.length_append]; exact hown, (hc.snoc hk).keep hg.size hk2⟩
theorem RF.appS (h : RF w0 w rb tb e T s L) (i : Nat) {v v1 : Value} {xs : List St} (hi : L[i]? = some (.accS v xs)) {cs : List Value} (hc : SCells w (okL w w0.heap.size (L.map It.bl)) cs xs) {x : St} {k1 k2 k3 : Value} (h1 : ERow w (okL w w0.heap.size (L.map It.bl)) k1 x.exprs) (h2 : SRow w (okL w w0.heap.size (L.map It.bl)) k2 x.body) (h3 : SRow w (okL w w0.heap.size (L.map It.bl)) k3 x.els)
    (hown : w1.ownsRow w0.heap.size 98 5 v1 (xs.length + 1) (cs ++ [.int .i64 x.kind, .string (ba x.name), k1, k2, k3])) (hg : w.grownBy w1 v.ownBlock) (hat : v1.ownBlock = v.ownBlock ∨ ∃ b, v1.ownBlock = some b ∧ w.heap.size ≤ b) :
    RF w0 w1 rb tb e T s (L.set i (.accS v1 (xs ++ [x]))) :=
  h.grow i hi (w1 := w1) ((Ext.refl _ w).grown hg fun k hk => .inl hk) hat fun hk2 => ⟨_, by rw [List.length_append]; exact hown, (hc.snoc h1 h2 h3).keep hg.size hk2⟩
theorem RF.appN (h : RF w0 w rb tb e T s L) (i : Nat) {v v1 : Value} {xs : List Str} (hi : L[i]? = some (.accN v xs)) {x : Str}
    (hown : w1.ownsRow w0.heap.size 9 1 v1 (xs.length + 1) (strCells xs ++ [.string (ba x)])) (hg : w.grownBy w1 v.ownBlock) (hat : v1.ownBlock = v.ownBlock ∨ ∃ b, v1.ownBlock = some b ∧ w.heap.size ≤ b) :
    RF w0 w1 rb tb e T s (L.set i (.accN v1 (xs ++ [x]))) :=
  h.grow i hi (w1 := w1) ((Ext.refl _ w).grown hg fun k hk => .inl hk) hat fun hk2 => by
    show w1.ownsRow _ _ 1 v1 (xs ++ [x]).length (strCells (xs ++ [x]))
    rw [List.length_append, strCells_snoc]
    exact hown
theorem RF.appA (h : RF w0 w rb tb e T s L) (i : Nat) {v v1 : Value} {xs : List Arr} (hi : L[i]? = some (.accA v xs)) {x : Arr}
    (hown : w1.ownsRow w0.heap.size 73 2 v1 (xs.length + 1) (arrCells xs ++ [.string (ba x.name), .int .i64 x.size])) (hg : w.grownBy w1 v.ownBlock) (hat : v1.ownBlock = v.ownBlock ∨ ∃ b, v1.ownBlock = some b ∧ w.heap.size ≤ b) :
    RF w0 w1 rb tb e T s (L.set i (.accA v1 (xs ++ [x]))) :=
  h.grow i hi (w1 := w1) ((Ext.refl _ w).grown hg fun k hk => .inl hk) hat fun hk2 => by
    show w1.ownsRow _ _ 2 v1 (xs ++ [x]).length (arrCells (xs ++ [x]))
    rw [List.length_append, arrCells_snoc]
    exact hown
theorem RF.appF (h : RF w0 w rb tb e T s L) (i : Nat) {v v1 : Value} {xs : List Bir.Fn} (hi : L[i]? = some (.accF v xs)) {cs : List Value} (hc : FnCells w (okL w w0.heap.size (L.map It.bl)) cs xs) {x : Bir.Fn} {pv bv : Value} (hp : StrRow w (okL w w0.heap.size (L.map It.bl)) pv x.params) (hb : SRow w (okL w w0.heap.size (L.map It.bl)) bv x.body)
    (hown : w1.ownsRow w0.heap.size 76 3 v1 (xs.length + 1) (cs ++ [.string (ba x.name), pv, bv])) (hg : w.grownBy w1 v.ownBlock) (hat : v1.ownBlock = v.ownBlock ∨ ∃ b, v1.ownBlock = some b ∧ w.heap.size ≤ b) :
    RF w0 w1 rb tb e T s (L.set i (.accF v1 (xs ++ [x]))) :=
  h.grow i hi (w1 := w1) ((Ext.refl _ w).grown hg fun k hk => .inl hk) hat fun hk2 => ⟨_, by rw [List.length_append]; exact hown, (FnCells.snoc hc hp hb).keep hg.size hk2⟩
theorem RF.appNx (h : RF w0 w rb tb e T s L) (i : Nat) {v v1 : Value} {xs : List Str} (hi : L[i]? = some (.accN v xs)) {x : Str}
    (hown : w1.ownsRow w0.heap.size 9 1 v1 (xs.length + 1) (strCells xs ++ [.string (ba x)])) (hx : Ext (fun b => v.ownBlock = some b) w w1) (hat : v1.ownBlock = v.ownBlock ∨ ∃ b, v1.ownBlock = some b ∧ w.heap.size ≤ b) :
    RF w0 w1 rb tb e T s (L.set i (.accN v1 (xs ++ [x]))) :=
  h.grow i hi (w1 := w1) hx hat fun hk2 => by
    show w1.ownsRow _ _ 1 v1 (xs ++ [x]).length (strCells (xs ++ [x]))
    rw [List.length_append, strCells_snoc]
    exact hown
theorem RF.appFx (h : RF w0 w rb tb e T s L) (i : Nat) {v v1 : Value} {xs : List Bir.Fn} (hi : L[i]? = some (.accF v xs)) {cs : List Value} (hc : FnCells w (okL w w0.heap.size (L.map It.bl)) cs xs) {x : Bir.Fn} {pv bv : Value} (hp : StrRow w (okL w w0.heap.size (L.map It.bl)) pv x.params) (hb : SRow w (okL w w0.heap.size (L.map It.bl)) bv x.body)
    (hown : w1.ownsRow w0.heap.size 76 3 v1 (xs.length + 1) (cs ++ [.string (ba x.name), pv, bv])) (hx : Ext (fun b => v.ownBlock = some b) w w1) (hat : v1.ownBlock = v.ownBlock ∨ ∃ b, v1.ownBlock = some b ∧ w.heap.size ≤ b) :
    RF w0 w1 rb tb e T s (L.set i (.accF v1 (xs ++ [x]))) :=
  h.grow i hi (w1 := w1) hx hat fun hk2 => ⟨_, by rw [List.length_append]; exact hown, (FnCells.snoc hc hp hb).keep hx.size hk2⟩
theorem map_set_bl {L : List It} {i : Nat} {b : Nat} {t : TypeId} {cs cs' : List Value} (hi : L[i]? = some (.blk b t cs)) : (L.set i (.blk b t cs')).map It.bl = L.map It.bl := by
  apply List.ext_getElem?
  intro j
  rw [List.getElem?_map, List.getElem?_map, List.getElem?_set]
  split
  · rename_i hij
    subst hij
    split
    · rw [hi]; rfl
    · rename_i hlt
      rw [List.getElem?_eq_none (by omega)]
  · rfl
/-- A cell of a block of its own is written. -/
theorem RF.set (h : RF w0 w rb tb e T s L) (i : Nat) {b : Nat} {t : TypeId} {cs : List Value} (hi : L[i]? = some (.blk b t cs)) (j : Nat) (v : Value) :
    RF w0 (w.setCell ⟨b, j, none⟩ v) rb tb e T s (L.set i (.blk b t (cs.set j v))) := by
  have hmem := List.mem_of_getElem? hi
  obtain ⟨hb1, hb2, hb3⟩ := h.it _ hmem
  have hbl := h.bl_lt (b := b) (List.mem_map.2 ⟨_, hmem, rfl⟩)
  have hrx := h.rx.set (p := ⟨b, j, none⟩) (.inr hb1) v
  have hnb : ¬ isSpan w b := fun ⟨cs', fr, hh⟩ => hb2 (by rw [hb3] at hh; injection hh with hh; injection hh)
  have hheap : ∀ b', b' ≠ b → (w.setCell ⟨b, j, none⟩ v).heap[b']? = w.heap[b']? := fun b' hb' => Below.heap_setCell w ⟨b, j, none⟩ v b' hb'
  have hsz : (w.setCell ⟨b, j, none⟩ v).heap.size = w.heap.size := by simp [World.setCell]
  refine ⟨h.lt, h.tlt, ?_, hrx, fun x hx => ?_, ?_⟩
  · obtain ⟨p1, p2, p3, p4, p5, p6, p7, p8, A, c, v', q, r2, r3, r4⟩ := h.st
    have E : Ext (fun k => k = b) w (w.setCell ⟨b, j, none⟩ v) := (Ext.refl (fun k => k = b) w).setCell (p := ⟨b, j, none⟩) (.inl rfl) v
    have hrb : rb ≠ b := by have := h.lt; omega
    obtain ⟨q0, q1, q2, q3, q4, q5⟩ := q
    refine ⟨by omega, frz_ext p2 E p1 hrb, p3, p4, p5, p6, fun hs => p7 ((isSpan.setCell _ _ _ _).1 hs), fun hn => ?_, A, c, v', ⟨cell_ext q0 E hrb, cell_ext q1 E hrb, cell_ext q2 E hrb, cell_ext q3 E hrb, cell_ext q4 E hrb, cell_ext q5 E hrb⟩, r2, r3, ?_⟩
    · obtain ⟨a1, a2, a3, a4⟩ := p8 hn
      have := h.tlt hn
      exact ⟨by omega, a2, fun hs => a3 ((isSpan.setCell _ _ _ _).1 hs), a4.keep (hheap tb (by omega))⟩
    · exact ownsRow_same r4 fun g hg => hheap g (fun he => hnb (he ▸ own_span r4 hg))
  · rw [map_set_bl hi]
    rcases List.mem_or_eq_of_mem_set hx with hxm | rfl
    · by_cases hxb : x.bl = some b
      · -- it is the very item
        obtain ⟨i', hi', rfl⟩ := List.getElem_of_mem hx
        rw [List.length_set] at hi'
        by_cases hii : i' = i
        · subst hii
          rw [List.getElem_set_self]
          refine ⟨hb1, hb2, ?_⟩
          unfold World.setCell
          simp only [Array.getElem?_modify, if_true, hb3]
          simp
        · exfalso
          rw [List.getElem_set_ne (by omega)] at hxb
          have hil : i < L.length := (List.getElem?_eq_some_iff.1 hi).1
          have hie : L[i] = .blk b t cs := (List.getElem?_eq_some_iff.1 hi).2
          rcases Nat.lt_or_ge i' i with hlt | hge
          · exact (List.pairwise_iff_getElem.1 h.dist i' i hi' hil hlt) b hxb (by rw [hie]; rfl)
          · exact (List.pairwise_iff_getElem.1 h.dist i i' hil hi' (by omega)) b (by rw [hie]; rfl) hxb
      · refine It.keep (h.it x hxm) (Nat.le_refl _) (by omega) fun b' hb' hl hs hm => ⟨hheap b' fun he => ?_, id⟩
        subst he
        rcases hm with hm | hm
        · exact hm (List.mem_map.2 ⟨_, hmem, rfl⟩)
        · exact hxb hm
    · refine ⟨hb1, hb2, ?_⟩
      unfold World.setCell
      simp only [Array.getElem?_modify, if_true, hb3]
      simp
  · have hp := h.dist
    have hq : (L.map It.bl).Pairwise fun i j => ∀ b, i = some b → j = some b → False := List.pairwise_map.2 hp
    rw [← map_set_bl hi (cs' := cs.set j v)] at hq
    exact List.pairwise_map.1 hq
theorem set_get {L : List It} {i : Nat} {x y : It} (hi : L[i]? = some x) : (L.set i y)[i]? = some y := by
  obtain ⟨h, _⟩ := List.getElem?_eq_some_iff.1 hi
  rw [List.getElem?_set_self h]
theorem RF.sets2 (h : RF w0 w rb tb e T s L) (i : Nat) {b : Nat} {t : TypeId} {z0 z1 : Value} (hi : L[i]? = some (.blk b t [z0, z1])) (a0 a1 : Value) : RF w0 ((w.setCell ⟨b, 0, none⟩ a0).setCell ⟨b, 1, none⟩ a1) rb tb e T s (L.set i (.blk b t [a0, a1])) := by
  have h1 := (h.set i hi 0 a0).set i (set_get hi) 1 a1
  rwa [List.set_set] at h1
theorem RF.sets3 (h : RF w0 w rb tb e T s L) (i : Nat) {b : Nat} {t : TypeId} {z0 z1 z2 : Value} (hi : L[i]? = some (.blk b t [z0, z1, z2])) (a0 a1 a2 : Value) : RF w0 (((w.setCell ⟨b, 0, none⟩ a0).setCell ⟨b, 1, none⟩ a1).setCell ⟨b, 2, none⟩ a2) rb tb e T s (L.set i (.blk b t [a0, a1, a2])) := by
  have h1 := ((h.set i hi 0 a0).set i (set_get hi) 1 a1).set i (set_get (set_get hi)) 2 a2
  rwa [List.set_set, List.set_set] at h1
theorem RF.sets4 (h : RF w0 w rb tb e T s L) (i : Nat) {b : Nat} {t : TypeId} {z0 z1 z2 z3 : Value} (hi : L[i]? = some (.blk b t [z0, z1, z2, z3])) (a0 a1 a2 a3 : Value) : RF w0 (set4 w b a0 a1 a2 a3) rb tb e T s (L.set i (.blk b t [a0, a1, a2, a3])) := by
  have h1 := (((h.set i hi 0 a0).set i (set_get hi) 1 a1).set i (set_get (set_get hi)) 2 a2).set i (set_get (set_get (set_get hi))) 3 a3
  rwa [List.set_set, List.set_set, List.set_set] at h1
theorem RF.sets5 (h : RF w0 w rb tb e T s L) (i : Nat) {b : Nat} {t : TypeId} {z0 z1 z2 z3 z4 : Value} (hi : L[i]? = some (.blk b t [z0, z1, z2, z3, z4])) (a0 a1 a2 a3 a4 : Value) : RF w0 (set5 w b a0 a1 a2 a3 a4) rb tb e T s (L.set i (.blk b t [a0, a1, a2, a3, a4])) := by
  have h1 := ((((h.set i hi 0 a0).set i (set_get hi) 1 a1).set i (set_get (set_get hi)) 2 a2).set i (set_get (set_get (set_get hi))) 3 a3).set i (set_get (set_get (set_get (set_get hi)))) 4 a4
  rwa [List.set_set, List.set_set, List.set_set, List.set_set] at h1
/-- What the walk wants to know of a block. -/
theorem RF.cell (h : RF w0 w rb tb e T s L) (i : Nat) {b : Nat} {t : TypeId} {cs : List Value} (hi : L[i]? = some (.blk b t cs)) : (∀ j u, cs[j]? = some u → w.cell? ⟨b, j, none⟩ = some u) ∧ (∀ o, w.frozen? ⟨b, o, none⟩ = false) ∧ b < w.heap.size ∧ w0.heap.size ≤ b := by
  obtain ⟨hb1, hb2, hb3⟩ := h.it _ (List.mem_of_getElem? hi)
  refine ⟨fun j u hu => ?_, fun o => ?_, (Array.getElem?_eq_some_iff.1 hb3).1, hb1⟩
  · simp [World.cell?, hb3, hu]
  · simp [World.frozen?, hb3]
theorem RF.ne (h : RF w0 w rb tb e T s L) (i : Nat) {b : Nat} {t : TypeId} {cs : List Value} (hi : L[i]? = some (.blk b t cs)) : b ≠ rb := by
  have := h.lt
  have := (h.cell i hi).2.2.2
  omega
/-- A block's cells, one by one. -/
theorem RF.c4 (h : RF w0 w rb tb e T s L) (i : Nat) {b : Nat} {t : TypeId} {z0 z1 z2 z3 : Value} (hi : L[i]? = some (.blk b t [z0, z1, z2, z3])) : cells4 w b z0 z1 z2 z3 ∧ (∀ o, w.frozen? ⟨b, o, none⟩ = false) ∧ b < w.heap.size ∧ b ≠ rb :=
  let c := h.cell i hi
  ⟨⟨c.1 0 _ rfl, c.1 1 _ rfl, c.1 2 _ rfl, c.1 3 _ rfl⟩, c.2.1, c.2.2.1, h.ne i hi⟩
theorem RF.c1 (h : RF w0 w rb tb e T s L) (i : Nat) {b : Nat} {t : TypeId} {z0 : Value} (hi : L[i]? = some (.blk b t [z0])) : w.cell? ⟨b, 0, none⟩ = some z0 ∧ (∀ o, w.frozen? ⟨b, o, none⟩ = false) ∧ b < w.heap.size ∧ b ≠ rb :=
  let c := h.cell i hi
  ⟨c.1 0 _ rfl, c.2.1, c.2.2.1, h.ne i hi⟩
theorem RF.c2 (h : RF w0 w rb tb e T s L) (i : Nat) {b : Nat} {t : TypeId} {z0 z1 : Value} (hi : L[i]? = some (.blk b t [z0, z1])) : (w.cell? ⟨b, 0, none⟩ = some z0 ∧ w.cell? ⟨b, 1, none⟩ = some z1) ∧ (∀ o, w.frozen? ⟨b, o, none⟩ = false) ∧ b < w.heap.size ∧ b ≠ rb :=
  let c := h.cell i hi
  ⟨⟨c.1 0 _ rfl, c.1 1 _ rfl⟩, c.2.1, c.2.2.1, h.ne i hi⟩
theorem RF.c3 (h : RF w0 w rb tb e T s L) (i : Nat) {b : Nat} {t : TypeId} {z0 z1 z2 : Value} (hi : L[i]? = some (.blk b t [z0, z1, z2])) : (w.cell? ⟨b, 0, none⟩ = some z0 ∧ w.cell? ⟨b, 1, none⟩ = some z1 ∧ w.cell? ⟨b, 2, none⟩ = some z2) ∧ (∀ o, w.frozen? ⟨b, o, none⟩ = false) ∧ b < w.heap.size ∧ b ≠ rb :=
  let c := h.cell i hi
  ⟨⟨c.1 0 _ rfl, c.1 1 _ rfl, c.1 2 _ rfl⟩, c.2.1, c.2.2.1, h.ne i hi⟩
theorem RF.c5 (h : RF w0 w rb tb e T s L) (i : Nat) {b : Nat} {t : TypeId} {z0 z1 z2 z3 z4 : Value} (hi : L[i]? = some (.blk b t [z0, z1, z2, z3, z4])) : cells5 w b z0 z1 z2 z3 z4 ∧ (∀ o, w.frozen? ⟨b, o, none⟩ = false) ∧ b < w.heap.size ∧ b ≠ rb :=
  let c := h.cell i hi
  ⟨⟨c.1 0 _ rfl, c.1 1 _ rfl, c.1 2 _ rfl, c.1 3 _ rfl, c.1 4 _ rfl⟩, c.2.1, c.2.2.1, h.ne i hi⟩
theorem RF.getE (h : RF w0 w rb tb e T s L) (i : Nat) {v : Value} {xs : List Ex} (hi : L[i]? = some (.ex v xs)) : ERow w (okL w w0.heap.size (L.map It.bl)) v xs := h.it _ (List.mem_of_getElem? hi)
theorem RF.getB (h : RF w0 w rb tb e T s L) (i : Nat) {v : Value} {xs : List St} (hi : L[i]? = some (.st v xs)) : SRow w (okL w w0.heap.size (L.map It.bl)) v xs := h.it _ (List.mem_of_getElem? hi)
theorem RF.getP (h : RF w0 w rb tb e T s L) (i : Nat) {v : Value} {xs : List Str} (hi : L[i]? = some (.str v xs)) : StrRow w (okL w w0.heap.size (L.map It.bl)) v xs := h.it _ (List.mem_of_getElem? hi)
theorem RF.accE (h : RF w0 w rb tb e T s L) (i : Nat) {v : Value} {xs : List Ex} (hi : L[i]? = some (.accE v xs)) : ∃ cs, w.ownsRow w0.heap.size 36 4 v xs.length cs ∧ ECells w (okL w w0.heap.size (L.map It.bl)) cs xs := h.it _ (List.mem_of_getElem? hi)
theorem RF.accS (h : RF w0 w rb tb e T s L) (i : Nat) {v : Value} {xs : List St} (hi : L[i]? = some (.accS v xs)) : ∃ cs, w.ownsRow w0.heap.size 98 5 v xs.length cs ∧ SCells w (okL w w0.heap.size (L.map It.bl)) cs xs := h.it _ (List.mem_of_getElem? hi)
theorem RF.accN (h : RF w0 w rb tb e T s L) (i : Nat) {v : Value} {xs : List Str} (hi : L[i]? = some (.accN v xs)) : w.ownsRow w0.heap.size 9 1 v xs.length (strCells xs) := h.it _ (List.mem_of_getElem? hi)
theorem RF.accA (h : RF w0 w rb tb e T s L) (i : Nat) {v : Value} {xs : List Arr} (hi : L[i]? = some (.accA v xs)) : w.ownsRow w0.heap.size 73 2 v xs.length (arrCells xs) := h.it _ (List.mem_of_getElem? hi)
theorem RF.accF (h : RF w0 w rb tb e T s L) (i : Nat) {v : Value} {xs : List Bir.Fn} (hi : L[i]? = some (.accF v xs)) : ∃ cs, w.ownsRow w0.heap.size 76 3 v xs.length cs ∧ FnCells w (okL w w0.heap.size (L.map It.bl)) cs xs := h.it _ (List.mem_of_getElem? hi)
/-- What was made reads as a row. -/
theorem own_erow {base : Nat} {v : Value} {xs : List Ex} {cs : List Value} {ok : Nat → Prop} (h : w.ownsRow base 36 4 v xs.length cs) (hc : ECells w ok cs xs) (hok : ∀ b, ok b → okT w base b) : ERow w (okT w base) v xs := by
  have hn := fun b hb => owns_not h (by decide) (b := b) hb
  rcases h.2 with ⟨rfl, h0⟩ | ⟨g, cap, cur, rfl, hg, hh, hl, _, hs, ht⟩
  · obtain rfl : xs = [] := List.eq_nil_of_length_eq_zero h0
    exact .nil' _ _
  · refine .of_cells (hc.keep (ok' := okT w base) (Nat.le_refl _) fun b hb _ => ⟨rfl, hok b hb⟩) ⟨hg, (hn g rfl).2.2⟩ (Array.getElem?_eq_some_iff.1 hh).1 hl fun i u hu => ?_
    have := h.cells (g := g) rfl i u hu
    rwa [show (⟨g, 0, none⟩ : Addr).add i = ⟨g, i, none⟩ from by unfold Addr.add; split <;> simp_all] at this
theorem own_srow {base : Nat} {v : Value} {xs : List St} {cs : List Value} {ok : Nat → Prop} (h : w.ownsRow base 98 5 v xs.length cs) (hc : SCells w ok cs xs) (hok : ∀ b, ok b → okT w base b) : SRow w (okT w base) v xs := by
  have hn := fun b hb => owns_not h (by decide) (b := b) hb
  rcases h.2 with ⟨rfl, h0⟩ | ⟨g, cap, cur, rfl, hg, hh, hl, _, hs, ht⟩
  · obtain rfl : xs = [] := List.eq_nil_of_length_eq_zero h0
    exact .nil' _ _
  · refine .of_cells (hc.keep (ok' := okT w base) (Nat.le_refl _) fun b hb _ => ⟨rfl, hok b hb⟩) ⟨hg, (hn g rfl).2.2⟩ (Array.getElem?_eq_some_iff.1 hh).1 hl fun i u hu => ?_
    have := h.cells (g := g) rfl i u hu
    rwa [show (⟨g, 0, none⟩ : Addr).add i = ⟨g, i, none⟩ from by unfold Addr.add; split <;> simp_all] at this
theorem own_vrow {base size n : Nat} {t : TypeId} {v : Value} {cs : List Value} (h : w.ownsRow base t size v n cs) (ht : t ≠ 47) : VRow w (okT w base) size v n cs := by
  have hn := fun b hb => owns_not h ht (b := b) hb
  refine ⟨h.1, ?_⟩
  rcases h.2 with ⟨rfl, rfl⟩ | ⟨g, cap, cur, rfl, hg, hh, hl, _⟩
  · exact ⟨0, Nat.le_refl _, .inl ⟨rfl, none, rfl⟩⟩
  · refine ⟨cap, hl, .inr ⟨g, 0, rfl, ⟨hg, (hn g rfl).2.2⟩, (Array.getElem?_eq_some_iff.1 hh).1, fun i u hu => ?_⟩⟩
    have := h.cells (g := g) rfl i u hu
    rwa [show (⟨g, 0, none⟩ : Addr).add i = ⟨g, 0 + i, none⟩ from by unfold Addr.add; split <;> simp_all] at this
theorem RF.rowOfA (h : RF w0 w rb tb e T s L) (i : Nat) {v : Value} {xs : List Arr} (hi : L[i]? = some (.accA v xs)) : ArrRow w (okT w w0.heap.size) v xs := own_vrow (h.accA i hi) (by decide)
theorem RF.rowOfF (h : RF w0 w rb tb e T s L) (i : Nat) {v : Value} {xs : List Bir.Fn} (hi : L[i]? = some (.accF v xs)) : FnRow w (okT w w0.heap.size) v xs :=
  let ⟨cs, ho, hc⟩ := h.accF i hi
  ⟨cs, own_vrow ho (by decide), hc.keep (Nat.le_refl _) fun b hb _ => ⟨rfl, hb.1, hb.2.1⟩⟩
theorem RF.callF (h : RF w0 w rb tb e T s L) (hx : RX rb w w1) (h1 : RM w1 rb tb e T s1) {v1 v2 : Value} {xs : List Str} {b : List St} (hv1 : StrRow w1 (okT w1 w.heap.size) v1 xs) (hv2 : SRow w1 (okT w1 w.heap.size) v2 b) : RF w0 w1 rb tb e T s1 (.str v1 xs :: .st v2 b :: L) :=
  ((h.call hx h1).push (i := .st v2 b) rfl (hv2.keep (Nat.le_refl _) fun b hb _ => ⟨rfl, h.apart hb⟩)).push (i := .str v1 xs) rfl (VRow.keep hv1 (Nat.le_refl _) fun b hb _ => ⟨rfl, okL_none (h.apart hb)⟩)
theorem RF.acc0E (h : RF w0 w rb tb e T s L) : RF w0 w rb tb e T s (.accE (.slice none 0 0) [] :: L) := h.push rfl ⟨[], World.ownsRow_nil _ _ _ _, .nil _ _⟩
theorem RF.acc0S (h : RF w0 w rb tb e T s L) : RF w0 w rb tb e T s (.accS (.slice none 0 0) [] :: L) := h.push rfl ⟨[], World.ownsRow_nil _ _ _ _, .nil _ _⟩
theorem RF.acc0N (h : RF w0 w rb tb e T s L) : RF w0 w rb tb e T s (.accN (.slice none 0 0) [] :: L) := h.push rfl (World.ownsRow_nil _ _ _ _)
theorem RF.acc0A (h : RF w0 w rb tb e T s L) : RF w0 w rb tb e T s (.accA (.slice none 0 0) [] :: L) := h.push rfl (World.ownsRow_nil _ _ _ _)
theorem RF.acc0F (h : RF w0 w rb tb e T s L) : RF w0 w rb tb e T s (.accF (.slice none 0 0) [] :: L) := h.push rfl ⟨[], World.ownsRow_nil _ _ _ _, .nil⟩
theorem RF.rowOf (h : RF w0 w rb tb e T s L) (i : Nat) {v : Value} {xs : List Ex} (hi : L[i]? = some (.accE v xs)) : ERow w (okT w w0.heap.size) v xs :=
  let ⟨_, ho, hc⟩ := h.accE i hi
  own_erow ho hc fun b hb => ⟨hb.1, hb.2.1⟩
theorem RF.rowOfS (h : RF w0 w rb tb e T s L) (i : Nat) {v : Value} {xs : List St} (hi : L[i]? = some (.accS v xs)) : SRow w (okT w w0.heap.size) v xs :=
  let ⟨_, ho, hc⟩ := h.accS i hi
  own_srow ho hc fun b hb => ⟨hb.1, hb.2.1⟩
theorem RF.rowOfN (h : RF w0 w rb tb e T s L) (i : Nat) {v : Value} {xs : List Str} (hi : L[i]? = some (.accN v xs)) : StrRow w (okT w w0.heap.size) v xs := own_vrow (h.accN i hi) (by decide)
theorem RF.outE (h : RF w0 w rb tb e T s L) (i : Nat) {v : Value} {xs : List Ex} (hi : L[i]? = some (.ex v xs)) : ERow w (okT w w0.heap.size) v xs := (h.getE i hi).keep (Nat.le_refl _) fun b hb _ => ⟨rfl, hb.1, hb.2.1⟩
theorem RF.outB (h : RF w0 w rb tb e T s L) (i : Nat) {v : Value} {xs : List St} (hi : L[i]? = some (.st v xs)) : SRow w (okT w w0.heap.size) v xs := (h.getB i hi).keep (Nat.le_refl _) fun b hb _ => ⟨rfl, hb.1, hb.2.1⟩
/-- What is not wanted any more. -/
theorem RF.drop (h : RF w0 w rb tb e T s L) {L' : List It} (hs : L'.Sublist L) : RF w0 w rb tb e T s L' :=
  ⟨h.lt, h.tlt, h.st, h.rx, fun i hi => It.keep (h.it i (hs.subset hi)) (Nat.le_refl _) (Nat.le_refl _) fun b _ _ _ _ => ⟨rfl, fun h1 h2 => h1 ((hs.map It.bl).subset h2)⟩, h.dist.sublist hs⟩
end
end Go.BW
namespace Go.Proofs.YtdijffojppjmfaaDoor
open Go.RowKit Bir Go.BW
theorem rf_endF {w0 w : World} {rb tb e : Nat} {T : List Tok} {s : RS} {L : List It} {fn : Func} {k r : Nat} {tm : Array Value} {z0 z1 z2 a0 a1 a2 : Value} {Q : Ending → World → Prop} (hfn : fn.results = #[.cell k 76]) (h : RF w0 w rb tb e T s L) (i : Nat) (hi : L[i]? = some (.blk r 76 [z0, z1, z2]))
    (htm : tm.getD k undef = .pointer (some ⟨r, 0, none⟩)) (hQ : ∀ W, RF w0 W rb tb e T s (L.set i (.blk r 76 [a0, a1, a2])) → Q (.returned (.agg #[a0, a1, a2])) W) :
    bodyPost Tryd.prog fn Q .ret { tmps := tm, defers := [] } (((w.setCell ⟨r, 0, none⟩ a0).setCell ⟨r, 1, none⟩ a1).setCell ⟨r, 2, none⟩ a2) := by
  have hs := h.sets3 i hi a0 a1 a2
  obtain ⟨⟨q0, q1, q2⟩, _⟩ := hs.c3 i (set_get hi)
  generalize (((w.setCell ⟨r, 0, none⟩ a0).setCell ⟨r, 1, none⟩ a1).setCell ⟨r, 2, none⟩ a2) = W at hs q0 q1 q2 ⊢
  refine bodyPost_ret (v := .agg #[a0, a1, a2]) ?_ rfl (hQ W hs)
  have htm' : tm[k]?.getD undef = .pointer (some ⟨r, 0, none⟩) := by rw [← htm]; simp
  simp [results, hfn, htm', go_sem, q0, q1, q2]
theorem rf_endP {w0 w : World} {rb tb e : Nat} {T : List Tok} {s : RS} {L : List It} {fn : Func} {k r : Nat} {tm : Array Value} {z0 z1 a0 a1 : Value} {Q : Ending → World → Prop} (hfn : fn.results = #[.cell k 26]) (h : RF w0 w rb tb e T s L) (i : Nat) (hi : L[i]? = some (.blk r 26 [z0, z1]))
    (htm : tm.getD k undef = .pointer (some ⟨r, 0, none⟩)) (hQ : ∀ W, RF w0 W rb tb e T s (L.set i (.blk r 26 [a0, a1])) → Q (.returned (.agg #[a0, a1])) W) :
    bodyPost Tryd.prog fn Q .ret { tmps := tm, defers := [] } ((w.setCell ⟨r, 0, none⟩ a0).setCell ⟨r, 1, none⟩ a1) := by
  have hs := h.sets2 i hi a0 a1
  obtain ⟨⟨q0, q1⟩, _⟩ := hs.c2 i (set_get hi)
  generalize ((w.setCell ⟨r, 0, none⟩ a0).setCell ⟨r, 1, none⟩ a1) = W at hs q0 q1 ⊢
  refine bodyPost_ret (v := .agg #[a0, a1]) ?_ rfl (hQ W hs)
  have htm' : tm[k]?.getD undef = .pointer (some ⟨r, 0, none⟩) := by rw [← htm]; simp
  simp [results, hfn, htm', go_sem, q0, q1]
/-- What a method of the reader's hands back; V: how its value reads. -/
def RPost {α : Type} (V : World → (Nat → Prop) → Value → α → Prop) (w : World) (rb tb e : Nat) (T : List Tok) (p : α × RS) (en : Ending) (w' : World) : Prop :=
  ∃ v, en = .returned v ∧ V w' (okT w' w.heap.size) v p.1 ∧ RX rb w w' ∧ RM w' rb tb e T p.2
section
variable {w0 w : World} {rb tb e : Nat} {T : List Tok} {s : RS} {L : List It}
/-- The end of a method that hands back an expression: its result's cells are written last. -/
theorem rf_endE {fn : Func} {k r : Nat} {tm : Array Value} {z0 z1 z2 z3 a0 a1 a2 a3 : Value} {Q : Ending → World → Prop} (hfn : fn.results = #[.cell k 36]) (h : RF w0 w rb tb e T s L) (i : Nat) (hi : L[i]? = some (.blk r 36 [z0, z1, z2, z3]))
    (htm : tm.getD k undef = .pointer (some ⟨r, 0, none⟩)) (hQ : ∀ W, RF w0 W rb tb e T s (L.set i (.blk r 36 [a0, a1, a2, a3])) → Q (.returned (.agg #[a0, a1, a2, a3])) W) :
    bodyPost Tryd.prog fn Q .ret { tmps := tm, defers := [] } (set4 w r a0 a1 a2 a3) := by
  have hs := h.sets4 i hi a0 a1 a2 a3
  obtain ⟨⟨q0, q1, q2, q3⟩, _⟩ := hs.c4 i (set_get hi)
  generalize set4 w r a0 a1 a2 a3 = W at hs q0 q1 q2 q3 ⊢
  refine bodyPost_ret (v := .agg #[a0, a1, a2, a3]) ?_ rfl (hQ W hs)
  have htm' : tm[k]?.getD undef = .pointer (some ⟨r, 0, none⟩) := by rw [← htm]; simp
  simp [results, hfn, htm', go_sem, q0, q1, q2, q3]
theorem rf_endS {fn : Func} {k r : Nat} {tm : Array Value} {z0 z1 z2 z3 z4 a0 a1 a2 a3 a4 : Value} {Q : Ending → World → Prop} (hfn : fn.results = #[.cell k 98]) (h : RF w0 w rb tb e T s L) (i : Nat) (hi : L[i]? = some (.blk r 98 [z0, z1, z2, z3, z4]))
    (htm : tm.getD k undef = .pointer (some ⟨r, 0, none⟩)) (hQ : ∀ W, RF w0 W rb tb e T s (L.set i (.blk r 98 [a0, a1, a2, a3, a4])) → Q (.returned (.agg #[a0, a1, a2, a3, a4])) W) :
    bodyPost Tryd.prog fn Q .ret { tmps := tm, defers := [] } (set5 w r a0 a1 a2 a3 a4) := by
  have hs := h.sets5 i hi a0 a1 a2 a3 a4
  obtain ⟨⟨q0, q1, q2, q3, q4⟩, _⟩ := hs.c5 i (set_get hi)
  generalize set5 w r a0 a1 a2 a3 a4 = W at hs q0 q1 q2 q3 q4 ⊢
  refine bodyPost_ret (v := .agg #[a0, a1, a2, a3, a4]) ?_ rfl (hQ W hs)
  have htm' : tm[k]?.getD undef = .pointer (some ⟨r, 0, none⟩) := by rw [← htm]; simp
  simp [results, hfn, htm', go_sem, q0, q1, q2, q3, q4]
end
section
variable {w0 w : World} {rb tb e : Nat} {T : List Tok} {s : RS} {L : List It}
/-- A row of its own is made. -/
theorem _root_.Go.BW.RF.rowE (h : RF w0 w rb tb e T s L) {cs : List Value} {xs : List Ex} (hc : ECells w (okL w w0.heap.size (L.map It.bl)) cs xs) :
    RF w0 (w.alloc (.cells cs.toArray 36)) rb tb e T s (.ex (.slice (some ⟨w.heap.size, 0, none⟩) xs.length xs.length) xs :: L) := by
  have hk : ∀ b, okL w w0.heap.size (L.map It.bl) b → b < w.heap.size → (w.alloc (.cells cs.toArray 36)).heap[b]? = w.heap[b]? ∧ okL (w.alloc (.cells cs.toArray 36)) w0.heap.size (L.map It.bl) b := fun b hb hl => by
    have he : (w.alloc (.cells cs.toArray 36)).heap[b]? = w.heap[b]? := Below.heap_alloc _ _ b hl
    exact ⟨he, hb.1, fun hs => hb.2.1 ((isSpan.same he).1 hs), hb.2.2⟩
  refine (h.alloc _).pushE (ERow.of_cells (hc.keep (by simp) hk) ⟨h.size, ?_, fun hm => ?_⟩ (by simp) (Nat.le_refl _) (fun i u hu => cells_of_new w cs _ i u hu))
  · rintro ⟨cs', fr, hh⟩
    rw [show (w.alloc (.cells cs.toArray 36)).heap[w.heap.size]? = some (.cells cs.toArray 36 (0, 0)) from by show (w.heap.push _)[w.heap.size]? = _; exact Array.getElem?_push_size] at hh
    injection hh with hh
    injection hh with _ hh _
    exact absurd hh (by decide)
  · have := (h.bl_lt hm).2
    omega
theorem _root_.Go.BW.RF.rowS (h : RF w0 w rb tb e T s L) {cs : List Value} {xs : List St} (hc : SCells w (okL w w0.heap.size (L.map It.bl)) cs xs) :
    RF w0 (w.alloc (.cells cs.toArray 98)) rb tb e T s (.st (.slice (some ⟨w.heap.size, 0, none⟩) xs.length xs.length) xs :: L) := by
  have hk : ∀ b, okL w w0.heap.size (L.map It.bl) b → b < w.heap.size → (w.alloc (.cells cs.toArray 98)).heap[b]? = w.heap[b]? ∧ okL (w.alloc (.cells cs.toArray 98)) w0.heap.size (L.map It.bl) b := fun b hb hl => by
    have he : (w.alloc (.cells cs.toArray 98)).heap[b]? = w.heap[b]? := Below.heap_alloc _ _ b hl
    exact ⟨he, hb.1, fun hs => hb.2.1 ((isSpan.same he).1 hs), hb.2.2⟩
  refine (h.alloc _).pushB (SRow.of_cells (hc.keep (by simp) hk) ⟨h.size, ?_, fun hm => ?_⟩ (by simp) (Nat.le_refl _) (fun i u hu => cells_of_new w cs _ i u hu))
  · rintro ⟨cs', fr, hh⟩
    rw [show (w.alloc (.cells cs.toArray 98)).heap[w.heap.size]? = some (.cells cs.toArray 98 (0, 0)) from by show (w.heap.push _)[w.heap.size]? = _; exact Array.getElem?_push_size] at hh
    injection hh with hh
    injection hh with _ hh _
    exact absurd hh (by decide)
  · have := (h.bl_lt hm).2
    omega
theorem _root_.Go.BW.RF.row1 (h : RF w0 w rb tb e T s L) {x : Ex} {k1 : Value} (h1 : ERow w (okL w w0.heap.size (L.map It.bl)) k1 x.kids) :
    RF w0 (w.alloc (.cells #[.int .i64 x.kind, .int .i64 x.num, .string (ba x.name), k1] 36)) rb tb e T s (.ex (.slice (some ⟨w.heap.size, 0, none⟩) 1 1) [x] :: L) :=
  h.rowE (cs := [.int .i64 x.kind, .int .i64 x.num, .string (ba x.name), k1]) (xs := [x]) ((ECells.nil _ _).snoc h1)
theorem _root_.Go.BW.RF.row2 (h : RF w0 w rb tb e T s L) {x y : Ex} {k1 k2 : Value} (h1 : ERow w (okL w w0.heap.size (L.map It.bl)) k1 x.kids) (h2 : ERow w (okL w w0.heap.size (L.map It.bl)) k2 y.kids) :
    RF w0 (w.alloc (.cells #[.int .i64 x.kind, .int .i64 x.num, .string (ba x.name), k1, .int .i64 y.kind, .int .i64 y.num, .string (ba y.name), k2] 36)) rb tb e T s (.ex (.slice (some ⟨w.heap.size, 0, none⟩) 2 2) [x, y] :: L) :=
  h.rowE (cs := [.int .i64 x.kind, .int .i64 x.num, .string (ba x.name), k1, .int .i64 y.kind, .int .i64 y.num, .string (ba y.name), k2]) (xs := [x, y]) (((ECells.nil _ _).snoc h1).snoc h2)
theorem _root_.Go.BW.RF.row3 (h : RF w0 w rb tb e T s L) {x y z : Ex} {k1 k2 k3 : Value} (h1 : ERow w (okL w w0.heap.size (L.map It.bl)) k1 x.kids) (h2 : ERow w (okL w w0.heap.size (L.map It.bl)) k2 y.kids) (h3 : ERow w (okL w w0.heap.size (L.map It.bl)) k3 z.kids) :
    RF w0 (w.alloc (.cells #[.int .i64 x.kind, .int .i64 x.num, .string (ba x.name), k1, .int .i64 y.kind, .int .i64 y.num, .string (ba y.name), k2, .int .i64 z.kind, .int .i64 z.num, .string (ba z.name), k3] 36)) rb tb e T s (.ex (.slice (some ⟨w.heap.size, 0, none⟩) 3 3) [x, y, z] :: L) :=
  h.rowE (cs := [.int .i64 x.kind, .int .i64 x.num, .string (ba x.name), k1, .int .i64 y.kind, .int .i64 y.num, .string (ba y.name), k2, .int .i64 z.kind, .int .i64 z.num, .string (ba z.name), k3]) (xs := [x, y, z]) ((((ECells.nil _ _).snoc h1).snoc h2).snoc h3)
theorem _root_.Go.BW.RF.rowS1 (h : RF w0 w rb tb e T s L) {x : St} {k1 k2 k3 : Value} (h1 : ERow w (okL w w0.heap.size (L.map It.bl)) k1 x.exprs) (h2 : SRow w (okL w w0.heap.size (L.map It.bl)) k2 x.body) (h3 : SRow w (okL w w0.heap.size (L.map It.bl)) k3 x.els) :
    RF w0 (w.alloc (.cells #[.int .i64 x.kind, .string (ba x.name), k1, k2, k3] 98)) rb tb e T s (.st (.slice (some ⟨w.heap.size, 0, none⟩) 1 1) [x] :: L) :=
  h.rowS (cs := [.int .i64 x.kind, .string (ba x.name), k1, k2, k3]) (xs := [x]) ((SCells.nil _ _).snoc h1 h2 h3)
end
theorem ob {α β : Type} {o : Option α} {f : α → Option β} {y : β} (h : o.bind f = some y) : ∃ x, o = some x ∧ f x = some y := Option.bind_eq_some_iff.1 h
/-- What the methods do on expressions, where the plain ones come to an end in n steps. -/
structure RAll (n : Nat) : Prop where
  expr : ∀ {w : World} {rb tb e : Nat} {T : List Tok} {s : RS} {p : Ex × RS}, RM w rb tb e T s → (rd T e n).expr s = some p → Calls Tryd.prog 45 #[pp rb] w (RPost EVal w rb tb e T p)
  bin : ∀ {w : World} {rb tb e : Nat} {T : List Tok} {s : RS} {p : Ex × RS} (lvl : Nat) (v : Int), v = lvl → 1 ≤ lvl → lvl ≤ 11 → RM w rb tb e T s → (rd T e n).bin lvl s = some p → Calls Tryd.prog 86 #[pp rb, .int .i64 v] w (RPost EVal w rb tb e T p)
  un : ∀ {w : World} {rb tb e : Nat} {T : List Tok} {s : RS} {p : Ex × RS}, RM w rb tb e T s → (rd T e n).un s = some p → Calls Tryd.prog 114 #[pp rb] w (RPost EVal w rb tb e T p)
  args : ∀ {w : World} {rb tb e : Nat} {T : List Tok} {s : RS} {p : List Ex × RS}, RM w rb tb e T s → (rd T e n).args true [] s = some p → Calls Tryd.prog 133 #[pp rb] w (RPost ERow w rb tb e T p)
end Go.Proofs.YtdijffojppjmfaaDoor
set_option linter.unusedVariables false
set_option linter.unusedSimpArgs false
namespace Go.BW
open Go.RowKit Bir
/-- append of one to an own row, as a step of a region that draws. -/
theorem step_append_one {P : Program} {ops : Array Oper} {o : Oper} {a : Act} {K : Act → World → Prop} {Q : Exit → Act → World → Prop} {E : Prop} (hgd : o.guard = none)
    (W w : World) (base : Nat) (s x : Operand) (t e : TypeId) (z : Value) (size bytes : Nat)
    (ho : o.op = .call { callee := .builtin .append, args := #[s, x], argTypes := #[t, t] })
    (ht : P.underlying t = some (.slice e)) (hinfo : (P.info? e).map (fun i => (i.zero, i.size, i.bytes)) = some (some z, size, bytes)) (hz : z.cells.size = size) (hs0 : 0 < size) (hb0 : 0 < bytes)
    (v : Value) (n : Nat) (xs ys : List Value) (hw : w = W.alloc (.cells ys.toArray e)) (hs : a.eval s = v) (hx : a.eval x = .slice (some ⟨W.heap.size, 0, none⟩) 1 1) (hys : ys.length = size) (h1 : ∀ u ∈ ys, u.oneCell' = true)
    (HO : W.ownsRow base e size v n xs) (hbase : base ≤ W.heap.size) (hl : (n + 1) * bytes ≤ 140737488355328)
    (h : ∀ v1 w1, w1.ownsRow base e size v1 (n + 1) (xs ++ ys) → Ext (fun b => v.ownBlock = some b) W w1 → (v1.ownBlock = v.ownBlock ∨ ∃ b, v1.ownBlock = some b ∧ W.heap.size ≤ b) → K (a.put o.dst v1) w1) :
    if Region.wanted o (yielded ops a.tmps) = true then Oper.wp P o a w K Q else E := by
  have hw' : Region.wanted o (yielded ops a.tmps) = true := by simp [Region.wanted, hgd]
  rw [if_pos hw', hw]
  exact Go.Proofs.YtdijffojppjmfaaDoor.append_one_op W base s x t e z size bytes ho ht hinfo hz hs0 hb0 v n xs ys hs hx hys h1 HO hbase hl h
end Go.BW
namespace Go.Proofs.YtdijffojppjmfaaDoor
open Go.RowKit Bir Go.BW Go.Proofs.YtdijffojppjmfaaDoorW.PrintLast
theorem infoSp : (Tryd.prog.info? 47).map (fun i => (i.zero, i.size, i.bytes)) = some (some (.agg #[.int .i64 0, .int .i64 0]), 2, 16) := by kernel_rfl
theorem spanCells_snoc (sp : List (Nat × Nat)) (f a : Nat) : spanCells (sp ++ [(f, a)]) = spanCells sp ++ [.int .i64 f, .int .i64 a] := by simp [spanCells]
/-- A span more. -/
theorem rm_said {W W1 : World} {rb tb e : Nat} {T : List Tok} {s : RS} {v v1 : Value} {f : Nat} (h : RM W rb tb e T s) (hv : W.cell? ⟨rb, 5, none⟩ = some v) (hlen : s.sp.length < 1000000000)
    (hown : W1.ownsRow (rb + 1) 47 2 v1 (s.sp.length + 1) (spanCells s.sp ++ [.int .i64 f, .int .i64 s.at_])) (hx : Ext (fun b => v.ownBlock = some b) W W1) :
    RM (W1.setCell ⟨rb, 5, none⟩ v1) rb tb e T ⟨s.at_, s.k, s.pos, s.sp ++ [(f, s.at_)]⟩ ∧ RX rb W (W1.setCell ⟨rb, 5, none⟩ v1) := by
  obtain ⟨A, c, v', ⟨q0, q1, q2, q3, q4, q5⟩, h2, h3, h4⟩ := h.cells
  rw [q5] at hv
  obtain rfl : v' = v := by injection hv
  have hsp : ∀ b, v'.ownBlock = some b → isSpan W b := fun b hb => own_span h4 hb
  have hx' : Ext (fun b => b = rb ∨ (rb < b ∧ isSpan W b)) W W1 := hx.mono fun b hb => .inl (.inr ⟨(ownsRow_block h4 hb).1, hsp b hb⟩)
  have hnr : ¬ v'.ownBlock = some rb := fun hb => h.noS (hsp rb hb)
  have hX : RX rb W (W1.setCell ⟨rb, 5, none⟩ v1) := ⟨hx'.setCell (p := ⟨rb, 5, none⟩) (.inl (.inl rfl)) v1⟩
  have hE := (Ext.refl (fun b => b = rb) W1).setCell (p := ⟨rb, 5, none⟩) (.inl rfl) v1
  refine ⟨⟨by have := hx.size; have := h.rb_lt; simp [World.setCell]; omega, fun o => by rw [World.frozen?_setCell]; exact frz_ext h.fz hx h.rb_lt hnr o, h.at_le, h.len, by simp; omega, h.wf, ?_, fun hn => ?_, A, c, v1, ⟨?_, ?_, ?_, ?_, ?_, ?_⟩, h2, h3, ?_⟩, hX⟩
  · intro hs
    exact h.noS ((isSpan.same (hx.block rb h.rb_lt hnr)).1 ((isSpan.setCell _ _ _ _).1 hs))
  · obtain ⟨a1, a2, a3, a4⟩ := h.toks hn
    have ht : ¬ (tb = rb ∨ (rb < tb ∧ isSpan W tb)) := fun hh => hh.elim a2 fun q => a3 q.2
    have hb := hX.ext.block tb a1 ht
    exact ⟨Nat.lt_of_lt_of_le a1 hX.ext.size, a2, fun hs => a3 ((isSpan.same hb).1 hs), a4.keep hb⟩
  · exact cell_far_set (cell_ext q0 hx hnr) (by omega)
  · exact cell_far_set (cell_ext q1 hx hnr) (by omega)
  · exact cell_far_set (cell_ext q2 hx hnr) (by omega)
  · exact cell_far_set (cell_ext q3 hx hnr) (by omega)
  · exact cell_far_set (cell_ext q4 hx hnr) (by omega)
  · exact cell_same_set (cell_ext q5 hx hnr)
  · show (W1.setCell ⟨rb, 5, none⟩ v1).ownsRow (rb + 1) _ 2 v1 (s.sp ++ [(f, s.at_)]).length (spanCells (s.sp ++ [(f, s.at_)]))
    rw [spanCells_snoc, List.length_append]
    exact ownsRow_same hown fun g hg => Below.heap_setCell W1 _ _ g (by have := (ownsRow_block hown hg).1; show g ≠ rb; omega)
section
variable {w : World} {rb tb e : Nat} {T : List Tok} {s s' : RS}
set_option maxHeartbeats 8000000 in
set_option maxRecDepth 100000 in
theorem rsaid_calls (h : RM w rb tb e T s) (f : Nat) (x0 x1 x2 x3 : Value) (hx3 : ∃ A n c, x3 = .slice A n c) (hx0 : ∃ i, x0 = .int .i64 i) (hx1 : ∃ i, x1 = .int .i64 i) (hx2 : ∃ i, x2 = .string i) (hs : s.said f = some s') :
    Calls Tryd.prog 88 #[pp rb, .int .i64 f, .agg #[x0, x1, x2, x3]] w fun r w' => r = .returned (.agg #[x0, x1, x2, x3]) ∧ RX rb w w' ∧ RM w' rb tb e T s' := by
  obtain ⟨A, n, c, rfl⟩ := hx3
  obtain ⟨i0, rfl⟩ := hx0
  obtain ⟨i1, rfl⟩ := hx1
  obtain ⟨i2, rfl⟩ := hx2
  have hlen : s.sp.length < 1000000000 := by
    unfold RS.said at hs
    split at hs
    · assumption
    · cases hs
  have hs' : s' = ⟨s.at_, s.k, s.pos, s.sp ++ [(f, s.at_)]⟩ := by
    unfold RS.said at hs
    rw [if_pos hlen] at hs
    injection hs with hs
    exact hs.symm
  subst hs'
  have HF := Lib.hid ((RF.start h).make [.int .i64 i0, .int .i64 i1, .string i2, .slice A n c] 36 (by decide))
  have HF2 := Lib.hid (HF.out.make [.int .i64 0, .int .i64 0, .string ⟨#[]⟩, .slice none 0 0] 36 (by decide))
  go_enter Tryd.func88, Tryd.ntmps88
  go_wp2_with fail
  clear hs
  clear h HF
  rw [World.size_alloc] at HF2
  generalize (w.alloc (.cells #[.int .i64 i0, .int .i64 i1, .string i2, .slice A n c] 36)).alloc (.cells #[.int .i64 0, .int .i64 0, .string ⟨#[]⟩, .slice none 0 0] 36) = W at HF2 ⊢
  have HM := Lib.hid HF2.out.st
  obtain ⟨A1, c1, v, ⟨q0, q1, q2, q3, q4, q5⟩, h2, h3, h4⟩ := HM.out.cells
  have fz := HM.out.fz
  have HO := Lib.hid h4
  have HL := Lib.hid hlen
  have HN : Hid (¬ v.ownBlock = some rb) := Lib.hid fun hb => HM.out.noS (own_span h4 hb)
  have HRB := Lib.hid HM.out.rb_lt
  have HQ5 := Lib.hid q5
  have hb16 : (s.sp.length + 1) * 16 ≤ 140737488355328 := by omega
  have HB16 := Lib.hid hb16
  have HFZ := Lib.hid fz
  clear h2 h3 h4 q0 q1 q3 q4 hlen hb16
  have H1C : Hid (∀ u ∈ ([.int .i64 f, .int .i64 s.at_] : List Value), u.oneCell' = true) := Lib.hid (by simp [Value.oneCell'])
  have hd2 : 0 < 2 := by decide
  have hd16 : 0 < 16 := by decide
  refine wp_region_last_drew (S := fun w' => w'.cell? ⟨rb, 5, none⟩ = some v ∧ w'.cell? ⟨rb, 2, none⟩ = some (.int .i64 s.at_)) (ds := [12, 13, 14, 15]) (by kernel_rfl) ⟨q5, q2⟩ (fun hHeld => ?_)
  refine last_pure (i := 0) (v := pp rb) rfl (by kernel_rfl) (by kernel_rfl) (by kernel_rfl) (fun _ _ _ h => h) (Or.inl ⟨by rfl, ?_⟩) ?_
  · intro w'
    go_simp
  (try simp only [Act.put, List.setIfInBounds_toArray, List.set_cons_zero, List.set_cons_succ])
  refine last_pure (i := 1) (v := pp rb) rfl (by kernel_rfl) (by kernel_rfl) (by kernel_rfl) (fun _ _ _ h => h) (Or.inl ⟨by rfl, ?_⟩) ?_
  · intro w'
    go_simp
  (try simp only [Act.put, List.setIfInBounds_toArray, List.set_cons_zero, List.set_cons_succ])
  refine last_pure (i := 2) (v := pp rb) rfl (by kernel_rfl) (by kernel_rfl) (by kernel_rfl) (fun _ _ _ h => h) (Or.inl ⟨by rfl, ?_⟩) ?_
  · intro w'
    go_simp
  (try simp only [Act.put, List.setIfInBounds_toArray, List.set_cons_zero, List.set_cons_succ])
  refine last_pure (i := 3) (v := .pointer (some ⟨rb, 5, none⟩)) rfl (by kernel_rfl) (by kernel_rfl) (by kernel_rfl) (fun _ _ _ h => h) (Or.inl ⟨by rfl, ?_⟩) ?_
  · intro w'
    go_simp
  (try simp only [Act.put, List.setIfInBounds_toArray, List.set_cons_zero, List.set_cons_succ])
  refine wpAnyLast_take (i := 4) (v := v) rfl (by kernel_rfl) (by kernel_rfl) (by kernel_rfl) (by kernel_rfl) (by kernel_rfl) (fun _ _ _ h => h) (Or.inl ⟨by rfl, ?_⟩) hHeld ?_
  · rintro w' ⟨a1, a2⟩
    go_simp
  (try simp only [Act.put, List.setIfInBounds_toArray, List.set_cons_zero, List.set_cons_succ])
  refine last_pure (i := 5) (v := .int .i64 f) rfl (by kernel_rfl) (by kernel_rfl) (by kernel_rfl) (fun _ _ _ h => h) (Or.inl ⟨by rfl, ?_⟩) ?_
  · intro w'
    go_simp
  (try simp only [Act.put, List.setIfInBounds_toArray, List.set_cons_zero, List.set_cons_succ])
  refine last_pure (i := 6) (v := pp rb) rfl (by kernel_rfl) (by kernel_rfl) (by kernel_rfl) (fun _ _ _ h => h) (Or.inl ⟨by rfl, ?_⟩) ?_
  · intro w'
    go_simp
  (try simp only [Act.put, List.setIfInBounds_toArray, List.set_cons_zero, List.set_cons_succ])
  refine last_pure (i := 7) (v := pp rb) rfl (by kernel_rfl) (by kernel_rfl) (by kernel_rfl) (fun _ _ _ h => h) (Or.inl ⟨by rfl, ?_⟩) ?_
  · intro w'
    go_simp
  (try simp only [Act.put, List.setIfInBounds_toArray, List.set_cons_zero, List.set_cons_succ])
  refine last_pure (i := 8) (v := .pointer (some ⟨rb, 2, none⟩)) rfl (by kernel_rfl) (by kernel_rfl) (by kernel_rfl) (fun _ _ _ h => h) (Or.inl ⟨by rfl, ?_⟩) ?_
  · intro w'
    go_simp
  (try simp only [Act.put, List.setIfInBounds_toArray, List.set_cons_zero, List.set_cons_succ])
  refine wpAnyLast_take (i := 9) (v := .int .i64 s.at_) rfl (by kernel_rfl) (by kernel_rfl) (by kernel_rfl) (by kernel_rfl) (by kernel_rfl) (fun _ _ _ h => h) (Or.inl ⟨by rfl, ?_⟩) hHeld ?_
  · rintro w' ⟨a1, a2⟩
    go_simp
  (try simp only [Act.put, List.setIfInBounds_toArray, List.set_cons_zero, List.set_cons_succ])
  refine last_pure (i := 10) (v := .agg #[.int .i64 f, .int .i64 s.at_]) rfl (by kernel_rfl) (by kernel_rfl) (by kernel_rfl) (fun _ _ _ h => h) (Or.inl ⟨by rfl, ?_⟩) ?_
  · intro w'
    go_simp
  (try simp only [Act.put, List.setIfInBounds_toArray, List.set_cons_zero, List.set_cons_succ])
  refine wpAnyLast_ready (rs := [11]) (by kernel_rfl) (by simp) ?_
  refine AllReadyL.cons rfl (by decide) (fun K hK => ?_) AllReadyL.nil
  go_simp
  refine hK.out _ _ (And.intro (cell_ext (S := fun _ => False) q5 (((Ext.refl _ W).alloc _).drew) id) (cell_ext (S := fun _ => False) q2 (((Ext.refl _ W).alloc _).drew) id)) (fun _ => ?_)
  (try simp only [Act.put, List.setIfInBounds_toArray, List.set_cons_zero, List.set_cons_succ])
  refine wpAnyLast_ready (rs := [12]) (by kernel_rfl) (by simp) ?_
  refine AllReadyL.cons_last rfl (by decide) (fun K5 hK5 => ?_) AllReadyL.nil
  rw [if_pos (by rfl)]
  refine append_one_op W.drew (rb + 1) _ _ 43 47 _ 2 16 rfl Tryd.underlying43 infoSp rfl hd2 hd16 v s.sp.length (spanCells s.sp) [.int .i64 f, .int .i64 s.at_] rfl rfl rfl H1C.out HO.out (Nat.succ_le_of_lt HRB.out) HB16.out ?_
  intro v1 w8 hown hx8 hat
  refine hK5.out _ _ ?_
  replace hx8 : Ext (fun b => v.ownBlock = some b) W w8 := ⟨hx8.os, hx8.tape, hx8.output, hx8.size, hx8.block⟩
  obtain ⟨HMn, HXn⟩ := rm_said (W := W) (W1 := w8) (f := f) HM.out q5 HL.out hown hx8
  have g5 := cell_ext (S := fun b => v.ownBlock = some b) q5 hx8 HN.out
  have gf := frz_ext (S := fun b => v.ownBlock = some b) fz hx8 HRB.out HN.out
  have HF3 := Lib.hid (HF2.out.call HXn HMn)
  obtain ⟨A8, c8, rfl, _⟩ := (VRow.of_own hown).slice
  clear HMn HXn hown hx8 hat
  (try simp only [Act.put, List.setIfInBounds_toArray, List.set_cons_zero, List.set_cons_succ])
  refine wpAnyLast_ready (rs := [13]) (by kernel_rfl) (by simp) ?_
  refine AllReadyL.cons_last rfl (by decide) (fun K6 hK6 => ?_) AllReadyL.nil
  go_simp
  refine hK6.out _ _ ?_
  (try simp only [Act.put, List.setIfInBounds_toArray, List.set_cons_zero, List.set_cons_succ])
  refine wpAnyLast_ready (rs := [14]) (by kernel_rfl) (by simp) ?_
  refine AllReadyL.cons_last rfl (by decide) (fun K7 hK7 => ?_) AllReadyL.nil
  go_simp
  refine hK7.out _ _ ?_
  (try simp only [Act.put, List.setIfInBounds_toArray, List.set_cons_zero, List.set_cons_succ])
  refine wpAnyLast_ready (rs := [15]) (by kernel_rfl) (by simp) ?_
  refine AllReadyL.cons_last rfl (by decide) (fun K8 hK8 => ?_) AllReadyL.nil
  go_simp
  refine hK8.out _ _ ?_
  refine wpAnyLast_done (by kernel_rfl) ?_ _
  (try simp only [Act.put, List.setIfInBounds_toArray, List.set_cons_zero, List.set_cons_succ])
  generalize w8.setCell ⟨rb, 5, none⟩ (.slice A8 (s.sp.length + 1) c8) = W9 at HF3 ⊢
  obtain ⟨c0, f0, z0, _⟩ := HF3.out.cell 1 rfl
  obtain ⟨d0, g0, y0, _⟩ := HF3.out.cell 0 rfl
  have k0 := c0 0 _ rfl
  have k1 := c0 1 _ rfl
  have k2 := c0 2 _ rfl
  have k3 := c0 3 _ rfl
  have j0 := d0 0 _ rfl
  have j1 := d0 1 _ rfl
  have j2 := d0 2 _ rfl
  have j3 := d0 3 _ rfl
  have ne0 : w.heap.size ≠ w.heap.size + 1 := by omega
  clear c0 d0 q2 q5 fz hHeld hK hK5 hK6 hK7 hK8 g5 gf
  go_wp2_with fail
  exact rf_endE rfl HF3.out 0 rfl rfl fun W h => ⟨rfl, h.rx, h.st⟩
end
end Go.Proofs.YtdijffojppjmfaaDoor
