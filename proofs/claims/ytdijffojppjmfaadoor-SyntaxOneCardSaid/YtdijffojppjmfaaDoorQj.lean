/- The lexer, walked. -/
import Derived.Maps.AppendAt
import Derived.Maps.OwnIn
import Derived.Test.YtdijffojppjmfaaDoorQi
import Derived.Test.YtdijffojppjmfaaDoorQc
set_option linter.unusedVariables false
set_option linter.unusedSimpArgs false
namespace Go.Proofs.YtdijffojppjmfaaDoor
open Go.RowKit Go.Shelf Bir Go.BW
attribute [local go_sem] Oper.semAt_some
theorem all_calls (s : Str) (w : World) : Calls Tryd.prog 105 #[.string (ba s)] w fun e w' => e = .returned (.func (.func 126) #[] #[.pointer (some ⟨w.heap.size, 0, none⟩)]) ∧ w' = w.alloc (.cells #[.string (ba s)] 9) := by
  go_enter Tryd.func105, Tryd.ntmps105
  go_wp2
  go_ret
  exact ⟨rfl, rfl⟩
/-- What the lexer hands back. -/
def LPost (s : Str) (w : World) (en : Ending) (w' : World) : Prop :=
  Below w.heap.size w w' ∧
  (20000 < s.length ∧ en = .returned (.tuple #[.slice none 0 0, .int .i64 0, .int .i64 3]) ∨
   s.length ≤ 20000 ∧ ((∃ a, lex s = .bad a ∧ en = .returned (.tuple #[.slice none 0 0, .int .i64 a, .int .i64 4])) ∨
    ∃ l A c, lex s = .ok l ∧ en = .returned (.tuple #[.slice A l.length c, .int .i64 0, .int .i64 0]) ∧ l.length ≤ c ∧ c ≤ 9223372036854775807 ∧ (l = [] ∨ ∃ tb, A = some ⟨tb, 0, none⟩ ∧ w.heap.size ≤ tb ∧ tb < w'.heap.size ∧ ToksAt w' tb 0 l)))
def tokCells (l : List Tok) : List Value := l.flatMap fun t => [.int .i64 t.kind, .string (ba t.text), .int .i64 t.off]
theorem tokCells_snoc (l : List Tok) (t : Tok) : tokCells (l ++ [t]) = tokCells l ++ [.int .i64 t.kind, .string (ba t.text), .int .i64 t.off] := by simp [tokCells]
theorem tokCells_at : ∀ (l : List Tok) (j : Nat) (t : Tok), l[j]? = some t → (tokCells l)[3 * j]? = some (.int .i64 t.kind) ∧ (tokCells l)[3 * j + 1]? = some (.string (ba t.text)) ∧ (tokCells l)[3 * j + 2]? = some (.int .i64 t.off)
  | [], j, t, h => by simp at h
  | u :: l, 0, t, h => by
    simp at h
    subst h
    exact ⟨rfl, rfl, rfl⟩
  | u :: l, j + 1, t, h => by
    have := tokCells_at l j t (by simpa using h)
    rw [show tokCells (u :: l) = [.int .i64 u.kind, .string (ba u.text), .int .i64 u.off] ++ tokCells l from rfl]
    rw [show 3 * (j + 1) = 3 * j + 3 from by omega]
    refine ⟨?_, ?_, ?_⟩
    · rw [List.getElem?_append_right (by simp)]; exact this.1
    · rw [List.getElem?_append_right (by simp)]; simpa using this.2.1
    · rw [List.getElem?_append_right (by simp)]; simpa using this.2.2
theorem infoTok : (Tryd.prog.info? 49).map (fun i => (i.zero, i.size, i.bytes)) = some (some (.agg #[.int .i64 0, .string ⟨#[]⟩, .int .i64 0]), 3, 32) := by kernel_rfl
/-- Between two rounds of the loop over the tokens. -/
def LexI (w : World) (pre : List Tok) (W : World) : Prop :=
  ((Boxed W w.heap.size 42 (.slice none 0 0) ∧ Boxed W (w.heap.size + 1) 3 (.int .i64 0) ∧ Boxed W (w.heap.size + 1 + 1) 27 (.int .i64 0)) ∧
    (∃ v, Boxed W (w.heap.size + 1 + 1 + 1) 42 v ∧ W.ownsRow (w.heap.size + 5) 49 3 v pre.length (tokCells pre) ∧ ∀ t ∈ pre, t.kind ≠ 0)) ∧ (Below w.heap.size w W ∧ w.heap.size + 5 ≤ W.heap.size)
/-- A round has left: no token begins there. -/
def LexX (w : World) (c : Code) (pre : List Tok) (W : World) : Prop :=
  c = .ret ∧ ∃ (p : List Tok) (t : Tok), pre = p ++ [t] ∧ t.kind = 0 ∧ Boxed W w.heap.size 42 (.slice none 0 0) ∧ Boxed W (w.heap.size + 1) 3 (.int .i64 t.off) ∧ Boxed W (w.heap.size + 1 + 1) 27 (.int .i64 4) ∧ Below w.heap.size w W
/-- The loop's variable lies in a block of its own. -/
def LexA (w : World) (s : Str) (x : Tok) (a' : Act) (W : World) : Prop :=
  ∃ Bx, w.heap.size + 5 ≤ Bx ∧ W.heap[Bx]? = some (.cells #[.int .i64 x.kind, .string (ba x.text), .int .i64 x.off] 49 (0, 0)) ∧
    a' = { tmps := #[.string (ba s), undef, .pointer (some ⟨w.heap.size, 0, none⟩), .pointer (some ⟨w.heap.size + 1, 0, none⟩), .pointer (some ⟨w.heap.size + 1 + 1, 0, none⟩), .pointer (some ⟨w.heap.size + 1 + 1 + 1, 0, none⟩), .pointer (some ⟨Bx, 0, none⟩), .string (ba s),
      .int .i64 s.length, .bool false, .string (ba s), .func (.func 126) #[] #[.pointer (some ⟨w.heap.size + 1 + 1 + 1 + 1, 0, none⟩)], tokV x, undef, undef, undef, undef, undef, undef, undef, undef, undef, undef], defers := [] }
theorem Boxed.put {W : World} {b D : Nat} {t : TypeId} {v : Value} (h : Boxed W b t v) (hne : b ≠ D) (o : Obj) : Boxed (W.putObj D o) b t v := (World.putObj_heap_other hne).trans h
theorem LexK.alloc {Bn B : Nat} {W : World} (hn : Bn < W.heap.size) (hB : B < W.heap.size) (o : Obj) : LexK Bn B W (W.alloc o) := by
  have hb : Below W.heap.size W (W.alloc o) := (Below.refl _ W).alloc (Nat.le_refl _) o
  refine ⟨hb.block Bn hn, hb.size, fun k o2 hk _ _ _ => (hb.block k (Array.getElem?_eq_some_iff.1 hk).1).trans hk, fun k hk _ => owned_below hB hb hk, fun hl k hk => ?_⟩
  have := hl k (owned_below hB hb hk)
  rw [World.size_alloc]
  omega
set_option maxRecDepth 100000 in
set_option maxHeartbeats 2000000 in
theorem lex_calls (s : Str) (w : World) (hs : s.length ≤ 1000000) : Calls Tryd.prog 68 #[.string (ba s)] w (LPost s w) := by
  refine (callsIn_wide (n := 3)).1 ?_
  refine callsIn_of_wp_marks Tryd.func68 rfl trivial ?_ rfl
  simp only [Tryd.ntmps68, List.size_toArray, List.length_cons, List.length_nil, Nat.reduceAdd, Nat.reduceSub, Array.replicate_succ, Array.replicate_zero, List.push_toArray, List.append_toArray, List.nil_append, List.cons_append]
  by_cases hl : 20000 < s.length
  · have e1 : decide ((20000 : Int) < (s.length : Int)) = true := by simp; omega
    have hb : Below w.heap.size w (((w.alloc (.cells #[.slice none 0 0] 42)).alloc (.cells #[.int .i64 0] 3)).alloc (.cells #[.int .i64 3] 27)) := (((Below.refl _ w).alloc (Nat.le_refl _) _).alloc (by simp) _).alloc (by simp; omega) _
    have HB := Lib.hid hb
    have HL := Lib.hid hl
    clear hb hl
    gi_wp2_with fail
    refine ⟨.tuple #[.slice none 0 0, .int .i64 0, .int .i64 3], ?_, HB.out, .inl ⟨HL.out, rfl⟩⟩
    simp [results, Tryd.results68, go_sem]
  · have e1 : decide ((20000 : Int) < (s.length : Int)) = false := by simp; omega
    gi_wp2_with fail
    refine ⟨trivial, (callsIn_wide.2 (all_calls s _)).mono ?_⟩
    rintro en w1 ⟨rfl, rfl⟩
    gi_wp2_with fail
    have b2 := ((((Boxed.new w 42 (.slice none 0 0)).alloc (.cells #[.int .i64 0] 3)).alloc (.cells #[.int .i64 0] 27)).alloc (.cells #[.slice none 0 0] 42)).alloc (.cells #[.string (ba s)] 9)
    have b3 := (((Boxed.new (w.alloc (.cells #[.slice none 0 0] 42)) 3 (.int .i64 0)).alloc (.cells #[.int .i64 0] 27)).alloc (.cells #[.slice none 0 0] 42)).alloc (.cells #[.string (ba s)] 9)
    have b4 := ((Boxed.new ((w.alloc (.cells #[.slice none 0 0] 42)).alloc (.cells #[.int .i64 0] 3)) 27 (.int .i64 0)).alloc (.cells #[.slice none 0 0] 42)).alloc (.cells #[.string (ba s)] 9)
    have b5 := (Boxed.new (((w.alloc (.cells #[.slice none 0 0] 42)).alloc (.cells #[.int .i64 0] 3)).alloc (.cells #[.int .i64 0] 27)) 42 (.slice none 0 0)).alloc (.cells #[.string (ba s)] 9)
    have b6 := Boxed.new ((((w.alloc (.cells #[.slice none 0 0] 42)).alloc (.cells #[.int .i64 0] 3)).alloc (.cells #[.int .i64 0] 27)).alloc (.cells #[.slice none 0 0] 42)) 9 (.string (ba s))
    have hB0 : Below w.heap.size w (((((w.alloc (.cells #[.slice none 0 0] 42)).alloc (.cells #[.int .i64 0] 3)).alloc (.cells #[.int .i64 0] 27)).alloc (.cells #[.slice none 0 0] 42)).alloc (.cells #[.string (ba s)] 9)) :=
      (((((Below.refl _ w).alloc (Nat.le_refl _) _).alloc (by simp) _).alloc (by simp; omega) _).alloc (by simp; omega) _).alloc (by simp; omega) _
    have hsz : (((((w.alloc (.cells #[.slice none 0 0] 42)).alloc (.cells #[.int .i64 0] 3)).alloc (.cells #[.int .i64 0] 27)).alloc (.cells #[.slice none 0 0] 42)).alloc (.cells #[.string (ba s)] 9)).heap.size = w.heap.size + 5 := by simp
    simp only [World.size_alloc] at b3 b4 b5 b6
    obtain ⟨W0, hW0⟩ : ∃ W0, ((((w.alloc (.cells #[.slice none 0 0] 42)).alloc (.cells #[.int .i64 0] 3)).alloc (.cells #[.int .i64 0] 27)).alloc (.cells #[.slice none 0 0] 42)).alloc (.cells #[.string (ba s)] 9) = W0 := ⟨_, rfl⟩
    rw [hW0] at b2 b3 b4 b5 b6 hB0 hsz ⊢
    clear hW0
    have hsl := scan_len s
    refine wpIn_rangeFunc_ownH rfl (by decide) (gf := 126) (lb := #[.pointer (some ⟨w.heap.size + 1 + 1 + 1 + 1, 0, none⟩)]) rfl trivial (enters_of Tryd.func126 (by kernel_rfl) rfl)
      (all1_stops (3 - 1) (w.heap.size + 1 + 1 + 1) (w.heap.size + 1 + 1 + 1 + 1) s hs W0 (by omega) (by omega) b6.cell b5.cell) (fun h k => h.trans k) (fun W l o o' => LexK.put (by omega) (by omega) W l o o') (Below.refl _ _) (fun _ => rfl)
      (LexI w) (LexX w) ?hI ?hIx ⟨⟨⟨b2, b3, b4⟩, _, b5, World.ownsRow_nil _ _ _ _, fun t ht => absurd ht List.not_mem_nil⟩, hB0, by omega⟩
      (LexA w s) ?hAx ?assign ?body ?done ?stop
    case hI =>
      exact OwnFrom.and (OwnFrom.and (OwnFrom.and (Own.from (boxed_own _ _ _) _) (OwnFrom.and (Own.from (boxed_own _ _ _) _) (Own.from (boxed_own _ _ _) _))) (Own.from (holdsRow_own (w.heap.size + 5) (w.heap.size + 1 + 1 + 1) 42 49 3 (fun pre => pre.length) (fun pre => tokCells pre) (fun pre v => ∀ t ∈ pre, t.kind ≠ 0)) _)) (OwnFrom.and (ownFrom_below (Nat.le_refl _) (by omega)) (fun _ _ _ _ h hg _ => Nat.le_trans h hg.size))
    case hIx =>
      rintro c pre W W' row ⟨rfl, p, t, h1, h2, h3, h4, h5, h6⟩ hg hr
      exact ⟨rfl, p, t, h1, h2, boxed_own _ _ (fun (_ : Unit) => Value.slice none 0 0) () W W' row h3 hg (fun r e => (hr r e).2), boxed_own _ _ (fun (_ : Unit) => Value.int .i64 t.off) () W W' row h4 hg (fun r e => (hr r e).2),
        boxed_own _ _ (fun (_ : Unit) => Value.int .i64 4) () W W' row h5 hg (fun r e => (hr r e).2), ownFrom_below (β := Unit) (Nat.le_refl _) (by omega) () W W' row h6 hg hr⟩
    case hAx =>
      rintro x a' _ W W' row ⟨Bx, h1, h2, h3⟩ hg hr
      exact ⟨Bx, h1, (hg.block Bx (Array.getElem?_eq_some_iff.1 h2).1 (fun e => by obtain ⟨_, o, ho, hc⟩ := hr _ e.symm; rw [h2] at ho; cases ho; cases hc)).trans h2, h3⟩
    case assign =>
      rintro l pre x W K ⟨⟨⟨c2, c3, c4⟩, v, c5, hown, hk⟩, hB, h6⟩ hK
      have hWs := hB.size
      have hlt := c5.lt
      simp only [tokEnc]
      gi_wp2
      exact hK _ _ ((KeepsOthers.alloc _ _).from _) (LexK.alloc (by omega) (by omega) _) ⟨⟨⟨c2.alloc _, c3.alloc _, c4.alloc _⟩, v, c5.alloc _, hown.alloc _, hk⟩, hB.alloc hWs _, by rw [World.size_alloc]; omega⟩ ⟨W.heap.size, h6, World.alloc_heap_new W _, rfl⟩
    case body =>
      rintro l pre x a' W hlo ⟨r, hr⟩ ⟨⟨⟨c2, c3, c4⟩, v, c5, hown, hk⟩, hB, h6⟩ ⟨Bx, hBx, hX, rfl⟩ hlt
      have x0 : W.cell? ⟨Bx, 0, none⟩ = some (.int .i64 x.kind) := by simp [World.cell?, hX]
      have x1 : W.cell? ⟨Bx, 1, none⟩ = some (.string (ba x.text)) := by simp [World.cell?, hX]
      have x2 : W.cell? ⟨Bx, 2, none⟩ = some (.int .i64 x.off) := by simp [World.cell?, hX]
      obtain ⟨A, c, rfl, hcc⟩ := (VRow.of_own hown).slice
      have d2 := c2.cell
      have d3 := c3.cell
      have d4 := c4.cell
      have d5 := c5.cell
      have f2 := c2.frozen
      have f3 := c3.frozen
      have f4 := c4.frozen
      have f5 := c5.frozen
      have hWs := hB.size
      by_cases hx : x.kind = 0
      · have e0 : ((x.kind : Int) == 0) = true := by simp [hx]
        have HX := Lib.hid hx
        clear hx
        have z1 : w.heap.size ≠ Bx := by omega
        have z2 : w.heap.size + 1 ≠ Bx := by omega
        have z3 : w.heap.size + 1 + 1 ≠ Bx := by omega
        gi_wp2
        gi_region
        all_goals gi_wp2
        all_goals refine ⟨((((KeepsOthers.setCell _ _ _).trans (KeepsOthers.setCell _ _ _)).trans (KeepsOthers.setCell _ _ _)).trans (KeepsOthers.drew _)).from _, rfl, pre, x, rfl, HX.out, ?_, ?_, ?_, ?_⟩
        all_goals first
          | exact ((c2.set (.slice none 0 0)).other (B' := w.heap.size + 1) (by omega) (.int .i64 x.off)).other (B' := w.heap.size + 1 + 1) (by omega) (.int .i64 4)
          | exact ((c3.other (B' := w.heap.size) (by omega) (.slice none 0 0)).set (.int .i64 x.off)).other (B' := w.heap.size + 1 + 1) (by omega) (.int .i64 4)
          | exact ((c4.other (B' := w.heap.size) (by omega) (.slice none 0 0)).other (B' := w.heap.size + 1) (by omega) (.int .i64 x.off)).set (.int .i64 4)
          | exact (((hB.setCell (p := ⟨w.heap.size, 0, none⟩) (Nat.le_refl _) (.slice none 0 0)).setCell (p := ⟨w.heap.size + 1, 0, none⟩) (by show w.heap.size ≤ w.heap.size + 1; omega) (.int .i64 x.off)).setCell (p := ⟨w.heap.size + 1 + 1, 0, none⟩) (by show w.heap.size ≤ w.heap.size + 1 + 1; omega) (.int .i64 4)).drew
      · have e0 : ((x.kind : Int) == 0) = false := beq_eq_false_iff_ne.2 (by omega)
        have HX := Lib.hid hx
        obtain ⟨i0, hi, hzz⟩ := Option.map_eq_some_iff.1 infoTok
        simp only [Prod.mk.injEq] at hzz
        obtain ⟨hz0, hz1, hz2⟩ := hzz
        have HI := Lib.hid hi
        have HZ0 := Lib.hid hz0
        have HZ1 := Lib.hid hz1
        have HZ2 := Lib.hid hz2
        have HOWN := Lib.hid hown
        clear hx hi hz0 hz1 hz2
        have hpl : pre.length ≤ 1000000 := by omega
        gi_wp2_with (gi_at_builtin; refine wpListIn_append_own_at _ rfl _ _ 42 rfl (w.heap.size + 5) 49 i0 _ 3 32 Tryd.underlying42 HI.out HZ0.out HZ1.out HZ2.out rfl (by decide) (.slice A pre.length c) pre.length (tokCells pre) rfl (HOWN.out.alloc _) ⟨W.heap.size, 0, none⟩ 1 1 [.int .i64 x.kind, .string (ba x.text), .int .i64 x.off] rfl rfl ?_ (by simp [Value.oneCell']) (by simp only [maxLen]; omega) (by omega) (by simp; omega) ?_)
        · intro j u hj
          rw [show (⟨W.heap.size, 0, none⟩ : Addr).add j = ⟨W.heap.size, j, none⟩ from by unfold Addr.add; split <;> simp_all]
          simp [hj]
        · intro v' w1 hown' hgrow _ hat
          have hte : 42 ≠ 49 := by decide
          have g2 := (c2.alloc (.cells #[.int .i64 x.kind, .string (ba x.text), .int .i64 x.off] 49)).kept hgrow (c2.not_row hte HOWN.out)
          have g3 := (c3.alloc (.cells #[.int .i64 x.kind, .string (ba x.text), .int .i64 x.off] 49)).kept hgrow (c3.not_row (by decide) HOWN.out)
          have g4 := (c4.alloc (.cells #[.int .i64 x.kind, .string (ba x.text), .int .i64 x.off] 49)).kept hgrow (c4.not_row (by decide) HOWN.out)
          have g5 := (c5.alloc (.cells #[.int .i64 x.kind, .string (ba x.text), .int .i64 x.off] 49)).kept hgrow (c5.not_row hte HOWN.out)
          obtain ⟨A', c', rfl, _⟩ := (VRow.of_own hown').slice
          have k5 := g5.cell
          have h5f := g5.frozen
          have HG := Lib.hid hgrow
          have HAT := Lib.hid hat
          have HO2 := Lib.hid hown'
          clear hgrow hat hown' d2 d3 d4 d5 f2 f3 f4 f5 x0 x1 x2 hX
          gi_wp2
          have hcl := g5.lt
          have hc5l := c5.lt
          have hset := g5.set (.slice A' (pre.length + 1) c')
          have hE : ∀ k, k < W.heap.size → k ≠ w.heap.size + 1 + 1 + 1 → (Value.slice A pre.length c).ownBlock ≠ some k → (w1.setCell ⟨w.heap.size + 1 + 1 + 1, 0, none⟩ (.slice A' (pre.length + 1) c')).heap[k]? = W.heap[k]? :=
            fun k hk hne hn => (Below.heap_setCell w1 _ _ k hne).trans ((HG.out.block k (by simp; omega) (fun e => hn e.symm)).trans (Below.heap_alloc W _ k hk))
          have hsz1 : W.heap.size + 1 ≤ w1.heap.size := by have := HG.out.size; simpa using this
          have hsz2 : (w1.setCell ⟨w.heap.size + 1 + 1 + 1, 0, none⟩ (.slice A' (pre.length + 1) c')).heap.size = w1.heap.size := by simp [World.setCell]
          have hoW : ∀ k, owned W (w.heap.size + 1 + 1 + 1) k ↔ (Value.slice A pre.length c).ownBlock = some k := fun k => ⟨fun ⟨v, h1, h2⟩ => by rw [c5.cell] at h1; cases h1; exact h2, fun h => ⟨_, c5.cell, h⟩⟩
          have hoW' : ∀ k, owned (w1.setCell ⟨w.heap.size + 1 + 1 + 1, 0, none⟩ (.slice A' (pre.length + 1) c')) (w.heap.size + 1 + 1 + 1) k → (Value.slice A' (pre.length + 1) c').ownBlock = some k := fun k ⟨v, h1, h2⟩ => by rw [hset.cell] at h1; cases h1; exact h2
          refine ⟨((KeepsOthers.alloc W _).trans ((KeepsOthers.of_grownBy HG.out ?_).trans (KeepsOthers.setCell _ _ _))).from _, ⟨?_, ?_, ?_, ?_, ?_⟩, ⟨⟨g2.other (by omega) _, g3.other (by omega) _, g4.other (by omega) _⟩, _, hset, ?_, ?_⟩, ?_, ?_⟩
          · intro j o e ho
            rcases (HOWN.out.alloc (.cells #[.int .i64 x.kind, .string (ba x.text), .int .i64 x.off] 49)).2 with ⟨h, _⟩ | ⟨g, cap, cur, hv, _, hh, _⟩
            · rw [h] at e; simp [Value.ownBlock] at e
            · rw [hv] at e
              obtain rfl : g = j := by simpa [Value.ownBlock] using e
              rw [hh] at ho
              cases ho
              rfl
          · exact hE _ (by omega) (by omega) (fun e => by have := (ownsRow_block HOWN.out e).1; omega)
          · rw [hsz2]; omega
          · intro k o hk _ hne hn
            exact (hE k (Array.getElem?_eq_some_iff.1 hk).1 hne (fun e => hn ((hoW k).2 e))).trans hk
          · intro k hk hlt2
            have := hoW' k hk
            rcases HAT.out with h | h
            · exact (hoW k).2 (h ▸ this)
            · rw [h] at this
              injection this with this
              (try rw [World.size_alloc] at this)
              omega
          · intro _ k hk
            rw [hsz2]
            exact (ownsRow_block HO2.out (hoW' k hk)).2
          · have := HO2.out.kept (grownBy_setCell' w1 (w.heap.size + 1 + 1 + 1) (.slice A' (pre.length + 1) c')) (.inr (g5.not_row hte HO2.out).symm)
            rw [List.length_append, tokCells_snoc]
            exact this
          · intro t ht
            rcases List.mem_append.1 ht with ht | ht
            · exact hk t ht
            · obtain rfl := List.mem_singleton.1 ht
              exact HX.out
          · exact ((hB.alloc hWs (.cells #[.int .i64 x.kind, .string (ba x.text), .int .i64 x.off] 49)).grown HG.out (by simp; omega) (fun k e => by have := (ownsRow_block HOWN.out e).1; omega)).setCell (p := ⟨w.heap.size + 1 + 1 + 1, 0, none⟩) (by show w.heap.size ≤ w.heap.size + 1 + 1 + 1; omega) _
          · rw [hsz2]; omega
    case done =>
      rintro D xs W hD rfl ⟨⟨⟨c2, c3, c4⟩, v, c5, hown, hk⟩, hB, h6⟩ hK
      obtain ⟨A, c, rfl, hcc⟩ := (VRow.of_own hown).slice
      have d2 := c2.cell
      have d3 := c3.cell
      have d4 := c4.cell
      have d5 := c5.cell
      have f2 := c2.frozen
      have f3 := c3.frozen
      have f4 := c4.frozen
      gi_wp2
      have hD' : w.heap.size + 5 ≤ D := by omega
      have e2 := c2.set (.slice A (scan s).length c)
      have e3 := (c3.other (B' := w.heap.size) (by omega) (.slice A (scan s).length c)).set (.int .i64 0)
      have e4 := ((c4.other (B' := w.heap.size) (by omega) (.slice A (scan s).length c)).other (B' := w.heap.size + 1) (by omega) (.int .i64 0)).set (.int .i64 0)
      have e2' := (e2.other (B' := w.heap.size + 1) (by omega) (.int .i64 0)).other (B' := w.heap.size + 1 + 1) (by omega) (.int .i64 0)
      have e3' := e3.other (B' := w.heap.size + 1 + 1) (by omega) (.int .i64 0)
      have hKO : KeepsOthers W (((W.setCell ⟨w.heap.size, 0, none⟩ (.slice A (scan s).length c)).setCell ⟨w.heap.size + 1, 0, none⟩ (.int .i64 0)).setCell ⟨w.heap.size + 1 + 1, 0, none⟩ (.int .i64 0)) := ((KeepsOthers.setCell _ _ _).trans (KeepsOthers.setCell _ _ _)).trans (KeepsOthers.setCell _ _ _)
      have hEX : Ext (fun k => k < w.heap.size + 5) W (((W.setCell ⟨w.heap.size, 0, none⟩ (.slice A (scan s).length c)).setCell ⟨w.heap.size + 1, 0, none⟩ (.int .i64 0)).setCell ⟨w.heap.size + 1 + 1, 0, none⟩ (.int .i64 0)) :=
        (((Ext.refl (fun k => k < w.heap.size + 5) W).setCell (p := ⟨w.heap.size, 0, none⟩) (.inl (by show w.heap.size < _; omega)) _).setCell (p := ⟨w.heap.size + 1, 0, none⟩) (.inl (by show w.heap.size + 1 < _; omega)) _).setCell (p := ⟨w.heap.size + 1 + 1, 0, none⟩) (.inl (by show w.heap.size + 1 + 1 < _; omega)) _
      have hB' := ((hB.setCell (p := ⟨w.heap.size, 0, none⟩) (Nat.le_refl _) (.slice A (scan s).length c)).setCell (p := ⟨w.heap.size + 1, 0, none⟩) (by show w.heap.size ≤ w.heap.size + 1; omega) (.int .i64 0)).setCell (p := ⟨w.heap.size + 1 + 1, 0, none⟩) (by show w.heap.size ≤ w.heap.size + 1 + 1; omega) (.int .i64 0)
      generalize ((W.setCell ⟨w.heap.size, 0, none⟩ (.slice A (scan s).length c)).setCell ⟨w.heap.size + 1, 0, none⟩ (.int .i64 0)).setCell ⟨w.heap.size + 1 + 1, 0, none⟩ (.int .i64 0) = W2 at e2' e3' e4 hKO hEX hB' ⊢
      have hK2 := hKO.same D _ hK rfl
      refine ⟨by simp, .inl ⟨_, _, rfl, run_takeDeferred hK2, ?_⟩⟩
      have g2 := (Boxed.put e2' (D := D) (by omega) (.deferred none)).cell
      have g3 := (Boxed.put e3' (D := D) (by omega) (.deferred none)).cell
      have g4 := (Boxed.put e4 (D := D) (by omega) (.deferred none)).cell
      refine ⟨.tuple #[.slice A (scan s).length c, .int .i64 0, .int .i64 0], ?_, hB'.trans (belowK_b (w := w) (Nat.le_refl _) W2 D _ _ (by omega) hK2 rfl rfl), .inr ⟨by omega, .inr ⟨scan s, A, c, ?_, rfl, hcc, ?_, ?_⟩⟩⟩
      · simp [results, Tryd.results68, go_sem, g2, g3, g4]
      · rcases scan_lex s with ⟨l, h1, h2, _⟩ | ⟨l, a, h1, h2, _⟩
        · rw [h1, h2]
        · exact absurd rfl (hk ⟨0, [], a⟩ (by rw [h2]; simp))
      · rcases hown.2 with ⟨h1, _⟩ | ⟨g, cap, cur, h1, _, _, _, h2, _⟩
        · injection h1 with _ _ h1; omega
        · injection h1 with _ _ h1; simp only [maxLen] at h2; omega
      · rcases hown.2 with ⟨_, h1⟩ | ⟨g, cap, cur, h1, hg, hh, _, _, _, _⟩
        · exact .inl (List.eq_nil_of_length_eq_zero h1)
        · injection h1 with h1
          have hgD : g ≠ D := by
            intro e
            rw [e, hK] at hh
            cases hh
          have hgl := (Array.getElem?_eq_some_iff.1 hh).1
          have hblk : (W2.putObj D (.deferred none)).heap[g]? = W.heap[g]? := (World.putObj_heap_other hgD).trans (hEX.block g hgl (by omega))
          refine .inr ⟨g, h1, by omega, by rw [World.putObj_size]; have := hEX.size; omega, fun j t hj => ?_⟩
          subst h1
          obtain ⟨k0, k1, k2⟩ := tokCells_at _ j t hj
          have hcell : ∀ i u, (tokCells (scan s))[i]? = some u → (W2.putObj D (.deferred none)).cell? ⟨g, 0 + i, none⟩ = some u := fun i u hu => by
            have := hown.cells (g := g) rfl i u hu
            rw [show (⟨g, 0, none⟩ : Addr).add i = ⟨g, 0 + i, none⟩ from by unfold Addr.add; split <;> simp_all] at this
            exact cell_same hblk this
          exact ⟨hcell _ _ k0, hcell _ _ k1, hcell _ _ k2⟩
    case stop =>
      rintro D c pre W hD hpre ⟨rfl, p, t, h1, h2, h3, h4, h5, h6⟩ hK
      have d2 := h3.cell
      have d3 := h4.cell
      have d4 := h5.cell
      gi_wp2
      refine ⟨by simp, .inl ⟨_, _, rfl, run_takeDeferred hK, ?_⟩⟩
      have g2 := (Boxed.put h3 (D := D) (by omega) (.deferred none)).cell
      have g3 := (Boxed.put h4 (D := D) (by omega) (.deferred none)).cell
      have g4 := (Boxed.put h5 (D := D) (by omega) (.deferred none)).cell
      refine ⟨.tuple #[.slice none 0 0, .int .i64 t.off, .int .i64 4], ?_, h6.trans (belowK_b (w := w) (Nat.le_refl _) W D _ _ (by omega) hK rfl rfl), .inr ⟨by omega, .inl ⟨t.off, ?_, rfl⟩⟩⟩
      · simp [results, Tryd.results68, go_sem, g2, g3, g4]
      · have ht : t ∈ scan s := hpre.subset (by rw [h1]; simp)
        rcases scan_lex s with ⟨l, k1, k2, k3⟩ | ⟨l, a, k1, k2, k3⟩
        · exact absurd h2 (k3 t (k2 ▸ ht))
        · rw [k2] at ht
          rcases List.mem_append.1 ht with ht | ht
          · exact absurd h2 (k3 t ht)
          · obtain rfl := List.mem_singleton.1 ht
            exact k1
end Go.Proofs.YtdijffojppjmfaaDoor
