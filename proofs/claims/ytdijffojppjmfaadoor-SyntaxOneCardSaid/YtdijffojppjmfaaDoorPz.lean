/- The parser's statements that begin with a name, walked. -/
import Derived.Test.YtdijffojppjmfaaDoorPy
set_option linter.unusedVariables false
set_option linter.unusedSimpArgs false
namespace Go.BW
open Go.RowKit Bir
theorem ERow.one {w : World} {ok : Nat → Prop} {v : Value} {z : Ex} (h : ERow w ok v [z]) : ∃ b off c kv, v = .slice (some ⟨b, off, none⟩) 1 c ∧ b < w.heap.size ∧ ok b ∧ ERow w ok kv z.kids ∧ (w.cell? ⟨b, off, none⟩ = some (.int .i64 z.kind) ∧ w.cell? ⟨b, off + 1, none⟩ = some (.int .i64 z.num) ∧ w.cell? ⟨b, off + 2, none⟩ = some (.string (ba z.name)) ∧ w.cell? ⟨b, off + 3, none⟩ = some kv) := by
  generalize hxs : [z] = xs at h
  cases h with
  | nil => cases hxs
  | row b off c xs f hok hb hc h hk =>
    subst hxs
    exact ⟨b, off, c, f 0, rfl, hb, hok, hk 0 z rfl, h 0 z rfl⟩
end Go.BW
namespace Go.Proofs.YtdijffojppjmfaaDoor
open Go.RowKit Bir Go.BW
section
variable {ops : Array Oper} {rest : List Oper} {o : Oper} {a : Act} {Q : Exit → Act → World → Prop}
/-- append of a row of one to a literal of one. -/
theorem append_lit (W : World) (hgd : o.guard = none) (s x : Operand) (ho : o.op = .call { callee := .builtin .append, args := #[s, x], argTypes := #[34, 34] }) (b off c : Nat) (ys zs : List Value)
    (hs : a.eval s = .slice (some ⟨W.heap.size, 0, none⟩) 1 1) (hx : a.eval x = .slice (some ⟨b, off, none⟩) 1 c) (hys : ys.length = 4) (hzs : zs.length = 4) (hb : b < W.heap.size)
    (hc : ∀ j u, zs[j]? = some u → W.cell? ⟨b, off + j, none⟩ = some u) (h1 : ∀ u ∈ zs, u.oneCell' = true)
    (h : ∀ v1 w1, w1.ownsRow W.heap.size 36 4 v1 2 (ys ++ zs) → Ext (· = W.heap.size) (W.alloc (.cells ys.toArray 36)) w1 → wpList Tryd.prog ops Q rest (a.put o.dst v1) w1) :
    wpList Tryd.prog ops Q (o :: rest) a (W.alloc (.cells ys.toArray 36)) := by
  obtain ⟨i0, hi, hzz⟩ := Option.map_eq_some_iff.1 infoE
  simp only [Prod.mk.injEq] at hzz
  obtain ⟨hz0, hz1, hz2⟩ := hzz
  have hown := World.ownsRow_lit (base := W.heap.size) (e := 36) (size := 4) W ys.toArray 1 (Nat.le_refl _) (by decide) (by simpa using hys)
  refine wpList_append_own_at (W.alloc (.cells ys.toArray 36)) hgd s x 34 ho W.heap.size 36 i0 _ 4 56 Tryd.underlying34 hi hz0 hz1 hz2 rfl (by decide) _ 1 _ hs hown ⟨b, off, none⟩ 1 c zs hx (by omega)
    (fun j u hj => ?_) h1 (by decide) (by decide) (by simp) ?_
  · rw [show (⟨b, off, none⟩ : Addr).add j = ⟨b, off + j, none⟩ from by unfold Addr.add; split <;> simp_all]
    rw [((Ext.refl (fun _ => False) W).alloc _).cell (p := ⟨b, off + j, none⟩) hb id]
    exact hc j u hj
  · intro v1 w1 hown hg _ _
    exact h v1 w1 (by simpa using hown) ((Ext.refl _ _).grown hg (fun k hk => .inl (by simpa [Value.ownBlock] using hk.symm)))
end
/-- The expression between the brackets, in a block of its own. -/
structure EB0 (w0 w : World) (pb eb : Nat) (y : Ex) (kv : Value) : Prop where
  lt : eb < w.heap.size
  ne : eb ≠ pb
  c : cells4 w eb (.int .i64 y.kind) (.int .i64 y.num) (.string (ba y.name)) kv
  row : ERow w (From (w0.heap.size + 1)) kv y.kids
section
variable {w0 w w1 w2 : World} {pb tb e bs eb : Nat} {l l1 : List Tok} {k : Int} {s : Str} {ev bv lv kv : Value} {xs : List Ex} {b el : List St} {y : Ex}
theorem EB0.new (h : Pre w0 w pb tb e l) (hr : ERow w1 (From w.heap.size) kv y.kids) (hx : Ext (· = pb) w w1) : EB0 w0 (w1.alloc (.cells #[.int .i64 y.kind, .int .i64 y.num, .string (ba y.name), kv] 36)) pb w1.heap.size y kv := by
  have h1 := h.pb_lt
  have h2 := h.size
  have h4 := hx.size
  exact ⟨by simp, by omega, cells4.new _ _ _ _ _ _, (h.erow hr).ext ((Ext.refl (fun _ => False) _).alloc _) (fun _ h => h.elim) (Nat.le_refl _)⟩
theorem EB0.move (hb : EB0 w0 w pb eb y kv) (h : Pre w0 w pb tb e l) (hx : Ext (· = pb) w w1) : EB0 w0 w1 pb eb y kv := by
  have h1 := h.pb_lt
  exact ⟨Nat.lt_of_lt_of_le hb.lt hx.size, hb.ne, hb.c.ext hx hb.ne, hb.row.ext hx (fun b hb => by omega) (Nat.le_refl _)⟩
theorem EB0.two (hb : EB0 w0 w pb eb y kv) (h : Loc w0 (w.alloc (.cells #[.int .i64 k, .string (ba s), ev, bv, lv] 98)) pb tb e w.heap.size l k s ev bv lv xs b el) {z : Ex} {kz v1 : Value} (hz : ERow w (From (w0.heap.size + 1)) kz z.kids)
    (hown : w1.ownsRow (w.heap.size + 1) 36 4 v1 2 ([.int .i64 y.kind, .int .i64 y.num, .string (ba y.name), kv] ++ [.int .i64 z.kind, .int .i64 z.num, .string (ba z.name), kz]))
    (hx : Ext (· = w.heap.size + 1) ((w.alloc (.cells #[.int .i64 k, .string (ba s), ev, bv, lv] 98)).alloc (.cells #[.int .i64 y.kind, .int .i64 y.num, .string (ba y.name), kv] 36)) w1) :
    Loc w0 w1 pb tb e w.heap.size l k s ev bv lv xs b el ∧ Loc w0 (w1.setCell ⟨w.heap.size, 2, none⟩ v1) pb tb e w.heap.size l k s v1 bv lv [y, z] b el := by
  have h3 := h.lt
  have h2 := h.ge
  have hp := h.pb_lt
  have ht := h.tb_lt
  have hX0 : Ext (· = w.heap.size + 1) (w.alloc (.cells #[.int .i64 k, .string (ba s), ev, bv, lv] 98)) w1 := ((Ext.refl _ _).alloc _).trans' hx
  have hX1 : Ext (fun _ => False) (w.alloc (.cells #[.int .i64 k, .string (ba s), ev, bv, lv] 98)) w1 := hX0.mono (fun i hi => .inr (by simp; omega))
  have hL := h.move (hX1.mono (fun _ h => h.elim)) (h.st.ext hX1 id id (fun _ h => h.elim))
  have hX2 : Ext (fun _ => False) w w1 := ((Ext.refl _ w).alloc _).trans' hX1
  refine ⟨hL, hL.setExprs ?_⟩
  rcases hown.2 with ⟨_, h0⟩ | ⟨g, cap, cur, hv, _, _, hcap', _⟩
  · exact absurd h0 (by decide)
  subst hv
  have hg := hown.lt g rfl
  refine ERow.of_cells (xs := [y, z]) (c := cap) (((ECells.nil _ _).snoc (kv := kv) ?_).snoc (kv := kz) ?_) ⟨by omega, by omega⟩ hg.2 hcap' (fun i u hu => ?_)
  · exact (hb.row.to_off (Nat.le_refl _) (.inl (Nat.le_refl _))).off hX2 (fun _ h => h.elim)
  · exact (hz.to_off (Nat.le_refl _) (.inl (Nat.le_refl _))).off hX2 (fun _ h => h.elim)
  · have := hown.cells (g := g) rfl i u hu
    rwa [show (⟨g, 0, none⟩ : Addr).add i = ⟨g, i, none⟩ from by unfold Addr.add; split <;> simp_all] at this
end
theorem set_shape {r : Rec} {k : Int} {s : Str} {l l1 : List Tok} {x : St} (h : setF r k s l = .ok x l1) : ∃ z, x = .mk k s [z] [] [] := by
  unfold setF at h
  rcases h1 : must [61] l with _ | _ | ⟨u, l2⟩ <;> rw [h1] at h <;> simp only [R.bind] at h <;> try (cases h)
  rcases h2 : r.expr l2 with _ | _ | ⟨y, l3⟩ <;> rw [h2] at h <;> simp only [R.bind] at h <;> try (cases h)
  rcases h3 : must [59] l3 with _ | _ | ⟨u, l4⟩ <;> rw [h3] at h <;> simp only [R.bind] at h <;> try (cases h)
  exact ⟨y, rfl⟩
theorem named_put (r : Rec) (s : Str) (x : Ex) (l : List Tok) : ((must [61] l).bind fun _ l4 => (r.expr l4).bind fun y l5 => (must [59] l5).bind fun _ l6 => .ok (St.mk 3 s [x, y] [] []) l6) = (setF r 3 s l).bind fun z l6 => .ok (.mk 3 s (x :: z.exprs) [] []) l6 := by
  unfold setF
  rcases h1 : must [61] l with _ | _ | ⟨u, l2⟩ <;> simp only [R.bind]
  rcases h2 : r.expr l2 with _ | _ | ⟨y, l3⟩ <;> simp only [R.bind]
  rcases h3 : must [59] l3 with _ | _ | ⟨u, l4⟩ <;> simp only [R.bind]
  rfl
section
variable {w : World} {pb tb e n off : Nat} {l : List Tok}
theorem named_calls (ih : PAll n) (h : PSt w pb tb e l) (hne : namedF (gram n) l ≠ .out) : Calls Tryd.prog 153 #[pp pb] w (SPost w pb tb e (namedF (gram n) l)) := by
  generalize hr : namedF (gram n) l = r at hne ⊢
  have HI := Lib.hid ih
  have HN := Lib.hid hne
  have HR := Lib.hid hr
  clear ih hne hr
  unfold namedF at HR
  simp only [named_put] at HR
  have HL := Lib.hid (Pre.start h)
  go_enter Tryd.func153, Tryd.ntmps153
  go_wp2_with fail
  rcases name_cases l with ⟨k, hy, hk⟩ | ⟨tw1, rw1, rfl, hk, hk2, hy⟩
  · have HF : r = .err l k := by rw [← HR.out]; simp [hy, R.bind]
    refine (name_bad HL.out.st hk).mono ?_
    rintro en w1 ⟨rfl, hx⟩
    exact ⟨rfl, HL.out.panic hx HF⟩
  ·
    have HR' := HR.out
    simp only [R.bind, must, hy, if_true, Bool.false_eq_true, if_false, true_and, and_true] at HR'
    replace HR := Lib.hid HR'
    clear HR'
    refine (name_yes HL.out.st hk hk2).mono ?_
    rintro en w1 ⟨rfl, hx, h1⟩
    replace HL := Lib.hid (HL.out.move hx h1)
    clear hx h1 hy hk hk2
    generalize tw1.text = xw1 at HL HR
    obtain ⟨⟨s0, s1, s2, s3, s4⟩, sf, z1, z2, z3, z4⟩ := HL.out.facts
    go_wp2_with fail
    clear s0 s1 s2 s3 s4 sf z1 z2 z3 z4
    cases hm : is [91] rw1 with
    | true =>
      have HR' := HR.out
      simp only [R.bind, must, hm, if_true, Bool.false_eq_true, if_false, true_and, and_true] at HR'
      replace HR := Lib.hid HR'
      clear HR'
      refine (take_yes HL.out.st [91] hm).mono ?_
      rintro en v2 ⟨rfl, hx, h1⟩
      replace HL := Lib.hid (HL.out.move hx h1)
      clear hx h1 hm
      generalize rw1.tail = m2 at HL HR
      go_wp2_with fail
      rcases hy : (gram n).expr m2 with _ | ⟨l2, k2⟩ | ⟨yw2, lw2⟩
      · exact absurd (by rw [← HR.out, hy] <;> rfl) HN.out
      · have HF : r = .err l2 k2 := by rw [← HR.out, hy] <;> rfl
        refine (EPost.bad (HI.out.expr HL.out.st (by rw [hy]; simp)) hy).mono ?_
        rintro en w2 ⟨rfl, hx⟩
        exact ⟨rfl, HL.out.panic hx HF⟩
      ·
        have HR' := HR.out
        simp only [R.bind, must, hy, if_true, Bool.false_eq_true, if_false, true_and, and_true] at HR'
        replace HR := Lib.hid HR'
        clear HR'
        refine (EPost.got (HI.out.expr HL.out.st (by rw [hy]; simp)) hy).mono ?_
        rintro en w2 ⟨kv, rfl, hr, hx, h1⟩
        obtain ⟨Aw2, cw2, rfl, _⟩ := hr.slice
        clear hy
        have HEB := Lib.hid (EB0.new HL.out hr hx)
        replace HL := Lib.hid ((HL.out.move hx h1).alloc (.cells #[.int .i64 yw2.kind, .int .i64 yw2.num, .string (ba yw2.name), .slice Aw2 yw2.kids.length cw2] 36))
        clear hr hx h1
        have hq2 := HEB.out.ne
        go_wp2_with fail
        generalize heb : w2.heap.size = eb at HEB hq2 ⊢
        cases hm : is [93] lw2 with
        | false =>
          have HF : r = .err lw2 4 := by rw [← HR.out]; simp [must, hm, R.bind]
          refine (must_no HL.out.st [93] hm).mono ?_
          rintro en w3 ⟨rfl, hb⟩
          exact ⟨rfl, HL.out.panic (.of_below hb _) HF⟩
        | true =>
          have HR' := HR.out
          simp only [R.bind, must, hm, if_true, Bool.false_eq_true, if_false, true_and, and_true] at HR'
          replace HR := Lib.hid HR'
          clear HR'
          refine (must_yes HL.out.st [93] hm).mono ?_
          rintro en w3 ⟨rfl, hx, h1⟩
          replace HEB := Lib.hid (HEB.out.move HL.out hx)
          replace HL := Lib.hid (HL.out.move hx h1)
          clear hx h1 hm
          generalize lw2.tail = mw3 at HL HR
          go_wp2_with fail
          rcases hy : setF (gram n) 3 xw1 mw3 with _ | ⟨l2, k2⟩ | ⟨z, l2⟩
          · exact absurd (by rw [← HR.out, hy]) HN.out
          · have HF : r = .err l2 k2 := by rw [← HR.out, hy]
            refine (SPost.bad (set_calls HI.out HL.out.st 3 xw1 (by rw [hy]; simp)) hy).mono ?_
            rintro en w7 ⟨rfl, hx⟩
            exact ⟨rfl, HL.out.panic hx HF⟩
          · obtain ⟨z, rfl⟩ := set_shape hy
            have HF := HR.out
            rw [hy] at HF
            replace HF := HF.symm
            refine (SPost.got (set_calls HI.out HL.out.st 3 xw1 (by rw [hy]; simp)) hy).mono ?_
            rintro en w7 ⟨ev, bv, lv, rfl, he, hbb, hl, hx, h1⟩
            obtain ⟨b7, off7, c7, kz, rfl, hb7, _, hkz, hc7⟩ := ERow.one he
            obtain ⟨A9, c9, rfl, _⟩ := hkz.slice
            obtain ⟨A2, c2, rfl, _⟩ := hbb.slice
            obtain ⟨A3, c3, rfl, _⟩ := hl.slice
            replace HEB := Lib.hid (HEB.out.move HL.out hx)
            have HL8 := Lib.hid (HL.out.litS he hbb hl hx h1)
            have HKZ := Lib.hid (HL.out.erow hkz)
            have HC7 := Lib.hid hc7
            clear he hbb hl hx h1 hkz hc7 hy HR
            have hq3 := HL8.out.facts.2.2.2.2.2.2.1
            obtain ⟨d0, d1, d2, d3⟩ := HEB.out.c
            have hq4 := HEB.out.lt
            simp only [St.kind, St.name, St.exprs, St.body, St.els] at HL8
            go_wp2_with (at_builtin; refine append_lit (w7.alloc (.cells #[.int .i64 3, .string (ba xw1), .slice (some ⟨b7, off7, none⟩) 1 c7, .slice A2 0 c2, .slice A3 0 c3] 98)) rfl _ _ rfl b7 off7 c7 [.int .i64 yw2.kind, .int .i64 yw2.num, .string (ba yw2.name), .slice Aw2 yw2.kids.length cw2] [.int .i64 z.kind, .int .i64 z.num, .string (ba z.name), .slice A9 z.kids.length c9] (by rw [World.size_alloc]; rfl) rfl rfl rfl (by simp; omega) ?_ ?_ ?_)
            · intro j u hj
              obtain ⟨k0, k1, k2, k3⟩ := HC7.out
              rw [((Ext.refl (fun _ => False) w7).alloc _).cell (p := ⟨b7, off7 + j, none⟩) hb7 id]
              match j, hj with
              | 0, hj => cases hj; exact k0
              | 1, hj => cases hj; exact k1
              | 2, hj => cases hj; exact k2
              | 3, hj => cases hj; exact k3
            · simp [Value.oneCell']
            · intro v1 w8 hown hx8
              (try simp only [World.size_alloc] at hown)
              (try simp only [World.size_alloc] at hx8)
              obtain ⟨hLa, hLb⟩ := HEB.out.two HL8.out HKZ.out hown hx8
              have HLb := Lib.hid hLb
              obtain ⟨A8, c8, rfl, _⟩ := hLb.ex.slice
              obtain ⟨⟨e0, e1, e2, e3, e4⟩, cf, ⟨s0, s1, s2, s3, s4⟩, sf, z1, z2, z3, z4⟩ := hLa.facts
              clear hLa hLb hown hx8 HEB HL8 HKZ HC7 d0 d1 d2 d3 HL
              go_wp2_with fail
              rw [HF]
              exact HLb.out.fin rfl rfl h
    | false =>
      have HR' := HR.out
      simp only [R.bind, must, hm, if_true, Bool.false_eq_true, if_false, true_and, and_true] at HR'
      replace HR := Lib.hid HR'
      clear HR'
      refine (take_no HL.out.st [91] hm).mono ?_
      rintro en v2 ⟨rfl, hb⟩
      replace HL := Lib.hid (HL.out.below hb)
      clear hb hm
      go_wp2_with fail
      refine (is_calls HL.out.st [40]).mono ?_
      rintro en v3 ⟨rfl, hb⟩
      replace HL := Lib.hid (HL.out.below hb)
      clear hb
      cases hm : is [40] rw1 with
      | true =>
        have HR' := HR.out
        simp only [R.bind, must, hm, if_true, Bool.false_eq_true, if_false, true_and, and_true] at HR'
        replace HR := Lib.hid HR'
        clear HR'
        go_wp2_with fail
        rcases hy : (gram n).args [] rw1.tail with _ | ⟨l2, k2⟩ | ⟨ys, l2⟩
        · exact absurd (by rw [← HR.out, hy] <;> rfl) HN.out
        · have HF : r = .err l2 k2 := by rw [← HR.out, hy] <;> rfl
          refine (APost.bad (HI.out.args HL.out.st hm (by rw [hy]; simp)) hy).mono ?_
          rintro en w7 ⟨rfl, hx⟩
          exact ⟨rfl, HL.out.panic hx HF⟩
        ·
          have HR' := HR.out
          simp only [R.bind, must, hy, if_true, Bool.false_eq_true, if_false, true_and, and_true] at HR'
          replace HR := Lib.hid HR'
          clear HR'
          refine (APost.got (HI.out.args HL.out.st hm (by rw [hy]; simp)) hy).mono ?_
          rintro en w7 ⟨v7, rfl, hr, hx, h1⟩
          obtain ⟨A7, c7, rfl, _⟩ := hr.slice
          replace HL := Lib.hid (HL.out.litE hr hx h1 11 xw1)
          clear hr hx h1 hy hm
          have hq1 := HL.out.facts.2.2.2.2.2.2.1
          go_wp2_with fail
          cases hm : is [59] l2 with
          | false =>
            have HF : r = .err l2 4 := by rw [← HR.out]; simp [must, hm, R.bind]
            refine (must_no HL.out.st [59] hm).mono ?_
            rintro en w4 ⟨rfl, hb⟩
            exact ⟨rfl, HL.out.panic (.of_below hb _) HF⟩
          | true =>
            have HR' := HR.out
            simp only [R.bind, must, hm, if_true, Bool.false_eq_true, if_false, true_and, and_true] at HR'
            replace HR := Lib.hid HR'
            clear HR'
            refine (must_yes HL.out.st [59] hm).mono ?_
            rintro en w4 ⟨rfl, hx, h1⟩
            replace HL := Lib.hid (HL.out.move hx h1)
            clear hx h1 hm
            generalize l2.tail = mw4 at HL HR
            have HF := HR.out.symm
            have HL9 := HL
            clear HL
            obtain ⟨⟨c0, c1, c2, c3, c4⟩, cf, ⟨s0, s1, s2, s3, s4⟩, sf, z1, z2, z3, z4⟩ := HL9.out.facts
            go_wp2_with fail
            rw [HF]
            exact HL9.out.fin rfl rfl h
      | false =>
        have HR' := HR.out
        simp only [R.bind, must, hm, if_true, Bool.false_eq_true, if_false, true_and, and_true] at HR'
        replace HR := Lib.hid HR'
        clear HR'
        clear hm
        go_wp2_with fail
        rcases hy : setF (gram n) 2 xw1 rw1 with _ | ⟨l2, k2⟩ | ⟨y, l2⟩
        · exact absurd (by rw [← HR.out, hy]) HN.out
        · have HF : r = .err l2 k2 := by rw [← HR.out, hy]
          refine (SPost.bad (set_calls HI.out HL.out.st 2 xw1 (by rw [hy]; simp)) hy).mono ?_
          rintro en w5 ⟨rfl, hx⟩
          exact ⟨rfl, HL.out.panic hx HF⟩
        · have HF : r = .ok y l2 := by rw [← HR.out, hy]
          refine (SPost.got (set_calls HI.out HL.out.st 2 xw1 (by rw [hy]; simp)) hy).mono ?_
          rintro en w5 ⟨ev, bv, lv, rfl, he, hbb, hl, hx, h1⟩
          obtain ⟨A1, c1, rfl, _⟩ := he.slice
          obtain ⟨A2, c2, rfl, _⟩ := hbb.slice
          obtain ⟨A3, c3, rfl, _⟩ := hl.slice
          have HE := Lib.hid (HL.out.erow he)
          have HB := Lib.hid (HL.out.srow hbb)
          have HLL := Lib.hid (HL.out.srow hl)
          replace HL := Lib.hid (HL.out.move hx h1)
          clear hx h1 he hbb hl hy
          obtain ⟨⟨s0, s1, s2, s3, s4⟩, sf, z1, z2, z3, z4⟩ := HL.out.facts
          go_wp2_with fail
          rw [HF]
          exact HL.out.fin rfl rfl HE.out HB.out HLL.out h
end
end Go.Proofs.YtdijffojppjmfaaDoor
