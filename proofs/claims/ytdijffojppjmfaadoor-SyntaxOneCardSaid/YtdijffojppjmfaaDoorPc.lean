/- The parser's expressions, walked: number, args, unary, binary, expr. -/
import Derived.Test.YtdijffojppjmfaaDoorPk
import Derived.Test.YtdijffojppjmfaaDoorPt
import Derived.Deep.RegionHeld3
import Derived.Deep.RegionWith
set_option linter.unusedVariables false
namespace Go.Proofs.YtdijffojppjmfaaDoor
open Go.RowKit Bir Go.BW

section
variable {w : World} {pb tb e : Nat} {l : List Tok}
theorem number_form (h : PSt w pb tb e l) (hk : kindOf l ≠ 3) :
    Calls Tryd.prog 108 #[pp pb] w fun r w' => r = .panicked (wrongAt (offAt e l) 4) ∧ Below w.heap.size w w' := by
  cases l with
  | nil =>
    go_enter Tryd.func108, Tryd.ntmps108
    go_wp2_with fail
    refine (next_nil h).mono ?_
    rintro e1 w1 ⟨rfl, hb1⟩
    go_wp2_with fail
    refine (value_other 0 _ _ _ (by decide)).mono ?_
    rintro e1 w2 ⟨rfl, hb2⟩
    go_wp2_with fail
    refine (fail_calls ((h.below hb1).below hb2) 4).mono ?_
    rintro e1 w3 ⟨rfl, hb3⟩
    exact ⟨rfl, rfl, (hb1.trans (hb2.mono hb1.size)).trans (hb3.mono (Nat.le_trans hb1.size hb2.size))⟩
  | cons t l =>
    have hc := fun w => value_other t.kind (ba t.text) t.off w (by simpa [kindOf] using fun h : (t.kind : Int) = 3 => hk (by simp [kindOf]; omega))
    have HC := Lib.hid hc
    clear hc hk
    go_enter Tryd.func108, Tryd.ntmps108
    go_wp2_with fail
    refine (next_cons h).mono ?_
    rintro e1 w1 ⟨rfl, hb1⟩
    go_wp2_with fail
    refine (HC.out _).mono ?_
    rintro e1 w2 ⟨rfl, hb2⟩
    go_wp2_with fail
    refine (fail_calls ((h.below hb1).below hb2) 4).mono ?_
    rintro e1 w3 ⟨rfl, hb3⟩
    exact ⟨rfl, rfl, (hb1.trans (hb2.mono hb1.size)).trans (hb3.mono (Nat.le_trans hb1.size hb2.size))⟩
theorem number_yes {t : Tok} {n : Nat} (h : PSt w pb tb e (t :: l)) (hk : t.kind = 3) (hl : t.text.length ≤ 1000000) (hne : t.text ≠ []) (hd : ∀ c ∈ t.text, digitB c = true) (hv : value t.text = some n) :
    Calls Tryd.prog 108 #[pp pb] w fun r w' => r = .returned (.int .i64 n) ∧ Ext (· = pb) w w' ∧ PSt w' pb tb e l := by
  have hc := fun w => value_calls t.text t.off w hl hne hd
  rw [hv] at hc
  have HC : Hid (∀ w, Calls Tryd.prog 129 #[.agg #[.int .i64 3, .string (ba t.text), .int .i64 t.off]] w fun r w' => r = .returned (.tuple #[.int .i64 n, .int .i64 0]) ∧ Below w.heap.size w w') := hc
  clear hc hv hd hne
  have hn := next_cons h
  rw [hk] at hn
  go_enter Tryd.func108, Tryd.ntmps108
  go_wp2_with fail
  refine hn.mono ?_
  rintro e1 w1 ⟨rfl, hb1⟩
  clear hn
  go_wp2_with fail
  refine (HC.out _).mono ?_
  rintro e1 w2 ⟨rfl, hb2⟩
  have h1 := (h.below hb1).below hb2
  have hx := Ext.of_below (hb1.trans (hb2.mono hb1.size)) (· = pb)
  clear h hb1 hb2
  obtain ⟨A, c, h0, h2, h3, h4⟩ := h1.list
  obtain ⟨off, rfl, h5⟩ := h4 (by simp)
  have hf := h1.nofrz
  have hp := h1.pb_lt
  have H5 := Lib.hid h5
  have H1 := Lib.hid h1
  have H2 := Lib.hid h2
  clear h1 h2 h4 h5 hk
  simp only [List.length_cons] at *
  go_wp2_with fail
  · go_ret
    have hl := H2.out
    exact ⟨rfl, (hx.setCell (.inl rfl) _), (H1.out.moved (by omega) (by omega) fun hn => absurd (List.length_pos_iff.2 hn) (by omega))⟩
  · go_ret
    have hl := H2.out
    exact ⟨rfl, (hx.setCell (.inl rfl) _), (H1.out.moved (by omega) (by omega) fun hn => ⟨off + 3, rfl, H5.out.tail⟩)⟩
theorem number_great {t : Tok} (h : PSt w pb tb e (t :: l)) (hk : t.kind = 3) (hl : t.text.length ≤ 1000000) (hne : t.text ≠ []) (hd : ∀ c ∈ t.text, digitB c = true) (hv : value t.text = none) :
    Calls Tryd.prog 108 #[pp pb] w fun r w' => r = .panicked (wrongAt t.off 3) ∧ Below w.heap.size w w' := by
  have hc := fun w => value_calls t.text t.off w hl hne hd
  rw [hv] at hc
  have HC : Hid (∀ w, Calls Tryd.prog 129 #[.agg #[.int .i64 3, .string (ba t.text), .int .i64 t.off]] w fun r w' => r = .returned (.tuple #[.int .i64 0, .int .i64 3]) ∧ Below w.heap.size w w') := hc
  clear hc hv hd hne
  have hn := next_cons h
  rw [hk] at hn
  go_enter Tryd.func108, Tryd.ntmps108
  go_wp2_with fail
  refine hn.mono ?_
  rintro e1 w1 ⟨rfl, hb1⟩
  clear hn
  go_wp2_with fail
  refine (HC.out _).mono ?_
  rintro e1 w2 ⟨rfl, hb2⟩
  clear hk
  go_wp2_with fail
  refine (fail_calls ((h.below hb1).below hb2) 3).mono ?_
  rintro e1 w3 ⟨rfl, hb3⟩
  exact ⟨rfl, rfl, (hb1.trans (hb2.mono hb1.size)).trans (hb3.mono (Nat.le_trans hb1.size hb2.size))⟩

/-! ### what a parse leaves -/
def EPost (w : World) (pb tb e : Nat) (r : R Ex) (en : Ending) (w' : World) : Prop :=
  match r with
  | .out => True
  | .err l k => en = .panicked (wrongAt (offAt e l) k) ∧ Ext (· = pb) w w'
  | .ok x l => ∃ kv, en = .returned (.agg #[.int .i64 x.kind, .int .i64 x.num, .string (ba x.name), kv]) ∧ ERow w' (From w.heap.size) kv x.kids ∧ Ext (· = pb) w w' ∧ PSt w' pb tb e l
def APost (w : World) (pb tb e : Nat) (r : R (List Ex)) (en : Ending) (w' : World) : Prop :=
  match r with
  | .out => True
  | .err l k => en = .panicked (wrongAt (offAt e l) k) ∧ Ext (· = pb) w w'
  | .ok xs l => ∃ v, en = .returned v ∧ ERow w' (From w.heap.size) v xs ∧ Ext (· = pb) w w' ∧ PSt w' pb tb e l
theorem APost.got {f : FuncId} {a : Array Value} {r : R (List Ex)} {x : List Ex} (h : Calls Tryd.prog f a w (APost w pb tb e r)) (hr : r = .ok x l) :
    Calls Tryd.prog f a w fun en w' => ∃ v, en = .returned v ∧ ERow w' (From w.heap.size) v x ∧ Ext (· = pb) w w' ∧ PSt w' pb tb e l := by
  rw [hr] at h
  exact h
theorem APost.bad {f : FuncId} {a : Array Value} {r : R (List Ex)} {k : Nat} (h : Calls Tryd.prog f a w (APost w pb tb e r)) (hr : r = .err l k) :
    Calls Tryd.prog f a w fun en w' => en = .panicked (wrongAt (offAt e l) k) ∧ Ext (· = pb) w w' := by
  rw [hr] at h
  exact h
theorem EPost.got {f : FuncId} {a : Array Value} {r : R Ex} {x : Ex} (h : Calls Tryd.prog f a w (EPost w pb tb e r)) (hr : r = .ok x l) :
    Calls Tryd.prog f a w fun en w' => ∃ kv, en = .returned (.agg #[.int .i64 x.kind, .int .i64 x.num, .string (ba x.name), kv]) ∧ ERow w' (From w.heap.size) kv x.kids ∧ Ext (· = pb) w w' ∧ PSt w' pb tb e l := by
  rw [hr] at h
  exact h
theorem EPost.bad {f : FuncId} {a : Array Value} {r : R Ex} {k : Nat} (h : Calls Tryd.prog f a w (EPost w pb tb e r)) (hr : r = .err l k) :
    Calls Tryd.prog f a w fun en w' => en = .panicked (wrongAt (offAt e l) k) ∧ Ext (· = pb) w w' := by
  rw [hr] at h
  exact h
end
theorem new4 (w : World) (a b c d : Value) (t : TypeId) : (w.alloc (.cells #[a, b, c, d] t)).cell? ⟨w.heap.size, 0, none⟩ = some a ∧ (w.alloc (.cells #[a, b, c, d] t)).cell? ⟨w.heap.size, 1, none⟩ = some b ∧ (w.alloc (.cells #[a, b, c, d] t)).cell? ⟨w.heap.size, 2, none⟩ = some c ∧ (w.alloc (.cells #[a, b, c, d] t)).cell? ⟨w.heap.size, 3, none⟩ = some d := by
  simp
theorem set4_cells {w : World} {r : Nat} {z0 z1 z2 z3 : Value} (a b c d : Value) (h0 : w.cell? ⟨r, 0, none⟩ = some z0) (h1 : w.cell? ⟨r, 1, none⟩ = some z1) (h2 : w.cell? ⟨r, 2, none⟩ = some z2) (h3 : w.cell? ⟨r, 3, none⟩ = some z3) :
    (set4 w r a b c d).cell? ⟨r, 0, none⟩ = some a ∧ (set4 w r a b c d).cell? ⟨r, 1, none⟩ = some b ∧ (set4 w r a b c d).cell? ⟨r, 2, none⟩ = some c ∧ (set4 w r a b c d).cell? ⟨r, 3, none⟩ = some d := by
  have n : ∀ i j : Nat, i ≠ j → (⟨r, i, none⟩ : Addr) ≠ ⟨r, j, none⟩ := fun i j h e => h (by injection e)
  refine ⟨?_, ?_, ?_, ?_⟩
  · rw [World.cell?_setCell_other _ _ _ _ (n _ _ (by omega)), World.cell?_setCell_other _ _ _ _ (n _ _ (by omega)), World.cell?_setCell_other _ _ _ _ (n _ _ (by omega)), World.cell?_setCell_same' _ _ _ (by rw [h0]; rfl)]
  · rw [World.cell?_setCell_other _ _ _ _ (n _ _ (by omega)), World.cell?_setCell_other _ _ _ _ (n _ _ (by omega)), World.cell?_setCell_same' _ _ _ (by rw [World.cell?_setCell_other _ _ _ _ (n _ _ (by omega)), h1]; rfl)]
  · rw [World.cell?_setCell_other _ _ _ _ (n _ _ (by omega)), World.cell?_setCell_same' _ _ _ (by rw [World.cell?_setCell_other _ _ _ _ (n _ _ (by omega)), World.cell?_setCell_other _ _ _ _ (n _ _ (by omega)), h2]; rfl)]
  · rw [World.cell?_setCell_same' _ _ _ (by rw [World.cell?_setCell_other _ _ _ _ (n _ _ (by omega)), World.cell?_setCell_other _ _ _ _ (n _ _ (by omega)), World.cell?_setCell_other _ _ _ _ (n _ _ (by omega)), h3]; rfl)]
theorem ext_two {w w1 : World} {pb r : Nat} {a b c d : Value} (X : Ext (· = pb) w w1) (O : Obj) : Ext (fun i => i = pb ∨ i = r) w ((set4 w1 r a b c d).alloc O) :=
  ((X.mono (S' := fun i => i = pb ∨ i = r) (fun k hk => .inl (.inl hk))).trans (ext_set4 w1 r a b c d) (fun i hi => .inl (.inr hi))).alloc O
/-- A row of three. -/
theorem erow3 {W : World} {n b : Nat} {x y z : Ex} {k1 k2 k3 : Value} (hb : n ≤ b) (hlt : b < W.heap.size) (h1 : ERow W (From n) k1 x.kids) (h2 : ERow W (From n) k2 y.kids) (h3 : ERow W (From n) k3 z.kids)
    (hc : ∀ i u, [Value.int .i64 x.kind, .int .i64 x.num, .string (ba x.name), k1, .int .i64 y.kind, .int .i64 y.num, .string (ba y.name), k2, .int .i64 z.kind, .int .i64 z.num, .string (ba z.name), k3][i]? = some u → W.cell? ⟨b, i, none⟩ = some u) :
    ERow W (From n) (.slice (some ⟨b, 0, none⟩) 3 3) [x, y, z] :=
  ERow.of_cells (xs := [x, y, z]) (b := b) (c := 3) ((((ECells.nil W (From n)).snoc h1).snoc h2).snoc h3) hb hlt (Nat.le_refl _) hc
theorem erow2 {W : World} {n b : Nat} {x y : Ex} {k1 k2 : Value} (hb : n ≤ b) (hlt : b < W.heap.size) (h1 : ERow W (From n) k1 x.kids) (h2 : ERow W (From n) k2 y.kids)
    (hc : ∀ i u, [Value.int .i64 x.kind, .int .i64 x.num, .string (ba x.name), k1, .int .i64 y.kind, .int .i64 y.num, .string (ba y.name), k2][i]? = some u → W.cell? ⟨b, i, none⟩ = some u) :
    ERow W (From n) (.slice (some ⟨b, 0, none⟩) 2 2) [x, y] :=
  ERow.of_cells (xs := [x, y]) (b := b) (c := 2) (((ECells.nil W (From n)).snoc h1).snoc h2) hb hlt (Nat.le_refl _) hc
theorem erow1 {W : World} {n b : Nat} {x : Ex} {k1 : Value} (hb : n ≤ b) (hlt : b < W.heap.size) (h1 : ERow W (From n) k1 x.kids)
    (hc : ∀ i u, [Value.int .i64 x.kind, .int .i64 x.num, .string (ba x.name), k1][i]? = some u → W.cell? ⟨b, i, none⟩ = some u) :
    ERow W (From n) (.slice (some ⟨b, 0, none⟩) 1 1) [x] :=
  ERow.of_cells (xs := [x]) (b := b) (c := 1) ((ECells.nil W (From n)).snoc h1) hb hlt (Nat.le_refl _) hc
theorem cells_of_new (w : World) (cs : List Value) (t : TypeId) (i : Nat) (u : Value) (h : cs[i]? = some u) : (w.alloc (.cells cs.toArray t)).cell? ⟨w.heap.size, i, none⟩ = some u := by
  simp [h]
/-- The end of a method that hands back an expression, its result's four cells being these. -/
theorem epost_end {fn : Func} {k r : Nat} {tm : Array Value} {w W : World} {pb tb e : Nat} {x : Ex} {l : List Tok} {kv : Value} (hfn : fn.results = #[.cell k 36]) (htm : tm.getD k undef = .pointer (some ⟨r, 0, none⟩))
    (hc : cells4 W r (.int .i64 x.kind) (.int .i64 x.num) (.string (ba x.name)) kv) (X : Ext (· = pb) w W) (h2 : PSt W pb tb e l) (hrow : ERow W (From w.heap.size) kv x.kids) :
    bodyPost Tryd.prog fn (EPost w pb tb e (.ok x l)) .ret { tmps := tm, defers := [] } W := by
  obtain ⟨q0, q1, q2, q3⟩ := hc
  refine bodyPost_ret (v := .agg #[.int .i64 x.kind, .int .i64 x.num, .string (ba x.name), kv]) ?_ rfl ⟨kv, rfl, hrow, X, h2⟩
  have htm' : tm[k]?.getD undef = .pointer (some ⟨r, 0, none⟩) := by rw [← htm]; simp
  simp [results, hfn, htm', go_sem, q0, q1, q2, q3]
/-- The end of a method that hands back an expression: its result's four cells are written last. -/
theorem epost_fin {fn : Func} {k : Nat} {tm : Array Value} {w w2 : World} {pb tb e : Nat} {x : Ex} {l l0 : List Tok} {kv z0 z1 z2 z3 : Value} (hfn : fn.results = #[.cell k 36]) (htm : tm.getD k undef = .pointer (some ⟨w.heap.size, 0, none⟩))
    (X : Ext (· = pb) (w.alloc (.cells #[z0, z1, z2, z3] 36)) w2) (h2 : PSt w2 pb tb e l) (hrow : ERow w2 (From (w.heap.size + 1)) kv x.kids) (h : PSt w pb tb e l0) :
    bodyPost Tryd.prog fn (EPost w pb tb e (.ok x l)) .ret { tmps := tm, defers := [] } (set4 w2 w.heap.size (.int .i64 x.kind) (.int .i64 x.num) (.string (ba x.name)) kv) := by
  have hp := h.pb_lt
  have ht := h.tb_lt
  obtain ⟨n0, n1, n2, n3⟩ := new4 w z0 z1 z2 z3 36
  have hlt : w.heap.size < (w.alloc (.cells #[z0, z1, z2, z3] 36)).heap.size := by simp
  have hne : ¬ w.heap.size = pb := by omega
  obtain ⟨q0, q1, q2, q3⟩ := set4_cells (w := w2) (r := w.heap.size) (.int .i64 x.kind) (.int .i64 x.num) (.string (ba x.name)) kv ((X.cell (p := ⟨w.heap.size, 0, none⟩) hlt hne).trans n0) ((X.cell (p := ⟨w.heap.size, 1, none⟩) hlt hne).trans n1) ((X.cell (p := ⟨w.heap.size, 2, none⟩) hlt hne).trans n2) ((X.cell (p := ⟨w.heap.size, 3, none⟩) hlt hne).trans n3)
  have hs := ext_set4 w2 w.heap.size (.int .i64 x.kind) (.int .i64 x.num) (.string (ba x.name)) kv
  generalize set4 w2 w.heap.size (.int .i64 x.kind) (.int .i64 x.num) (.string (ba x.name)) kv = W at *
  refine bodyPost_ret (v := .agg #[.int .i64 x.kind, .int .i64 x.num, .string (ba x.name), kv]) ?_ rfl ⟨kv, rfl, hrow.ext hs (fun b hb => by omega) (by omega), (((Ext.refl _ w).alloc _).trans' X).trans hs (fun i hi => .inr (by omega)), h2.ext hs (by omega) (by omega) (fun b hb => by omega)⟩
  have htm' : tm[k]?.getD undef = .pointer (some ⟨w.heap.size, 0, none⟩) := by rw [← htm]; simp
  simp [results, hfn, htm', go_sem, q0, q1, q2, q3]
/-- .. its Kids a literal that is laid last. -/
theorem epost_lit {fn : Func} {k0 m : Nat} {tm : Array Value} {w w2 : World} {pb tb e : Nat} {k num : Int} {nm : Str} {kids : List Ex} {cs : List Value} {l l0 : List Tok} {z0 z1 z2 z3 : Value} (hfn : fn.results = #[.cell k0 36]) (htm : tm.getD k0 undef = .pointer (some ⟨w.heap.size, 0, none⟩))
    (X : Ext (· = pb) (w.alloc (.cells #[z0, z1, z2, z3] 36)) w2) (h2 : PSt w2 pb tb e l) (hc : ECells w2 (From (w.heap.size + 1)) cs kids) (hm : kids.length = m) (h : PSt w pb tb e l0) :
    bodyPost Tryd.prog fn (EPost w pb tb e (.ok (.mk k num nm kids) l)) .ret { tmps := tm, defers := [] }
      ((set4 w2 w.heap.size (.int .i64 k) (.int .i64 num) (.string (ba nm)) (.slice (some ⟨w2.heap.size, 0, none⟩) m m)).alloc (.cells cs.toArray 36)) := by
  subst hm
  have hp := h.pb_lt
  have ht := h.tb_lt
  have hne : ¬ w.heap.size = pb := by omega
  have hsz := X.size
  rw [World.size_alloc] at hsz
  obtain ⟨q0, q1, q2, q3⟩ := (cells4.new w z0 z1 z2 z3 36).ext X hne
  refine epost_end (r := w.heap.size) hfn htm (cells4.ext (set4_cells _ _ _ _ q0 q1 q2 q3) ((Ext.refl (fun _ => False) _).alloc _) id) ((((((Ext.refl _ w).alloc _).trans' X).trans (ext_set4 _ _ _ _ _ _) (fun i hi => .inr (by omega)))).alloc _) ((h2.ext (ext_set4 _ _ _ _ _ _) (by omega) (by omega) (fun b hb => by omega)).alloc _) ?_
  have hX := ext_two (r := w.heap.size) (a := .int .i64 k) (b := .int .i64 num) (c := .string (ba nm)) (d := .slice (some ⟨w2.heap.size, 0, none⟩) kids.length kids.length) (Ext.refl (· = pb) w2) (.cells cs.toArray 36)
  refine ERow.of_cells (b := w2.heap.size) (c := kids.length) (hc.keep (ok' := From w.heap.size) hX.size fun b hb hlt => ⟨hX.block b hlt (fun hs => ?_), by have : w.heap.size + 1 ≤ b := hb; show w.heap.size ≤ b; omega⟩) (by show w.heap.size ≤ _; omega) (by simp [World.setCell]) (Nat.le_refl _) ?_
  · have : w.heap.size + 1 ≤ b := hb
    omega
  · intro i u hu
    have := cells_of_new (set4 w2 w.heap.size (.int .i64 k) (.int .i64 num) (.string (ba nm)) (.slice (some ⟨w2.heap.size, 0, none⟩) kids.length kids.length)) cs 36 i u hu
    simpa [World.setCell] using this
theorem ECells.ext {w w1 : World} {S : Nat → Prop} {n m : Nat} {cs : List Value} {xs : List Ex} (h : ECells w (From n) cs xs) (hx : Ext S w w1) (hS : ∀ b, S b → b < n) (hm : m ≤ n) : ECells w1 (From m) cs xs :=
  h.keep hx.size fun b hb hlt => ⟨hx.block b hlt (fun hs => by have := hS b hs; have : n ≤ b := hb; omega), Nat.le_trans hm hb⟩
/-- What the methods do, whatever the state, where the grammar's own functions come to an end in n steps. -/
structure PAll (n : Nat) : Prop where
  expr : ∀ {w : World} {pb tb e : Nat} {l : List Tok}, PSt w pb tb e l → (gram n).expr l ≠ .out → Calls Tryd.prog 43 #[pp pb] w (EPost w pb tb e ((gram n).expr l))
  bin : ∀ {w : World} {pb tb e : Nat} {l : List Tok} (lvl : Nat) (v : Int), v = lvl → 1 ≤ lvl → lvl ≤ 11 → PSt w pb tb e l → (gram n).bin lvl l ≠ .out → Calls Tryd.prog 83 #[pp pb, .int .i64 v] w (EPost w pb tb e ((gram n).bin lvl l))
  un : ∀ {w : World} {pb tb e : Nat} {l : List Tok}, PSt w pb tb e l → (gram n).un l ≠ .out → Calls Tryd.prog 113 #[pp pb] w (EPost w pb tb e ((gram n).un l))
  args : ∀ {w : World} {pb tb e : Nat} {l : List Tok}, PSt w pb tb e l → is [40] l = true → (gram n).args [] l.tail ≠ .out → Calls Tryd.prog 132 #[pp pb] w (APost w pb tb e ((gram n).args [] l.tail))

section
variable {w : World} {pb tb e n : Nat} {l : List Tok}
theorem expr_step (ih : PAll n) (h : PSt w pb tb e l) (hne : (gram (n + 1)).expr l ≠ .out) : Calls Tryd.prog 43 #[pp pb] w (EPost w pb tb e ((gram (n + 1)).expr l)) := by
  have hdef : (gram (n + 1)).expr l = exprF (gram n) l := rfl
  rw [hdef] at hne ⊢
  have hpb := h.pb_lt
  have hp0 : w.heap.size ≠ pb := by omega
  have hp1 : pb ≠ w.heap.size := by omega
  rcases hb : (gram n).bin 1 l with _ | ⟨l1, k⟩ | ⟨x, l1⟩
  · exact absurd (by simp [exprF, hb, R.bind]) hne
  · have hfin : exprF (gram n) l = .err l1 k := by simp [exprF, hb, R.bind]
    rw [hfin]
    have HB := Lib.hid hb
    have HI := Lib.hid ih
    clear hne hfin hdef hb ih
    go_enter Tryd.func43, Tryd.ntmps43
    go_wp2_with fail
    refine (EPost.bad (HI.out.bin 1 1 rfl (by omega) (by omega) (h.alloc _) (by rw [HB.out]; simp)) HB.out).mono ?_
    rintro en w1 ⟨rfl, hx1⟩
    exact ⟨rfl, rfl, ((Ext.refl _ w).alloc _).trans' hx1⟩
  · have hx : exprF (gram n) l = if is [63] l1 then ((gram n).expr l1.tail).bind fun y l2 => (must [58] l2).bind fun _ l3 => ((gram n).expr l3).bind fun z l4 => .ok (.mk 7 0 [] [x, y, z]) l4 else .ok x l1 := by simp [exprF, hb, R.bind]
    rw [hx] at hne ⊢
    have HB := Lib.hid hb
    have HI := Lib.hid ih
    clear hdef hb ih hx
    cases hq : is [63] l1 with
    | false =>
      rw [hq] at hne
      simp only [Bool.false_eq_true, if_false]
      clear hne
      have htb := h.tb_lt
      go_enter Tryd.func43, Tryd.ntmps43
      go_wp2_with fail
      refine (EPost.got (HI.out.bin 1 1 rfl (by omega) (by omega) (h.alloc _) (by rw [HB.out]; simp)) HB.out).mono ?_
      rintro en w1 ⟨kv, rfl, hr1, hx1, h1⟩
      obtain ⟨hc1, hf1, hz1, hw1⟩ := estep hx1 (by simp; omega)
      obtain ⟨A1, c1, rfl, _⟩ := hr1.slice
      have HR1 := Lib.hid hr1
      have HX1 := Lib.hid hx1
      have HH1 := Lib.hid h1
      clear hr1 hx1 h1
      replace hz1 : w.heap.size < w1.heap.size := by rw [World.size_alloc] at hz1; omega
      go_wp2_with fail
      refine (take_no (HH1.out.alloc _) [63] hq).mono ?_
      rintro en w2 ⟨rfl, hb2⟩
      obtain ⟨hc2, hf2, hz2, hw2⟩ := bstep (pb := pb) hb2 (by simp; omega)
      have HB2 := Lib.hid hb2
      clear hb2
      replace hz2 : w1.heap.size < w2.heap.size := by rw [World.size_alloc] at hz2; omega
      go_wp2_with fail
      have hrow := HR1.out
      rw [World.size_alloc] at hrow
      have hb := ((Below.refl _ w1).alloc (Nat.le_refl _) _).trans (HB2.out.mono (by simp))
      exact epost_fin rfl rfl (HX1.out.trans' (.of_below hb _)) (HH1.out.below hb) (hrow.ext (.of_below hb (fun _ => False)) (fun _ h => h.elim) (Nat.le_refl _)) h
    | true =>
      rw [hq] at hne
      simp only [if_true] at hne ⊢
      have htb := h.tb_lt
      go_enter Tryd.func43, Tryd.ntmps43
      go_wp2_with fail
      refine (EPost.got (HI.out.bin 1 1 rfl (by omega) (by omega) (h.alloc _) (by rw [HB.out]; simp)) HB.out).mono ?_
      rintro en w1 ⟨kv, rfl, hr1, hx1, h1⟩
      obtain ⟨hc1, hf1, hz1, hw1⟩ := estep hx1 (by simp; omega)
      obtain ⟨A1, c1, rfl, _⟩ := hr1.slice
      have HR1 := Lib.hid hr1
      have HX1 := Lib.hid hx1
      have HH1 := Lib.hid h1
      clear hr1 hx1 h1
      replace hz1 : w.heap.size < w1.heap.size := by rw [World.size_alloc] at hz1; omega
      have HN := Lib.hid hne
      clear hne
      go_wp2_with fail
      refine (take_yes (HH1.out.alloc _) [63] hq).mono ?_
      rintro en w2 ⟨rfl, hx2, h2⟩
      obtain ⟨hc2, hf2, hz2, hw2⟩ := estep hx2 (by simp; omega)
      have HX2 := Lib.hid hx2
      have HH2 := Lib.hid h2
      clear hx2 h2
      replace hz2 : w1.heap.size < w2.heap.size := by rw [World.size_alloc] at hz2; omega
      rcases hy : (gram n).expr l1.tail with _ | ⟨l2, k⟩ | ⟨y, l2⟩
      · exact absurd (by simp [hy, R.bind]) HN.out
      · have HY := Lib.hid hy
        clear hy
        go_wp2_with fail
        refine (EPost.bad (HI.out.expr HH2.out (by rw [HY.out]; simp)) HY.out).mono ?_
        rintro en w3 ⟨rfl, hx3⟩
        refine ⟨rfl, ?_⟩
        rw [HY.out]
        exact ⟨rfl, ((((Ext.refl _ w).alloc _).trans' HX1.out).alloc _).trans' (HX2.out.trans' hx3)⟩
      · have HY := Lib.hid hy
        clear hy
        go_wp2_with fail
        refine (EPost.got (HI.out.expr HH2.out (by rw [HY.out]; simp)) HY.out).mono ?_
        rintro en w3 ⟨kv3, rfl, hr3, hx3, h3⟩
        obtain ⟨hc3, hf3, hz3, hw3⟩ := estep hx3 (by omega)
        obtain ⟨A3, c3, rfl, _⟩ := hr3.slice
        have HR3 := Lib.hid hr3
        have HX3 := Lib.hid hx3
        have HH3 := Lib.hid h3
        clear hr3 hx3 h3
        go_wp2_with fail
        cases hm : is [58] l2 with
        | false =>
          refine (must_no (HH3.out.alloc _) [58] hm).mono ?_
          rintro en w4 ⟨rfl, hb4⟩
          refine ⟨rfl, ?_⟩
          rw [HY.out, show (R.ok y l2).bind _ = .err l2 4 from by simp [R.bind, must, hm]]
          exact ⟨rfl, (((((Ext.refl _ w).alloc _).trans' HX1.out).alloc _).trans' ((HX2.out.trans' HX3.out).alloc _)).below hb4⟩
        | true =>
          refine (must_yes (HH3.out.alloc _) [58] hm).mono ?_
          rintro en w4 ⟨rfl, hx4, h4⟩
          obtain ⟨hc4, hf4, hz4, hw4⟩ := estep hx4 (by simp; omega)
          have HX4 := Lib.hid hx4
          have HH4 := Lib.hid h4
          clear hx4 h4
          replace hz4 : w3.heap.size < w4.heap.size := by rw [World.size_alloc] at hz4; omega
          have HM := Lib.hid hm
          clear hm
          rcases hv : (gram n).expr l2.tail with _ | ⟨l4, k⟩ | ⟨z, l4⟩
          · exact absurd (by simp [HY.out, hv, R.bind, must, HM.out]) HN.out
          · have HV := Lib.hid hv
            clear hv
            obtain ⟨x0, x1, x2, x3⟩ := ((cells4.new w1 (.int .i64 x.kind) (.int .i64 x.num) (.string (ba x.name)) (.slice A1 x.kids.length c1) 36).ext ((HX2.out.trans' HX3.out).alloc _) hw1).ext HX4.out hw1
            obtain ⟨y0, y1, y2, y3⟩ := (cells4.new w3 (.int .i64 y.kind) (.int .i64 y.num) (.string (ba y.name)) (.slice A3 y.kids.length c3) 36).ext HX4.out hw3
            go_wp2_with fail
            have hfin : (((gram n).expr l1.tail).bind fun y l2 => (must [58] l2).bind fun _ l3 => ((gram n).expr l3).bind fun z l4 => R.ok (Ex.mk 7 0 [] [x, y, z]) l4) = .err l4 k := by simp [HY.out, HV.out, R.bind, must, HM.out]
            have HF := Lib.hid hfin
            clear hfin
            obtain ⟨x0, x1, x2, x3⟩ := ((cells4.new w1 (.int .i64 x.kind) (.int .i64 x.num) (.string (ba x.name)) (.slice A1 x.kids.length c1) 36).ext ((HX2.out.trans' HX3.out).alloc _) hw1).ext HX4.out hw1
            obtain ⟨y0, y1, y2, y3⟩ := (cells4.new w3 (.int .i64 y.kind) (.int .i64 y.num) (.string (ba y.name)) (.slice A3 y.kids.length c3) 36).ext HX4.out hw3
            refine wp_region_held_drew (S := fun w' => cells4 w' w1.heap.size (.int .i64 x.kind) (.int .i64 x.num) (.string (ba x.name)) (.slice A1 x.kids.length c1) ∧ cells4 w' w3.heap.size (.int .i64 y.kind) (.int .i64 y.num) (.string (ba y.name)) (.slice A3 y.kids.length c3)) (by kernel_rfl) ⟨⟨x0, x1, x2, x3⟩, ⟨y0, y1, y2, y3⟩⟩ (fun hHeld => ?_)
            refine wpAnyH_take (i := 0) (v := .agg #[.int .i64 x.kind, .int .i64 x.num, .string (ba x.name), .slice A1 x.kids.length c1]) rfl (by kernel_rfl) (by kernel_rfl) (by kernel_rfl) (fun _ _ _ h => h) (Or.inl ⟨by rfl, ?_⟩) hHeld ?_
            · rintro w' ⟨⟨a0, a1, a2, a3⟩, _⟩
              go_simp
            refine wpAnyH_take (i := 1) (v := .agg #[.int .i64 y.kind, .int .i64 y.num, .string (ba y.name), .slice A3 y.kids.length c3]) rfl (by kernel_rfl) (by kernel_rfl) (by kernel_rfl) (fun _ _ _ h => h) (Or.inl ⟨by rfl, ?_⟩) hHeld ?_
            · rintro w' ⟨_, ⟨a0, a1, a2, a3⟩⟩
              go_simp
            refine wpAnyH_take (i := 2) (v := pp pb) rfl (by kernel_rfl) (by kernel_rfl) (by kernel_rfl) (fun _ _ _ h => h) (Or.inl ⟨by rfl, ?_⟩) hHeld ?_
            · intro w' _
              go_simp
            refine wpAnyH_ready (rs := [3]) (by kernel_rfl) (by simp) ?_
            refine AllReadyH.cons rfl (fun K hK => ?_) AllReadyH.nil
            go_simp
            refine (EPost.bad (HI.out.expr HH4.out.drew (by rw [HV.out]; simp)) HV.out).mono ?_
            rintro en w5 ⟨rfl, hx5⟩
            exact ⟨rfl, by rw [HF.out]; exact ⟨rfl, (((((((Ext.refl _ w).alloc _).trans' HX1.out).alloc _).trans' ((HX2.out.trans' HX3.out).alloc _)).trans' HX4.out).drew).trans' hx5⟩⟩
          · have HV := Lib.hid hv
            clear hv
            have hfin : (((gram n).expr l1.tail).bind fun y l2 => (must [58] l2).bind fun _ l3 => ((gram n).expr l3).bind fun z l4 => R.ok (Ex.mk 7 0 [] [x, y, z]) l4) = .ok (Ex.mk 7 0 [] [x, y, z]) l4 := by simp [HY.out, HV.out, R.bind, must, HM.out]
            have HF := Lib.hid hfin
            clear hfin
            have ne1 : w.heap.size ≠ w1.heap.size := by omega
            have ne3 : w.heap.size ≠ w3.heap.size := by omega
            have HXX := Lib.hid ((((HX1.out.alloc _).trans' ((HX2.out.trans' HX3.out).alloc _)).trans' HX4.out))
            obtain ⟨x0, x1, x2, x3⟩ := ((cells4.new w1 (.int .i64 x.kind) (.int .i64 x.num) (.string (ba x.name)) (.slice A1 x.kids.length c1) 36).ext ((HX2.out.trans' HX3.out).alloc _) hw1).ext HX4.out hw1
            obtain ⟨y0, y1, y2, y3⟩ := (cells4.new w3 (.int .i64 y.kind) (.int .i64 y.num) (.string (ba y.name)) (.slice A3 y.kids.length c3) 36).ext HX4.out hw3
            go_wp2_with fail
            go_region_held3 (fun w' => (w'.cell? ⟨w1.heap.size, 0, none⟩ = some (.int .i64 x.kind) ∧ w'.cell? ⟨w1.heap.size, 1, none⟩ = some (.int .i64 x.num) ∧ w'.cell? ⟨w1.heap.size, 2, none⟩ = some (.string (ba x.name)) ∧ w'.cell? ⟨w1.heap.size, 3, none⟩ = some (.slice A1 x.kids.length c1)) ∧ w'.cell? ⟨w3.heap.size, 0, none⟩ = some (.int .i64 y.kind) ∧ w'.cell? ⟨w3.heap.size, 1, none⟩ = some (.int .i64 y.num) ∧ w'.cell? ⟨w3.heap.size, 2, none⟩ = some (.string (ba y.name)) ∧ w'.cell? ⟨w3.heap.size, 3, none⟩ = some (.slice A3 y.kids.length c3)) (go_keep)
              (first | (go_at_call 43; refine (EPost.got (HI.out.expr HH4.out.drew (by rw [HV.out]; simp)) HV.out).mono ?_; rintro en w5 ⟨kv5, rfl, hr5, hx5, h5⟩; obtain ⟨hc5, hf5, hz5, hw5⟩ := estep hx5 (by simp; omega); obtain ⟨A5, c5, rfl, _⟩ := hr5.slice; obtain ⟨p0, p1, p2, p3⟩ := cells4.ext (w := w4.drew) ⟨x0, x1, x2, x3⟩ hx5 hw1; obtain ⟨r0, r1, r2, r3⟩ := cells4.ext (w := w4.drew) ⟨y0, y1, y2, y3⟩ hx5 hw3; obtain ⟨s0, s1, s2, s3⟩ := (cells4.new w _ _ _ _ 36).ext (HXX.out.drew.trans' hx5) hp0; have sf := frz_ext (frozen_new w _ 36) (HXX.out.drew.trans' hx5) (by simp) hp0; have sz : w.heap.size < w5.heap.size := by (have := (HXX.out.drew.trans' hx5).size; rw [World.size_alloc] at this; omega)))
            go_wp2_with fail
            rw [HF.out]
            have sz1 := HR1.out
            rw [World.size_alloc] at sz1
            have sz3 := hx5.size
            have sz4 : w4.heap.size ≤ w5.heap.size := sz3
            refine epost_end (r := w.heap.size) (kv := .slice (some ⟨w5.heap.size, 0, none⟩) 3 3) (x := .mk 7 0 [] [x, y, z]) rfl rfl (cells4.ext (set4_cells _ _ _ _ s0 s1 s2 s3) ((Ext.refl (fun _ => False) _).alloc _) id) ((((((Ext.refl _ w).alloc _).trans' (HXX.out.drew.trans' hx5)).trans (ext_set4 _ _ _ _ _ _) (fun i hi => .inr (by omega)))).alloc _) ((h5.ext (ext_set4 _ _ _ _ _ _) (by omega) (by omega) (fun b hb => by omega)).alloc _) (erow3 (b := w5.heap.size) (by omega) (by simp [World.setCell]) (k1 := .slice A1 x.kids.length c1) (k2 := .slice A3 y.kids.length c3) (k3 := .slice A5 z.kids.length c5) ?_ ?_ ?_ ?_)
            · exact sz1.ext (ext_two ((((Ext.refl _ w1).alloc _).trans' ((HX2.out.trans' HX3.out).alloc _)).trans' (HX4.out.drew.trans' hx5)) _) (fun b hb => by omega) (by omega)
            · exact HR3.out.ext (ext_two ((((Ext.refl _ w3).alloc _)).trans' (HX4.out.drew.trans' hx5)) _) (fun b hb => by omega) (by omega)
            · exact ERow.ext (n := w4.heap.size) (m := w.heap.size) hr5 (ext_two (pb := pb) (Ext.refl _ w5) _) (fun b hb => by omega) (by omega)
            · intro i u hu
              have := cells_of_new (set4 w5 w.heap.size (.int .i64 7) (.int .i64 0) (.string ⟨#[]⟩) (.slice (some ⟨w5.heap.size, 0, none⟩) 3 3)) _ 36 i u hu
              simpa [World.setCell] using this
end
end Go.Proofs.YtdijffojppjmfaaDoor
