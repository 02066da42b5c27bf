/- The reference's reader, plainly: its state, its methods as functions on states (out of fuel: none). No Go and no memory stand here. The plain reader beside the grammar: where the grammar comes to an end, so does the reader, with the same tree, or the same error at the same place. The plain reader beside the grammar: programs. -/
import Derived.Test.YtdijffojppjmfaaDoorPa
import Derived.Test.YtdijffojppjmfaaDoorRa
set_option linter.unusedVariables false
set_option linter.unusedSectionVars false
namespace Bir
/-- Where the reader is, its first error and where, the spans so far. -/
structure RS where
  at_ : Nat
  k : Nat
  pos : Nat
  sp : List (Nat × Nat)
def offR (e : Nat) : List Tok → Nat
  | [] => e
  | t :: _ => t.off
section
variable (T : List Tok) (e : Nat)
/-- The tokens ahead; none behind an error. -/
def RS.next (s : RS) : List Tok := if s.k = 0 then T.drop s.at_ else []
def RS.stop (s : RS) (c : Nat) : RS := if s.k = 0 then ⟨s.at_, c, offR e (T.drop s.at_), s.sp⟩ else s
def RS.adv (s : RS) : RS := ⟨s.at_ + 1, s.k, s.pos, s.sp⟩
def RS.must (s : RS) (t : Str) : RS := if is t (s.next T) then s.adv else s.stop T e 4
def RS.name (s : RS) : Str × RS :=
  match s.next T with
  | [] => ([], s.stop T e 4)
  | t :: _ => if t.kind = 1 then (if 40 < t.text.length then ([], s.stop T e 3) else (t.text, s.adv)) else ([], s.stop T e 4)
def RS.number (s : RS) : Nat × RS :=
  match s.next T with
  | [] => (0, s.stop T e 4)
  | t :: _ => if t.kind = 3 then (match value t.text with | some n => (n, s.adv) | none => (0, s.stop T e 3)) else (0, s.stop T e 4)
/-- None: there are more spans than the walk lets be. -/
def RS.said (s : RS) (from_ : Nat) : Option RS := if s.sp.length < 1000000000 then some ⟨s.at_, s.k, s.pos, s.sp ++ [(from_, s.at_)]⟩ else none
def textOf : List Tok → Str
  | [] => []
  | t :: _ => t.text

structure RR where
  expr : RS → Option (Ex × RS)
  bin : Nat → RS → Option (Ex × RS)
  loop : Nat → Nat → Ex → RS → Option (Ex × RS)
  un : RS → Option (Ex × RS)
  args : Bool → List Ex → RS → Option (List Ex × RS)
  stmt : RS → Option (St × RS)
  stmts : List St → RS → Option (List St × RS)
  ifs : RS → Option (St × RS)
variable (r : RR)
def rExpr (s : RS) : Option (Ex × RS) :=
  (r.bin 1 s).bind fun p => if is [63] (p.2.next T) then
      (r.expr p.2.adv).bind fun q => (r.expr (q.2.must T e [58])).bind fun u => (u.2.said s.at_).bind fun v => some (.mk 7 0 [] [p.1, q.1, u.1], v)
    else some p
def rBin (lvl : Nat) (s : RS) : Option (Ex × RS) := if 10 < lvl then r.un s else (r.bin (lvl + 1) s).bind fun p => r.loop lvl s.at_ p.1 p.2
def rLoop (lvl from_ : Nat) (x : Ex) (s : RS) : Option (Ex × RS) :=
  if kindOf (s.next T) = 4 ∧ level (textOf (s.next T)) = lvl then
    (r.bin (lvl + 1) s.adv).bind fun p => (p.2.said from_).bind fun v => r.loop lvl from_ (.mk 6 0 (textOf (s.next T)) [x, p.1]) v
  else some (x, s)
def rUn (s : RS) : Option (Ex × RS) :=
  if is [45] (s.next T) then (r.un s.adv).bind fun p => (p.2.said s.at_).bind fun v => some (.mk 5 0 [45] [p.1], v)
  else if is [33] (s.next T) then (r.un s.adv).bind fun p => (p.2.said s.at_).bind fun v => some (.mk 5 0 [33] [p.1], v)
  else if kindOf (s.next T) = 3 then ((s.number T e).2.said s.at_).bind fun v => some (.mk 1 (s.number T e).1 [] [], v)
  else if is [40] (s.next T) then (r.expr s.adv).bind fun p => some (p.1, p.2.must T e [41])
  else if is [91] ((s.name T e).2.next T) then (r.expr (s.name T e).2.adv).bind fun p => ((p.2.must T e [93]).said s.at_).bind fun v => some (.mk 3 0 (s.name T e).1 [p.1], v)
  else if is [40] ((s.name T e).2.next T) then (r.args true [] (s.name T e).2.adv).bind fun p => (p.2.said s.at_).bind fun v => some (.mk 4 0 (s.name T e).1 p.1, v)
  else ((s.name T e).2.said s.at_).bind fun v => some (.mk 2 0 (s.name T e).1 [], v)
/-- Whether a list goes on: at its first element, or behind a comma. -/
def moreR (first : Bool) (s : RS) : Bool := s.k == 0 && (if first then !is [41] (s.next T) else is [44] (s.next T))
def pastR (first : Bool) (s : RS) : RS := if first then s else s.adv
def rArgs (first : Bool) (xs : List Ex) (s : RS) : Option (List Ex × RS) :=
  if moreR T first s then
    (r.expr (if 8 ≤ xs.length ∧ begins ((pastR first s).next T) then (pastR first s).stop T e 3 else pastR first s)).bind fun p => r.args false (xs ++ [p.1]) p.2
  else some (xs, s.must T e [41])
def rBlock (s : RS) : Option (List St × RS) := r.stmts [] (s.must T e [123])
def rStmts (xs : List St) (s : RS) : Option (List St × RS) :=
  if s.k = 0 ∧ is [125] (s.next T) = false then (r.stmt s).bind fun p => r.stmts (xs ++ [p.1]) p.2 else some (xs, s.must T e [125])
def rPlain (k : Int) (s : RS) : Option (St × RS) := (r.expr s).bind fun p => some (.mk k [] [p.1] [] [], p.2.must T e [59])
def rIfs (s : RS) : Option (St × RS) :=
  (r.expr (s.must T e [105, 102])).bind fun p => (rBlock T e r p.2).bind fun q =>
    if is [101, 108, 115, 101] (q.2.next T) then
      (if is [105, 102] (q.2.adv.next T) then (r.ifs q.2.adv).bind fun u => some (.mk 4 [] [p.1] q.1 [u.1], u.2)
       else (rBlock T e r q.2.adv).bind fun u => some (.mk 4 [] [p.1] q.1 u.1, u.2))
    else some (.mk 4 [] [p.1] q.1 [], q.2)
def rSet (k : Int) (nm : Str) (s : RS) : Option (St × RS) := (r.expr s).bind fun p => some (.mk k nm [p.1] [] [], p.2.must T e [59])
def rNamed (s : RS) : Option (St × RS) :=
  if is [61] ((s.name T e).2.next T) then rSet T e r 2 (s.name T e).1 (s.name T e).2.adv
  else if is [91] ((s.name T e).2.next T) then
    (r.expr (s.name T e).2.adv).bind fun p => (r.expr ((p.2.must T e [93]).must T e [61])).bind fun q => some (.mk 3 (s.name T e).1 [p.1, q.1] [] [], q.2.must T e [59])
  else if is [40] ((s.name T e).2.next T) then (r.args true [] (s.name T e).2.adv).bind fun p => some (.mk 11 (s.name T e).1 p.1 [] [], p.2.must T e [59])
  else some (.mk 0 (s.name T e).1 [] [] [], ((s.name T e).2.stop T e 4).must T e [59])
def rStmt (s : RS) : Option (St × RS) :=
  if is [108, 101, 116] (s.next T) then rSet T e r 1 (s.adv.name T e).1 ((s.adv.name T e).2.must T e [61])
  else if is [105, 102] (s.next T) then r.ifs s
  else if is [119, 104, 105, 108, 101] (s.next T) then (r.expr s.adv).bind fun p => (rBlock T e r p.2).bind fun q => some (.mk 5 [] [p.1] q.1 [], q.2)
  else if is [102, 111, 114] (s.next T) then
    (r.expr ((s.adv.name T e).2.must T e [61])).bind fun p => (r.expr (p.2.must T e [116, 111])).bind fun q => (rBlock T e r q.2).bind fun u => some (.mk 6 (s.adv.name T e).1 [p.1, q.1] u.1 [], u.2)
  else if is [112, 114, 105, 110, 116] (s.next T) then rPlain T e r 7 s.adv
  else if is [116, 104, 114, 111, 119] (s.next T) then rPlain T e r 8 s.adv
  else if is [114, 101, 116, 117, 114, 110] (s.next T) then rPlain T e r 10 s.adv
  else if is [116, 114, 121] (s.next T) then
    (rBlock T e r s.adv).bind fun p => (rBlock T e r ((p.2.must T e [99, 97, 116, 99, 104]).name T e).2).bind fun q => some (.mk 9 ((p.2.must T e [99, 97, 116, 99, 104]).name T e).1 [] p.1 q.1, q.2)
  else rNamed T e r s
def rStep : RR := ⟨rExpr T e r, rBin r, rLoop T r, rUn T e r, rArgs T e r, rStmt T e r, rStmts T e r, rIfs T e r⟩
def rd : Nat → RR
  | 0 => ⟨fun _ => none, fun _ _ => none, fun _ _ _ _ => none, fun _ => none, fun _ _ _ => none, fun _ => none, fun _ _ => none, fun _ => none⟩
  | n + 1 => rStep T e (rd n)

def rParams : Nat → Bool → List Str → RS → Option (List Str × RS)
  | 0, _, _, _ => none
  | n + 1, first, xs, s => if moreR T first s then
      (rParams n false (xs ++ [((if 8 ≤ xs.length ∧ kindOf ((pastR first s).next T) = 1 then (pastR first s).stop T e 3 else pastR first s).name T e).1])
        ((if 8 ≤ xs.length ∧ kindOf ((pastR first s).next T) = 1 then (pastR first s).stop T e 3 else pastR first s).name T e).2)
    else some (xs, s.must T e [41])
def rFunc (n : Nat) (s : RS) : Option (Fn × RS) :=
  (rParams T e n true [] ((s.name T e).2.must T e [40])).bind fun p => (rBlock T e (rd T e n) p.2).bind fun q => some (⟨(s.name T e).1, p.1, q.1⟩, q.2)
/-- The array that is read behind its word, and the state behind it. -/
def rArray (s : RS) : Arr × RS :=
  (⟨(s.name T e).1, (((s.name T e).2.must T e [91]).number T e).1⟩, ((((s.name T e).2.must T e [91]).number T e).2.must T e [93]).must T e [59])
def rProg (n : Nat) : Nat → List Arr → List Fn → RS → Option (Pr × RS)
  | 0, _, _, _ => none
  | m + 1, ars, fs, s =>
    if s.k = 0 ∧ s.at_ < T.length then
      (if is [97, 114, 114, 97, 121] (s.next T) then
        (if 16 ≤ ars.length then some (⟨ars, fs⟩, s.stop T e 3) else rProg n m (ars ++ [(rArray T e s.adv).1]) fs (rArray T e s.adv).2)
       else if is [102, 117, 110, 99] (s.next T) then
        (if 40 ≤ fs.length then some (⟨ars, fs⟩, s.stop T e 3) else (rFunc T e n s.adv).bind fun p => rProg n m ars (fs ++ [p.1]) p.2)
       else rProg n m ars fs (s.stop T e 4))
    else some (⟨ars, fs⟩, s)
end
section
variable {T : List Tok} {e : Nat} {s : RS}
theorem RS.next_ok (hk : s.k = 0) : s.next T = T.drop s.at_ := if_pos hk
theorem RS.next_no (hk : s.k ≠ 0) : s.next T = [] := if_neg hk
theorem RS.next_end (h : T.length ≤ s.at_) : s.next T = [] := by
  unfold RS.next
  split
  · exact List.drop_eq_nil_of_le h
  · rfl
theorem RS.next_at (hk : s.k = 0) (hlt : s.at_ < T.length) : s.next T = T[s.at_] :: T.drop (s.at_ + 1) := by
  rw [RS.next_ok hk]
  exact List.drop_eq_getElem_cons hlt
theorem RS.next_cons {t : Tok} {l : List Tok} (h : s.next T = t :: l) : s.k = 0 ∧ ∃ hlt : s.at_ < T.length, T[s.at_] = t ∧ T.drop (s.at_ + 1) = l := by
  by_cases hk : s.k = 0
  · refine ⟨hk, ?_⟩
    by_cases hlt : s.at_ < T.length
    · rw [RS.next_at hk hlt] at h
      injection h with h1 h2
      exact ⟨hlt, h1, h2⟩
    · rw [RS.next_end (by omega)] at h
      cases h
  · rw [RS.next_no hk] at h
    cases h
theorem RS.next_is {t : Str} (h : is t (s.next T) = true) : s.k = 0 ∧ s.at_ < T.length := by
  cases hn : s.next T with
  | nil => rw [hn] at h; cases h
  | cons u l => obtain ⟨h1, h2, _⟩ := RS.next_cons hn; exact ⟨h1, h2⟩
end
end Bir
set_option linter.unusedVariables false
set_option linter.unusedSimpArgs false
namespace Bir
/-- From a state without an error: the reader's result beside the grammar's; b: how many spans an error may leave; d: how many more there may be than tokens were read. -/
def Rel {α : Type} (T : List Tok) (e b d : Nat) (s : RS) (g : R α) (r : Option (α × RS)) : Prop :=
  match g with
  | .out => True
  | .ok x l => ∃ s', r = some (x, s') ∧ s'.k = 0 ∧ s'.next T = l ∧ s'.sp.length + l.length ≤ s.sp.length + (s.next T).length + d
  | .err l k => ∃ x s', r = some (x, s') ∧ s'.k = k ∧ k ≠ 0 ∧ s'.pos = offR e l ∧ s'.sp.length ≤ s.sp.length + (s.next T).length + b + d
/-- From a state with an error: the reader comes to an end, and the error stays. -/
def Wr {β : Type} (m : RS) (c : Nat) (o : Option (β × RS)) : Prop := ∃ y s, o = some (y, s) ∧ s.k = m.k ∧ s.pos = m.pos ∧ s.sp.length ≤ m.sp.length + c
section
variable {T : List Tok} {e : Nat} {s m : RS}
theorem Wr.done {β : Type} {c : Nat} (y : β) : Wr m c (some (y, m)) := ⟨y, m, rfl, rfl, rfl, by omega⟩
theorem Wr.bind {α β : Type} {c c2 : Nat} {o : Option (α × RS)} {h : α × RS → Option (β × RS)} (H : Wr m c o) (hc : c ≤ c2) (hf : ∀ x s1, s1.k = m.k → s1.pos = m.pos → s1.sp.length ≤ m.sp.length + c → Wr s1 (c2 - c) (h (x, s1))) : Wr m c2 (o.bind h) := by
  obtain ⟨x, s1, rfl, hk, hp, hs⟩ := H
  obtain ⟨y, s2, h2, hk2, hp2, hs2⟩ := hf x s1 hk hp hs
  exact ⟨y, s2, h2, hk2.trans hk, hp2.trans hp, by omega⟩
theorem Wr.said {β : Type} {c f : Nat} {h : RS → Option (β × RS)} (hc : 1 ≤ c) (hs : m.sp.length < 1000000000) (hf : ∀ s1 : RS, s1.k = m.k → s1.pos = m.pos → s1.sp.length = m.sp.length + 1 → Wr s1 (c - 1) (h s1)) : Wr m c ((m.said f).bind h) := by
  rw [show m.said f = some ⟨m.at_, m.k, m.pos, m.sp ++ [(f, m.at_)]⟩ from if_pos hs]
  obtain ⟨y, s2, h2, hk2, hp2, hs2⟩ := hf ⟨m.at_, m.k, m.pos, m.sp ++ [(f, m.at_)]⟩ rfl rfl (by simp)
  refine ⟨y, s2, h2, hk2, hp2, ?_⟩
  simp only [List.length_append, List.length_cons, List.length_nil] at hs2
  omega
theorem Wr.mono {β : Type} {c c2 : Nat} {o : Option (β × RS)} (H : Wr m c o) (h : c ≤ c2) : Wr m c2 o := by
  obtain ⟨y, s2, h2, hk2, hp2, hs2⟩ := H
  exact ⟨y, s2, h2, hk2, hp2, by omega⟩
theorem next_wr (hm : m.k ≠ 0) : m.next T = [] := if_neg hm
theorem stop_wr (hm : m.k ≠ 0) (c : Nat) : m.stop T e c = m := if_neg hm
theorem must_wr (hm : m.k ≠ 0) (t : Str) : m.must T e t = m := by
  unfold RS.must
  rw [next_wr hm, stop_wr hm]
  rfl
theorem name_wr (hm : m.k ≠ 0) : m.name T e = ([], m) := by
  unfold RS.name
  rw [next_wr hm, stop_wr hm]
theorem number_wr (hm : m.k ≠ 0) : m.number T e = (0, m) := by
  unfold RS.number
  rw [next_wr hm, stop_wr hm]
theorem more_wr (hm : m.k ≠ 0) (b : Bool) : moreR T b m = false := by
  unfold moreR
  rw [beq_eq_false_iff_ne.2 hm]
  rfl

theorem Rel.from_ {β : Type} {s1 : RS} {g : R β} {r : Option (β × RS)} {b d d1 : Nat} (H : Rel T e b d1 s1 g r) (hs : s1.sp.length + (s1.next T).length + d1 ≤ s.sp.length + (s.next T).length + d) : Rel T e b d s g r := by
  cases g with
  | out => trivial
  | ok y l2 =>
    obtain ⟨s2, h1, h2, h3, h4⟩ := H
    exact ⟨s2, h1, h2, h3, by omega⟩
  | err l2 k =>
    obtain ⟨y, s2, h1, h2, h3, h4, h5⟩ := H
    exact ⟨y, s2, h1, h2, h3, h4, by omega⟩
theorem Rel.mono {β : Type} {g : R β} {r : Option (β × RS)} {b b2 d d2 : Nat} (H : Rel T e b d s g r) (hb : b ≤ b2) (hd : d ≤ d2) : Rel T e b2 d2 s g r := by
  cases g with
  | out => trivial
  | ok y l2 =>
    obtain ⟨s2, h1, h2, h3, h4⟩ := H
    exact ⟨s2, h1, h2, h3, by omega⟩
  | err l2 k =>
    obtain ⟨y, s2, h1, h2, h3, h4, h5⟩ := H
    exact ⟨y, s2, h1, h2, h3, h4, by omega⟩
theorem Rel.bind {α β : Type} {g : R α} {f : α → List Tok → R β} {r : Option (α × RS)} {h : α × RS → Option (β × RS)} {b c b2 d : Nat} (H : Rel T e b 0 s g r) (hb : b + c ≤ b2)
    (ho : ∀ x s1, s1.k = 0 → s1.sp.length + (s1.next T).length ≤ s.sp.length + (s.next T).length → Rel T e b2 d s1 (f x (s1.next T)) (h (x, s1)))
    (hw : ∀ x s1, s1.k ≠ 0 → s1.sp.length ≤ s.sp.length + (s.next T).length + b → Wr s1 c (h (x, s1))) : Rel T e b2 d s (g.bind f) (r.bind h) := by
  cases g with
  | out => trivial
  | ok x l =>
    obtain ⟨s1, rfl, hk, rfl, hs⟩ := H
    exact (ho x s1 hk hs).from_ (by omega)
  | err l k =>
    obtain ⟨x, s1, rfl, h1, h2, h3, h4⟩ := H
    obtain ⟨y, s2, g1, g2, g3, g4⟩ := hw x s1 (by omega) h4
    exact ⟨y, s2, g1, g2.trans h1, h2, g3.trans h3, by omega⟩
/-- The error is here. -/
theorem Rel.wrong {β : Type} {o : Option (β × RS)} {l : List Tok} {k b d : Nat} (hk : m.k = k) (h0 : k ≠ 0) (hp : m.pos = offR e l) (hs : m.sp.length ≤ s.sp.length) (H : Wr m b o) : Rel T e b d s (.err l k) o := by
  obtain ⟨y, s2, h2, hk2, hp2, hs2⟩ := H
  exact ⟨y, s2, h2, hk2.trans hk, h0, hp2.trans hp, by omega⟩
theorem Rel.done {β : Type} {b d : Nat} (y : β) (hk : s.k = 0) : Rel T e b d s (.ok y (s.next T)) (some (y, s)) := ⟨s, rfl, hk, rfl, by omega⟩
theorem Rel.said {β : Type} {b d f : Nat} {y : β} (hk : s.k = 0) (hl : s.sp.length < 1000000000) : Rel T e b (d + 1) s (.ok y (s.next T)) ((s.said f).bind fun v => some (y, v)) := by
  rw [show s.said f = some ⟨s.at_, s.k, s.pos, s.sp ++ [(f, s.at_)]⟩ from if_pos hl]
  refine ⟨_, rfl, hk, ?_, ?_⟩
  · unfold RS.next
    rfl
  · simp only [List.length_append, List.length_cons, List.length_nil]
    omega
theorem Rel.span {β : Type} {b d f : Nat} {g : List Tok → R β} {h : RS → Option (β × RS)} (hk : s.k = 0) (hl : s.sp.length < 1000000000)
    (ho : ∀ s1 : RS, s1.k = 0 → s1.next T = s.next T → s1.sp.length = s.sp.length + 1 → Rel T e b d s1 (g (s1.next T)) (h s1)) : Rel T e b (d + 1) s (g (s.next T)) ((s.said f).bind h) := by
  rw [show s.said f = some ⟨s.at_, s.k, s.pos, s.sp ++ [(f, s.at_)]⟩ from if_pos hl]
  have hn : (RS.mk s.at_ s.k s.pos (s.sp ++ [(f, s.at_)])).next T = s.next T := rfl
  have hsp : (RS.mk s.at_ s.k s.pos (s.sp ++ [(f, s.at_)])).sp.length = s.sp.length + 1 := by simp
  have := ho ⟨s.at_, s.k, s.pos, s.sp ++ [(f, s.at_)]⟩ hk hn hsp
  rw [hn] at this
  exact this.from_ (by rw [hn, hsp]; omega)
theorem stop_ok (hk : s.k = 0) (c : Nat) : (s.stop T e c).k = c ∧ (s.stop T e c).pos = offR e (s.next T) ∧ (s.stop T e c).sp = s.sp := by
  unfold RS.stop
  rw [if_pos hk, RS.next_ok hk]
  exact ⟨rfl, rfl, rfl⟩
theorem adv_ok {t : Str} (h : is t (s.next T) = true) : s.adv.k = 0 ∧ s.adv.next T = (s.next T).tail ∧ s.adv.sp = s.sp ∧ (s.adv.next T).length + 1 = (s.next T).length := by
  obtain ⟨hk, hlt⟩ := RS.next_is h
  have h1 : s.adv.next T = T.drop (s.at_ + 1) := RS.next_ok (s := s.adv) hk
  rw [h1, RS.next_at hk hlt]
  exact ⟨hk, rfl, rfl, rfl⟩
theorem adv_cons {t : Tok} {l : List Tok} (h : s.next T = t :: l) : s.adv.k = 0 ∧ s.adv.next T = l ∧ s.adv.sp = s.sp := by
  obtain ⟨hk, hlt, _, h2⟩ := RS.next_cons h
  have h1 : s.adv.next T = T.drop (s.at_ + 1) := RS.next_ok (s := s.adv) hk
  exact ⟨hk, h1.trans h2, rfl⟩
/-- Past a word or a sign that is there. -/
theorem Rel.adv {β : Type} {t : Str} {f : List Tok → R β} {o : Option (β × RS)} {b d : Nat} (hi : is t (s.next T) = true)
    (ho : s.adv.k = 0 → s.adv.sp = s.sp → (s.adv.next T).length + 1 = (s.next T).length → Rel T e b (d + 1) s.adv (f (s.adv.next T)) o) : Rel T e b d s (f (s.next T).tail) o := by
  obtain ⟨a1, a2, a3, a4⟩ := adv_ok hi
  rw [← a2]
  exact (ho a1 a3 a4).from_ (by rw [a3]; omega)
theorem Rel.must {β : Type} {t : Str} {f : Unit → List Tok → R β} {o : Option (β × RS)} {b d : Nat} (hk : s.k = 0)
    (ho : (s.must T e t).k = 0 → (s.must T e t).sp = s.sp → ((s.must T e t).next T).length + 1 = (s.next T).length → Rel T e b (d + 1) (s.must T e t) (f () ((s.must T e t).next T)) o)
    (hw : (s.must T e t).k ≠ 0 → (s.must T e t).sp = s.sp → Wr (s.must T e t) b o) : Rel T e b d s ((Bir.must t (s.next T)).bind f) o := by
  cases hi : is t (s.next T) with
  | true =>
    have hm : s.must T e t = s.adv := if_pos hi
    have hg : Bir.must t (s.next T) = .ok () (s.next T).tail := if_pos hi
    rw [hg]
    rw [hm] at ho
    exact Rel.adv (f := f ()) hi ho
  | false =>
    have hn : ¬ is t (s.next T) = true := by rw [hi]; simp
    have hm : s.must T e t = s.stop T e 4 := if_neg hn
    have hg : Bir.must t (s.next T) = .err (s.next T) 4 := if_neg hn
    obtain ⟨a1, a2, a3⟩ := stop_ok (T := T) (e := e) hk 4
    rw [hg]
    rw [hm] at hw
    exact Rel.wrong a1 (by omega) a2 (by rw [a3]; omega) (hw (by omega) a3)
theorem Rel.name {β : Type} {f : Str → List Tok → R β} {o : Option (β × RS)} {b d : Nat} (hk : s.k = 0)
    (ho : (s.name T e).2.k = 0 → (s.name T e).2.sp = s.sp → ((s.name T e).2.next T).length + 1 = (s.next T).length → Rel T e b (d + 1) (s.name T e).2 (f (s.name T e).1 ((s.name T e).2.next T)) o)
    (hw : (s.name T e).2.k ≠ 0 → (s.name T e).2.sp = s.sp → Wr (s.name T e).2 b o) : Rel T e b d s ((Bir.name (s.next T)).bind f) o := by
  cases hn : s.next T with
  | nil =>
    have hm : s.name T e = ([], s.stop T e 4) := by unfold RS.name; rw [hn]
    obtain ⟨a1, a2, a3⟩ := stop_ok (T := T) (e := e) hk 4
    rw [hm] at hw
    rw [hn] at a2
    exact Rel.wrong a1 (by omega) a2 (by rw [a3]; omega) (hw (by show (s.stop T e 4).k ≠ 0; omega) a3)
  | cons t l =>
    by_cases h1 : t.kind = 1
    · by_cases h40 : 40 < t.text.length
      · have hm : s.name T e = ([], s.stop T e 3) := by unfold RS.name; rw [hn]; exact (if_pos h1).trans (if_pos h40)
        have hg : Bir.name (t :: l) = .err (t :: l) 3 := (if_pos h1).trans (if_pos h40)
        obtain ⟨a1, a2, a3⟩ := stop_ok (T := T) (e := e) hk 3
        rw [hm] at hw
        rw [hn] at a2
        rw [hg]
        exact Rel.wrong a1 (by omega) a2 (by rw [a3]; omega) (hw (by show (s.stop T e 3).k ≠ 0; omega) a3)
      · have hm : s.name T e = (t.text, s.adv) := by unfold RS.name; rw [hn]; exact (if_pos h1).trans (if_neg h40)
        have hg : Bir.name (t :: l) = .ok t.text l := (if_pos h1).trans (if_neg h40)
        obtain ⟨a1, a2, a3⟩ := adv_cons hn
        have hlen : (s.adv.next T).length + 1 = (s.next T).length := by rw [a2, hn]; rfl
        rw [hm] at ho
        rw [hg, ← a2]
        exact (ho a1 a3 hlen).from_ (by show s.adv.sp.length + (s.adv.next T).length + (d + 1) ≤ _; rw [a3]; omega)
    · have hm : s.name T e = ([], s.stop T e 4) := by unfold RS.name; rw [hn]; exact if_neg h1
      have hg : Bir.name (t :: l) = .err (t :: l) 4 := if_neg h1
      obtain ⟨a1, a2, a3⟩ := stop_ok (T := T) (e := e) hk 4
      rw [hm] at hw
      rw [hn] at a2
      rw [hg]
      exact Rel.wrong a1 (by omega) a2 (by rw [a3]; omega) (hw (by show (s.stop T e 4).k ≠ 0; omega) a3)
theorem Rel.number {β : Type} {f : Nat → List Tok → R β} {o : Option (β × RS)} {b d : Nat} (hk : s.k = 0)
    (ho : (s.number T e).2.k = 0 → (s.number T e).2.sp = s.sp → ((s.number T e).2.next T).length + 1 = (s.next T).length → Rel T e b (d + 1) (s.number T e).2 (f (s.number T e).1 ((s.number T e).2.next T)) o)
    (hw : (s.number T e).2.k ≠ 0 → (s.number T e).2.sp = s.sp → Wr (s.number T e).2 b o) : Rel T e b d s ((Bir.number (s.next T)).bind f) o := by
  cases hn : s.next T with
  | nil =>
    have hm : s.number T e = (0, s.stop T e 4) := by unfold RS.number; rw [hn]
    obtain ⟨a1, a2, a3⟩ := stop_ok (T := T) (e := e) hk 4
    rw [hm] at hw
    rw [hn] at a2
    exact Rel.wrong a1 (by omega) a2 (by rw [a3]; omega) (hw (by show (s.stop T e 4).k ≠ 0; omega) a3)
  | cons t l =>
    by_cases h1 : t.kind = 3
    · cases hv : value t.text with
      | none =>
        have hm : s.number T e = (0, s.stop T e 3) := by unfold RS.number; rw [hn]; exact (if_pos h1).trans (by rw [hv])
        have hg : Bir.number (t :: l) = .err (t :: l) 3 := (if_pos h1).trans (by rw [hv])
        obtain ⟨a1, a2, a3⟩ := stop_ok (T := T) (e := e) hk 3
        rw [hm] at hw
        rw [hn] at a2
        rw [hg]
        exact Rel.wrong a1 (by omega) a2 (by rw [a3]; omega) (hw (by show (s.stop T e 3).k ≠ 0; omega) a3)
      | some n =>
        have hm : s.number T e = (n, s.adv) := by unfold RS.number; rw [hn]; exact (if_pos h1).trans (by rw [hv])
        have hg : Bir.number (t :: l) = .ok n l := (if_pos h1).trans (by rw [hv])
        obtain ⟨a1, a2, a3⟩ := adv_cons hn
        have hlen : (s.adv.next T).length + 1 = (s.next T).length := by rw [a2, hn]; rfl
        rw [hm] at ho
        rw [hg, ← a2]
        exact (ho a1 a3 hlen).from_ (by show s.adv.sp.length + (s.adv.next T).length + (d + 1) ≤ _; rw [a3]; omega)
    · have hm : s.number T e = (0, s.stop T e 4) := by unfold RS.number; rw [hn]; exact if_neg h1
      have hg : Bir.number (t :: l) = .err (t :: l) 4 := if_neg h1
      obtain ⟨a1, a2, a3⟩ := stop_ok (T := T) (e := e) hk 4
      rw [hm] at hw
      rw [hn] at a2
      rw [hg]
      exact Rel.wrong a1 (by omega) a2 (by rw [a3]; omega) (hw (by show (s.stop T e 4).k ≠ 0; omega) a3)

/-! ### from a state with an error -/
variable (T e)
theorem un_wr (n : Nat) (hm : m.k ≠ 0) (hs : m.sp.length < 1000000000) : Wr m 1 ((rd T e (n + 1)).un m) := by
  show Wr m 1 (rUn T e (rd T e n) m)
  unfold rUn
  rw [next_wr hm, name_wr hm, next_wr hm]
  exact Wr.said (Nat.le_refl _) hs fun s1 _ _ _ => Wr.done _
theorem loop_wr (n lvl f : Nat) (x : Ex) (hm : m.k ≠ 0) : Wr m 0 ((rd T e (n + 1)).loop lvl f x m) := by
  show Wr m 0 (rLoop T (rd T e n) lvl f x m)
  unfold rLoop
  rw [next_wr hm, if_neg (by simp [kindOf])]
  exact Wr.done _
theorem bin_wr : ∀ (j n : Nat) {m : RS}, j ≤ 10 → m.k ≠ 0 → m.sp.length < 1000000000 → Wr m 1 ((rd T e (n + 2 + j)).bin (11 - j) m)
  | 0, n, m, _, hm, hs => by
    show Wr m 1 (rBin (rd T e (n + 1)) 11 m)
    unfold rBin
    rw [if_pos (by omega)]
    exact un_wr T e n hm hs
  | j + 1, n, m, hj, hm, hs => by
    show Wr m 1 (rBin (rd T e (n + 2 + j)) (11 - (j + 1)) m)
    unfold rBin
    rw [if_neg (by omega), show 11 - (j + 1) + 1 = 11 - j from by omega]
    exact (bin_wr j n (by omega) hm hs).bind (Nat.le_refl _) fun x s1 h1 _ _ => by
      obtain ⟨k, hk⟩ : ∃ k, n + 2 + j = k + 1 := ⟨n + 1 + j, by omega⟩
      rw [hk]
      exact loop_wr T e k _ _ _ (by omega)
theorem bin1_wr (n : Nat) (hm : m.k ≠ 0) (hs : m.sp.length < 1000000000) : Wr m 1 ((rd T e (n + 12)).bin 1 m) := bin_wr T e 10 n (by omega) hm hs
theorem expr_wr (n : Nat) (hm : m.k ≠ 0) (hs : m.sp.length < 1000000000) : Wr m 1 ((rd T e (n + 13)).expr m) := by
  show Wr m 1 (rExpr T e (rd T e (n + 12)) m)
  unfold rExpr
  refine (bin1_wr T e n hm hs).bind (Nat.le_refl _) fun x s1 h1 _ _ => ?_
  have h1' : s1.k ≠ 0 := by omega
  rw [next_wr h1']
  exact Wr.done _
theorem args_wr (n : Nat) (b : Bool) (xs : List Ex) (hm : m.k ≠ 0) : Wr m 0 ((rd T e (n + 1)).args b xs m) := by
  show Wr m 0 (rArgs T e (rd T e n) b xs m)
  unfold rArgs
  rw [more_wr hm, must_wr hm]
  exact Wr.done _
theorem stmts_wr (n : Nat) (xs : List St) (hm : m.k ≠ 0) : Wr m 0 ((rd T e (n + 1)).stmts xs m) := by
  show Wr m 0 (rStmts T e (rd T e n) xs m)
  unfold rStmts
  rw [if_neg (fun h => hm h.1), must_wr hm]
  exact Wr.done _
theorem block_wr (n : Nat) (hm : m.k ≠ 0) : Wr m 0 (rBlock T e (rd T e (n + 1)) m) := by
  unfold rBlock
  rw [must_wr hm]
  exact stmts_wr T e n [] hm
theorem params_wr (n : Nat) (b : Bool) (xs : List Str) (hm : m.k ≠ 0) : Wr m 0 (rParams T e (n + 1) b xs m) := by
  unfold rParams
  rw [more_wr hm, must_wr hm]
  exact Wr.done _
theorem prog_wr (n k : Nat) (ars : List Arr) (fs : List Fn) (hm : m.k ≠ 0) : Wr m 0 (rProg T e n (k + 1) ars fs m) := by
  unfold rProg
  rw [if_neg (fun h => hm h.1)]
  exact Wr.done _
variable {T e}

/-! ### by fuel -/
/-- What is known of the reader with n + 13 steps. -/
structure RRel (T : List Tok) (e n : Nat) : Prop where
  expr : ∀ s : RS, s.k = 0 → s.sp.length + (s.next T).length + 4 * n + 8 ≤ 1000000000 → Rel T e (4 * n) 0 s ((gram n).expr (s.next T)) ((rd T e (n + 13)).expr s)
  bin : ∀ lvl (s : RS), 1 ≤ lvl → lvl ≤ 11 → s.k = 0 → s.sp.length + (s.next T).length + 4 * n + 8 ≤ 1000000000 → Rel T e (4 * n) 0 s ((gram n).bin lvl (s.next T)) ((rd T e (n + 13)).bin lvl s)
  loop : ∀ lvl f x (s : RS), 1 ≤ lvl → lvl ≤ 10 → s.k = 0 → s.sp.length + (s.next T).length + 4 * n + 8 ≤ 1000000000 → Rel T e (4 * n) 0 s ((gram n).loop lvl x (s.next T)) ((rd T e (n + 13)).loop lvl f x s)
  un : ∀ s : RS, s.k = 0 → s.sp.length + (s.next T).length + 4 * n + 8 ≤ 1000000000 → Rel T e (4 * n) 0 s ((gram n).un (s.next T)) ((rd T e (n + 13)).un s)
  args : ∀ (first : Bool) xs (s : RS), (first = true ↔ xs = []) → s.k = 0 → s.sp.length + (s.next T).length + 4 * n + 8 ≤ 1000000000 → Rel T e (4 * n) 0 s ((gram n).args xs (s.next T)) ((rd T e (n + 13)).args first xs s)
  stmt : ∀ s : RS, s.k = 0 → s.sp.length + (s.next T).length + 4 * n + 8 ≤ 1000000000 → Rel T e (4 * n) 0 s ((gram n).stmt (s.next T)) ((rd T e (n + 13)).stmt s)
  stmts : ∀ xs (s : RS), s.k = 0 → s.sp.length + (s.next T).length + 4 * n + 8 ≤ 1000000000 → Rel T e (4 * n) 0 s ((gram n).stmts xs (s.next T)) ((rd T e (n + 13)).stmts xs s)
  ifs : ∀ s : RS, s.k = 0 → s.sp.length + (s.next T).length + 4 * n + 8 ≤ 1000000000 → Rel T e (4 * n) 0 s ((gram n).branch (s.next T)) ((rd T e (n + 13)).ifs s)
/-- A word is no other. -/
theorem is_not {a b : Str} {l : List Tok} (h : is a l = true) (hn : a ≠ b) : is b l = false := by
  cases l with
  | nil => rfl
  | cons t l =>
    have h : ((t.kind == 4 || t.kind == 2) && t.text == a) = true := h
    show ((t.kind == 4 || t.kind == 2) && t.text == b) = false
    rw [Bool.and_eq_true, beq_iff_eq (a := t.text)] at h
    rw [h.2, beq_eq_false_iff_ne.2 hn, Bool.and_false]
theorem is_kind {a : Str} {l : List Tok} (h : kindOf l = 1 ∨ kindOf l = 3) : is a l = false := by
  cases l with
  | nil => rfl
  | cons t l =>
    have h : t.kind = 1 ∨ t.kind = 3 := h
    show ((t.kind == 4 || t.kind == 2) && t.text == a) = false
    rw [beq_eq_false_iff_ne.2 (by omega : t.kind ≠ 4), beq_eq_false_iff_ne.2 (by omega : t.kind ≠ 2)]
    rfl
theorem name_of {l : List Tok} (h : kindOf l ≠ 1) : name l = .err l 4 := by
  cases l with
  | nil => rfl
  | cons t l => exact if_neg h
section
variable {n : Nat} (ih : RRel T e n)
include ih
theorem rel_expr (hk : s.k = 0) (hb : s.sp.length + (s.next T).length + 4 * (n + 1) + 8 ≤ 1000000000) : Rel T e (4 * (n + 1)) 0 s (exprF (gram n) (s.next T)) (rExpr T e (rd T e (n + 13)) s) := by
  unfold exprF rExpr
  refine (ih.bin 1 s (by omega) (by omega) hk (by omega)).bind (c := 0) (by omega) (fun x s1 k1 b1 => ?_) (fun x s1 k1 b1 => ?_)
  · cases hq : is [63] (s1.next T) with
    | false => exact Rel.done _ k1
    | true =>
      simp only [if_true]
      refine Rel.adv (f := fun l => ((gram n).expr l).bind _) hq fun a1 a3 a4 => ?_
      refine (ih.expr s1.adv a1 (by rw [a3]; omega)).bind (c := 2) (by omega) (fun y s2 k2 b2 => ?_) (fun y s2 k2 b2 => ?_)
      · refine Rel.must k2 (fun k3 p3 l3 => ?_) (fun k3 p3 => ?_)
        · rw [a3] at b2
          refine (ih.expr _ k3 (by rw [p3]; omega)).bind (c := 1) (by omega) (fun z s4 k4 b4 => ?_) (fun z s4 k4 b4 => ?_)
          · exact Rel.said k4 (by rw [p3] at b4; omega)
          · exact Wr.said (Nat.le_refl _) (by rw [p3] at b4; omega) fun s5 _ _ _ => Wr.done _
        · rw [a3] at b2
          refine (expr_wr T e n k3 (by rw [p3]; omega)).bind (by omega) fun z s4 h4 _ b4 => ?_
          exact Wr.said (by omega) (by rw [p3] at b4; omega) fun s5 _ _ _ => Wr.done _
      · rw [must_wr k2]
        rw [a3] at b2
        refine (expr_wr T e n k2 (by omega)).bind (by omega) fun z s4 h4 _ b4 => ?_
        exact Wr.said (by omega) (by omega) fun s5 _ _ _ => Wr.done _
  · rw [next_wr k1]
    exact Wr.done _
theorem rel_bin (lvl : Nat) (h1 : 1 ≤ lvl) (h2 : lvl ≤ 11) (hk : s.k = 0) (hb : s.sp.length + (s.next T).length + 4 * (n + 1) + 8 ≤ 1000000000) : Rel T e (4 * (n + 1)) 0 s (binF (gram n) lvl (s.next T)) (rBin (rd T e (n + 13)) lvl s) := by
  unfold binF rBin
  by_cases h10 : 10 < lvl
  · rw [if_pos h10, if_pos h10]
    exact (ih.un s hk (by omega)).mono (by omega) (Nat.le_refl _)
  · rw [if_neg h10, if_neg h10]
    refine (ih.bin (lvl + 1) s (by omega) (by omega) hk (by omega)).bind (c := 0) (by omega) (fun x s1 k1 b1 => ?_) (fun x s1 k1 b1 => ?_)
    · exact (ih.loop lvl s.at_ x s1 h1 (by omega) k1 (by omega)).mono (by omega) (Nat.le_refl _)
    · exact loop_wr T e (n + 12) _ _ _ k1
theorem rel_loop (lvl f : Nat) (x : Ex) (h1 : 1 ≤ lvl) (h2 : lvl ≤ 10) (hk : s.k = 0) (hb : s.sp.length + (s.next T).length + 4 * (n + 1) + 8 ≤ 1000000000) : Rel T e (4 * (n + 1)) 0 s (loopF (gram n) lvl x (s.next T)) (rLoop T (rd T e (n + 13)) lvl f x s) := by
  unfold rLoop
  cases hn : s.next T with
  | nil =>
    rw [if_neg (by simp [kindOf])]
    have := Rel.done (T := T) (e := e) (b := 4 * (n + 1)) (d := 0) x hk
    rw [hn] at this
    exact this
  | cons t l =>
    have hL : loopF (gram n) lvl x (t :: l) = if t.kind = 4 ∧ level t.text = lvl then ((gram n).bin (lvl + 1) l).bind fun y l1 => (gram n).loop lvl (Ex.mk 6 0 t.text [x, y]) l1 else R.ok x (t :: l) := rfl
    have hK : kindOf (t :: l) = t.kind := rfl
    have hT : textOf (t :: l) = t.text := rfl
    rw [hL, hK, hT]
    by_cases hc : t.kind = 4 ∧ level t.text = lvl
    · rw [if_pos hc, if_pos hc]
      obtain ⟨a1, a2, a3⟩ := adv_cons hn
      rw [hn] at hb
      simp only [List.length_cons] at hb
      rw [← a2] at hb ⊢
      refine Rel.from_ (s1 := s.adv) (d1 := 1) ?_ (by rw [a3, hn, a2]; simp; omega)
      refine (ih.bin (lvl + 1) s.adv (by omega) (by omega) a1 (by rw [a3]; omega)).bind (c := 1) (by omega) (fun y s2 k2 b2 => ?_) (fun y s2 k2 b2 => ?_)
      · rw [a3] at b2
        refine Rel.span (g := fun l => (gram n).loop lvl (.mk 6 0 t.text [x, y]) l) k2 (by omega) fun s3 k3 n3 p3 => ?_
        exact (ih.loop lvl f _ s3 h1 h2 k3 (by rw [n3, p3]; omega)).mono (by omega) (Nat.le_refl _)
      · refine Wr.said (by omega) (by rw [a3] at b2; omega) fun s3 k3 _ _ => ?_
        exact loop_wr T e (n + 12) _ _ _ (by omega)
    · rw [if_neg hc, if_neg hc]
      have := Rel.done (T := T) (e := e) (b := 4 * (n + 1)) (d := 0) x hk
      rw [hn] at this
      exact this
theorem rel_un (hk : s.k = 0) (hb : s.sp.length + (s.next T).length + 4 * (n + 1) + 8 ≤ 1000000000) : Rel T e (4 * (n + 1)) 0 s (unF (gram n) (s.next T)) (rUn T e (rd T e (n + 13)) s) := by
  unfold unF rUn
  cases h1 : is [45] (s.next T) with
  | true =>
    simp only [if_true]
    refine Rel.adv (f := fun l => ((gram n).un l).bind _) h1 fun a1 a3 a4 => ?_
    refine (ih.un s.adv a1 (by rw [a3]; omega)).bind (c := 1) (by omega) (fun y s2 k2 b2 => ?_) (fun y s2 k2 b2 => ?_)
    · exact Rel.said k2 (by rw [a3] at b2; omega)
    · exact Wr.said (Nat.le_refl _) (by rw [a3] at b2; omega) fun s5 _ _ _ => Wr.done _
  | false =>
    simp only [Bool.false_eq_true, if_false]
    cases h2 : is [33] (s.next T) with
    | true =>
      simp only [if_true]
      refine Rel.adv (f := fun l => ((gram n).un l).bind _) h2 fun a1 a3 a4 => ?_
      refine (ih.un s.adv a1 (by rw [a3]; omega)).bind (c := 1) (by omega) (fun y s2 k2 b2 => ?_) (fun y s2 k2 b2 => ?_)
      · exact Rel.said k2 (by rw [a3] at b2; omega)
      · exact Wr.said (Nat.le_refl _) (by rw [a3] at b2; omega) fun s5 _ _ _ => Wr.done _
    | false =>
      simp only [Bool.false_eq_true, if_false]
      by_cases h3 : kindOf (s.next T) = 3
      · rw [if_pos h3, if_pos h3]
        refine Rel.number hk (fun k1 p1 l1 => ?_) (fun k1 p1 => ?_)
        · exact Rel.said k1 (by rw [p1]; omega)
        · exact Wr.said (by omega) (by rw [p1]; omega) fun s5 _ _ _ => Wr.done _
      · rw [if_neg h3, if_neg h3]
        cases h4 : is [40] (s.next T) with
        | true =>
          simp only [if_true]
          refine Rel.adv (f := fun l => ((gram n).expr l).bind _) h4 fun a1 a3 a4 => ?_
          refine (ih.expr s.adv a1 (by rw [a3]; omega)).bind (c := 0) (by omega) (fun y s2 k2 b2 => ?_) (fun y s2 k2 b2 => ?_)
          · exact Rel.must k2 (fun k3 p3 l3 => Rel.done _ k3) (fun k3 p3 => Wr.done _)
          · rw [must_wr k2]
            exact Wr.done _
        | false =>
          simp only [Bool.false_eq_true, if_false]
          refine Rel.name hk (fun k1 p1 l1 => ?_) (fun k1 p1 => ?_)
          · generalize s.name T e = q at *
            cases h5 : is [91] (q.2.next T) with
            | true =>
              simp only [if_true]
              refine Rel.adv (f := fun l => ((gram n).expr l).bind _) h5 fun a1 a3 a4 => ?_
              refine (ih.expr q.2.adv a1 (by rw [a3, p1]; omega)).bind (c := 1) (by omega) (fun y s2 k2 b2 => ?_) (fun y s2 k2 b2 => ?_)
              · rw [a3, p1] at b2
                refine Rel.must k2 (fun k3 p3 l3 => ?_) (fun k3 p3 => ?_)
                · exact Rel.said k3 (by rw [p3]; omega)
                · exact Wr.said (by omega) (by rw [p3]; omega) fun s5 _ _ _ => Wr.done _
              · rw [a3, p1] at b2
                rw [must_wr k2]
                exact Wr.said (by omega) (by omega) fun s5 _ _ _ => Wr.done _
            | false =>
              simp only [Bool.false_eq_true, if_false]
              cases h6 : is [40] (q.2.next T) with
              | true =>
                simp only [if_true]
                refine Rel.adv (f := fun l => ((gram n).args [] l).bind _) h6 fun a1 a3 a4 => ?_
                refine (ih.args true [] q.2.adv (by simp) a1 (by rw [a3, p1]; omega)).bind (c := 1) (by omega) (fun y s2 k2 b2 => ?_) (fun y s2 k2 b2 => ?_)
                · exact Rel.said k2 (by rw [a3, p1] at b2; omega)
                · exact Wr.said (by omega) (by rw [a3, p1] at b2; omega) fun s5 _ _ _ => Wr.done _
              | false => exact Rel.said k1 (by rw [p1]; omega)
          · rw [next_wr k1]
            exact Wr.said (by omega) (by rw [p1]; omega) fun s5 _ _ _ => Wr.done _
theorem rel_args_go (xs : List Ex) (hk : s.k = 0) (hb : s.sp.length + (s.next T).length + 4 * (n + 1) + 8 ≤ 1000000000) :
    Rel T e (4 * (n + 1)) 0 s ((if begins (s.next T) then few xs.length 8 (s.next T) else R.ok () (s.next T)).bind fun _ l2 => ((gram n).expr l2).bind fun x l3 => (gram n).args (xs ++ [x]) l3)
      (((rd T e (n + 13)).expr (if 8 ≤ xs.length ∧ begins (s.next T) then s.stop T e 3 else s)).bind fun p => (rd T e (n + 13)).args false (xs ++ [p.1]) p.2) := by
  by_cases hc : 8 ≤ xs.length ∧ begins (s.next T) = true
  · rw [if_pos hc, if_pos hc.2, show few xs.length 8 (s.next T) = .err (s.next T) 3 from if_pos hc.1]
    obtain ⟨a1, a2, a3⟩ := stop_ok (T := T) (e := e) hk 3
    refine Rel.wrong a1 (by omega) a2 (by rw [a3]; omega) ?_
    refine Wr.mono (c := 1) ((expr_wr T e n (by omega) (by rw [a3]; omega)).bind (by omega) fun x s1 h1 _ _ => ?_) (by omega)
    exact (args_wr T e (n + 12) _ _ (by omega)).mono (by omega)
  · rw [if_neg hc]
    have hg : (if begins (s.next T) = true then few xs.length 8 (s.next T) else R.ok () (s.next T)) = R.ok () (s.next T) := by
      by_cases hbg : begins (s.next T) = true
      · rw [if_pos hbg]
        exact if_neg (fun h => hc ⟨h, hbg⟩)
      · rw [if_neg hbg]
    rw [hg]
    refine (ih.expr s hk (by omega)).bind (c := 0) (by omega) (fun x s1 k1 b1 => ?_) (fun x s1 k1 b1 => ?_)
    · exact (ih.args false (xs ++ [x]) s1 (by simp) k1 (by omega)).mono (by omega) (Nat.le_refl _)
    · exact args_wr T e (n + 12) _ _ k1
theorem rel_args (first : Bool) (xs : List Ex) (hf : first = true ↔ xs = []) (hk : s.k = 0) (hb : s.sp.length + (s.next T).length + 4 * (n + 1) + 8 ≤ 1000000000) : Rel T e (4 * (n + 1)) 0 s (argsF (gram n) xs (s.next T)) (rArgs T e (rd T e (n + 13)) first xs s) := by
  unfold argsF rArgs
  have hk' : (s.k == 0) = true := by rw [hk]; rfl
  cases h41 : is [41] (s.next T) with
  | true =>
    have hm : moreR T first s = false := by
      unfold moreR
      rw [hk', h41, is_not h41 (by decide)]
      cases first <;> rfl
    have hn : s.must T e [41] = s.adv := if_pos h41
    rw [hm, hn]
    simp only [if_true, Bool.false_eq_true, if_false]
    exact Rel.adv (f := fun l => R.ok xs l) h41 fun a1 _ _ => Rel.done _ a1
  | false =>
    simp only [Bool.false_eq_true, if_false]
    cases first with
    | true =>
      obtain rfl := hf.1 rfl
      have hm : moreR T true s = true := by
        unfold moreR
        rw [hk', h41]
        rfl
      rw [hm]
      simp only [if_true]
      exact rel_args_go ih [] hk hb
    | false =>
      have hx : xs ≠ [] := fun h => by cases hf.2 h
      have hx0 : ¬ xs.length = 0 := fun h => hx (List.eq_nil_of_length_eq_zero h)
      rw [if_neg hx0]
      cases h44 : is [44] (s.next T) with
      | true =>
        have hm : moreR T false s = true := by
          unfold moreR
          rw [hk', h44]
          rfl
        rw [hm, show must [44] (s.next T) = .ok () (s.next T).tail from if_pos h44]
        simp only [if_true]
        refine Rel.adv (f := fun l1 => (if begins l1 then few xs.length 8 l1 else R.ok () l1).bind fun _ l2 => ((gram n).expr l2).bind fun x l3 => (gram n).args (xs ++ [x]) l3) h44 fun a1 a3 a4 => ?_
        exact (rel_args_go ih xs a1 (by rw [a3]; omega)).mono (by omega) (by omega)
      | false =>
        have hm : moreR T false s = false := by
          unfold moreR
          rw [hk', h44]
          rfl
        have hn : s.must T e [41] = s.stop T e 4 := if_neg (by rw [h41]; simp)
        rw [hm, hn, show must [44] (s.next T) = .err (s.next T) 4 from if_neg (by rw [h44]; simp)]
        obtain ⟨a1, a2, a3⟩ := stop_ok (T := T) (e := e) hk 4
        exact Rel.wrong a1 (by omega) a2 (by rw [a3]; omega) (Wr.done _)
theorem rel_block (hk : s.k = 0) (hb : s.sp.length + (s.next T).length + 4 * n + 8 ≤ 1000000000) : Rel T e (4 * n) 0 s (blockF (gram n) (s.next T)) (rBlock T e (rd T e (n + 13)) s) := by
  unfold blockF rBlock
  refine Rel.must hk (fun k1 p1 l1 => ?_) (fun k1 p1 => ?_)
  · exact (ih.stmts [] _ k1 (by rw [p1]; omega)).mono (Nat.le_refl _) (by omega)
  · exact (stmts_wr T e (n + 12) [] k1).mono (by omega)
theorem rel_stmts (xs : List St) (hk : s.k = 0) (hb : s.sp.length + (s.next T).length + 4 * (n + 1) + 8 ≤ 1000000000) : Rel T e (4 * (n + 1)) 0 s (stmtsF (gram n) xs (s.next T)) (rStmts T e (rd T e (n + 13)) xs s) := by
  unfold stmtsF rStmts
  cases h1 : is [125] (s.next T) with
  | true =>
    have hn : ¬ (s.k = 0 ∧ true = false) := fun h => by cases h.2
    simp only [if_true]
    rw [if_neg hn, show s.must T e [125] = s.adv from if_pos h1]
    exact Rel.adv (f := fun l => R.ok xs l) h1 fun a1 _ _ => Rel.done _ a1
  | false =>
    simp only [Bool.false_eq_true, if_false]
    rw [if_pos ⟨hk, trivial⟩]
    refine (ih.stmt s hk (by omega)).bind (c := 0) (by omega) (fun x s1 k1 b1 => ?_) (fun x s1 k1 b1 => ?_)
    · exact (ih.stmts (xs ++ [x]) s1 k1 (by omega)).mono (by omega) (Nat.le_refl _)
    · exact stmts_wr T e (n + 12) _ k1
theorem rel_plain (k : Int) (hk : s.k = 0) (hb : s.sp.length + (s.next T).length + 4 * n + 8 ≤ 1000000000) : Rel T e (4 * n) 0 s (plainF (gram n) k (s.next T)) (rPlain T e (rd T e (n + 13)) k s) := by
  unfold plainF rPlain
  refine (ih.expr s hk (by omega)).bind (c := 0) (by omega) (fun x s1 k1 b1 => ?_) (fun x s1 k1 b1 => ?_)
  · exact Rel.must k1 (fun k3 p3 l3 => Rel.done _ k3) (fun k3 p3 => Wr.done _)
  · rw [must_wr k1]
    exact Wr.done _
/-- Behind '='. -/
theorem rel_set (k : Int) (nm : Str) (hk : s.k = 0) (hb : s.sp.length + (s.next T).length + 4 * n + 8 ≤ 1000000000) : Rel T e (4 * n) 0 s (((gram n).expr (s.next T)).bind fun x l2 => (must [59] l2).bind fun _ l3 => .ok (.mk k nm [x] [] []) l3) (rSet T e (rd T e (n + 13)) k nm s) := by
  unfold rSet
  refine (ih.expr s hk (by omega)).bind (c := 0) (by omega) (fun x s1 k1 b1 => ?_) (fun x s1 k1 b1 => ?_)
  · exact Rel.must k1 (fun k3 p3 l3 => Rel.done _ k3) (fun k3 p3 => Wr.done _)
  · rw [must_wr k1]
    exact Wr.done _
theorem rel_ifs (hk : s.k = 0) (hb : s.sp.length + (s.next T).length + 4 * (n + 1) + 8 ≤ 1000000000) : Rel T e (4 * (n + 1)) 0 s (branchF (gram n) (s.next T)) (rIfs T e (rd T e (n + 13)) s) := by
  unfold branchF rIfs
  have hwr : ∀ {x : Ex} {m : RS}, m.k ≠ 0 → Wr m 0 ((rBlock T e (rd T e (n + 13)) m).bind fun q =>
    if is [101, 108, 115, 101] (q.2.next T) = true then
      if is [105, 102] (q.2.adv.next T) = true then ((rd T e (n + 13)).ifs q.2.adv).bind fun u => some (St.mk 4 [] [x] q.1 [u.1], u.2)
      else (rBlock T e (rd T e (n + 13)) q.2.adv).bind fun u => some (St.mk 4 [] [x] q.1 u.1, u.2)
    else some (St.mk 4 [] [x] q.1 [], q.2)) := fun {x m} hm => by
    refine (block_wr T e (n + 12) hm).bind (by omega) fun b s2 h2 _ _ => ?_
    rw [show (b, s2).2.next T = [] from next_wr (by show s2.k ≠ 0; omega)]
    exact Wr.done _
  refine Rel.must hk (fun k1 p1 l1 => ?_) (fun k1 p1 => ?_)
  · refine (ih.expr _ k1 (by rw [p1]; omega)).bind (c := 0) (by omega) (fun x s1 k2 b2 => ?_) (fun x s1 k2 b2 => hwr k2)
    rw [p1] at b2
    refine (rel_block ih k2 (by omega)).bind (c := 0) (by omega) (fun b s2 k3 b3 => ?_) (fun b s2 k3 b3 => ?_)
    · cases h1 : is [101, 108, 115, 101] (s2.next T) with
      | false => exact Rel.done _ k3
      | true =>
        simp only [if_true]
        refine Rel.adv (f := fun l => if is [105, 102] l = true then ((gram n).branch l).bind _ else (blockF (gram n) l).bind _) h1 fun a1 a3 a4 => ?_
        cases h2 : is [105, 102] (s2.adv.next T) with
        | true =>
          simp only [if_true]
          exact (ih.ifs s2.adv a1 (by rw [a3]; omega)).bind (c := 0) (by omega) (fun x s4 k4 b4 => Rel.done _ k4) (fun x s4 k4 b4 => Wr.done _)
        | false =>
          simp only [Bool.false_eq_true, if_false]
          exact (rel_block ih a1 (by rw [a3]; omega)).bind (c := 0) (by omega) (fun x s4 k4 b4 => Rel.done _ k4) (fun x s4 k4 b4 => Wr.done _)
    · rw [next_wr k3]
      exact Wr.done _
  · refine Wr.mono (c := 1) ((expr_wr T e n k1 (by rw [p1]; omega)).bind (by omega) fun x s1 h1 _ _ => ?_) (by omega)
    exact (hwr (x := x) (m := s1) (by omega)).mono (by omega)
theorem rel_named (hk : s.k = 0) (hb : s.sp.length + (s.next T).length + 4 * (n + 1) + 8 ≤ 1000000000) : Rel T e (4 * (n + 1)) 0 s (namedF (gram n) (s.next T)) (rNamed T e (rd T e (n + 13)) s) := by
  unfold namedF rNamed
  refine Rel.name hk (fun k1 p1 l1 => ?_) (fun k1 p1 => ?_)
  · generalize s.name T e = q at *
    cases h1 : is [61] (q.2.next T) with
    | true =>
      simp only [if_true]
      rw [is_not h1 (by decide), is_not h1 (by decide)]
      simp only [Bool.false_eq_true, if_false]
      unfold setF
      rw [show must [61] (q.2.next T) = .ok () (q.2.next T).tail from if_pos h1]
      refine Rel.adv (f := fun l => (R.ok () l).bind _) h1 fun a1 a3 a4 => ?_
      exact (rel_set ih 2 q.1 a1 (by rw [a3, p1]; omega)).mono (by omega) (by omega)
    | false =>
      simp only [Bool.false_eq_true, if_false]
      cases h5 : is [91] (q.2.next T) with
      | true =>
        simp only [if_true]
        refine Rel.adv (f := fun l => ((gram n).expr l).bind _) h5 fun a1 a3 a4 => ?_
        refine (ih.expr q.2.adv a1 (by rw [a3, p1]; omega)).bind (c := 1) (by omega) (fun y s2 k2 b2 => ?_) (fun y s2 k2 b2 => ?_)
        · rw [a3, p1] at b2
          refine Rel.must k2 (fun k3 p3 l3 => Rel.must k3 (fun k4 p4 l4 => ?_) (fun k4 p4 => ?_)) (fun k3 p3 => ?_)
          · refine (ih.expr _ k4 (by rw [p4, p3]; omega)).bind (c := 0) (by omega) (fun z s5 k5 b5 => ?_) (fun z s5 k5 b5 => ?_)
            · exact Rel.must k5 (fun k6 _ _ => Rel.done _ k6) (fun k6 _ => Wr.done _)
            · rw [must_wr k5]
              exact Wr.done _
          · refine Wr.mono (c := 1) ((expr_wr T e n k4 (by rw [p4, p3]; omega)).bind (by omega) fun z s5 h5 _ _ => ?_) (by omega)
            rw [must_wr (by show s5.k ≠ 0; omega)]
            exact Wr.done _
          · rw [must_wr k3]
            refine Wr.mono (c := 1) ((expr_wr T e n k3 (by rw [p3]; omega)).bind (by omega) fun z s5 h5 _ _ => ?_) (by omega)
            rw [must_wr (by show s5.k ≠ 0; omega)]
            exact Wr.done _
        · rw [a3, p1] at b2
          rw [must_wr k2, must_wr k2]
          refine (expr_wr T e n k2 (by show s2.sp.length < _; omega)).bind (by omega) fun z s5 h5 _ _ => ?_
          rw [must_wr (by show s5.k ≠ 0; have : s5.k = s2.k := h5; omega)]
          exact Wr.done _
      | false =>
        simp only [Bool.false_eq_true, if_false]
        cases h6 : is [40] (q.2.next T) with
        | true =>
          simp only [if_true]
          refine Rel.adv (f := fun l => ((gram n).args [] l).bind _) h6 fun a1 a3 a4 => ?_
          refine (ih.args true [] q.2.adv (by simp) a1 (by rw [a3, p1]; omega)).bind (c := 0) (by omega) (fun y s2 k2 b2 => ?_) (fun y s2 k2 b2 => ?_)
          · exact Rel.must k2 (fun k3 p3 l3 => Rel.done _ k3) (fun k3 p3 => Wr.done _)
          · rw [must_wr k2]
            exact Wr.done _
        | false =>
          simp only [Bool.false_eq_true, if_false]
          unfold setF
          obtain ⟨a1, a2, a3⟩ := stop_ok (T := T) (e := e) k1 4
          rw [show must [61] (q.2.next T) = .err (q.2.next T) 4 from if_neg (by rw [h1]; simp), must_wr (by rw [a1]; omega)]
          exact Rel.wrong a1 (by omega) a2 (by rw [a3]; omega) (Wr.done _)
  · rw [next_wr k1, stop_wr k1, must_wr k1]
    exact Wr.done _
/-- A statement that is none. -/
theorem rel_none (hk : s.k = 0) (h1 : kindOf (s.next T) ≠ 1) : Rel T e (4 * (n + 1)) 0 s (.err (s.next T) 4) (rNamed T e (rd T e (n + 13)) s) := by
  have hm : s.name T e = ([], s.stop T e 4) := by
    unfold RS.name
    cases hn : s.next T with
    | nil => rfl
    | cons t l => rw [hn] at h1; exact if_neg h1
  obtain ⟨a1, a2, a3⟩ := stop_ok (T := T) (e := e) hk 4
  have h0 : (s.stop T e 4).k ≠ 0 := by rw [a1]; omega
  unfold rNamed
  rw [hm]
  show Rel T e _ 0 s _ (if is [61] ((s.stop T e 4).next T) = true then _ else _)
  rw [next_wr h0, stop_wr h0, must_wr h0]
  exact Rel.wrong a1 (by omega) a2 (by rw [a3]; omega) (Wr.done _)
theorem rel_stmt (hk : s.k = 0) (hb : s.sp.length + (s.next T).length + 4 * (n + 1) + 8 ≤ 1000000000) : Rel T e (4 * (n + 1)) 0 s (stmtF (gram n) (s.next T)) (rStmt T e (rd T e (n + 13)) s) := by
  unfold stmtF rStmt
  by_cases h1 : kindOf (s.next T) = 1
  · rw [if_pos h1]
    simp only [is_kind (.inl h1), Bool.false_eq_true, if_false]
    exact rel_named ih hk hb
  · rw [if_neg h1]
    cases hlet : is [108, 101, 116] (s.next T) with
    | true =>
      rw [is_not hlet (by decide), is_not hlet (by decide), is_not hlet (by decide)]
      simp only [if_true, Bool.false_eq_true, if_false]
      refine Rel.adv (f := fun l => (name l).bind _) hlet fun a1 a3 a4 => ?_
      refine Rel.name a1 (fun k2 p2 l2 => ?_) (fun k2 p2 => ?_)
      · unfold setF
        refine Rel.must k2 (fun k3 p3 l3 => ?_) (fun k3 p3 => ?_)
        · exact (rel_set ih 1 _ k3 (by rw [p3, p2, a3]; omega)).mono (by omega) (by omega)
        · unfold rSet
          refine Wr.mono (c := 1) ((expr_wr T e n k3 (by rw [p3, p2, a3]; omega)).bind (by omega) fun z s5 h5 _ _ => ?_) (by omega)
          rw [must_wr (by show s5.k ≠ 0; omega)]
          exact Wr.done _
      · rw [must_wr k2]
        unfold rSet
        refine Wr.mono (c := 1) ((expr_wr T e n k2 (by rw [p2, a3]; omega)).bind (by omega) fun z s5 h5 _ _ => ?_) (by omega)
        rw [must_wr (by show s5.k ≠ 0; omega)]
        exact Wr.done _
    | false =>
      simp only [Bool.false_eq_true, if_false]
      cases hif : is [105, 102] (s.next T) with
      | true =>
        rw [is_not hif (by decide), is_not hif (by decide), is_not hif (by decide)]
        simp only [if_true, Bool.false_eq_true, if_false]
        exact (ih.ifs s hk (by omega)).mono (by omega) (Nat.le_refl _)
      | false =>
        simp only [Bool.false_eq_true, if_false]
        cases hwh : is [119, 104, 105, 108, 101] (s.next T) with
        | true =>
          rw [is_not hwh (by decide), is_not hwh (by decide), is_not hwh (by decide)]
          simp only [if_true, Bool.false_eq_true, if_false]
          refine Rel.adv (f := fun l => ((gram n).expr l).bind _) hwh fun a1 a3 a4 => ?_
          refine (ih.expr _ a1 (by rw [a3]; omega)).bind (c := 0) (by omega) (fun x s2 k2 b2 => ?_) (fun x s2 k2 b2 => ?_)
          · rw [a3] at b2
            exact (rel_block ih k2 (by omega)).bind (c := 0) (by omega) (fun y s3 k3 b3 => Rel.done _ k3) (fun y s3 k3 b3 => Wr.done _)
          · exact (block_wr T e (n + 12) k2).bind (by omega) fun y s3 _ _ _ => Wr.done _
        | false =>
          simp only [Bool.false_eq_true, if_false]
          cases hfor : is [102, 111, 114] (s.next T) with
          | true =>
            rw [is_not hfor (by decide), is_not hfor (by decide), is_not hfor (by decide)]
            simp only [if_true, Bool.false_eq_true, if_false]
            refine Rel.adv (f := fun l => (name l).bind _) hfor fun a1 a3 a4 => ?_
            have hrest : ∀ {nm : Str} {x : Ex} {m : RS}, m.k ≠ 0 → m.sp.length < 1000000000 → Wr m 1 (((rd T e (n + 13)).expr (m.must T e [116, 111])).bind fun q => (rBlock T e (rd T e (n + 13)) q.2).bind fun u => some (St.mk 6 nm [x, q.1] u.1 [], u.2)) := fun {nm x m} hm hs => by
              rw [must_wr hm]
              exact (expr_wr T e n hm hs).bind (by omega) fun y s3 h3 _ _ => (block_wr T e (n + 12) (by show s3.k ≠ 0; omega)).bind (by omega) fun z s4 _ _ _ => Wr.done _
            have hrest2 : ∀ {nm : Str} {m : RS}, m.k ≠ 0 → m.sp.length + 1 < 1000000000 → Wr m 2 (((rd T e (n + 13)).expr m).bind fun p => ((rd T e (n + 13)).expr (p.2.must T e [116, 111])).bind fun q => (rBlock T e (rd T e (n + 13)) q.2).bind fun u => some (St.mk 6 nm [p.1, q.1] u.1 [], u.2)) := fun {nm m} hm hs =>
              (expr_wr T e n hm (by omega)).bind (by omega) fun y s3 h3 _ b3 => hrest (by show s3.k ≠ 0; omega) (by show s3.sp.length < _; omega)
            refine Rel.name a1 (fun k2 p2 l2 => Rel.must k2 (fun k3 p3 l3 => ?_) (fun k3 p3 => ?_)) (fun k2 p2 => ?_)
            · refine (ih.expr _ k3 (by rw [p3, p2, a3]; omega)).bind (c := 1) (by omega) (fun x s4 k4 b4 => ?_) (fun x s4 k4 b4 => ?_)
              · rw [p3, p2, a3] at b4
                refine Rel.must k4 (fun k5 p5 l5 => ?_) (fun k5 p5 => ?_)
                · refine (ih.expr _ k5 (by rw [p5]; omega)).bind (c := 0) (by omega) (fun y s6 k6 b6 => ?_) (fun y s6 k6 b6 => ?_)
                  · rw [p5] at b6
                    exact (rel_block ih k6 (by omega)).bind (c := 0) (by omega) (fun z s7 k7 b7 => Rel.done _ k7) (fun z s7 k7 b7 => Wr.done _)
                  · exact (block_wr T e (n + 12) k6).bind (by omega) fun z s7 _ _ _ => Wr.done _
                · have hr := hrest (nm := (s.adv.name T e).1) (x := x) k5 (by rw [p5]; omega)
                  rw [must_wr k5] at hr
                  exact hr.mono (by omega)
              · rw [p3, p2, a3] at b4
                exact hrest k4 (by show s4.sp.length < _; omega)
            · exact (hrest2 k3 (by rw [p3, p2, a3]; omega)).mono (by omega)
            · rw [must_wr k2]
              exact (hrest2 k2 (by rw [p2, a3]; omega)).mono (by omega)
          | false =>
            simp only [Bool.false_eq_true, if_false]
            cases hpr : is [112, 114, 105, 110, 116] (s.next T) with
            | true =>
              simp only [if_true]
              exact Rel.adv (f := fun l => plainF (gram n) 7 l) hpr fun a1 a3 a4 => (rel_plain ih 7 a1 (by rw [a3]; omega)).mono (by omega) (by omega)
            | false =>
              simp only [Bool.false_eq_true, if_false]
              cases hth : is [116, 104, 114, 111, 119] (s.next T) with
              | true =>
                simp only [if_true]
                exact Rel.adv (f := fun l => plainF (gram n) 8 l) hth fun a1 a3 a4 => (rel_plain ih 8 a1 (by rw [a3]; omega)).mono (by omega) (by omega)
              | false =>
                simp only [Bool.false_eq_true, if_false]
                cases hre : is [114, 101, 116, 117, 114, 110] (s.next T) with
                | true =>
                  simp only [if_true]
                  exact Rel.adv (f := fun l => plainF (gram n) 10 l) hre fun a1 a3 a4 => (rel_plain ih 10 a1 (by rw [a3]; omega)).mono (by omega) (by omega)
                | false =>
                  simp only [Bool.false_eq_true, if_false]
                  cases htr : is [116, 114, 121] (s.next T) with
                  | true =>
                    simp only [if_true]
                    refine Rel.adv (f := fun l => (blockF (gram n) l).bind _) htr fun a1 a3 a4 => ?_
                    have hrest : ∀ {b : List St} {m : RS}, m.k ≠ 0 → Wr m 0 ((rBlock T e (rd T e (n + 13)) ((m.must T e [99, 97, 116, 99, 104]).name T e).2).bind fun q => some (St.mk 9 ((m.must T e [99, 97, 116, 99, 104]).name T e).1 [] b q.1, q.2)) := fun {b m} hm => by
                      rw [must_wr hm, name_wr hm]
                      exact (block_wr T e (n + 12) hm).bind (by omega) fun z s7 _ _ _ => Wr.done _
                    refine (rel_block ih a1 (by rw [a3]; omega)).bind (c := 0) (by omega) (fun x s2 k2 b2 => ?_) (fun x s2 k2 b2 => hrest k2)
                    rw [a3] at b2
                    refine Rel.must k2 (fun k3 p3 l3 => Rel.name k3 (fun k4 p4 l4 => ?_) (fun k4 p4 => ?_)) (fun k3 p3 => ?_)
                    · exact (rel_block ih k4 (by rw [p4, p3]; omega)).bind (c := 0) (by omega) (fun y s5 k5 b5 => Rel.done _ k5) (fun y s5 k5 b5 => Wr.done _)
                    · exact Wr.mono (c := 0) ((block_wr T e (n + 12) k4).bind (by omega) fun z s7 _ _ _ => Wr.done _) (by omega)
                    · have hr := hrest (b := x) k3
                      rw [must_wr k3] at hr
                      exact hr.mono (by omega)
                  | false =>
                    simp only [Bool.false_eq_true, if_false]
                    exact rel_none ih hk h1
end
theorem rrel : ∀ n, RRel T e n
  | 0 => ⟨fun _ _ _ => trivial, fun _ _ _ _ _ _ => trivial, fun _ _ _ _ _ _ _ _ => trivial, fun _ _ _ => trivial, fun _ _ _ _ _ _ => trivial, fun _ _ _ => trivial, fun _ _ _ _ => trivial, fun _ _ _ => trivial⟩
  | n + 1 => ⟨fun _ h b => rel_expr (rrel n) h b, fun l _ h1 h2 h b => rel_bin (rrel n) l h1 h2 h b, fun l f x _ h1 h2 h b => rel_loop (rrel n) l f x h1 h2 h b, fun _ h b => rel_un (rrel n) h b, fun f xs _ hf h b => rel_args (rrel n) f xs hf h b,
    fun _ h b => rel_stmt (rrel n) h b, fun xs _ h b => rel_stmts (rrel n) xs h b, fun _ h b => rel_ifs (rrel n) h b⟩
end
end Bir
set_option linter.unusedVariables false
set_option linter.unusedSimpArgs false
namespace Bir
section
variable {T : List Tok} {e : Nat} {s m : RS}
theorem rel_params_go (n : Nat) (xs : List Str) (hk : s.k = 0) (b : Nat) (ih : ∀ (s : RS) (ys : List Str), ys ≠ [] → s.k = 0 → Rel T e b 0 s (paramsF n ys (s.next T)) (rParams T e (n + 1) false ys s)) :
    Rel T e b 0 s ((if kindOf (s.next T) = 1 then few xs.length 8 (s.next T) else R.ok () (s.next T)).bind fun _ l2 => (name l2).bind fun t l3 => paramsF n (xs ++ [t]) l3)
      (rParams T e (n + 1) false (xs ++ [((if 8 ≤ xs.length ∧ kindOf (s.next T) = 1 then s.stop T e 3 else s).name T e).1]) ((if 8 ≤ xs.length ∧ kindOf (s.next T) = 1 then s.stop T e 3 else s).name T e).2) := by
  by_cases hc : 8 ≤ xs.length ∧ kindOf (s.next T) = 1
  · rw [if_pos hc, if_pos hc.2, show few xs.length 8 (s.next T) = .err (s.next T) 3 from if_pos hc.1]
    obtain ⟨a1, a2, a3⟩ := stop_ok (T := T) (e := e) hk 3
    have h0 : (s.stop T e 3).k ≠ 0 := by rw [a1]; omega
    rw [name_wr h0]
    exact Rel.wrong a1 (by omega) a2 (by rw [a3]; omega) ((params_wr T e n _ _ h0).mono (by omega))
  · rw [if_neg hc]
    have hg : (if kindOf (s.next T) = 1 then few xs.length 8 (s.next T) else R.ok () (s.next T)) = R.ok () (s.next T) := by
      by_cases hbg : kindOf (s.next T) = 1
      · rw [if_pos hbg]
        exact if_neg (fun h => hc ⟨h, hbg⟩)
      · rw [if_neg hbg]
    rw [hg]
    refine Rel.name (f := fun t l3 => paramsF n (xs ++ [t]) l3) hk (fun k1 p1 l1 => ?_) (fun k1 p1 => ?_)
    · exact (ih _ _ (by simp) k1).mono (Nat.le_refl _) (by omega)
    · exact (params_wr T e n _ _ k1).mono (by omega)
theorem rel_params (b : Nat) : ∀ (n : Nat) (first : Bool) (xs : List Str) (s : RS), (first = true ↔ xs = []) → s.k = 0 → Rel T e b 0 s (paramsF n xs (s.next T)) (rParams T e (n + 1) first xs s)
  | 0, _, _, _, _, _ => trivial
  | n + 1, first, xs, s, hf, hk => by
    have hk' : (s.k == 0) = true := by rw [hk]; rfl
    unfold paramsF
    rw [show rParams T e (n + 1 + 1) first xs s = if moreR T first s then
      (rParams T e (n + 1) false (xs ++ [((if 8 ≤ xs.length ∧ kindOf ((pastR first s).next T) = 1 then (pastR first s).stop T e 3 else pastR first s).name T e).1])
        ((if 8 ≤ xs.length ∧ kindOf ((pastR first s).next T) = 1 then (pastR first s).stop T e 3 else pastR first s).name T e).2)
      else some (xs, s.must T e [41]) from rfl]
    cases h41 : is [41] (s.next T) with
    | true =>
      have hm : moreR T first s = false := by
        unfold moreR
        rw [hk', h41, is_not h41 (by decide)]
        cases first <;> rfl
      have hn : s.must T e [41] = s.adv := if_pos h41
      rw [hm, hn]
      simp only [if_true, Bool.false_eq_true, if_false]
      exact Rel.adv (f := fun l => R.ok xs l) h41 fun a1 _ _ => Rel.done _ a1
    | false =>
      simp only [Bool.false_eq_true, if_false]
      cases first with
      | true =>
        obtain rfl := hf.1 rfl
        have hm : moreR T true s = true := by
          unfold moreR
          rw [hk', h41]
          rfl
        rw [hm]
        simp only [if_true]
        exact rel_params_go n [] hk b fun s ys hy hk => rel_params b n false ys s (by simp [hy]) hk
      | false =>
        have hx : xs ≠ [] := fun h => by cases hf.2 h
        have hx0 : ¬ xs.length = 0 := fun h => hx (List.eq_nil_of_length_eq_zero h)
        rw [if_neg hx0]
        cases h44 : is [44] (s.next T) with
        | true =>
          have hm : moreR T false s = true := by
            unfold moreR
            rw [hk', h44]
            rfl
          rw [hm, show must [44] (s.next T) = .ok () (s.next T).tail from if_pos h44]
          simp only [if_true]
          refine Rel.adv (f := fun l1 => (if kindOf l1 = 1 then few xs.length 8 l1 else R.ok () l1).bind fun _ l2 => (name l2).bind fun t l3 => paramsF n (xs ++ [t]) l3) h44 fun a1 a3 a4 => ?_
          exact (rel_params_go n xs a1 b fun s ys hy hk => rel_params b n false ys s (by simp [hy]) hk).mono (Nat.le_refl _) (by omega)
        | false =>
          have hm : moreR T false s = false := by
            unfold moreR
            rw [hk', h44]
            rfl
          have hn : s.must T e [41] = s.stop T e 4 := if_neg (by rw [h41]; simp)
          rw [hm, hn, show must [44] (s.next T) = .err (s.next T) 4 from if_neg (by rw [h44]; simp)]
          obtain ⟨a1, a2, a3⟩ := stop_ok (T := T) (e := e) hk 4
          exact Rel.wrong a1 (by omega) a2 (by rw [a3]; omega) (Wr.done _)
/-- A function, from its word on. -/
theorem rel_func (n : Nat) (hi : is [102, 117, 110, 99] (s.next T) = true) (hb : s.sp.length + (s.next T).length + 4 * n + 8 ≤ 1000000000) : Rel T e (4 * n) 0 s (func n (s.next T)) (rFunc T e (n + 13) s.adv) := by
  unfold func rFunc
  rw [show must [102, 117, 110, 99] (s.next T) = .ok () (s.next T).tail from if_pos hi]
  refine Rel.adv (f := fun l => (R.ok () l).bind _) hi fun a1 a3 a4 => ?_
  have hw : ∀ {nm : Str} {ps : List Str} {m : RS}, m.k ≠ 0 → Wr m 0 ((rBlock T e (rd T e (n + 13)) m).bind fun q => some (⟨nm, ps, q.1⟩, q.2) : Option (Fn × RS)) := fun hm =>
    (block_wr T e (n + 12) hm).bind (by omega) fun z s7 _ _ _ => Wr.done _
  refine Rel.name (f := fun s l2 => (must [40] l2).bind _) a1 (fun k2 p2 l2 => Rel.must k2 (fun k3 p3 l3 => ?_) (fun k3 p3 => ?_)) (fun k2 p2 => ?_)
  · have hp := rel_params (T := T) (e := e) (4 * n) n true [] _ (by simp) k3
    have hp' : Rel T e (4 * n) 0 ((s.adv.name T e).2.must T e [40]) (paramsF n [] (((s.adv.name T e).2.must T e [40]).next T)) (rParams T e (n + 13) true [] ((s.adv.name T e).2.must T e [40])) := by
      have hle := rel_params (T := T) (e := e) (4 * n) (n + 12) true [] _ (by simp) k3
      have hl := paramsF_le n (n + 12) [] (((s.adv.name T e).2.must T e [40]).next T) (by omega)
      rcases hl with hl | hl
      · rw [hl]; trivial
      · rw [hl]; exact hle
    refine hp'.bind (c := 0) (by omega) (fun ps s4 k4 b4 => ?_) (fun ps s4 k4 b4 => hw k4)
    exact (rel_block (rrel n) k4 (by rw [p3, p2, a3] at b4; omega)).bind (c := 0) (by omega) (fun y s5 k5 b5 => Rel.done _ k5) (fun y s5 k5 b5 => Wr.done _)
  · exact ((params_wr T e (n + 12) _ _ k3).bind (by omega) fun ps s4 h4 _ _ => hw (by show s4.k ≠ 0; omega)).mono (Nat.zero_le _)
  · rw [must_wr k2]
    exact ((params_wr T e (n + 12) _ _ k2).bind (by omega) fun ps s4 h4 _ _ => hw (by show s4.k ≠ 0; omega)).mono (Nat.zero_le _)
theorem rel_array (b : Nat) (hi : is [97, 114, 114, 97, 121] (s.next T) = true) : Rel T e b 0 s (array (s.next T)) (some (rArray T e s.adv)) := by
  unfold array rArray
  rw [show must [97, 114, 114, 97, 121] (s.next T) = .ok () (s.next T).tail from if_pos hi]
  refine Rel.adv (f := fun l => (R.ok () l).bind _) hi fun a1 a3 a4 => ?_
  refine Rel.name (f := fun s l2 => (must [91] l2).bind _) a1 (fun k2 p2 l2 => Rel.must k2 (fun k3 p3 l3 => Rel.number k3 (fun k4 p4 l4 => Rel.must k4 (fun k5 p5 l5 => Rel.must k5 (fun k6 p6 l6 => ?_) (fun k6 p6 => ?_)) (fun k5 p5 => ?_)) (fun k4 p4 => ?_)) (fun k3 p3 => ?_)) (fun k2 p2 => ?_)
  · exact Rel.done _ k6
  · exact Wr.done _
  · rw [must_wr k5]; exact Wr.done _
  · rw [must_wr k4, must_wr k4]; exact Wr.done _
  · rw [number_wr k3, must_wr k3, must_wr k3]; exact Wr.done _
  · rw [must_wr k2, number_wr k2, must_wr k2, must_wr k2]; exact Wr.done _
theorem rel_prog (n : Nat) : ∀ (k : Nat) (ars : List Arr) (fs : List Fn) (s : RS), s.k = 0 → s.sp.length + (s.next T).length + 4 * n + 8 ≤ 1000000000 → Rel T e (4 * n) 0 s (prog n k ars fs (s.next T)) (rProg T e (n + 13) (k + 1) ars fs s)
  | 0, _, _, _, _, _ => trivial
  | k + 1, ars, fs, s, hk, hb => by
    unfold prog
    rw [show rProg T e (n + 13) (k + 1 + 1) ars fs s = if s.k = 0 ∧ s.at_ < T.length then
      (if is [97, 114, 114, 97, 121] (s.next T) then
        (if 16 ≤ ars.length then some (⟨ars, fs⟩, s.stop T e 3) else rProg T e (n + 13) (k + 1) (ars ++ [(rArray T e s.adv).1]) fs (rArray T e s.adv).2)
       else if is [102, 117, 110, 99] (s.next T) then
        (if 40 ≤ fs.length then some (⟨ars, fs⟩, s.stop T e 3) else (rFunc T e (n + 13) s.adv).bind fun p => rProg T e (n + 13) (k + 1) ars (fs ++ [p.1]) p.2)
       else rProg T e (n + 13) (k + 1) ars fs (s.stop T e 4))
      else some (⟨ars, fs⟩, s) from rfl]
    by_cases hlt : s.at_ < T.length
    · have hne : ¬ (s.next T).length = 0 := by rw [RS.next_at hk hlt]; exact Nat.succ_ne_zero _
      have hc : s.k = 0 ∧ s.at_ < T.length := ⟨hk, hlt⟩
      rw [if_neg hne, if_pos hc]
      cases h1 : is [97, 114, 114, 97, 121] (s.next T) with
      | true =>
        simp only [if_true]
        by_cases h16 : 16 ≤ ars.length
        · rw [if_pos h16, show few ars.length 16 (s.next T) = .err (s.next T) 3 from if_pos h16]
          obtain ⟨a1, a2, a3⟩ := stop_ok (T := T) (e := e) hk 3
          exact Rel.wrong a1 (by omega) a2 (by rw [a3]; omega) (Wr.done _)
        · rw [if_neg h16, show few ars.length 16 (s.next T) = .ok () (s.next T) from if_neg h16]
          refine (rel_array (4 * n) h1).bind (h := fun p => rProg T e (n + 13) (k + 1) (ars ++ [p.1]) fs p.2) (c := 0) (by omega) (fun x s1 k1 b1 => ?_) (fun x s1 k1 b1 => prog_wr T e _ _ _ _ k1)
          exact rel_prog n k _ _ s1 k1 (by omega)
      | false =>
        simp only [Bool.false_eq_true, if_false]
        cases h2 : is [102, 117, 110, 99] (s.next T) with
        | true =>
          simp only [if_true]
          by_cases h40 : 40 ≤ fs.length
          · rw [if_pos h40, show few fs.length 40 (s.next T) = .err (s.next T) 3 from if_pos h40]
            obtain ⟨a1, a2, a3⟩ := stop_ok (T := T) (e := e) hk 3
            exact Rel.wrong a1 (by omega) a2 (by rw [a3]; omega) (Wr.done _)
          · rw [if_neg h40, show few fs.length 40 (s.next T) = .ok () (s.next T) from if_neg h40]
            refine (rel_func n h2 hb).bind (c := 0) (by omega) (fun x s1 k1 b1 => ?_) (fun x s1 k1 b1 => prog_wr T e _ _ _ _ k1)
            exact rel_prog n k _ _ s1 k1 (by omega)
        | false =>
          simp only [Bool.false_eq_true, if_false]
          obtain ⟨a1, a2, a3⟩ := stop_ok (T := T) (e := e) hk 4
          exact Rel.wrong a1 (by omega) a2 (by rw [a3]; omega) ((prog_wr T e (n + 13) k ars fs (by rw [a1]; omega)).mono (by omega))
    · have hn : s.next T = [] := RS.next_end (by omega)
      have hc : ¬ (s.k = 0 ∧ s.at_ < T.length) := fun h => hlt h.2
      have h0 : (s.next T).length = 0 := by rw [hn]; rfl
      rw [if_pos h0, if_neg hc, ← hn]
      exact Rel.done _ hk
/-- Where the reader begins. -/
def RS.zero : RS := ⟨0, 0, 0, []⟩
theorem zero_next : RS.zero.next T = T := rfl
theorem read_prog (e : Nat) (hl : T.length ≤ 20001) : ∃ p, rProg T e (fuel0 + 13) (fuel0 + 1) [] [] RS.zero = some p ∧ (match prog fuel0 fuel0 [] [] T with
    | .out => False
    | .ok x l => p.1 = x ∧ p.2.k = 0 ∧ p.2.next T = l
    | .err l k => p.2.k = k ∧ k ≠ 0 ∧ p.2.pos = offR e l) := by
  have h := rel_prog (T := T) (e := e) fuel0 fuel0 [] [] RS.zero rfl (by unfold fuel0; show 0 + T.length + _ + _ ≤ _; omega)
  have hne := prog_out hl
  rw [zero_next] at h
  cases hp : prog fuel0 fuel0 [] [] T with
  | out => exact absurd hp hne
  | ok x l =>
    rw [hp] at h
    obtain ⟨s', h1, h2, h3, _⟩ := h
    exact ⟨_, h1, rfl, h2, h3⟩
  | err l k =>
    rw [hp] at h
    obtain ⟨x, s', h1, h2, h3, h4, _⟩ := h
    exact ⟨_, h1, h2, h3, h4⟩
theorem read_expr (e : Nat) (hl : T.length ≤ 20001) : ∃ p, (rd T e (fuel0 + 13)).expr RS.zero = some p ∧ (match (gram fuel0).expr T with
    | .out => False
    | .ok x l => p.1 = x ∧ p.2.k = 0 ∧ p.2.next T = l
    | .err l k => p.2.k = k ∧ k ≠ 0 ∧ p.2.pos = offR e l) := by
  have h := (rrel (T := T) (e := e) fuel0).expr RS.zero rfl (by unfold fuel0; show 0 + T.length + _ + _ ≤ _; omega)
  have hne := expr_out hl
  rw [zero_next] at h
  cases hp : (gram fuel0).expr T with
  | out => exact absurd hp hne
  | ok x l =>
    rw [hp] at h
    obtain ⟨s', h1, h2, h3, _⟩ := h
    exact ⟨_, h1, rfl, h2, h3⟩
  | err l k =>
    rw [hp] at h
    obtain ⟨x, s', h1, h2, h3, h4, _⟩ := h
    exact ⟨_, h1, h2, h3, h4⟩
end
end Bir
