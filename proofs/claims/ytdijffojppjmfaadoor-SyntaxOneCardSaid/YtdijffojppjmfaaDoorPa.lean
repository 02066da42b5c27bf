/- The plain side: tokens, trees, the lexer and the grammar of the programs, as Lean functions on lists of bytes. No Go and no memory stand here. -/
namespace Bir
abbrev Str := List UInt8

structure Tok where
  kind : Nat
  text : Str
  off : Nat

inductive Ex where
  | mk (kind num : Int) (name : Str) (kids : List Ex)
namespace Ex
def kind : Ex → Int | mk k _ _ _ => k
def num : Ex → Int | mk _ n _ _ => n
def name : Ex → Str | mk _ _ s _ => s
def kids : Ex → List Ex | mk _ _ _ l => l
theorem ind {P : Ex → Prop} (h : ∀ k n s l, (∀ x, x ∈ l → P x) → P (mk k n s l)) (x : Ex) : P x :=
  Ex.rec (motive_1 := P) (motive_2 := fun l => ∀ x, x ∈ l → P x) (fun k n s l ih => h k n s l ih)
    (fun x hx => absurd hx List.not_mem_nil)
    (fun x l hx hl y hy => (List.mem_cons.1 hy).elim (fun e => e ▸ hx) (hl y)) x
end Ex
inductive St where
  | mk (kind : Int) (name : Str) (exprs : List Ex) (body els : List St)
namespace St
def kind : St → Int | mk k _ _ _ _ => k
def name : St → Str | mk _ s _ _ _ => s
def exprs : St → List Ex | mk _ _ l _ _ => l
def body : St → List St | mk _ _ _ b _ => b
def els : St → List St | mk _ _ _ _ e => e
theorem ind {P : St → Prop} (h : ∀ k s l b e, (∀ x, x ∈ b → P x) → (∀ x, x ∈ e → P x) → P (mk k s l b e)) (x : St) : P x :=
  St.rec (motive_1 := P) (motive_2 := fun l => ∀ x, x ∈ l → P x) (fun k s l b e hb he => h k s l b e hb he)
    (fun x hx => absurd hx List.not_mem_nil)
    (fun x l hx hl y hy => (List.mem_cons.1 hy).elim (fun e => e ▸ hx) (hl y)) x
end St
structure Arr where
  name : Str
  size : Int
structure Fn where
  name : Str
  params : List Str
  body : List St
structure Pr where
  arrays : List Arr
  funcs : List Fn

/-! ### the lexer -/
def letterB (c : UInt8) : Bool := decide (97 ≤ c.toNat ∧ c.toNat ≤ 122 ∨ 65 ≤ c.toNat ∧ c.toNat ≤ 90 ∨ c.toNat = 95)
def digitB (c : UInt8) : Bool := decide (48 ≤ c.toNat ∧ c.toNat ≤ 57)
def blankB (c : UInt8) : Bool := c == 32 || c == 9 || c == 10 || c == 13
def wordB (c : UInt8) : Bool := letterB c || digitB c
/-- The words and the signs. -/
def words : List Str := [[97, 114, 114, 97, 121], [102, 117, 110, 99], [108, 101, 116], [105, 102], [101, 108, 115, 101], [119, 104, 105, 108, 101], [102, 111, 114], [116, 111], [112, 114, 105, 110, 116], [116, 104, 114, 111, 119], [116, 114, 121], [99, 97, 116, 99, 104], [114, 101, 116, 117, 114, 110]]
def signs : List Str := [[40], [41], [91], [93], [123], [125], [44], [59], [61], [63], [58], [43], [45], [42], [47], [37], [38], [124], [94], [33], [60], [62], [60, 60], [62, 62], [60, 61], [62, 61], [61, 61], [33, 61], [38, 38], [124, 124]]
/-- What is left behind blanks and remarks ('true': inside a remark). -/
def skip : Bool → Str → Str
  | _, [] => []
  | false, c :: r => if blankB c then skip false r else if c = 47 ∧ r.head? = some 47 then skip true r else c :: r
  | true, c :: r => if c = 10 then skip false r else skip true r
/-- The sign that a string begins with, the longest one. -/
def sign (s : Str) : Option Str :=
  if s.take 2 ∈ signs ∧ 2 ≤ s.length then some (s.take 2) else if s.take 1 ∈ signs then some (s.take 1) else none
/-- The first token of a string that begins with one: its kind and its text. -/
def first (s : Str) : Option (Nat × Str) :=
  match s with
  | [] => none
  | c :: _ =>
    if letterB c then some (if s.takeWhile wordB ∈ words then (2, s.takeWhile wordB) else (1, s.takeWhile wordB))
    else if digitB c then some (3, s.takeWhile digitB)
    else (sign s).map fun t => (4, t)
inductive LexR where
  | ok (l : List Tok)
  | bad (at_ : Nat)
def LexR.cons (t : Tok) : LexR → LexR
  | .ok l => .ok (t :: l)
  | .bad n => .bad n
/-- The tokens of what is left, blanks ahead of it already passed, 'off' bytes behind the begin. -/
def lexF : Nat → Nat → Str → LexR
  | 0, off, _ => .bad off
  | _ + 1, _, [] => .ok []
  | n + 1, off, s =>
    match first s with
    | none => .bad off
    | some (k, t) => (lexF n (off + (s.length - (skip false (s.drop t.length)).length)) (skip false (s.drop t.length))).cons ⟨k, t, off⟩
def lex (s : Str) : LexR := lexF (s.length + 1) (s.length - (skip false s).length) (skip false s)

/-- What the lexer's tokens are. -/
structure Tok.ok (t : Tok) : Prop where
  ne : t.text ≠ []
  short : t.text.length ≤ 1000000
  num : t.kind = 3 → ∀ c ∈ t.text, digitB c = true
  sgn : t.kind = 4 → t.text ∈ signs
  wrd : t.kind = 2 → t.text ∈ words

/-! ### the grammar -/
inductive R (α : Type) where
  | out
  | err (rest : List Tok) (e : Nat)
  | ok (x : α) (rest : List Tok)
def R.bind {α β : Type} (r : R α) (f : α → List Tok → R β) : R β :=
  match r with
  | .out => .out
  | .err l e => .err l e
  | .ok x l => f x l
abbrev P (α : Type) := List Tok → R α

def levels : List (List Str) := [[[124, 124]], [[38, 38]], [[124]], [[94]], [[38]], [[61, 61], [33, 61]], [[60], [60, 61], [62], [62, 61]], [[60, 60], [62, 62]], [[43], [45]], [[42], [47], [37]]]
def levelIn (s : Str) : List (List Str) → Nat → Nat
  | [], _ => 0
  | l :: r, i => if s ∈ l then i else levelIn s r (i + 1)
def level (s : Str) : Nat := levelIn s levels 1

def is (s : Str) : List Tok → Bool
  | [] => false
  | t :: _ => (t.kind == 4 || t.kind == 2) && t.text == s
def must (s : Str) : P Unit := fun l => if is s l then .ok () l.tail else .err l 4
def name : P Str
  | [] => .err [] 4
  | t :: l => if t.kind = 1 then (if 40 < t.text.length then .err (t :: l) 3 else .ok t.text l) else .err (t :: l) 4
def valueF : Nat → Str → Option Nat
  | n, [] => some n
  | n, c :: r => if (9223372036854775807 - (c.toNat - 48)) / 10 < n then none else valueF (10 * n + (c.toNat - 48)) r
def value (s : Str) : Option Nat := valueF 0 s
def number : P Nat
  | [] => .err [] 4
  | t :: l => if t.kind = 3 then (match value t.text with | some n => .ok n l | none => .err (t :: l) 3) else .err (t :: l) 4
def few (n most : Nat) : P Unit := fun l => if most ≤ n then .err l 3 else .ok () l
def kindOf : List Tok → Nat
  | [] => 0
  | t :: _ => t.kind
def begins (l : List Tok) : Bool := kindOf l == 1 || kindOf l == 3 || is [40] l || is [45] l || is [33] l

structure Rec where
  expr : P Ex
  bin : Nat → P Ex
  loop : Nat → Ex → P Ex
  un : P Ex
  args : List Ex → P (List Ex)
  stmt : P St
  stmts : List St → P (List St)
  branch : P St

def exprF (r : Rec) : P Ex := fun l => (r.bin 1 l).bind fun x l1 =>
  if is [63] l1 then (r.expr l1.tail).bind fun y l2 => (must [58] l2).bind fun _ l3 => (r.expr l3).bind fun z l4 => .ok (.mk 7 0 [] [x, y, z]) l4
  else .ok x l1
def binF (r : Rec) (lvl : Nat) : P Ex := fun l => if 10 < lvl then r.un l else (r.bin (lvl + 1) l).bind fun x l1 => r.loop lvl x l1
def loopF (r : Rec) (lvl : Nat) (x : Ex) : P Ex
  | [] => .ok x []
  | t :: l => if t.kind = 4 ∧ level t.text = lvl then (r.bin (lvl + 1) l).bind fun y l1 => r.loop lvl (.mk 6 0 t.text [x, y]) l1 else .ok x (t :: l)
def unF (r : Rec) : P Ex := fun l =>
  if is [45] l then (r.un l.tail).bind fun x l1 => .ok (.mk 5 0 [45] [x]) l1
  else if is [33] l then (r.un l.tail).bind fun x l1 => .ok (.mk 5 0 [33] [x]) l1
  else if kindOf l = 3 then (number l).bind fun n l1 => .ok (.mk 1 n [] []) l1
  else if is [40] l then (r.expr l.tail).bind fun x l1 => (must [41] l1).bind fun _ l2 => .ok x l2
  else (name l).bind fun s l1 =>
    if is [91] l1 then (r.expr l1.tail).bind fun x l2 => (must [93] l2).bind fun _ l3 => .ok (.mk 3 0 s [x]) l3
    else if is [40] l1 then (r.args [] l1.tail).bind fun xs l2 => .ok (.mk 4 0 s xs) l2
    else .ok (.mk 2 0 s []) l1
def argsF (r : Rec) (xs : List Ex) : P (List Ex) := fun l =>
  if is [41] l then .ok xs l.tail
  else (if xs.length = 0 then R.ok () l else must [44] l).bind fun _ l1 =>
    (if begins l1 then few xs.length 8 l1 else R.ok () l1).bind fun _ l2 =>
    (r.expr l2).bind fun x l3 => r.args (xs ++ [x]) l3
def blockF (r : Rec) : P (List St) := fun l => (must [123] l).bind fun _ l1 => r.stmts [] l1
def stmtsF (r : Rec) (xs : List St) : P (List St) := fun l =>
  if is [125] l then .ok xs l.tail else (r.stmt l).bind fun x l1 => r.stmts (xs ++ [x]) l1
/-- '= E ;' -/
def setF (r : Rec) (k : Int) (s : Str) : P St := fun l =>
  (must [61] l).bind fun _ l1 => (r.expr l1).bind fun x l2 => (must [59] l2).bind fun _ l3 => .ok (.mk k s [x] [] []) l3
def namedF (r : Rec) : P St := fun l => (name l).bind fun s l1 =>
  if is [91] l1 then (r.expr l1.tail).bind fun x l2 => (must [93] l2).bind fun _ l3 => (must [61] l3).bind fun _ l4 => (r.expr l4).bind fun y l5 => (must [59] l5).bind fun _ l6 => .ok (.mk 3 s [x, y] [] []) l6
  else if is [40] l1 then (r.args [] l1.tail).bind fun xs l2 => (must [59] l2).bind fun _ l3 => .ok (.mk 11 s xs [] []) l3
  else setF r 2 s l1
/-- a word, an expression, ';' -/
def plainF (r : Rec) (k : Int) : P St := fun l => (r.expr l).bind fun x l1 => (must [59] l1).bind fun _ l2 => .ok (.mk k [] [x] [] []) l2
def branchF (r : Rec) : P St := fun l => (must [105, 102] l).bind fun _ l1 => (r.expr l1).bind fun x l2 => (blockF r l2).bind fun b l3 =>
  if is [101, 108, 115, 101] l3 then
    (if is [105, 102] l3.tail then (r.branch l3.tail).bind fun s l4 => .ok (.mk 4 [] [x] b [s]) l4
     else (blockF r l3.tail).bind fun e l4 => .ok (.mk 4 [] [x] b e) l4)
  else .ok (.mk 4 [] [x] b []) l3
def stmtF (r : Rec) : P St := fun l =>
  if kindOf l = 1 then namedF r l
  else if is [112, 114, 105, 110, 116] l then plainF r 7 l.tail
  else if is [116, 104, 114, 111, 119] l then plainF r 8 l.tail
  else if is [114, 101, 116, 117, 114, 110] l then plainF r 10 l.tail
  else if is [108, 101, 116] l then (name l.tail).bind fun s l1 => setF r 1 s l1
  else if is [105, 102] l then r.branch l
  else if is [119, 104, 105, 108, 101] l then (r.expr l.tail).bind fun x l1 => (blockF r l1).bind fun b l2 => .ok (.mk 5 [] [x] b []) l2
  else if is [102, 111, 114] l then (name l.tail).bind fun s l1 => (must [61] l1).bind fun _ l2 => (r.expr l2).bind fun x l3 => (must [116, 111] l3).bind fun _ l4 => (r.expr l4).bind fun y l5 => (blockF r l5).bind fun b l6 => .ok (.mk 6 s [x, y] b []) l6
  else if is [116, 114, 121] l then (blockF r l.tail).bind fun b l1 => (must [99, 97, 116, 99, 104] l1).bind fun _ l2 => (name l2).bind fun s l3 => (blockF r l3).bind fun e l4 => .ok (.mk 9 s [] b e) l4
  else .err l 4
def step (r : Rec) : Rec := ⟨exprF r, binF r, loopF r, unF r, argsF r, stmtF r, stmtsF r, branchF r⟩
def gram : Nat → Rec
  | 0 => ⟨fun _ => .out, fun _ _ => .out, fun _ _ _ => .out, fun _ => .out, fun _ _ => .out, fun _ => .out, fun _ _ => .out, fun _ => .out⟩
  | n + 1 => step (gram n)

def array : P Arr := fun l => (must [97, 114, 114, 97, 121] l).bind fun _ l1 => (name l1).bind fun s l2 => (must [91] l2).bind fun _ l3 => (number l3).bind fun n l4 => (must [93] l4).bind fun _ l5 => (must [59] l5).bind fun _ l6 => .ok ⟨s, n⟩ l6
def paramsF : Nat → List Str → P (List Str)
  | 0, _, _ => .out
  | n + 1, xs, l => if is [41] l then .ok xs l.tail
    else (if xs.length = 0 then R.ok () l else must [44] l).bind fun _ l1 =>
      (if kindOf l1 = 1 then few xs.length 8 l1 else R.ok () l1).bind fun _ l2 =>
      (name l2).bind fun s l3 => paramsF n (xs ++ [s]) l3
def func (n : Nat) : P Fn := fun l => (must [102, 117, 110, 99] l).bind fun _ l1 => (name l1).bind fun s l2 => (must [40] l2).bind fun _ l3 => (paramsF n [] l3).bind fun ps l4 => (blockF (gram n) l4).bind fun b l5 => .ok ⟨s, ps, b⟩ l5
def prog (n : Nat) : Nat → List Arr → List Fn → P Pr
  | 0, _, _, _ => .out
  | m + 1, as, fs, l =>
    if l.length = 0 then .ok ⟨as, fs⟩ []
    else if is [97, 114, 114, 97, 121] l then (few as.length 16 l).bind fun _ l1 => (array l1).bind fun a l2 => prog n m (as ++ [a]) fs l2
    else if is [102, 117, 110, 99] l then (few fs.length 40 l).bind fun _ l1 => (func n l1).bind fun f l2 => prog n m as (fs ++ [f]) l2
    else .err l 4

end Bir
