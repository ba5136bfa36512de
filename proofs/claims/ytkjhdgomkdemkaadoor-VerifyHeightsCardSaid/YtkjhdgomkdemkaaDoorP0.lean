import Derived.Lib.IndexMore
/-! Plain words: what the checker of programs does, and how a program is written, without Go. -/
namespace Go.Proofs.YtkjhdgomkdemkaaDoor
set_option linter.unusedVariables false
structure Instr where
  op : Int
  a : Int
  b : Int
deriving DecidableEq, Inhabited
structure Prog where
  kind : Int
  texts : List ByteArray
  code : List Instr
  stack : Int
abbrev Pend := Int → Option (List Int)
def letterB (c : Int) : Bool := decide (97 ≤ c) && decide (c ≤ 122) || decide (65 ≤ c) && decide (c ≤ 90) || (c == 95)
def digitB (c : Int) : Bool := decide (48 ≤ c) && decide (c ≤ 57)
def nameC (c : UInt8) : Bool := letterB c.toNat || digitB c.toNat
def nameB : List UInt8 → Bool
  | [] => false
  | c :: l => letterB c.toNat && l.all nameC
def digitsB (l : List UInt8) : Bool := !l.isEmpty && l.all (fun c => decide (48 ≤ c.toNat) && decide (c.toNat ≤ 57))
def topS (st : List Int) (n : Nat) : Int := if n ≤ st.length then st.getD (st.length - n) 0 else 0
def swapS (st : List Int) (n : Nat) (put : List Int) : List Int := st.take (st.length - n) ++ put
def decB (l : List UInt8) : Bool := (Lib.cut l [46]).2.2 && digitsB (Lib.cut l [46]).1 && digitsB (Lib.cut l [46]).2.1
def textOk (op : Int) (s : ByteArray) : Bool :=
  if op = 4 then nameB s.data.toList else if op = 2 then digitsB s.data.toList else if op = 3 then decB s.data.toList else true
def namedB (texts : List ByteArray) (op a : Int) : Bool := if (texts.length : Int) ≤ a then false else textOk op (texts.getD a.toNat ByteArray.empty)
def forwardS (len : Nat) (pend : Pend) (i a : Int) (st : List Int) : Option Pend :=
  if a ≤ i ∨ (len : Int) ≤ a then none
  else match pend a with
    | some old => if old = st then some pend else some (fun k => if k = a then some [0] else pend k)
    | none => some (fun k => if k = a then some st else pend k)
def arithS (op t2 t1 : Int) : Option Int :=
  if (t2 == 2 || t2 == 3) && (t1 == 2 || t1 == 3) then
    if op = 14 then (if t2 = 2 ∧ t1 = 2 then some t2 else none)
    else if op = 15 then (if t1 = 2 then some t2 else none)
    else some (max t2 t1)
  else none
/-- An instruction of a program for conditions: the stack and what leads onward; none: it may not stand there. -/
def condsS (len : Nat) (texts : List ByteArray) (i : Int) (x : Instr) (st : List Int) (pend : Pend) : Option (List Int × Pend) :=
  if x.op = 1 ∨ x.op = 4 then (if namedB texts x.op x.a = true then some (swapS st 0 [1], pend) else none)
  else if x.op = 2 then (if namedB texts x.op x.a = true then some (swapS st 0 [2], pend) else none)
  else if x.op = 3 then (if namedB texts x.op x.a = true then some (swapS st 0 [3], pend) else none)
  else if x.op = 24 ∨ x.op = 25 then some (swapS st 0 [4], pend)
  else if x.op = 5 then (if (topS st 1 == 1) = true then some (st, pend) else none)
  else if x.op = 6 then (if (topS st 1 == 1) = true then some (swapS st 1 [2], pend) else none)
  else if x.op = 7 then (if (topS st 1 == 1) = true then some (swapS st 1 [3], pend) else none)
  else if x.op = 8 then (if (topS st 2 == 1 && topS st 1 == 1) = true then some (swapS st 2 [1], pend) else none)
  else if x.op = 22 then (if (topS st 2 == 1 && topS st 1 == 1) = true then some (swapS st 2 [4], pend) else none)
  else if x.op = 9 then (if (topS st 1 == 2 || topS st 1 == 3) = true then some (st, pend) else none)
  else if 10 ≤ x.op ∧ x.op ≤ 15 then (arithS x.op (topS st 2) (topS st 1)).map (fun y => (swapS st 2 [y], pend))
  else if 16 ≤ x.op ∧ x.op ≤ 21 then (if (topS st 2 == 1 && topS st 1 == 1 || (topS st 2 == 2 || topS st 2 == 3) && (topS st 1 == 2 || topS st 1 == 3)) = true then some (swapS st 2 [4], pend) else none)
  else if x.op = 23 then (if (topS st 1 == 4) = true then some (st, pend) else none)
  else if x.op = 26 ∨ x.op = 27 then (if (topS st 1 == 4) = true then (forwardS len pend i x.a st).map (fun p => (swapS st 1 [], p)) else none)
  else if x.op = 28 then (if (topS st 1 == 4) = true then (forwardS len pend i x.a (swapS st 1 [])).map (fun p => (swapS st 1 [], p)) else none)
  else if x.op = 29 then (forwardS len pend i x.a st).map (fun p => (swapS st 0 [8 + x.a], p))
  else if x.op = 30 then (if 8 ≤ topS st 1 then some (swapS st 1 [], pend) else none)
  else if x.op = 31 then (if (topS st 1 == 1) = true then some (swapS st 1 [], pend) else none)
  else if x.op = 32 then some (st, pend)
  else if x.op = 33 then (if st.length = 0 then some (st, pend) else none)
  else none
def licsS (texts : List ByteArray) (x : Instr) (st : List Int) (pend : Pend) : Option (List Int × Pend) :=
  if x.op = 34 then (if namedB texts x.op x.a = true then some (swapS st 0 [6], pend) else none)
  else if x.op = 35 ∨ x.op = 36 then (if 1 < st.length then some (swapS st 1 [], pend) else none)
  else if x.op = 37 then (if 1 ≤ x.a ∧ x.a ≤ x.b ∧ x.b ≤ st.length then some (swapS st (x.b - 1).toNat [], pend) else none)
  else if x.op = 38 then (if st.length = 1 then some (swapS st 1 [], pend) else none)
  else none
def riskyB (op : Int) (st : List Int) : Bool := (op == 22 || op == 13 || op == 14 || op == 15) && !st.any (fun t => decide (8 ≤ t))
def preS (pend : Pend) (i : Int) (st : List Int) : Option (List Int × Pend) :=
  match pend i with
  | some t => if t = st ∧ t ≠ [0] then some (t, fun k => if k = i then none else pend k) else none
  | none => some (st, pend)
def stepS (p : Prog) (i : Int) (x : Instr) (st1 : List Int) (pend1 : Pend) : Option (List Int × Pend) :=
  if ((x.op == 33 || x.op == 38) != (i == (p.code.length : Int) - 1)) = true then none
  else if riskyB x.op st1 = true then none
  else match (if p.kind = 1 then condsS p.code.length p.texts i x st1 pend1 else licsS p.texts x st1 pend1) with
    | none => none
    | some (st2, pend2) => if (st2.length : Int) ≤ p.stack then some (st2, pend2) else none
def rightB (n : Int) (meant : Bool) : Bool := (n == 0) || (meant && decide (0 < n) && decide (n ≤ 2147483647))
def hasAB (op : Int) : Bool := op == 1 || op == 2 || op == 3 || op == 4 || op == 34 || op == 26 || op == 27 || op == 28 || op == 29
def shapeS (op : Int) : Int := if hasAB op then 1 else if op == 37 then 3 else 0
/-- may an instruction not be written? -/
def wrongB (x : Instr) : Bool := decide (x.op < 1) || decide (38 < x.op) || !rightB x.a (hasAB x.op || x.op == 37) || !rightB x.b (x.op == 37)
/-- A number's bytes: seven bits each, the lowest first; all but the last bear the mark 128. -/
def vint (n : Nat) : List Int := if h : n < 128 then [(n : Int)] else ((n % 128 + 128 : Nat) : Int) :: vint (n / 128)
decreasing_by omega
end Go.Proofs.YtkjhdgomkdemkaaDoor
