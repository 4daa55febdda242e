/- The text of a grammar file: plain definitions. -/
import Derived.Test.YtondhmpdmbjmdaaDoorCf
import Derived.Lib.Join
import Derived.Lib.ItoaNum
set_option linter.unusedVariables false
set_option linter.unusedSimpArgs false
namespace Go.Av
open Go Go.Proofs

def GE.kind : GE → Int | .mk k _ _ => k
def GE.name : GE → List UInt8 | .mk _ n _ => n
def GE.kids : GE → List GE | .mk _ _ l => l
theorem GE.eta (x : GE) : x = .mk x.kind x.name x.kids := by cases x; rfl

def encl (b : Bool) (t : List UInt8) : List UInt8 := if b then 40 :: (t ++ [41]) else t
def sepOf (k : Int) (i : Nat) : List UInt8 := if i = 0 then [] else if k = 2 then [32] else if k = 3 then [32, 124, 32] else []
def reqOf (k : Int) (e : GE) : Bool := if k = 2 then e.kind == 2 || e.kind == 3 else if k = 3 then e.kind == 3 || (e.kind == 2 && e.kids.length == 0) else e.kind != 1
def sufOf (k : Int) (n : List UInt8) : List UInt8 := if k = 1 then n else if k = 4 then [63] else if k = 5 then [42] else if k = 6 then [43] else []

mutual
def fmtE : GE → List UInt8
  | .mk k n l => fmtL k 0 l ++ sufOf k n
def fmtL (k : Int) : Nat → List GE → List UInt8
  | _, [] => []
  | i, e :: l => sepOf k i ++ encl (reqOf k e) (fmtE e) ++ fmtL k (i + 1) l
end
theorem fmtE_mk (k : Int) (n : List UInt8) (l : List GE) : fmtE (.mk k n l) = fmtL k 0 l ++ sufOf k n := by rw [fmtE]
theorem fmtL_cons (k : Int) (i : Nat) (e : GE) (l : List GE) : fmtL k i (e :: l) = sepOf k i ++ encl (reqOf k e) (fmtE e) ++ fmtL k (i + 1) l := by rw [fmtL]
theorem fmtL_nil (k : Int) (i : Nat) : fmtL k i [] = [] := by rw [fmtL]
theorem fmtL_append (k : Int) (l m : List GE) : ∀ i, fmtL k i (l ++ m) = fmtL k i l ++ fmtL k (i + l.length) m := by
  induction l with
  | nil => intro i; simp [fmtL_nil]
  | cons e l ih =>
    intro i
    rw [List.cons_append, fmtL_cons, fmtL_cons, ih]
    simp [Nat.add_assoc, Nat.add_comm 1]

def kwPr : List UInt8 := [32, 112, 114, 105, 99, 101, 32]
def bodyText (x : GE) : List UInt8 := if x.kind == 2 && x.kids.length == 0 then [] else 32 :: encl (x.kind == 3) (fmtE x)
def priceText (p : Int) : List UInt8 := if p = 0 then [] else kwPr ++ Lib.decDigits p.toNat
def altText (x : GA) : List UInt8 := bodyText x.body ++ priceText x.price

def wordM (a : Int) : List UInt8 := if a = 1 then [108, 101, 102, 116] else if a = 2 then [114, 105, 103, 104, 116] else [110, 111, 110, 101]
def levText (l : GL) : List UInt8 := wordM l.assoc ++ [32] ++ Lib.join l.tokens [32] ++ [59, 10]
def altsText : Nat → List GA → List UInt8
  | _, [] => []
  | i, a :: l => (if i = 0 then [] else [32, 124]) ++ altText a ++ altsText (i + 1) l
def ruleText (r : GR) : List UInt8 := r.name ++ [32, 61] ++ altsText 0 r.alts ++ [59, 10]
def startText (s : List UInt8) : List UInt8 := [115, 116, 97, 114, 116, 32] ++ s ++ [59, 10]
def gfText (f : GF) : List UInt8 := startText f.start ++ f.levels.flatMap levText ++ f.rules.flatMap ruleText

theorem altsText_append (l m : List GA) : ∀ i, altsText i (l ++ m) = altsText i l ++ altsText (i + l.length) m := by
  induction l with
  | nil => intro i; simp [altsText]
  | cons e l ih =>
    intro i
    rw [List.cons_append, altsText, altsText, ih]
    simp [Nat.add_assoc, Nat.add_comm 1]
end Go.Av
