/- Part of the proof: C1. No condition. -/
import Derived.Test.YtidbbhdejopdgaaAvF
import Derived.Test.YtidbbhdejopdgaaFns41
import Derived.Test.YtidbbhdejopdgaaFns66
set_option linter.unusedVariables false
set_option linter.unusedSimpArgs false
namespace Go.Av

/-- The call comes to v and leaves the heap alone. -/
def Pure (f : FuncId) (args : List AV) (H : AHeap) (v : AV) : Prop := ACalls PP f args H (fun r H' => r = .ret v ∧ H' = H)
theorem Pure.use {f : FuncId} {args : List AV} {H : AHeap} {v : AV} {K : AV → AHeap → Prop} {Kp : Value → AHeap → Prop} (h : Pure f args H v) (hK : K v H) : ACalls PP f args H (callK K Kp) :=
  ACalls.mono h fun r H' hr => by obtain ⟨rfl, rfl⟩ := hr; exact hK
theorem ret_pure {v : AV} {H : AHeap} {w : AV} (h : v = w) : ∃ v' H', Sub v v' ∧ HLe H' H ∧ (ARes.ret v' = ARes.ret w ∧ H' = H) := ⟨v, H, .refl _, .refl _, by rw [h], rfl⟩
/-- A fresh variable is forgotten. -/
theorem ret_pure_set {v : AV} {H : AHeap} {w : AV} {b : Nat} {o : AObj} (hb : H b = none) (h : v = w) : ∃ v' H', Sub v v' ∧ HLe H' (H.set b o) ∧ (ARes.ret v' = ARes.ret w ∧ H' = H) := ⟨v, H, .refl _, .set hb, by rw [h], rfl⟩

attribute [simp] Sub.refl HLe.refl

def isLetter (b : UInt8) : Bool := (97 ≤ b && b ≤ 122) || (65 ≤ b && b ≤ 90)
def isDigit (b : UInt8) : Bool := 48 ≤ b && b ≤ 57
def isBlank (b : UInt8) : Bool := b == 32 || b == 9 || b == 13 || b == 10
def inWord (b : UInt8) : Bool := isLetter b || isDigit b || b == 95

abbrev u8 (b : UInt8) : AV := .int .u8 (b.toNat : Int)
abbrev i64 (n : Int) : AV := .int .i64 n

theorem u8_eq (b c : UInt8) : (b == c) = decide ((b.toNat : Int) = c.toNat) := by
  by_cases h : b = c
  · subst h; simp
  · have : b.toNat ≠ c.toNat := fun e => h (UInt8.toNat_inj.1 e)
    rw [decide_eq_false (by omega)]
    exact beq_eq_false_iff_ne.2 h

theorem isLetter_iff (b : UInt8) : isLetter b = true ↔ (97 ≤ (b.toNat : Int) ∧ (b.toNat : Int) ≤ 122) ∨ (65 ≤ (b.toNat : Int) ∧ (b.toNat : Int) ≤ 90) := by
  simp [isLetter, UInt8.le_iff_toNat_le]; omega
theorem isDigit_iff (b : UInt8) : isDigit b = true ↔ (48 ≤ (b.toNat : Int) ∧ (b.toNat : Int) ≤ 57) := by
  simp [isDigit, UInt8.le_iff_toNat_le]; omega
theorem isBlank_iff (b : UInt8) : isBlank b = true ↔ ((b.toNat : Int) = 32 ∨ (b.toNat : Int) = 9 ∨ (b.toNat : Int) = 13 ∨ (b.toNat : Int) = 10) := by
  simp [isBlank, u8_eq]; omega
theorem bool_of_iff {a : Bool} {p : Prop} [Decidable p] (h : a = true ↔ p) : a = decide p := by
  by_cases hp : p
  · simp [hp, h.2 hp]
  · simp only [hp, decide_false]; cases a <;> simp_all

theorem gp_letter (b : UInt8) (H : AHeap) : Pure grammarparser_letter_id [u8 b] H (.bool (isLetter b)) := by
  refine grammarparser_letter_enter rfl ?_
  rw [bool_of_iff (isLetter_iff b)]
  by_cases h1 : 97 ≤ (b.toNat : Int) <;> by_cases h2 : (b.toNat : Int) ≤ 122 <;> by_cases h3 : 65 ≤ (b.toNat : Int) <;> by_cases h4 : (b.toNat : Int) ≤ 90 <;>
    first | omega | simp [grammarparser_letter_rs, h1, h2, h3, h4]

theorem gp_digit (b : UInt8) (H : AHeap) : Pure grammarparser_digit_id [u8 b] H (.bool (isDigit b)) := by
  refine grammarparser_digit_enter rfl ?_
  rw [bool_of_iff (isDigit_iff b)]
  by_cases h1 : 48 ≤ (b.toNat : Int) <;> by_cases h2 : (b.toNat : Int) ≤ 57 <;>
    simp [grammarparser_digit_rs, h1, h2]
end Go.Av
