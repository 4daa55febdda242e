/- Part of the proof: Ca. No condition. -/
import Derived.Test.YtondhmpdmbjmdaaDoorAvF
import Derived.Test.YtondhmpdmbjmdaaDoorFns41
import Derived.Test.YtondhmpdmbjmdaaDoorFns66
import Derived.Test.YtondhmpdmbjmdaaDoorFns19
set_option linter.unusedVariables false
set_option linter.unusedSimpArgs false
namespace Go.Av

/-- The call comes to v and leaves the heap alone. -/
def Pure (f : FuncId) (args : List AV) (H : AHeap) (v : AV) : Prop := ACalls PP f args H (fun r H' => r = .ret v ∧ H' = H)
theorem Pure.use {f : FuncId} {args : List AV} {H : AHeap} {v : AV} {K : AV → AHeap → Prop} {Kp : Value → AHeap → Prop} (h : Pure f args H v) (hK : K v H) : ACalls PP f args H (callK K Kp) :=
  ACalls.mono h fun r H' hr => by obtain ⟨rfl, rfl⟩ := hr; exact hK
theorem ret_pure {v : AV} {H : AHeap} {w : AV} (h : v = w) : ∃ v' H', Sub v v' ∧ HLe H' H ∧ (ARes.ret v' = ARes.ret w ∧ H' = H) := ⟨v, H, .refl _, .refl _, by rw [h], rfl⟩
/-- A fresh variable is forgotten. -/
theorem ret_pure_set {v : AV} {H : AHeap} {w : AV} {b : Nat} {o : AObj} (hb : H b = none) (h : v = w) : ∃ v' H', Sub v v' ∧ HLe H' (H.set b o) ∧ (ARes.ret v' = ARes.ret w ∧ H' = H) := ⟨v, H, .refl _, .set hb, by rw [h], rfl⟩

attribute [simp] Sub.refl HLe.refl

def isLetter (b : UInt8) : Bool := (97 ≤ b && b ≤ 122) || (65 ≤ b && b ≤ 90)
def isDigit (b : UInt8) : Bool := 48 ≤ b && b ≤ 57
def isBlank (b : UInt8) : Bool := b == 32 || b == 9 || b == 13 || b == 10
def inWord (b : UInt8) : Bool := isLetter b || isDigit b || b == 95

abbrev u8 (b : UInt8) : AV := .int .u8 (b.toNat : Int)
abbrev i64 (n : Int) : AV := .int .i64 n

theorem u8_eq (b c : UInt8) : (b == c) = decide ((b.toNat : Int) = c.toNat) := by
  by_cases h : b = c
  · subst h; simp
  · have : b.toNat ≠ c.toNat := fun e => h (UInt8.toNat_inj.1 e)
    rw [decide_eq_false (by omega)]
    exact beq_eq_false_iff_ne.2 h

theorem isLetter_iff (b : UInt8) : isLetter b = true ↔ (97 ≤ (b.toNat : Int) ∧ (b.toNat : Int) ≤ 122) ∨ (65 ≤ (b.toNat : Int) ∧ (b.toNat : Int) ≤ 90) := by
  simp [isLetter, UInt8.le_iff_toNat_le]; omega
theorem isDigit_iff (b : UInt8) : isDigit b = true ↔ (48 ≤ (b.toNat : Int) ∧ (b.toNat : Int) ≤ 57) := by
  simp [isDigit, UInt8.le_iff_toNat_le]; omega
theorem isBlank_iff (b : UInt8) : isBlank b = true ↔ ((b.toNat : Int) = 32 ∨ (b.toNat : Int) = 9 ∨ (b.toNat : Int) = 13 ∨ (b.toNat : Int) = 10) := by
  simp [isBlank, u8_eq]; omega
theorem bool_of_iff {a : Bool} {p : Prop} [Decidable p] (h : a = true ↔ p) : a = decide p := by
  by_cases hp : p
  · simp [hp, h.2 hp]
  · simp only [hp, decide_false]; cases a <;> simp_all

theorem gp_letter (b : UInt8) (H : AHeap) : Pure gP_letter_id [u8 b] H (.bool (isLetter b)) := by
  refine gP_letter_enter rfl ?_
  rw [bool_of_iff (isLetter_iff b)]
  by_cases h1 : 97 ≤ (b.toNat : Int) <;> by_cases h2 : (b.toNat : Int) ≤ 122 <;> by_cases h3 : 65 ≤ (b.toNat : Int) <;> by_cases h4 : (b.toNat : Int) ≤ 90 <;>
    first | omega | simp [gP_letter_rs, h1, h2, h3, h4]

theorem gp_digit (b : UInt8) (H : AHeap) : Pure gP_digit_id [u8 b] H (.bool (isDigit b)) := by
  refine gP_digit_enter rfl ?_
  rw [bool_of_iff (isDigit_iff b)]
  by_cases h1 : 48 ≤ (b.toNat : Int) <;> by_cases h2 : (b.toNat : Int) ≤ 57 <;>
    simp [gP_digit_rs, h1, h2]
end Go.Av

namespace Go.Av
def spanEnd (p : UInt8 → Bool) (s : List UInt8) (at_ : Nat) : Nat := at_ + ((s.drop at_).takeWhile p).length
theorem spanEnd_step {p : UInt8 → Bool} {s : List UInt8} {k : Nat} {c : UInt8} (h : s[k]? = some c) (hp : p c = true) : spanEnd p s k = spanEnd p s (k + 1) := by
  obtain ⟨hl, rfl⟩ := List.getElem?_eq_some_iff.1 h
  unfold spanEnd
  rw [List.drop_eq_getElem_cons hl, List.takeWhile_cons, if_pos hp]
  simp; omega
theorem spanEnd_stop {p : UInt8 → Bool} {s : List UInt8} {k : Nat} {c : UInt8} (h : s[k]? = some c) (hp : p c = false) : spanEnd p s k = k := by
  obtain ⟨hl, rfl⟩ := List.getElem?_eq_some_iff.1 h
  unfold spanEnd
  rw [List.drop_eq_getElem_cons hl, List.takeWhile_cons, if_neg (by simp [hp])]
  simp
theorem spanEnd_end {p : UInt8 → Bool} {s : List UInt8} {k : Nat} (h : s.length ≤ k) : spanEnd p s k = k := by
  unfold spanEnd
  rw [List.drop_eq_nil_of_le h]; simp

abbrev fnv (F : FuncId) : AV := .fn (.func F) [] []

theorem maxLen_eq : maxLen = 9223372036854775807 := by decide

theorem gp_span (p : UInt8 → Bool) (F : FuncId) (hF : ∀ b H, Pure F [u8 b] H (.bool (p b))) (s : List UInt8) (k : Nat) (hk : k ≤ s.length) (H : AHeap) :
    Pure gP_span_id [.str s, i64 k, fnv F] H (i64 (spanEnd p s k)) := by
  refine gP_span_enter rfl ?_
  simp [gP_span_rs]
  refine aw_loopK (fun x : Nat => x ≤ s.length ∧ spanEnd p s x = spanEnd p s k) (fun x => [(0, .str s), (1, i64 x), (2, fnv F)]) (fun _ => H) (fun x => s.length - x) k ⟨hk, rfl⟩ rfl rfl ?_
  rintro x ⟨hx, he⟩
  by_cases h : x < s.length
  · have hc : s[x]? = some s[x] := List.getElem?_eq_getElem h
    simp [h]
    intro hm
    refine (hF s[x] H).use ?_
    cases hp : p s[x]
    · simp [hp]
      rw [← he, spanEnd_stop hc hp]
      exact .refl _
    · simp [hp]
      have : maxLen = 9223372036854775807 := maxLen_eq
      refine loopK_same (x + 1) ⟨by omega, by rw [← he, spanEnd_step hc hp]⟩ (by omega) ?_ rfl
      rw [wrap64 (by omega) (by omega)]
      simp
  · simp [h]
    intro hm
    rw [← he, spanEnd_end (by omega)]
    exact .refl _

theorem gp_lex_1 (b : UInt8) (H : AHeap) : Pure gP_lex_1_id [u8 b] H (.bool (b != 10)) := by
  refine gP_lex_1_enter rfl ?_
  simp [gP_lex_1_rs]
  have : (b != 10) = !((b.toNat : Int) == 10) := by
    rw [bne, u8_eq]
    congr 1
  rw [this]
  exact .refl _

theorem gp_lex_2 (b : UInt8) (H : AHeap) : Pure gP_lex_2_id [u8 b] H (.bool (inWord b)) := by
  refine gP_lex_2_enter rfl ?_
  simp [gP_lex_2_rs]
  refine (gp_letter b H).use ?_
  cases h1 : isLetter b
  · simp [h1]
    refine (gp_digit b H).use ?_
    cases h2 : isDigit b
    · simp [inWord, h1, h2, u8_eq]
      rw [← Bool.beq_eq_decide_eq]
      exact .refl _
    · simp [h2, inWord, h1]
  · simp [inWord, h1]

/-- The value of digits. -/
def numVal (s : List UInt8) : Int := s.foldl (fun n c => min (10 * n + ((c.toNat : Int) - 48)) 1001) 0
theorem numVal_snoc (s : List UInt8) (c : UInt8) : numVal (s ++ [c]) = min (10 * numVal s + ((c.toNat : Int) - 48)) 1001 := by
  simp [numVal]
theorem numVal_bound (s : List UInt8) (h : ∀ c ∈ s, isDigit c = true) : 0 ≤ numVal s ∧ numVal s ≤ 1001 := by
  suffices ∀ (s : List UInt8) (n : Int), (∀ c ∈ s, isDigit c = true) → 0 ≤ n → n ≤ 1001 → 0 ≤ s.foldl (fun n c => min (10 * n + ((c.toNat : Int) - 48)) 1001) n ∧ s.foldl (fun n c => min (10 * n + ((c.toNat : Int) - 48)) 1001) n ≤ 1001 from this s 0 h (by omega) (by omega)
  intro s
  induction s with
  | nil => intro n _ h1 h2; exact ⟨h1, h2⟩
  | cons c s ih =>
    intro n h h1 h2
    have h3 := (isDigit_iff c).1 (h c (by simp))
    exact ih _ (fun c hc => h c (by simp [hc])) (by simp only; omega) (by simp only; omega)

theorem gp_value (s : List UInt8) (hs : ∀ c ∈ s, isDigit c = true) (H : AHeap) : Pure gP_value_id [.str s] H (i64 (numVal s)) := by
  refine gP_value_enter rfl ?_
  simp [gP_value_rs]
  intro hm
  have hml : maxLen = 9223372036854775807 := maxLen_eq
  refine aw_loopK (fun x : Nat => x ≤ s.length) (fun x => [(0, .str s), (3, i64 (numVal (s.take x))), (6, i64 s.length), (7, i64 x)]) (fun _ => H) (fun x => s.length - x) 0 (by simp) rfl rfl ?_
  intro x hx
  by_cases h : x < s.length
  · have hc : s[x]? = some s[x] := List.getElem?_eq_getElem h
    have hd := (isDigit_iff s[x]).1 (hs _ (List.getElem_mem h))
    have hb := numVal_bound (s.take x) fun c hc => hs c (List.mem_of_mem_take hc)
    have ht : s.take (x + 1) = s.take x ++ [s[x]] := by rw [List.take_add_one, hc]; rfl
    simp [h]
    have e1 : IntKind.i64.wrap (10 * numVal (s.take x)) = 10 * numVal (s.take x) := wrap64 (by omega) (by omega)
    have e2 : IntKind.u8.wrap ((s[x].toNat : Int) - 48) = (s[x].toNat : Int) - 48 := wrap8 (by omega) (by omega)
    have e3 : IntKind.i64.wrap ((s[x].toNat : Int) - 48) = (s[x].toNat : Int) - 48 := wrap64 (by omega) (by omega)
    have e4 : IntKind.i64.wrap (10 * numVal (s.take x) + ((s[x].toNat : Int) - 48)) = 10 * numVal (s.take x) + ((s[x].toNat : Int) - 48) := wrap64 (by omega) (by omega)
    have e5 : IntKind.i64.wrap ((x : Int) + 1) = (x : Int) + 1 := wrap64 (by omega) (by omega)
    rw [e1, e2, e3, e4, e5]
    refine loopK_same (x + 1) (by omega) (by omega) ?_ rfl
    rw [ht, numVal_snoc]
    simp
    rw [Int.min_def]
    split <;> split <;> first | rfl | omega
  · simp [h]
    rw [List.take_of_length_le (by omega)]
    exact .refl _
end Go.Av

namespace Go.Av

theorem Grows.add {H0 H : AHeap} {e : TypeId} {sz : Nat} {l : List AV} {v : AV} {b : Nat} {o : AObj} (h : Grows H0 e sz l v H) (hb : H b = none) : Grows (H0.set b o) e sz l v (H.set b o) := by
  rcases h with ⟨rfl, rfl, rfl⟩ | ⟨b', hb0, rfl, rfl⟩
  · exact .inl ⟨rfl, rfl, rfl⟩
  · have : b ≠ b' := by rintro rfl; rw [AHeap.set_same] at hb; cases hb
    exact .inr ⟨b', by rw [AHeap.set_ne _ _ (Ne.symm this)]; exact hb0, rfl, set_comm_heap (Ne.symm this)⟩

theorem Grows.base {H0 H : AHeap} {e : TypeId} {sz : Nat} {l : List AV} {v : AV} {b : Nat} (h : Grows H0 e sz l v H) (hb : H b = none) : H0 b = none := by
  rcases h with ⟨rfl, rfl, rfl⟩ | ⟨b', hb0, rfl, rfl⟩
  · exact hb
  · by_cases e : b = b'
    · subst e; exact hb0
    · rwa [AHeap.set_ne _ _ e] at hb

theorem Grows.drop {H0 H : AHeap} {e : TypeId} {sz : Nat} {l : List AV} {v : AV} {b : Nat} {o : AObj} (h : Grows (H0.set b o) e sz l v H) (hb : H0 b = none) : ∃ H3, Grows H0 e sz l v H3 ∧ HLe H3 H := by
  rcases h with ⟨rfl, rfl, rfl⟩ | ⟨b', hb0, rfl, rfl⟩
  · exact ⟨H0, .inl ⟨rfl, rfl, rfl⟩, .set hb⟩
  · have : b' ≠ b := by rintro rfl; rw [AHeap.set_same] at hb0; cases hb0
    rw [AHeap.set_ne _ _ this] at hb0
    refine ⟨H0.set b' (.row l.length sz e), .inr ⟨b', hb0, rfl, rfl⟩, ?_⟩
    rw [set_comm_heap (Ne.symm this)]
    exact .set (by rw [AHeap.set_ne _ _ (Ne.symm this)]; exact hb)

theorem Grows.HLe {H0 H : AHeap} {e : TypeId} {sz : Nat} {l : List AV} {v : AV} (h : Grows H0 e sz l v H) : HLe H0 H := by
  rcases h with ⟨rfl, rfl, rfl⟩ | ⟨b', hb0, rfl, rfl⟩
  · exact .refl _
  · exact .set hb0

structure Tok where
  at_ : Nat
  text : List UInt8
  word : Bool
  num : Int
  deriving DecidableEq, Inhabited

def Tok.av (t : Tok) : AV := .struct [i64 t.at_, .str t.text, .bool t.word, i64 t.num]
@[simp] theorem Tok.av_size (t : Tok) : t.av.size = 4 := rfl
@[simp] theorem Tok.av_agg (t : Tok) : t.av.isAgg = true := rfl
@[simp] theorem Tok.av_sto (t : Tok) : t.av.sto = true := rfl

def lexStep (k : Nat) (c : UInt8) (l : List UInt8) : Option Tok × Nat :=
  if isBlank c then (none, 1)
  else if c == 35 then (none, (l.takeWhile (· != 10)).length)
  else if isLetter c then (some ⟨k, l.takeWhile inWord, true, -1⟩, (l.takeWhile inWord).length)
  else if isDigit c then (some ⟨k, l.takeWhile isDigit, false, numVal (l.takeWhile isDigit)⟩, (l.takeWhile isDigit).length)
  else (some ⟨k, [c], false, -1⟩, 1)

def lexL : Nat → Nat → List UInt8 → List Tok
  | 0, _, _ => []
  | _ + 1, _, [] => []
  | f + 1, k, c :: r => (lexStep k c (c :: r)).1.toList ++ lexL f (k + (lexStep k c (c :: r)).2) ((c :: r).drop (lexStep k c (c :: r)).2)

def lex (s : List UInt8) : List Tok := lexL (s.length + 1) 0 s

theorem lexStep_pos (k : Nat) (c : UInt8) (r : List UInt8) : 1 ≤ (lexStep k c (c :: r)).2 := by
  unfold lexStep
  split
  · simp
  · split
    · rename_i h
      have : c = 35 := by simpa using h
      subst this
      simp [List.takeWhile_cons]
    · split
      · rename_i h
        simp [List.takeWhile_cons, inWord, h]
      · split
        · rename_i h
          simp [List.takeWhile_cons, h]
        · simp

theorem lexL_fuel : ∀ (f g k : Nat) (r : List UInt8), r.length < f → r.length < g → lexL f k r = lexL g k r
  | 0, _, _, _, h, _ => by omega
  | _, 0, _, _, _, h => by omega
  | f + 1, g + 1, k, [], h1, h2 => rfl
  | f + 1, g + 1, k, c :: r, h1, h2 => by
    have := lexStep_pos k c r
    simp only [lexL]
    rw [lexL_fuel f g _ _ (by simp at *; omega) (by simp at *; omega)]

theorem take_tw {p : UInt8 → Bool} (l : List UInt8) : l.take (l.takeWhile p).length = l.takeWhile p := by
  have := List.takeWhile_prefix (l := l) p
  exact (List.prefix_iff_eq_take.1 this).symm

theorem tw_len {p : UInt8 → Bool} (l : List UInt8) : (l.takeWhile p).length ≤ l.length := (List.takeWhile_prefix p).length_le

theorem lex_round {s : List UInt8} {x : Nat} (h : x < s.length) : lexL (s.length - x + 1) x (s.drop x) =
    (lexStep x s[x] (s.drop x)).1.toList ++ lexL (s.length - (x + (lexStep x s[x] (s.drop x)).2) + 1) (x + (lexStep x s[x] (s.drop x)).2) (s.drop (x + (lexStep x s[x] (s.drop x)).2)) := by
  have hd : s.drop x = s[x] :: s.drop (x + 1) := List.drop_eq_getElem_cons h
  have hp := lexStep_pos x s[x] (s.drop (x + 1))
  rw [← hd] at hp
  conv => lhs; rw [hd]; simp only [lexL]; rw [← hd]
  rw [List.drop_drop]
  congr 1
  exact lexL_fuel _ _ _ _ (by simp; omega) (by simp)
end Go.Av
