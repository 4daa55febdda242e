/- Part of the proof: C2. No condition. -/
import Derived.Test.YtidbbhdejopdgaaC1
set_option linter.unusedVariables false
set_option linter.unusedSimpArgs false
namespace Go.Av
def spanEnd (p : UInt8 → Bool) (s : List UInt8) (at_ : Nat) : Nat := at_ + ((s.drop at_).takeWhile p).length
theorem spanEnd_step {p : UInt8 → Bool} {s : List UInt8} {k : Nat} {c : UInt8} (h : s[k]? = some c) (hp : p c = true) : spanEnd p s k = spanEnd p s (k + 1) := by
  obtain ⟨hl, rfl⟩ := List.getElem?_eq_some_iff.1 h
  unfold spanEnd
  rw [List.drop_eq_getElem_cons hl, List.takeWhile_cons, if_pos hp]
  simp; omega
theorem spanEnd_stop {p : UInt8 → Bool} {s : List UInt8} {k : Nat} {c : UInt8} (h : s[k]? = some c) (hp : p c = false) : spanEnd p s k = k := by
  obtain ⟨hl, rfl⟩ := List.getElem?_eq_some_iff.1 h
  unfold spanEnd
  rw [List.drop_eq_getElem_cons hl, List.takeWhile_cons, if_neg (by simp [hp])]
  simp
theorem spanEnd_end {p : UInt8 → Bool} {s : List UInt8} {k : Nat} (h : s.length ≤ k) : spanEnd p s k = k := by
  unfold spanEnd
  rw [List.drop_eq_nil_of_le h]; simp

abbrev fnv (F : FuncId) : AV := .fn (.func F) [] []

theorem maxLen_eq : maxLen = 9223372036854775807 := by decide

theorem gp_span (p : UInt8 → Bool) (F : FuncId) (hF : ∀ b H, Pure F [u8 b] H (.bool (p b))) (s : List UInt8) (k : Nat) (hk : k ≤ s.length) (H : AHeap) :
    Pure grammarparser_span_id [.str s, i64 k, fnv F] H (i64 (spanEnd p s k)) := by
  refine grammarparser_span_enter rfl ?_
  simp [grammarparser_span_rs]
  refine aw_loopK (fun x : Nat => x ≤ s.length ∧ spanEnd p s x = spanEnd p s k) (fun x => [(0, .str s), (1, i64 x), (2, fnv F)]) (fun _ => H) (fun x => s.length - x) k ⟨hk, rfl⟩ rfl rfl ?_
  rintro x ⟨hx, he⟩
  by_cases h : x < s.length
  · have hc : s[x]? = some s[x] := List.getElem?_eq_getElem h
    simp [h]
    intro hm
    refine (hF s[x] H).use ?_
    cases hp : p s[x]
    · simp [hp]
      rw [← he, spanEnd_stop hc hp]
      exact .refl _
    · simp [hp]
      have : maxLen = 9223372036854775807 := maxLen_eq
      refine loopK_same (x + 1) ⟨by omega, by rw [← he, spanEnd_step hc hp]⟩ (by omega) ?_ rfl
      rw [wrap64 (by omega) (by omega)]
      simp
  · simp [h]
    intro hm
    rw [← he, spanEnd_end (by omega)]
    exact .refl _

theorem gp_lex_1 (b : UInt8) (H : AHeap) : Pure grammarparser_lex_1_id [u8 b] H (.bool (b != 10)) := by
  refine grammarparser_lex_1_enter rfl ?_
  simp [grammarparser_lex_1_rs]
  have : (b != 10) = !((b.toNat : Int) == 10) := by
    rw [bne, u8_eq]
    congr 1
  rw [this]
  exact .refl _

theorem gp_lex_2 (b : UInt8) (H : AHeap) : Pure grammarparser_lex_2_id [u8 b] H (.bool (inWord b)) := by
  refine grammarparser_lex_2_enter rfl ?_
  simp [grammarparser_lex_2_rs]
  refine (gp_letter b H).use ?_
  cases h1 : isLetter b
  · simp [h1]
    refine (gp_digit b H).use ?_
    cases h2 : isDigit b
    · simp [inWord, h1, h2, u8_eq]
      rw [← Bool.beq_eq_decide_eq]
      exact .refl _
    · simp [h2, inWord, h1]
  · simp [inWord, h1]

/-- The value of digits. -/
def numVal (s : List UInt8) : Int := s.foldl (fun n c => min (10 * n + ((c.toNat : Int) - 48)) 1001) 0
theorem numVal_snoc (s : List UInt8) (c : UInt8) : numVal (s ++ [c]) = min (10 * numVal s + ((c.toNat : Int) - 48)) 1001 := by
  simp [numVal]
theorem numVal_bound (s : List UInt8) (h : ∀ c ∈ s, isDigit c = true) : 0 ≤ numVal s ∧ numVal s ≤ 1001 := by
  suffices ∀ (s : List UInt8) (n : Int), (∀ c ∈ s, isDigit c = true) → 0 ≤ n → n ≤ 1001 → 0 ≤ s.foldl (fun n c => min (10 * n + ((c.toNat : Int) - 48)) 1001) n ∧ s.foldl (fun n c => min (10 * n + ((c.toNat : Int) - 48)) 1001) n ≤ 1001 from this s 0 h (by omega) (by omega)
  intro s
  induction s with
  | nil => intro n _ h1 h2; exact ⟨h1, h2⟩
  | cons c s ih =>
    intro n h h1 h2
    have h3 := (isDigit_iff c).1 (h c (by simp))
    exact ih _ (fun c hc => h c (by simp [hc])) (by simp only; omega) (by simp only; omega)

theorem gp_value (s : List UInt8) (hs : ∀ c ∈ s, isDigit c = true) (H : AHeap) : Pure grammarparser_value_id [.str s] H (i64 (numVal s)) := by
  refine grammarparser_value_enter rfl ?_
  simp [grammarparser_value_rs]
  intro hm
  have hml : maxLen = 9223372036854775807 := maxLen_eq
  refine aw_loopK (fun x : Nat => x ≤ s.length) (fun x => [(0, .str s), (3, i64 (numVal (s.take x))), (6, i64 s.length), (7, i64 x)]) (fun _ => H) (fun x => s.length - x) 0 (by simp) rfl rfl ?_
  intro x hx
  by_cases h : x < s.length
  · have hc : s[x]? = some s[x] := List.getElem?_eq_getElem h
    have hd := (isDigit_iff s[x]).1 (hs _ (List.getElem_mem h))
    have hb := numVal_bound (s.take x) fun c hc => hs c (List.mem_of_mem_take hc)
    have ht : s.take (x + 1) = s.take x ++ [s[x]] := by rw [List.take_add_one, hc]; rfl
    simp [h]
    have e1 : IntKind.i64.wrap (10 * numVal (s.take x)) = 10 * numVal (s.take x) := wrap64 (by omega) (by omega)
    have e2 : IntKind.u8.wrap ((s[x].toNat : Int) - 48) = (s[x].toNat : Int) - 48 := wrap8 (by omega) (by omega)
    have e3 : IntKind.i64.wrap ((s[x].toNat : Int) - 48) = (s[x].toNat : Int) - 48 := wrap64 (by omega) (by omega)
    have e4 : IntKind.i64.wrap (10 * numVal (s.take x) + ((s[x].toNat : Int) - 48)) = 10 * numVal (s.take x) + ((s[x].toNat : Int) - 48) := wrap64 (by omega) (by omega)
    have e5 : IntKind.i64.wrap ((x : Int) + 1) = (x : Int) + 1 := wrap64 (by omega) (by omega)
    rw [e1, e2, e3, e4, e5]
    refine loopK_same (x + 1) (by omega) (by omega) ?_ rfl
    rw [ht, numVal_snoc]
    simp
    rw [Int.min_def]
    split <;> split <;> first | rfl | omega
  · simp [h]
    rw [List.take_of_length_le (by omega)]
    exact .refl _
end Go.Av
