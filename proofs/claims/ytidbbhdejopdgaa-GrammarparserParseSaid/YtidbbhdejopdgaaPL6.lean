/- Part of the proof: PL6. No condition. -/
import Derived.Test.YtidbbhdejopdgaaDa
import Derived.Test.YtidbbhdejopdgaaPL5
set_option linter.unusedVariables false
set_option linter.unusedSimpArgs false
namespace Go.Av
/-! ### The tokens of texts that are put together -/
def lexK (k : Nat) (r : List UInt8) : List Tok := lexL (r.length + 1) k r
theorem lexK_nil (k : Nat) : lexK k [] = [] := rfl
theorem lexK_cons (k : Nat) (c : UInt8) (r : List UInt8) : lexK k (c :: r) = (lexStep k c (c :: r)).1.toList ++ lexK (k + (lexStep k c (c :: r)).2) ((c :: r).drop (lexStep k c (c :: r)).2) := by
  have h1 := lexStep_pos k c r
  have h2 := lexStep_le k c r
  unfold lexK
  rw [lexL]
  congr 1
  refine lexL_fuel _ _ _ _ ?_ ?_
  · rw [List.length_drop]; simp only [List.length_cons] at *; omega
  · omega
theorem lexK_lex (s : List UInt8) : lex s = lexK 0 s := rfl

/-- A text that is one token. -/
def Good (x : List UInt8) : Prop := ∃ c r, x = c :: r ∧ isBlank c = false ∧ c ≠ 35 ∧ ((isLetter c = true ∧ r.all inWord = true) ∨ (isLetter c = false ∧ isDigit c = true ∧ r.all isDigit = true) ∨ (isLetter c = false ∧ isDigit c = false ∧ r = []))
def tokOf (k : Nat) (x : List UInt8) : Tok := ⟨k, x, match x with | [] => false | c :: _ => isLetter c, match x with | [] => -1 | c :: _ => if isDigit c then numVal x else -1⟩

theorem tw_all {p : UInt8 → Bool} : ∀ (x : List UInt8) {rest : List UInt8}, x.all p = true → (rest = [] ∨ ∃ b r, rest = b :: r ∧ p b = false) → (x ++ rest).takeWhile p = x
  | [], rest, _, h => by
    rcases h with rfl | ⟨b, r, rfl, hb⟩
    · rfl
    · simp [hb]
  | c :: x, rest, h, hr => by
    simp only [List.all_cons, Bool.and_eq_true] at h
    simp only [List.cons_append, List.takeWhile_cons, h.1, if_true]
    rw [tw_all x h.2 hr]

theorem blank_not {b : UInt8} (h : isBlank b = true) : inWord b = false ∧ isDigit b = false := by
  have h1 := (isBlank_iff b).1 h
  have hl : isLetter b = false := by
    cases hl : isLetter b with
    | false => rfl
    | true => have := (isLetter_iff b).1 hl; omega
  have hd : isDigit b = false := by
    cases hd : isDigit b with
    | false => rfl
    | true => have := (isDigit_iff b).1 hd; omega
  refine ⟨?_, hd⟩
  have : (b == 95) = false := by
    rw [u8_eq, decide_eq_false_iff_not]
    intro e
    have : (b.toNat : Int) = 95 := e
    omega
  simp [inWord, hl, hd, this]

theorem lexStep_good {x : List UInt8} (hx : Good x) {rest : List UInt8} (hr : rest = [] ∨ ∃ b r, rest = b :: r ∧ isBlank b = true) (k : Nat) :
    ∃ c r, x = c :: r ∧ lexStep k c (x ++ rest) = (some (tokOf k x), x.length) := by
  obtain ⟨c, r, rfl, h1, h2, h3⟩ := hx
  refine ⟨c, r, rfl, ?_⟩
  have hw : rest = [] ∨ ∃ b r, rest = b :: r ∧ inWord b = false := hr.imp id fun ⟨b, r, e, hb⟩ => ⟨b, r, e, (blank_not hb).1⟩
  have hd : rest = [] ∨ ∃ b r, rest = b :: r ∧ isDigit b = false := hr.imp id fun ⟨b, r, e, hb⟩ => ⟨b, r, e, (blank_not hb).2⟩
  have h35 : (c == 35) = false := by simpa using h2
  rcases h3 with ⟨hl, ha⟩ | ⟨hl, hdg, ha⟩ | ⟨hl, hdg, rfl⟩
  · simp only [lexStep, h1, h35, hl, Bool.false_eq_true, if_false, if_true]
    rw [tw_all (c :: r) (by rw [List.all_cons, ha, show inWord c = true from by simp [inWord, hl]]; rfl) hw]
    simp [tokOf, hl, letter_not_digit hl]
  · simp only [lexStep, h1, h35, hl, hdg, Bool.false_eq_true, if_false, if_true]
    rw [tw_all (c :: r) (by rw [List.all_cons, ha, hdg]; rfl) hd]
    simp [tokOf, hl, hdg]
  · simp only [lexStep, h1, h35, hl, hdg, Bool.false_eq_true, if_false]
    simp [tokOf, hl, hdg]

theorem lexK_good {x : List UInt8} (hx : Good x) {rest : List UInt8} (hr : rest = [] ∨ ∃ b r, rest = b :: r ∧ isBlank b = true) (k : Nat) :
    lexK k (x ++ rest) = tokOf k x :: lexK (k + x.length) rest := by
  obtain ⟨c, r, rfl, h⟩ := lexStep_good hx hr k
  rw [List.cons_append] at h ⊢
  rw [lexK_cons, h]
  simp

theorem lexK_blank {b : UInt8} (hb : isBlank b = true) (k : Nat) (r : List UInt8) : lexK k (b :: r) = lexK (k + 1) r := by
  rw [lexK_cons, show lexStep k b (b :: r) = (none, 1) from by simp [lexStep, hb]]
  rfl

/-- What stands between tokens. -/
def seps : List (List UInt8) := [[32], [10], [9, 32], [32, 35, 32, 97, 32, 99, 111, 109, 109, 101, 110, 116, 59, 32, 120, 32, 61, 10], [13, 10]]

theorem lexK_sep {x : List UInt8} (hx : x ∈ seps) (k : Nat) (r : List UInt8) : lexK k (x ++ r) = lexK (k + x.length) r := by
  simp only [seps, List.mem_cons, List.not_mem_nil, or_false] at hx
  rcases hx with rfl | rfl | rfl | rfl | rfl
  · exact lexK_blank (by decide) k r
  · exact lexK_blank (by decide) k r
  · rw [show [9, 32] ++ r = 9 :: 32 :: r from rfl, lexK_blank (by decide), lexK_blank (by decide)]; rfl
  · rw [show [32, 35, 32, 97, 32, 99, 111, 109, 109, 101, 110, 116, 59, 32, 120, 32, 61, 10] ++ r = 32 :: 35 :: 32 :: 97 :: 32 :: 99 :: 111 :: 109 :: 109 :: 101 :: 110 :: 116 :: 59 :: 32 :: 120 :: 32 :: 61 :: 10 :: r from rfl, lexK_blank (by decide), lexK_cons]
    rw [show lexStep (k + 1) 35 (35 :: 32 :: 97 :: 32 :: 99 :: 111 :: 109 :: 109 :: 101 :: 110 :: 116 :: 59 :: 32 :: 120 :: 32 :: 61 :: 10 :: r) = (none, 16) from rfl]
    simp only [Option.toList_none, List.nil_append, List.drop_succ_cons, List.drop_zero]
    rw [lexK_blank (by decide)]
    rfl
  · rw [show [13, 10] ++ r = 13 :: 10 :: r from rfl, lexK_blank (by decide), lexK_blank (by decide)]; rfl

theorem sep_blank {x : List UInt8} (hx : x ∈ seps) : ∃ b r, x = b :: r ∧ isBlank b = true := by
  simp only [seps, List.mem_cons, List.not_mem_nil, or_false] at hx
  rcases hx with rfl | rfl | rfl | rfl | rfl <;> exact ⟨_, _, rfl, by decide⟩

theorem lexK_join : ∀ (ps : List (List UInt8 × List UInt8)) (k : Nat), (∀ p ∈ ps, Good p.1 ∧ p.2 ∈ seps) → (lexK k (ps.flatMap fun p => p.1 ++ p.2)).map Tok.text = ps.map (·.1)
  | [], k, h => rfl
  | p :: ps, k, h => by
    obtain ⟨h1, h2⟩ := h p (by simp)
    obtain ⟨b, r, e, hb⟩ := sep_blank h2
    rw [List.flatMap_cons, List.append_assoc, lexK_good h1 (.inr ⟨b, r ++ ps.flatMap fun p => p.1 ++ p.2, by rw [e]; rfl, hb⟩), lexK_sep h2]
    simp only [List.map_cons]
    rw [lexK_join ps _ fun q hq => h q (by simp [hq])]
    rfl

theorem all_tw {p : UInt8 → Bool} (l : List UInt8) : (l.takeWhile p).all p = true := List.all_takeWhile

theorem lexStep_isGood {k : Nat} {c : UInt8} {r : List UInt8} {t : Tok} {n : Nat} (h : lexStep k c (c :: r) = (some t, n)) : Good t.text := by
  unfold lexStep at h
  split at h
  · cases h
  · rename_i hb
    have hb' : isBlank c = false := by simpa using hb
    split at h
    · cases h
    · rename_i h35
      have h35' : c ≠ 35 := by simpa using h35
      split at h
      · rename_i hl
        injection h with h1 h2
        injection h1 with h1
        subst h1
        exact ⟨c, r.takeWhile inWord, by simp [inWord, hl], hb', h35', .inl ⟨hl, all_tw _⟩⟩
      · rename_i hl
        have hl' : isLetter c = false := by simpa using hl
        split at h
        · rename_i hd
          injection h with h1 h2
          injection h1 with h1
          subst h1
          exact ⟨c, r.takeWhile isDigit, by simp [hd], hb', h35', .inr (.inl ⟨hl', hd, all_tw _⟩)⟩
        · rename_i hd
          have hd' : isDigit c = false := by simpa using hd
          injection h with h1 h2
          injection h1 with h1
          subst h1
          exact ⟨c, [], rfl, hb', h35', .inr (.inr ⟨hl', hd', rfl⟩)⟩

theorem lexL_good : ∀ (f k : Nat) (r : List UInt8), ∀ t ∈ lexL f k r, Good t.text ∧ TokOK t ∧ t.text.length ≤ r.length
  | 0, k, r, t, h => by simp [lexL] at h
  | f + 1, k, [], t, h => by simp [lexL] at h
  | f + 1, k, c :: r, t, h => by
    simp only [lexL, List.mem_append, Option.mem_toList] at h
    cases hst : lexStep k c (c :: r) with
    | mk o n =>
      rw [hst] at h
      simp only at h
      rcases h with h | h
      · have h : o = some t := by simpa using h
        subst h
        obtain ⟨a1, a2, a3⟩ := lexStep_tok hst
        have := lexStep_le k c r
        rw [hst] at this
        exact ⟨lexStep_isGood hst, a1, by rw [a2]; exact this⟩
      · obtain ⟨a1, a2, a3⟩ := lexL_good f _ _ t h
        refine ⟨a1, a2, Nat.le_trans a3 ?_⟩
        rw [List.length_drop]; omega

/-! ### Positions do not matter -/
def Key (t t' : Tok) : Prop := t.text = t'.text ∧ t.word = t'.word ∧ t.num = t'.num
theorem key_of_text {t t' : Tok} (h : TokOK t) (h' : TokOK t') (he : t.text = t'.text) : Key t t' := by
  obtain ⟨c, r, e1, e2, e3⟩ := h
  obtain ⟨c', r', f1, f2, f3⟩ := h'
  have : c = c' := by rw [e1, f1] at he; injection he
  subst this
  exact ⟨he, e2.trans f2.symm, by rw [e3, f3, he]⟩

inductive KL : List Tok → List Tok → Prop where
  | nil : KL [] []
  | cons {t t' : Tok} {l l' : List Tok} (h : Key t t') (hl : KL l l') : KL (t :: l) (t' :: l')

theorem KL.of_text : ∀ {l l' : List Tok}, (∀ t ∈ l, TokOK t) → (∀ t ∈ l', TokOK t) → l.map Tok.text = l'.map Tok.text → KL l l'
  | [], [], _, _, _ => .nil
  | [], t :: l', _, _, h => by simp at h
  | t :: l, [], _, _, h => by simp at h
  | t :: l, t' :: l', h1, h2, h => by
    simp only [List.map_cons, List.cons.injEq] at h
    exact .cons (key_of_text (h1 t (by simp)) (h2 t' (by simp)) h.1) (KL.of_text (fun x hx => h1 x (by simp [hx])) (fun x hx => h2 x (by simp [hx])) h.2)
end Go.Av
