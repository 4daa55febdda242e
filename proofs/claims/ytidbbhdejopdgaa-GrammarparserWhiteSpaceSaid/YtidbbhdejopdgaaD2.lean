/- Part of the proof: D2. No condition. -/
import Derived.Test.YtidbbhdejopdgaaD1
set_option linter.unusedVariables false
set_option linter.unusedSimpArgs false
namespace Go.Av
def TokOK (t : Tok) : Prop := ∃ c r, t.text = c :: r ∧ t.word = isLetter c ∧ t.num = if isDigit c then numVal t.text else -1
def Suf (s : List UInt8) (l : List Tok) : Prop := ∃ k, k ≤ s.length ∧ l = lexF s k

theorem letter_not_digit {c : UInt8} (h : isLetter c = true) : isDigit c = false := by
  cases hd : isDigit c with
  | false => rfl
  | true =>
    have h1 := (isLetter_iff _).1 h
    have h2 := (isDigit_iff _).1 hd
    omega

theorem lexStep_tok {k : Nat} {c : UInt8} {r : List UInt8} {t : Tok} {n : Nat} (h : lexStep k c (c :: r) = (some t, n)) : TokOK t ∧ t.text.length = n ∧ t.text = (c :: r).take n := by
  unfold lexStep at h
  split at h
  · cases h
  · split at h
    · cases h
    · split at h
      · rename_i hl
        injection h with h1 h2
        injection h1 with h1
        subst h1 h2
        refine ⟨⟨c, r.takeWhile inWord, by simp [inWord, hl], hl.symm, by simp [letter_not_digit hl]⟩, rfl, (take_tw _).symm⟩
      · rename_i hl
        have hl' : isLetter c = false := by simpa using hl
        split at h
        · rename_i hd
          injection h with h1 h2
          injection h1 with h1
          subst h1 h2
          exact ⟨⟨c, r.takeWhile isDigit, by simp [hd], hl'.symm, by simp [hd]⟩, rfl, (take_tw _).symm⟩
        · rename_i hd
          have hd' : isDigit c = false := by simpa using hd
          injection h with h1 h2
          injection h1 with h1
          subst h1 h2
          exact ⟨⟨c, [], rfl, hl'.symm, by simp [hd']⟩, rfl, rfl⟩

theorem lexF_cons (s : List UInt8) : ∀ (m k : Nat), s.length - k ≤ m → k ≤ s.length → ∀ {t : Tok} {r : List Tok}, lexF s k = t :: r →
    TokOK t ∧ t.at_ + t.text.length ≤ s.length ∧ t.text = (s.take (t.at_ + t.text.length)).drop t.at_ ∧ r = lexF s (t.at_ + t.text.length) ∧ 0 < t.text.length ∧ k ≤ t.at_
  | m, k, hm, hk, t, r, h => by
    by_cases hlt : k < s.length
    · have hc : s[k]? = some s[k] := List.getElem?_eq_getElem hlt
      have hd : s.drop k = s[k] :: s.drop (k + 1) := List.drop_eq_getElem_cons hlt
      have h1 := lexStep_pos k s[k] (s.drop (k + 1))
      have h2 := lexStep_le k s[k] (s.drop (k + 1))
      rw [lexF_eq hc] at h
      rw [← hd] at h1 h2
      rw [List.length_drop] at h2
      cases hst : lexStep k s[k] (s.drop k) with
      | mk o n =>
        rw [hst] at h h1 h2
        simp only at h h1 h2
        cases o with
        | none =>
          cases m with
          | zero => omega
          | succ m =>
            obtain ⟨a1, a2, a3, a4, a5, a6⟩ := lexF_cons s m (k + n) (by omega) (by omega) h
            exact ⟨a1, a2, a3, a4, a5, by omega⟩
        | some t' =>
          simp at h
          obtain ⟨rfl, rfl⟩ := h
          have hat := lexStep_at (show (lexStep k s[k] (s.drop k)).1 = some t' from by rw [hst])
          obtain ⟨b1, b2, b3⟩ := lexStep_tok (show lexStep k s[k] (s[k] :: s.drop (k + 1)) = (some t', n) from by rw [← hd]; exact hst)
          rw [b2, hat]
          refine ⟨b1, by omega, ?_, rfl, by omega, Nat.le_refl _⟩
          rw [b3, ← hd, List.drop_take, show k + n - k = n from by omega]
    · rw [lexF_end (by omega)] at h
      cases h

theorem suf_cons {s : List UInt8} {t : Tok} {r : List Tok} (h : Suf s (t :: r)) : TokOK t ∧ t.at_ + t.text.length ≤ s.length ∧ t.text = (s.take (t.at_ + t.text.length)).drop t.at_ ∧ r = lexF s (t.at_ + t.text.length) ∧ Suf s r := by
  obtain ⟨k, hk, he⟩ := h
  obtain ⟨a1, a2, a3, a4, a5, a6⟩ := lexF_cons s _ k (Nat.le_refl _) hk he.symm
  exact ⟨a1, a2, a3, a4, _, a2, a4⟩
theorem suf_tail {s : List UInt8} {l : List Tok} (h : Suf s l) : Suf s l.tail := by
  cases l with
  | nil => exact h
  | cons t r => exact (suf_cons h).2.2.2.2
theorem suf_lex (s : List UInt8) : Suf s (lex s) := ⟨0, Nat.zero_le _, by simp [lexF, lex]⟩
theorem suf_peek {s : List UInt8} {l : List Tok} (h : Suf s l) : (peekT s.length l).at_ + (peekT s.length l).text.length ≤ s.length := by
  cases l with
  | nil => simp
  | cons t r => exact (suf_cons h).2.1

section
variable {bp : Nat} {s : List UInt8} {l : List Tok} {bad : Bool} {H : AHeap} {post : ARes → AHeap → Prop}
theorem r17_adv (hb : H bp = some (.box (rp s l bad))) (hs : s.length ≤ 1000000) (hl : Suf s l)
    (hp : post (.ret (.tuple [])) (H.set bp (.box (rp s l.tail bad)))) : ACalls PP ref17_parser_advance_id [.ptr bp 0 []] H post := by
  refine r17_advance hb hs (suf_peek hl) ?_
  cases l with
  | nil =>
    simp only [peekT_nil, List.length_nil, Nat.add_zero]
    rw [lexF_end (Nat.le_refl _)]
    exact hp
  | cons t r =>
    simp only [peekT_cons, List.tail_cons] at hp ⊢
    rw [← (suf_cons hl).2.2.2.1]
    exact hp

theorem r17_text (hb : H bp = some (.box (rp s l bad))) (hs : s.length ≤ 1000000) (hl : Suf s l) : Pure ref17_parser_text_id [.ptr bp 0 []] H (.str (peekT s.length l).text) := by
  have hml := maxLen_eq
  have h1 := suf_peek hl
  have h2 : (peekT s.length l).text = (s.take ((peekT s.length l).at_ + (peekT s.length l).text.length)).drop (peekT s.length l).at_ := by
    cases l with
    | nil => simp
    | cons t r => exact (suf_cons hl).2.2.1
  refine ref17_parser_text_enter rfl ?_
  simp [ref17_parser_text_rs]
  refine ref17_parser_text_c1_lex ?_
  unfold rp rpS at hb
  generalize (peekT s.length l).at_ = a at *
  generalize (peekT s.length l).text = x at *
  simp [hb]
  rw [wrap64 (by omega) (by omega), show (a : Int) + x.length = ((a + x.length : Nat) : Int) from by omega]
  have e1 : ((a : Int) + x.length).toNat = a + x.length := by omega
  simp [e1]
  rw [← h2]
  refine ⟨?_, .refl _⟩
  omega

theorem r17_is (x : List UInt8) (hb : H bp = some (.box (rp s l bad))) (hs : s.length ≤ 1000000) (hl : Suf s l) : Pure ref17_parser_is_id [.ptr bp 0 [], .str x] H (.bool (!bad && (peekT s.length l).text == x)) := by
  refine ref17_parser_is_enter rfl ?_
  have ht := r17_text hb hs hl
  unfold rp rpS at hb
  cases bad
  · simp [ref17_parser_is_rs, hb]
    refine ht.use ?_
    simp
  · simp [ref17_parser_is_rs, hb]

set_option maxHeartbeats 1000000 in
theorem r17_isName (hb : H bp = some (.box (rp s l bad))) (hs : s.length ≤ 1000000) (hl : Suf s l) : Pure ref17_parser_isName_id [.ptr bp 0 []] H (.bool (!bad && isNameT (peekT s.length l))) := by
  have hml := maxLen_eq
  refine ref17_parser_isName_enter rfl ?_
  have ht := r17_text hb hs hl
  unfold rp rpS at hb
  simp [ref17_parser_isName_rs]
  refine ht.use ?_
  cases bad
  · cases l with
    | nil =>
      simp [hb, isNameT]
    | cons t r =>
      obtain ⟨⟨c, x, hx, hw, hn⟩, _⟩ := suf_cons hl
      simp [hb, hx, isNameT, hw, reserved]
      refine (r17_letter c H).use ?_
      cases hlt : isLetter c
      · simp
      · generalize c :: x = w
        unfold kwStart kwLeft kwRight kwNone kwPrice
        by_cases h1 : w = [115, 116, 97, 114, 116]
        · subst h1; simp
        · by_cases h2 : w = [108, 101, 102, 116]
          · subst h2; simp
          · by_cases h3 : w = [114, 105, 103, 104, 116]
            · subst h3; simp
            · by_cases h4 : w = [110, 111, 110, 101]
              · subst h4; simp
              · by_cases h5 : w = [112, 114, 105, 99, 101]
                · subst h5; simp
                · have b1 : (w != [115, 116, 97, 114, 116]) = true := by simpa using h1
                  have b2 : (w != [108, 101, 102, 116]) = true := by simpa using h2
                  have b3 : (w != [114, 105, 103, 104, 116]) = true := by simpa using h3
                  have b4 : (w != [110, 111, 110, 101]) = true := by simpa using h4
                  have b5 : (w != [112, 114, 105, 99, 101]) = true := by simpa using h5
                  have c1 : (w == [115, 116, 97, 114, 116]) = false := by simpa using h1
                  have c2 : (w == [108, 101, 102, 116]) = false := by simpa using h2
                  have c3 : (w == [114, 105, 103, 104, 116]) = false := by simpa using h3
                  have c4 : (w == [110, 111, 110, 101]) = false := by simpa using h4
                  have c5 : (w == [112, 114, 105, 99, 101]) = false := by simpa using h5
                  simp [b1, b2, b3, b4, b5, c1, c2, c3, c4, c5]
  · simp [hb]

theorem r17_take (x : List UInt8) (hb : H bp = some (.box (rp s l bad))) (hs : s.length ≤ 1000000) (hl : Suf s l)
    (hp : post (.ret (.tuple [])) (H.set bp (.box (if !bad && (peekT s.length l).text == x then rp s l.tail bad else rp s l true)))) : ACalls PP ref17_parser_take_id [.ptr bp 0 [], .str x] H post := by
  refine ref17_parser_take_enter rfl ?_
  simp [ref17_parser_take_rs]
  refine (r17_is x hb hs hl).use ?_
  cases h : (!bad && (peekT s.length l).text == x)
  · rw [h] at hp
    simp [hb, rp, rpS]
    exact ⟨_, .refl _, _, .refl _, hp⟩
  · rw [h] at hp
    simp
    refine r17_adv hb hs hl ?_
    simp
    exact ⟨_, .refl _, _, .refl _, hp⟩

theorem r17_name (hb : H bp = some (.box (rp s l bad))) (hs : s.length ≤ 1000000) (hl : Suf s l)
    (hok : (!bad && isNameT (peekT s.length l)) = true → post (.ret (.str (peekT s.length l).text)) (H.set bp (.box (rp s l.tail bad))))
    (hno : (!bad && isNameT (peekT s.length l)) = false → post (.ret (.str [])) (H.set bp (.box (rp s l true)))) : ACalls PP ref17_parser_name_id [.ptr bp 0 []] H post := by
  refine ref17_parser_name_enter rfl ?_
  simp [ref17_parser_name_rs]
  refine (r17_isName hb hs hl).use ?_
  cases h : (!bad && isNameT (peekT s.length l))
  · simp [hb, rp, rpS]
    exact ⟨_, .refl _, _, .refl _, hno h⟩
  · simp
    refine (r17_text hb hs hl).use ?_
    simp
    refine r17_adv hb hs hl ?_
    simp
    exact ⟨_, .refl _, _, .refl _, hok h⟩
end
end Go.Av
