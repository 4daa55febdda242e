/- Part of the proof: PL4. No condition. -/
import Derived.Test.YtidbbhdejopdgaaPL3
set_option linter.unusedVariables false
set_option linter.unusedSimpArgs false
namespace Go.Av
/-! ### The tokens of a text's beginning, and of a text with more behind it -/
theorem tw_take {p : UInt8 → Bool} : ∀ (l : List UInt8) (n : Nat), (l.takeWhile p).length ≤ n → (l.take n).takeWhile p = l.takeWhile p
  | [], n, h => by simp
  | c :: r, n, h => by
    cases n with
    | zero =>
      have : List.takeWhile p (c :: r) = [] := List.eq_nil_of_length_eq_zero (by omega)
      rw [this]; rfl
    | succ n =>
      simp only [List.take_succ_cons, List.takeWhile_cons] at h ⊢
      split
      · rename_i hp
        rw [if_pos hp] at h
        rw [tw_take r n (by simpa using h)]
      · rfl

theorem tw_app {p : UInt8 → Bool} {b : UInt8} (hb : p b = false) : ∀ (l m : List UInt8), (l ++ b :: m).takeWhile p = l.takeWhile p
  | [], m => by simp [hb]
  | c :: r, m => by
    simp only [List.cons_append, List.takeWhile_cons]
    split
    · rw [tw_app hb r m]
    · rfl

theorem tw_app_lt {p : UInt8 → Bool} : ∀ (l m : List UInt8), (l.takeWhile p).length < l.length → (l ++ m).takeWhile p = l.takeWhile p
  | [], m, h => by simp at h
  | c :: r, m, h => by
    simp only [List.cons_append, List.takeWhile_cons] at h ⊢
    split
    · rename_i hp
      rw [if_pos hp] at h
      rw [tw_app_lt r m (by simpa using h)]
    · rfl

theorem lexStep_le (k : Nat) (c : UInt8) (r : List UInt8) : (lexStep k c (c :: r)).2 ≤ (c :: r).length := by
  unfold lexStep
  split
  · simp
  · split
    · exact tw_len _
    · split
      · exact tw_len _
      · split
        · exact tw_len _
        · simp

theorem lexStep_take (k : Nat) (c : UInt8) (l : List UInt8) (n : Nat) (h : (lexStep k c l).2 ≤ n) : lexStep k c (l.take n) = lexStep k c l := by
  unfold lexStep at h ⊢
  split
  · rfl
  · rename_i h1
    rw [if_neg h1] at h
    split
    · rename_i h2
      rw [if_pos h2] at h
      rw [tw_take _ _ h]
    · rename_i h2
      rw [if_neg h2] at h
      split
      · rename_i h3
        rw [if_pos h3] at h
        rw [tw_take _ _ h]
      · rename_i h3
        rw [if_neg h3] at h
        split
        · rename_i h4
          rw [if_pos h4] at h
          rw [tw_take _ _ h]
        · rfl

theorem lexStep_at {k : Nat} {c : UInt8} {l : List UInt8} {t : Tok} (h : (lexStep k c l).1 = some t) : t.at_ = k := by
  unfold lexStep at h
  split at h
  · cases h
  · split at h
    · cases h
    · split at h
      · injection h with h; subst h; rfl
      · split at h
        · injection h with h; subst h; rfl
        · injection h with h; subst h; rfl

theorem lexL_at : ∀ (f k : Nat) (r : List UInt8) (t : Tok), t ∈ lexL f k r → k ≤ t.at_ ∧ t.at_ < k + r.length
  | 0, k, r, t, h => by simp [lexL] at h
  | f + 1, k, [], t, h => by simp [lexL] at h
  | f + 1, k, c :: r, t, h => by
    simp only [lexL, List.mem_append, Option.mem_toList] at h
    rcases h with h | h
    · have := lexStep_at (by simpa using h)
      simp; omega
    · have h1 := lexL_at f _ _ t h
      have h2 := lexStep_le k c r
      rw [List.length_drop] at h1
      simp only [List.length_cons] at h1 h2 ⊢
      omega

/-- At a token the text may be cut. -/
theorem lexL_cut : ∀ (f k : Nat) (r : List UInt8) (t : Tok), r.length < f → t ∈ lexL f k r → lexL f k r = lexL f k (r.take (t.at_ - k)) ++ lexL f t.at_ (r.drop (t.at_ - k))
  | 0, k, r, t, hf, h => by omega
  | f + 1, k, [], t, hf, h => by simp [lexL] at h
  | f + 1, k, c :: r, t, hf, h => by
    have h0 := h
    simp only [lexL, List.mem_append, Option.mem_toList] at h
    have h2 := lexStep_le k c r
    have h3 := lexStep_pos k c r
    rcases h with h | h
    · have h1 := lexStep_at (by simpa using h)
      rw [h1]
      simp [lexL]
    · have h1 := lexL_at f _ _ t h
      have hdl : ((c :: r).drop (lexStep k c (c :: r)).2).length < f := by
        rw [List.length_drop]; simp only [List.length_cons] at hf h2 ⊢; omega
      have ih := lexL_cut f _ _ t hdl h
      obtain ⟨n, hn⟩ : ∃ n, t.at_ = k + (lexStep k c (c :: r)).2 + n := ⟨t.at_ - (k + (lexStep k c (c :: r)).2), by omega⟩
      generalize hst : lexStep k c (c :: r) = st at *
      obtain ⟨o, m⟩ := st
      simp only at *
      have e1 : t.at_ - k = m + n := by omega
      have e2 : t.at_ - (k + m) = n := by omega
      rw [e2] at ih
      rw [e1]
      have hm : m + n = (m + n - 1) + 1 := by omega
      have ht : (c :: r).take (m + n) = c :: r.take (m + n - 1) := by rw [hm]; rfl
      have hs : lexStep k c (c :: r.take (m + n - 1)) = (o, m) := by
        rw [← ht, lexStep_take _ _ _ _ (by rw [hst]; simp only; omega), hst]
      have e3 : (c :: r.take (m + n - 1)).drop m = ((c :: r).drop m).take n := by
        rw [← ht, List.take_drop]
      have e4 : (c :: r).drop (m + n) = ((c :: r).drop m).drop n := by rw [List.drop_drop]
      rw [ht]
      have lhs : lexL (f + 1) k (c :: r) = o.toList ++ lexL f (k + m) ((c :: r).drop m) := by rw [lexL, hst]
      have mid : lexL (f + 1) k (c :: r.take (m + n - 1)) = o.toList ++ lexL f (k + m) (((c :: r).drop m).take n) := by rw [lexL, hs, e3]
      rw [lhs, mid, ih, List.append_assoc, e4]
      congr 2
      refine lexL_fuel _ _ _ _ ?_ ?_
      · rw [List.length_drop]; omega
      · rw [List.length_drop]; omega

theorem lex_cut {s : List UInt8} {t : Tok} (h : t ∈ lex s) : ∃ X, lex s = lex (s.take t.at_) ++ X := by
  have h1 := lexL_cut _ _ _ t (by omega) h
  rw [Nat.sub_zero] at h1
  refine ⟨lexL (s.length + 1) t.at_ (s.drop t.at_), h1.trans ?_⟩
  congr 1
  refine lexL_fuel _ _ _ _ ?_ ?_
  · rw [List.length_take]; omega
  · omega

/-- Text behind a space. -/
theorem lexL_more (m : List UInt8) : ∀ (f f' k : Nat) (r : List UInt8), r.length < f → (r ++ 32 :: m).length < f' → ∃ X, lexL f' k (r ++ 32 :: m) = lexL f k r ++ X
  | 0, f', k, r, hf, hf' => by omega
  | f + 1, 0, k, r, hf, hf' => by omega
  | f + 1, f' + 1, k, [], hf, hf' => ⟨lexL (f' + 1) k ([] ++ 32 :: m), by rw [show lexL (f + 1) k [] = [] from rfl, List.nil_append, List.nil_append]⟩
  | f + 1, f' + 1, k, c :: r, hf, hf' => by
    have h2 := lexStep_le k c r
    have h3 := lexStep_pos k c r
    by_cases hs : lexStep k c ((c :: r) ++ 32 :: m) = lexStep k c (c :: r)
    · simp only [List.cons_append, lexL] at hs ⊢
      rw [hs]
      obtain ⟨X, hX⟩ := lexL_more m f f' (k + (lexStep k c (c :: r)).2) ((c :: r).drop (lexStep k c (c :: r)).2) (by rw [List.length_drop]; simp only [List.length_cons] at *; omega) (by
        simp only [List.length_append, List.length_drop, List.length_cons] at *; omega)
      refine ⟨X, ?_⟩
      rw [List.append_assoc, ← hX, ← List.drop_append_of_le_length h2, List.cons_append]
    · have h35 : lexStep k c (c :: r) = (none, (c :: r).length) := by
        unfold lexStep at hs ⊢
        split
        · rename_i h1; rw [if_pos h1, if_pos h1] at hs; exact absurd rfl hs
        · rename_i h1
          rw [if_neg h1, if_neg h1] at hs
          split
          · rename_i h4
            rw [if_pos h4, if_pos h4] at hs
            by_cases hl : ((c :: r).takeWhile (· != 10)).length < (c :: r).length
            · rw [tw_app_lt _ _ hl] at hs
              exact absurd rfl hs
            · have := tw_len (p := (· != 10)) (c :: r)
              rw [show ((c :: r).takeWhile (· != 10)).length = (c :: r).length from by omega]
          · rename_i h4
            rw [if_neg h4, if_neg h4] at hs
            split
            · rename_i h5
              rw [if_pos h5, if_pos h5, tw_app (by decide)] at hs
              exact absurd rfl hs
            · rename_i h5
              rw [if_neg h5, if_neg h5] at hs
              split
              · rename_i h6
                rw [if_pos h6, if_pos h6, tw_app (by decide)] at hs
                exact absurd rfl hs
              · rename_i h6
                rw [if_neg h6, if_neg h6] at hs
                exact absurd rfl hs
      have : lexL (f + 1) k (c :: r) = [] := by
        rw [lexL, h35]
        simp only [Option.toList_none, List.nil_append, List.drop_length]
        cases f <;> rfl
      exact ⟨_, by rw [this, List.nil_append]⟩

theorem lex_more (s m : List UInt8) : ∃ X, lex (s ++ 32 :: m) = lex s ++ X := lexL_more m _ _ 0 s (by omega) (by omega)
end Go.Av
