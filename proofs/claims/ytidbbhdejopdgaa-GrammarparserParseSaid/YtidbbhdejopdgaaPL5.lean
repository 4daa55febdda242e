/- Part of the proof: PL5. No condition. -/
import Derived.Test.YtidbbhdejopdgaaPLa
import Derived.Test.YtidbbhdejopdgaaC21
set_option linter.unusedVariables false
set_option linter.unusedSimpArgs false
namespace Go.Av
/-! ### The two laws on errors -/
theorem parseM_err {s : List UInt8} (h : (parseM s).2.2 = 3) : ∃ k, progM s.length 3000003 (lex s) = .error k ∧ (parseM s).2.1 = (k : Int) := by
  unfold parseM at h ⊢
  cases hp : progM s.length 3000003 (lex s) with
  | error k => exact ⟨k, rfl, by simp⟩
  | ok f =>
    rw [hp] at h
    simp only at h
    cases hv : validM f <;> rw [hv] at h <;> simp at h

theorem parseM_of_err {s : List UInt8} {k : Nat} (h : progM s.length 3000003 (lex s) = .error k) : parseM s = (⟨[], [], []⟩, (k : Int), 3) := by
  unfold parseM
  rw [h]

theorem parseM_codes (s : List UInt8) : (parseM s).2.2 = 0 ∨ (parseM s).2.2 = 1 ∨ (parseM s).2.2 = 3 := by
  unfold parseM
  split
  · simp
  · split <;> simp

/-- The position of an error: the end, or a token. -/
theorem err_at {s : List UInt8} {k : Nat} (hs : s.length ≤ 1000000) (h : progM s.length 3000003 (lex s) = .error k) : k = s.length ∨ ∃ t ∈ lex s, t.at_ = k := by
  have hl := lex_len s
  exact progM_bd (S := fun k => k = s.length ∨ ∃ t ∈ lex s, t.at_ = k) (.inl rfl) (fun t ht => .inr ⟨t, ht, rfl⟩) (by omega) h

theorem err_le {s : List UInt8} {k : Nat} (hs : s.length ≤ 1000000) (h : progM s.length 3000003 (lex s) = .error k) : k ≤ s.length := by
  rcases err_at hs h with h1 | ⟨t, ht, rfl⟩
  · omega
  · have := lexL_at _ _ _ t ht; omega

theorem law_final {s m : List UInt8} (h : (parseM s).2.2 = 3) (hlt : (parseM s).2.1 < s.length) : parseM (s ++ 32 :: m) = (⟨[], [], []⟩, (parseM s).2.1, 3) := by
  obtain ⟨k, hk, ha⟩ := parseM_err h
  rw [ha] at hlt ⊢
  obtain ⟨X, hX⟩ := lex_more s m
  refine parseM_of_err ?_
  rw [hX]
  exact progM_ext (e := s.length) _ _ _ (by omega) hk

theorem law_viable {s : List UInt8} (hs : s.length ≤ 1000000) (h : (parseM s).2.2 = 3) : 0 ≤ (parseM s).2.1 ∧ (parseM s).2.1 ≤ s.length ∧
    ((parseM (s.take (parseM s).2.1.toNat)).2.2 = 0 ∨ (parseM (s.take (parseM s).2.1.toNat)).2.2 = 1 ∨ (parseM (s.take (parseM s).2.1.toNat)).2.1 = (parseM s).2.1) := by
  obtain ⟨k, hk, ha⟩ := parseM_err h
  have hle := err_le hs hk
  rw [ha]
  refine ⟨by omega, by omega, ?_⟩
  rw [Int.toNat_natCast]
  rcases err_at hs hk with h1 | ⟨t, ht, h1⟩
  · right; right
    rw [h1, List.take_length, ha, h1]
  · rcases parseM_codes (s.take k) with h2 | h2 | h2
    · exact .inl h2
    · exact .inr (.inl h2)
    · right; right
      obtain ⟨j, hj, hja⟩ := parseM_err h2
      have hlen : (s.take k).length = k := by rw [List.length_take]; omega
      have hjk := err_le (by rw [hlen]; omega) hj
      rw [hja]
      rw [hlen] at hj hjk
      by_cases hlt : j < k
      · obtain ⟨X, hX⟩ := lex_cut ht
        rw [h1] at hX
        have := progM_ext (e := k) (e' := s.length) (X := X) _ _ _ hlt hj
        rw [← hX, hk] at this
        injection this with this
        omega
      · have : j = k := by omega
        rw [this]
end Go.Av
