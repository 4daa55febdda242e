/- Part of the proof: Da. No condition. -/
import Derived.Test.YtidbbhdejopdgaaC23
set_option linter.unusedVariables false
set_option linter.unusedSimpArgs false
namespace Go.Av
/-! ### The reference's parser -/
def lexF (s : List UInt8) (k : Nat) : List Tok := lexL (s.length - k + 1) k (s.drop k)
def rpS (s : List UInt8) (a n : Nat) (bad : Bool) : AV := .struct [.str s, i64 a, i64 n, .bool bad]
def rp (s : List UInt8) (l : List Tok) (bad : Bool) : AV := rpS s (peekT s.length l).at_ (peekT s.length l).text.length bad

theorem lexF_end {s : List UInt8} {k : Nat} (h : s.length ≤ k) : lexF s k = [] := by
  unfold lexF
  rw [List.drop_eq_nil_of_le h, show s.length - k + 1 = 0 + 1 from by omega]
  rfl
theorem lexF_eq {s : List UInt8} {k : Nat} {c : UInt8} (h : s[k]? = some c) : lexF s k = (lexStep k c (s.drop k)).1.toList ++ lexF s (k + (lexStep k c (s.drop k)).2) := by
  obtain ⟨hl, rfl⟩ := List.getElem?_eq_some_iff.1 h
  have hd : s.drop k = s[k] :: s.drop (k + 1) := List.drop_eq_getElem_cons hl
  unfold lexF
  rw [hd, lexL]
  congr 1
  have h1 := lexStep_pos k s[k] (s.drop (k + 1))
  rw [← hd, List.drop_drop, hd]
  refine lexL_fuel _ _ _ _ ?_ ?_
  · rw [List.length_drop]; omega
  · rw [List.length_drop]; omega
theorem lexF_blank {s : List UInt8} {k : Nat} {c : UInt8} (h : s[k]? = some c) (hb : isBlank c = true) : lexF s k = lexF s (k + 1) := by
  rw [lexF_eq h, show lexStep k c (s.drop k) = (none, 1) from by simp [lexStep, hb]]
  rfl
theorem lexF_comment {s : List UInt8} {k : Nat} (h : s[k]? = some 35) : lexF s k = lexF s (spanEnd (· != 10) s k) := by
  rw [lexF_eq h, show lexStep k 35 (s.drop k) = (none, ((s.drop k).takeWhile (· != 10)).length) from rfl]
  rfl

theorem aw_loopW {σ : Type} {P : Program} {a : AC} {K : AK} (Inv : σ → Prop) (E : σ → Env) (Hp : σ → AHeap) (μ : σ → Nat) (x0 : σ)
    {env : Env} {H : AHeap} (hi : Inv x0) (he : EnvLe env (E x0)) (hh : HLe (Hp x0) H) (hstep : ∀ x, Inv x → aw P a (loopK Inv E Hp μ (μ x) K) (E x) (Hp x)) : aw P (.loop a) K env H :=
  aw_loop Inv E Hp μ hstep ⟨x0, hi, he, hh⟩
theorem envLe_head {i : Nat} {v : AV} {env : Env} : EnvLe ((i, v) :: env) [(i, v)] := fun j => by
  simp only [Env.get]
  split
  · exact .refl _
  · exact .undef _

theorem envLe_two {i j : Nat} {v w : AV} {env : Env} : EnvLe ((i, v) :: (j, w) :: env) [(i, v), (j, w)] := fun k => by
  simp only [Env.get]
  split
  · exact .refl _
  · split
    · exact .refl _
    · exact .undef _

/-- Blanks and comments are passed over. -/
theorem adv_skip {bp n k : Nat} {s : List UInt8} {bad : Bool} {H : AHeap} {K : AK} (hs : s.length ≤ 1000000) (hk : k ≤ s.length)
    (hK : ∀ p, k ≤ p → p ≤ s.length → lexF s p = lexF s k → (∀ c, s[p]? = some c → isBlank c = false ∧ c ≠ 35) → K .norm [(0, .ptr bp 0 []), (48, .bool false)] (H.set bp (.box (rpS s p n bad)))) :
    aw PP ref17_parser_advance_c21 K [(0, .ptr bp 0 [])] (H.set bp (.box (rpS s k n bad))) := by
  have hml := maxLen_eq
  simp
  refine aw_loopK (fun p : Nat => k ≤ p ∧ p ≤ s.length ∧ lexF s p = lexF s k) (fun _ => [(0, .ptr bp 0 [])]) (fun p => H.set bp (.box (rpS s p n bad))) (fun p => s.length - p) k ⟨Nat.le_refl _, hk, rfl⟩ rfl rfl ?_
  rintro p ⟨hkp, hp, hl⟩
  simp
  refine ref17_parser_advance_c1_lex ?_
  by_cases h : p < s.length
  · have hc : s[p]? = some s[p] := List.getElem?_eq_getElem h
    have hi : (p : Int) < s.length := by omega
    have round : ∀ (q : Nat) (env : Env), p < q → q ≤ s.length → lexF s q = lexF s p → loopK (fun p : Nat => k ≤ p ∧ p ≤ s.length ∧ lexF s p = lexF s k) (fun _ => [(0, .ptr bp 0 [])]) (fun p => H.set bp (.box (rpS s p n bad))) (fun p => s.length - p) (s.length - p) (blockK 0 K) .norm ((0, .ptr bp 0 []) :: env) (H.set bp (.box (rpS s q n bad))) :=
      fun q env h1 h2 h3 => loopK_next q ⟨by omega, h2, h3.trans hl⟩ (by omega) envLe_head (.refl _)
    generalize hLK : loopK (fun p : Nat => k ≤ p ∧ p ≤ s.length ∧ lexF s p = lexF s k) (fun _ => [(0, .ptr bp 0 [])]) (fun p => H.set bp (.box (rpS s p n bad))) (fun p => s.length - p) (s.length - p) (blockK 0 K) = LK at round ⊢
    have hex : ∀ env H', LK (.exit 0) env H' = K .norm env H' := by
      intro env H'; rw [← hLK]; simp
    have pan : ∀ v env H', LK (.pan v) env H' = K (.pan v) env H' := by
      intro v env H'; rw [← hLK]; simp
    simp only [rpS] at round ⊢
    simp [h, hc, hi]
    refine ⟨by omega, _, r17_blank _ _, ?_⟩
    cases hb : isBlank s[p]
    · simp [hc]
      by_cases h35 : s[p] = 35
      · have e35 : (s[p].toNat : Int) = 35 := by rw [h35]; rfl
        simp [e35]
        refine ref17_parser_advance_c4_lex ?_
        simp [h, hc, hi, e35]
        refine aw_loopW (fun q : Nat => p ≤ q ∧ q ≤ s.length ∧ spanEnd (· != 10) s q = spanEnd (· != 10) s p) (fun _ => [(0, .ptr bp 0 [])]) (fun q => H.set bp (.box (.struct [.str s, i64 q, i64 n, .bool bad]))) (fun q => s.length - q) p ⟨Nat.le_refl _, hp, rfl⟩ envLe_head (.refl _) ?_
        rintro q ⟨hpq, hq, hsp⟩
        simp
        refine ref17_parser_advance_c5_lex ?_
        by_cases h2 : q < s.length
        · have hc2 : s[q]? = some s[q] := List.getElem?_eq_getElem h2
          have hi2 : (q : Int) < s.length := by omega
          by_cases h10 : s[q] = 10
          · have e10 : (s[q].toNat : Int) = 10 := by rw [h10]; rfl
            have hpq2 : p < q := by
              rcases Nat.lt_or_ge p q with h | h
              · exact h
              · have : p = q := by omega
                subst this
                rw [h35] at h10; exact absurd h10 (by decide)
            simp [h2, hc2, hi2, e10]
            refine ⟨by omega, round q _ hpq2 hq ?_⟩
            rw [lexF_comment (k := p) (by rw [hc, h35]), ← hsp, spanEnd_stop hc2 (by simp [h10])]
          · have e10 : ¬ (s[q].toNat : Int) = 10 := by
              intro e
              exact h10 (UInt8.toNat_inj.1 (by simpa using (by omega : s[q].toNat = 10)))
            have e10b : ((s[q].toNat : Int) != 10) = true := by simpa using e10
            simp [h2, hc2, hi2, e10, e10b]
            rw [wrap64 (by omega) (by omega)]
            refine ⟨by omega, loopK_same (q + 1) ⟨by omega, by omega, ?_⟩ (by omega) rfl rfl⟩
            rw [← hsp, spanEnd_step hc2 (by simpa using h10)]
        · have : q = s.length := by omega
          subst this
          simp
          refine ⟨by omega, round s.length _ h (Nat.le_refl _) ?_⟩
          rw [lexF_comment (k := p) (by rw [hc, h35]), ← hsp]
          unfold spanEnd
          rw [List.drop_length]
          rfl
      · have e35 : ¬ (s[p].toNat : Int) = 35 := by
          intro e
          exact h35 (UInt8.toNat_inj.1 (by simpa using (by omega : s[p].toNat = 35)))
        have e35b : ((s[p].toNat : Int) == 35) = false := by simpa using e35
        simp [e35, e35b, hex]
        exact hK p hkp hp hl fun c hc' => by rw [hc] at hc'; injection hc' with hc'; subst hc'; exact ⟨hb, h35⟩
    · simp
      refine ref17_parser_advance_c4_lex ?_
      have e35 : ¬ (s[p].toNat : Int) = 35 := by
        have := (isBlank_iff s[p]).1 hb
        omega
      simp [h, hc, hi, e35]
      rw [wrap64 (by omega) (by omega)]
      exact round (p + 1) _ (by omega) (by omega) (lexF_blank hc hb).symm
  · have : p = s.length := by omega
    subst this
    simp [rpS]
    exact ⟨by omega, hK s.length hkp hp hl fun c hc => by simp at hc⟩

theorem adv_letters {bp n p q0 : Nat} {s : List UInt8} {bad : Bool} {H : AHeap} {K : AK} {c : UInt8} {ex : Env} (hs : s.length ≤ 1000000) (hc : s[p]? = some c) (hb : H bp = some (.box (.struct [.str s, i64 p, i64 n, .bool bad]))) (hq0 : p < q0 ∧ q0 ≤ s.length ∧ (isLetter c = true → spanEnd inWord s q0 = spanEnd inWord s p))
    (hK : ∀ (q : Nat) (b : Bool), p < q → q ≤ s.length → (if isLetter c then q = spanEnd inWord s p else q = q0) → K .norm [(0, .ptr bp 0 []), (2, i64 q), (153, .bool b)] H) :
    aw PP ref17_parser_advance_c32 K ((0, .ptr bp 0 []) :: (2, i64 q0) :: ex) H := by
  have hml := maxLen_eq
  obtain ⟨hlt, hcc⟩ := List.getElem?_eq_some_iff.1 hc
  simp
  refine aw_loopW (fun q : Nat => p < q ∧ q ≤ s.length ∧ (isLetter c = true → spanEnd inWord s q = spanEnd inWord s p) ∧ (isLetter c = false → q = q0)) (fun q => [(0, .ptr bp 0 []), (2, i64 q)]) (fun _ => H) (fun q => s.length - q) q0 ⟨hq0.1, hq0.2.1, hq0.2.2, fun _ => rfl⟩ envLe_two (.refl _) ?_
  rintro q ⟨hpq, hq, hsp, hno⟩
  have round : ∀ (r : Nat) (env : Env), q < r → r ≤ s.length → isLetter c = true → spanEnd inWord s r = spanEnd inWord s q → loopK (fun q : Nat => p < q ∧ q ≤ s.length ∧ (isLetter c = true → spanEnd inWord s q = spanEnd inWord s p) ∧ (isLetter c = false → q = q0)) (fun q => [(0, .ptr bp 0 []), (2, i64 q)]) (fun _ => H) (fun q => s.length - q) (s.length - q) (blockK 4 K) .norm ((0, .ptr bp 0 []) :: (2, i64 r) :: env) H :=
    fun r env h1 h2 h3 h4 => loopK_next r ⟨by omega, h2, fun h => h4.trans (hsp h), fun h => by rw [h3] at h; cases h⟩ (by omega) envLe_two (.refl _)
  generalize hLK : loopK (fun q : Nat => p < q ∧ q ≤ s.length ∧ (isLetter c = true → spanEnd inWord s q = spanEnd inWord s p) ∧ (isLetter c = false → q = q0)) (fun q => [(0, .ptr bp 0 []), (2, i64 q)]) (fun _ => H) (fun q => s.length - q) (s.length - q) (blockK 4 K) = LK at round ⊢
  have hex : ∀ env H', LK (.exit 4) env H' = K .norm env H' := by
    intro env H'; rw [← hLK]; simp
  simp
  refine ref17_parser_advance_c25_lex ?_
  simp [hb, hc, hlt, hcc]
  refine ⟨_, r17_letter _ _, ?_⟩
  cases hl : isLetter c
  · simp [hex]
    exact hK q _ hpq hq (by rw [hl]; simpa using hno hl)
  · simp [hb]
    refine ⟨by omega, ?_⟩
    by_cases h : q < s.length
    · have hc2 : s[q]? = some s[q] := List.getElem?_eq_getElem h
      simp [h, hc2, hb]
      refine ⟨_, r17_letter _ _, ?_⟩
      have go : inWord s[q] = true → LK .norm ((0, .ptr bp 0 []) :: (2, i64 (q + 1 : Nat)) :: []) H := fun hw => round (q + 1) _ (by omega) (by omega) hl (spanEnd_step hc2 hw).symm
      have stop : inWord s[q] = false → ∀ b : Bool, K .norm [(0, .ptr bp 0 []), (2, i64 q), (153, .bool b)] H := fun hw b => hK q b hpq hq (by rw [if_pos hl, ← hsp hl, spanEnd_stop hc2 hw])
      cases h2 : isLetter s[q]
      · simp [h, hc2, hb]
        refine ⟨_, r17_digit _ _, ?_⟩
        cases h3 : isDigit s[q]
        · simp [h, hc2, hb]
          rw [wrap64 (by omega) (by omega)]
          refine ⟨fun e => go ?_, fun e => ?_⟩
          · have : s[q] = 95 := UInt8.toNat_inj.1 (by simpa using (by omega : s[q].toNat = 95))
            simp [inWord, this]
          · rw [hex]
            refine stop ?_ _
            have : ¬ s[q] = 95 := fun h => e (by rw [h]; rfl)
            simp [inWord, h2, h3, this]
        · simp
          rw [wrap64 (by omega) (by omega)]
          exact go (by simp [inWord, h3])
      · simp
        rw [wrap64 (by omega) (by omega)]
        exact go (by simp [inWord, h2])
    · have : q = s.length := by omega
      subst this
      simp [hex]
      refine hK s.length _ hpq hq ?_
      rw [if_pos hl, ← hsp hl]
      unfold spanEnd
      rw [List.drop_length]
      rfl

theorem adv_digits {bp n p q0 : Nat} {s : List UInt8} {bad : Bool} {H : AHeap} {K : AK} {c : UInt8} {ex : Env} (hs : s.length ≤ 1000000) (hc : s[p]? = some c) (hb : H bp = some (.box (.struct [.str s, i64 p, i64 n, .bool bad]))) (hq0 : p < q0 ∧ q0 ≤ s.length ∧ (isDigit c = true → spanEnd isDigit s q0 = spanEnd isDigit s p))
    (hK : ∀ (q : Nat) (b : Bool), p < q → q ≤ s.length → (if isDigit c then q = spanEnd isDigit s p else q = q0) → K .norm [(0, .ptr bp 0 []), (2, i64 q), (183, .bool b)] H) :
    aw PP ref17_parser_advance_c40 K ((0, .ptr bp 0 []) :: (2, i64 q0) :: ex) H := by
  have hml := maxLen_eq
  obtain ⟨hlt, hcc⟩ := List.getElem?_eq_some_iff.1 hc
  simp
  refine aw_loopW (fun q : Nat => p < q ∧ q ≤ s.length ∧ (isDigit c = true → spanEnd isDigit s q = spanEnd isDigit s p) ∧ (isDigit c = false → q = q0)) (fun q => [(0, .ptr bp 0 []), (2, i64 q)]) (fun _ => H) (fun q => s.length - q) q0 ⟨hq0.1, hq0.2.1, hq0.2.2, fun _ => rfl⟩ envLe_two (.refl _) ?_
  rintro q ⟨hpq, hq, hsp, hno⟩
  have round : ∀ (r : Nat) (env : Env), q < r → r ≤ s.length → isDigit c = true → spanEnd isDigit s r = spanEnd isDigit s q → loopK (fun q : Nat => p < q ∧ q ≤ s.length ∧ (isDigit c = true → spanEnd isDigit s q = spanEnd isDigit s p) ∧ (isDigit c = false → q = q0)) (fun q => [(0, .ptr bp 0 []), (2, i64 q)]) (fun _ => H) (fun q => s.length - q) (s.length - q) (blockK 6 K) .norm ((0, .ptr bp 0 []) :: (2, i64 r) :: env) H :=
    fun r env h1 h2 h3 h4 => loopK_next r ⟨by omega, h2, fun h => h4.trans (hsp h), fun h => by rw [h3] at h; cases h⟩ (by omega) envLe_two (.refl _)
  generalize hLK : loopK (fun q : Nat => p < q ∧ q ≤ s.length ∧ (isDigit c = true → spanEnd isDigit s q = spanEnd isDigit s p) ∧ (isDigit c = false → q = q0)) (fun q => [(0, .ptr bp 0 []), (2, i64 q)]) (fun _ => H) (fun q => s.length - q) (s.length - q) (blockK 6 K) = LK at round ⊢
  have hex : ∀ env H', LK (.exit 6) env H' = K .norm env H' := by
    intro env H'; rw [← hLK]; simp
  simp
  refine ref17_parser_advance_c33_lex ?_
  simp [hb, hc, hlt, hcc]
  refine ⟨_, r17_digit _ _, ?_⟩
  cases hl : isDigit c
  · simp [hex]
    exact hK q _ hpq hq (by rw [hl]; simpa using hno hl)
  · simp [hb]
    refine ⟨by omega, ?_⟩
    by_cases h : q < s.length
    · have hc2 : s[q]? = some s[q] := List.getElem?_eq_getElem h
      simp [h, hc2, hb]
      refine ⟨_, r17_digit _ _, ?_⟩
      cases h2 : isDigit s[q]
      · simp [hex]
        exact hK q _ hpq hq (by rw [if_pos hl, ← hsp hl, spanEnd_stop hc2 h2])
      · simp
        rw [wrap64 (by omega) (by omega)]
        exact round (q + 1) _ (by omega) (by omega) hl (spanEnd_step hc2 h2).symm
    · have : q = s.length := by omega
      subst this
      simp [hex]
      refine hK s.length _ hpq hq ?_
      rw [if_pos hl, ← hsp hl]
      unfold spanEnd
      rw [List.drop_length]
      rfl

theorem r17_advance {bp a n : Nat} {s : List UInt8} {bad : Bool} {H : AHeap} {post : ARes → AHeap → Prop} (hb : H bp = some (.box (rpS s a n bad))) (hs : s.length ≤ 1000000) (hk : a + n ≤ s.length)
    (hp : post (.ret (.tuple [])) (H.set bp (.box (rp s (lexF s (a + n)) bad)))) : ACalls PP ref17_parser_advance_id [.ptr bp 0 []] H post := by
  have hml := maxLen_eq
  refine ref17_parser_advance_enter rfl ?_
  simp [ref17_parser_advance_rs, -ref17_parser_advance_c48_eq]
  refine ref17_parser_advance_c0_lex ?_
  simp [hb, rpS, -ref17_parser_advance_c48_eq]
  rw [wrap64 (by omega) (by omega), show (a : Int) + n = ((a + n : Nat) : Int) from by omega]
  rw [ref17_parser_advance_c48_eq]
  refine adv_skip (n := n) hs hk fun p hkp hple hl hch => ?_
  rw [← hl] at hp
  have q1 : (H.set bp (.box (rpS s p n bad))) bp = some (.box (.struct [.str s, i64 p, i64 n, .bool bad])) := by rw [AHeap.set_same]; rfl
  have fin : ∀ (m t : Nat) (b : Bool), t = 183 ∨ t = 105 → p + m ≤ s.length → rp s (lexF s p) bad = rpS s p m bad → aw PP ref17_parser_advance_c45 (retK [] post) [(0, .ptr bp 0 []), (2, i64 (p + m : Nat)), (t, .bool b)] (H.set bp (.box (rpS s p n bad))) := by
    intro m t b ht hm hrp
    rw [hrp] at hp
    rcases ht with rfl | rfl <;>
    · simp [rpS]
      rw [wrap64 (by omega) (by omega), show (p : Int) + m - p = m from by omega]
      exact ⟨_, .refl _, _, .refl _, hp⟩
  simp [rpS, -ref17_parser_advance_c46_eq, -ref17_parser_advance_c45_eq]
  by_cases h : p < s.length
  · have hc : s[p]? = some s[p] := List.getElem?_eq_getElem h
    have hi : (p : Int) < s.length := by omega
    obtain ⟨hb1, hb2⟩ := hch _ hc
    simp [rpS, hi, h, -ref17_parser_advance_c32_eq, -ref17_parser_advance_c40_eq, -ref17_parser_advance_c45_eq]
    intro _
    refine ⟨?_, fun h' => by omega⟩
    rw [wrap64 (by omega) (by omega), show (p : Int) + 1 = ((p + 1 : Nat) : Int) from by omega]
    have tok : ∀ m x w num, lexStep p s[p] (s.drop p) = (some ⟨p, x, w, num⟩, m) → x.length = m → rp s (lexF s p) bad = rpS s p m bad := by
      intro m x w num h1 h2
      rw [lexF_eq hc, h1]
      simp [rp, h2]
    have h35 : (s[p] == 35) = false := by simpa using hb2
    have lele : ∀ P : UInt8 → Bool, ((s.drop p).takeWhile P).length ≤ s.length - p := fun P => by have := tw_len (p := P) (s.drop p); simpa using this
    refine adv_letters (q0 := p + 1) (n := n) (bad := bad) hs hc q1 ⟨by omega, by omega, fun hl => (spanEnd_step hc (by simp [inWord, hl])).symm⟩ fun q b hpq hq hq1 => ?_
    show aw PP ref17_parser_advance_c40 _ _ _
    refine adv_digits (q0 := q) (n := n) (bad := bad) hs hc q1 ⟨hpq, hq, fun hd => ?_⟩ fun r b2 hpr hr hr1 => ?_
    · have hnl : isLetter s[p] = false := by
        cases hl : isLetter s[p] with
        | false => rfl
        | true =>
          have h1 := (isLetter_iff _).1 hl
          have h2 := (isDigit_iff _).1 hd
          omega
      rw [hnl] at hq1
      simp at hq1
      rw [hq1, spanEnd_step hc hd]
    · rw [seqK_norm]
      obtain ⟨m, rfl⟩ : ∃ m, r = p + m := ⟨r - p, by omega⟩
      refine fin m 183 b2 (.inl rfl) hr ?_
      cases hlt : isLetter s[p]
      · rw [hlt] at hq1
        simp at hq1
        cases hdg : isDigit s[p]
        · rw [hdg] at hr1
          simp at hr1
          refine tok m [s[p]] false (-1) ?_ (by simp; omega)
          rw [show m = 1 from by omega]
          simp only [lexStep, hb1, h35, hlt, hdg]; rfl
        · rw [hdg] at hr1
          simp [spanEnd] at hr1
          subst hr1
          exact tok _ _ false _ (by simp only [lexStep, hb1, h35, hlt, hdg]; rfl) rfl
      · have hdg : isDigit s[p] = false := by
          cases hd : isDigit s[p] with
          | false => rfl
          | true =>
            have h1 := (isLetter_iff _).1 hlt
            have h2 := (isDigit_iff _).1 hd
            omega
        rw [hdg] at hr1
        rw [hlt] at hq1
        simp at hr1
        simp [spanEnd] at hq1
        have hm : m = ((s.drop p).takeWhile inWord).length := by omega
        subst hm
        exact tok _ _ true _ (by simp only [lexStep, hb1, h35, hlt]; rfl) rfl
  · have : p = s.length := by omega
    subst this
    simp [rpS, -ref17_parser_advance_c45_eq]
    intro _
    refine fin 0 105 _ (.inr rfl) (by omega) ?_
    rw [lexF_end (Nat.le_refl _)]
    rfl
end Go.Av

namespace Go.Av
def TokOK (t : Tok) : Prop := ∃ c r, t.text = c :: r ∧ t.word = isLetter c ∧ t.num = if isDigit c then numVal t.text else -1
def Suf (s : List UInt8) (l : List Tok) : Prop := ∃ k, k ≤ s.length ∧ l = lexF s k

theorem letter_not_digit {c : UInt8} (h : isLetter c = true) : isDigit c = false := by
  cases hd : isDigit c with
  | false => rfl
  | true =>
    have h1 := (isLetter_iff _).1 h
    have h2 := (isDigit_iff _).1 hd
    omega

theorem lexStep_tok {k : Nat} {c : UInt8} {r : List UInt8} {t : Tok} {n : Nat} (h : lexStep k c (c :: r) = (some t, n)) : TokOK t ∧ t.text.length = n ∧ t.text = (c :: r).take n := by
  unfold lexStep at h
  split at h
  · cases h
  · split at h
    · cases h
    · split at h
      · rename_i hl
        injection h with h1 h2
        injection h1 with h1
        subst h1 h2
        refine ⟨⟨c, r.takeWhile inWord, by simp [inWord, hl], hl.symm, by simp [letter_not_digit hl]⟩, rfl, (take_tw _).symm⟩
      · rename_i hl
        have hl' : isLetter c = false := by simpa using hl
        split at h
        · rename_i hd
          injection h with h1 h2
          injection h1 with h1
          subst h1 h2
          exact ⟨⟨c, r.takeWhile isDigit, by simp [hd], hl'.symm, by simp [hd]⟩, rfl, (take_tw _).symm⟩
        · rename_i hd
          have hd' : isDigit c = false := by simpa using hd
          injection h with h1 h2
          injection h1 with h1
          subst h1 h2
          exact ⟨⟨c, [], rfl, hl'.symm, by simp [hd']⟩, rfl, rfl⟩

theorem lexF_cons (s : List UInt8) : ∀ (m k : Nat), s.length - k ≤ m → k ≤ s.length → ∀ {t : Tok} {r : List Tok}, lexF s k = t :: r →
    TokOK t ∧ t.at_ + t.text.length ≤ s.length ∧ t.text = (s.take (t.at_ + t.text.length)).drop t.at_ ∧ r = lexF s (t.at_ + t.text.length) ∧ 0 < t.text.length ∧ k ≤ t.at_
  | m, k, hm, hk, t, r, h => by
    by_cases hlt : k < s.length
    · have hc : s[k]? = some s[k] := List.getElem?_eq_getElem hlt
      have hd : s.drop k = s[k] :: s.drop (k + 1) := List.drop_eq_getElem_cons hlt
      have h1 := lexStep_pos k s[k] (s.drop (k + 1))
      have h2 := lexStep_le k s[k] (s.drop (k + 1))
      rw [lexF_eq hc] at h
      rw [← hd] at h1 h2
      rw [List.length_drop] at h2
      cases hst : lexStep k s[k] (s.drop k) with
      | mk o n =>
        rw [hst] at h h1 h2
        simp only at h h1 h2
        cases o with
        | none =>
          cases m with
          | zero => omega
          | succ m =>
            obtain ⟨a1, a2, a3, a4, a5, a6⟩ := lexF_cons s m (k + n) (by omega) (by omega) h
            exact ⟨a1, a2, a3, a4, a5, by omega⟩
        | some t' =>
          simp at h
          obtain ⟨rfl, rfl⟩ := h
          have hat := lexStep_at (show (lexStep k s[k] (s.drop k)).1 = some t' from by rw [hst])
          obtain ⟨b1, b2, b3⟩ := lexStep_tok (show lexStep k s[k] (s[k] :: s.drop (k + 1)) = (some t', n) from by rw [← hd]; exact hst)
          rw [b2, hat]
          refine ⟨b1, by omega, ?_, rfl, by omega, Nat.le_refl _⟩
          rw [b3, ← hd, List.drop_take, show k + n - k = n from by omega]
    · rw [lexF_end (by omega)] at h
      cases h

theorem suf_cons {s : List UInt8} {t : Tok} {r : List Tok} (h : Suf s (t :: r)) : TokOK t ∧ t.at_ + t.text.length ≤ s.length ∧ t.text = (s.take (t.at_ + t.text.length)).drop t.at_ ∧ r = lexF s (t.at_ + t.text.length) ∧ Suf s r := by
  obtain ⟨k, hk, he⟩ := h
  obtain ⟨a1, a2, a3, a4, a5, a6⟩ := lexF_cons s _ k (Nat.le_refl _) hk he.symm
  exact ⟨a1, a2, a3, a4, _, a2, a4⟩
theorem suf_tail {s : List UInt8} {l : List Tok} (h : Suf s l) : Suf s l.tail := by
  cases l with
  | nil => exact h
  | cons t r => exact (suf_cons h).2.2.2.2
theorem suf_lex (s : List UInt8) : Suf s (lex s) := ⟨0, Nat.zero_le _, by simp [lexF, lex]⟩
theorem suf_peek {s : List UInt8} {l : List Tok} (h : Suf s l) : (peekT s.length l).at_ + (peekT s.length l).text.length ≤ s.length := by
  cases l with
  | nil => simp
  | cons t r => exact (suf_cons h).2.1

section
variable {bp : Nat} {s : List UInt8} {l : List Tok} {bad : Bool} {H : AHeap} {post : ARes → AHeap → Prop}
theorem r17_adv (hb : H bp = some (.box (rp s l bad))) (hs : s.length ≤ 1000000) (hl : Suf s l)
    (hp : post (.ret (.tuple [])) (H.set bp (.box (rp s l.tail bad)))) : ACalls PP ref17_parser_advance_id [.ptr bp 0 []] H post := by
  refine r17_advance hb hs (suf_peek hl) ?_
  cases l with
  | nil =>
    simp only [peekT_nil, List.length_nil, Nat.add_zero]
    rw [lexF_end (Nat.le_refl _)]
    exact hp
  | cons t r =>
    simp only [peekT_cons, List.tail_cons] at hp ⊢
    rw [← (suf_cons hl).2.2.2.1]
    exact hp

theorem r17_text (hb : H bp = some (.box (rp s l bad))) (hs : s.length ≤ 1000000) (hl : Suf s l) : Pure ref17_parser_text_id [.ptr bp 0 []] H (.str (peekT s.length l).text) := by
  have hml := maxLen_eq
  have h1 := suf_peek hl
  have h2 : (peekT s.length l).text = (s.take ((peekT s.length l).at_ + (peekT s.length l).text.length)).drop (peekT s.length l).at_ := by
    cases l with
    | nil => simp
    | cons t r => exact (suf_cons hl).2.2.1
  refine ref17_parser_text_enter rfl ?_
  simp [ref17_parser_text_rs]
  refine ref17_parser_text_c1_lex ?_
  unfold rp rpS at hb
  generalize (peekT s.length l).at_ = a at *
  generalize (peekT s.length l).text = x at *
  simp [hb]
  rw [wrap64 (by omega) (by omega), show (a : Int) + x.length = ((a + x.length : Nat) : Int) from by omega]
  have e1 : ((a : Int) + x.length).toNat = a + x.length := by omega
  simp [e1]
  rw [← h2]
  refine ⟨?_, .refl _⟩
  omega

theorem r17_is (x : List UInt8) (hb : H bp = some (.box (rp s l bad))) (hs : s.length ≤ 1000000) (hl : Suf s l) : Pure ref17_parser_is_id [.ptr bp 0 [], .str x] H (.bool (!bad && (peekT s.length l).text == x)) := by
  refine ref17_parser_is_enter rfl ?_
  have ht := r17_text hb hs hl
  unfold rp rpS at hb
  cases bad
  · simp [ref17_parser_is_rs, hb]
    refine ht.use ?_
    simp
  · simp [ref17_parser_is_rs, hb]

set_option maxHeartbeats 1000000 in
theorem r17_isName (hb : H bp = some (.box (rp s l bad))) (hs : s.length ≤ 1000000) (hl : Suf s l) : Pure ref17_parser_isName_id [.ptr bp 0 []] H (.bool (!bad && isNameT (peekT s.length l))) := by
  have hml := maxLen_eq
  refine ref17_parser_isName_enter rfl ?_
  have ht := r17_text hb hs hl
  unfold rp rpS at hb
  simp [ref17_parser_isName_rs]
  refine ht.use ?_
  cases bad
  · cases l with
    | nil =>
      simp [hb, isNameT]
    | cons t r =>
      obtain ⟨⟨c, x, hx, hw, hn⟩, _⟩ := suf_cons hl
      simp [hb, hx, isNameT, hw, reserved]
      refine (r17_letter c H).use ?_
      cases hlt : isLetter c
      · simp
      · generalize c :: x = w
        unfold kwStart kwLeft kwRight kwNone kwPrice
        by_cases h1 : w = [115, 116, 97, 114, 116]
        · subst h1; simp
        · by_cases h2 : w = [108, 101, 102, 116]
          · subst h2; simp
          · by_cases h3 : w = [114, 105, 103, 104, 116]
            · subst h3; simp
            · by_cases h4 : w = [110, 111, 110, 101]
              · subst h4; simp
              · by_cases h5 : w = [112, 114, 105, 99, 101]
                · subst h5; simp
                · have b1 : (w != [115, 116, 97, 114, 116]) = true := by simpa using h1
                  have b2 : (w != [108, 101, 102, 116]) = true := by simpa using h2
                  have b3 : (w != [114, 105, 103, 104, 116]) = true := by simpa using h3
                  have b4 : (w != [110, 111, 110, 101]) = true := by simpa using h4
                  have b5 : (w != [112, 114, 105, 99, 101]) = true := by simpa using h5
                  have c1 : (w == [115, 116, 97, 114, 116]) = false := by simpa using h1
                  have c2 : (w == [108, 101, 102, 116]) = false := by simpa using h2
                  have c3 : (w == [114, 105, 103, 104, 116]) = false := by simpa using h3
                  have c4 : (w == [110, 111, 110, 101]) = false := by simpa using h4
                  have c5 : (w == [112, 114, 105, 99, 101]) = false := by simpa using h5
                  simp [b1, b2, b3, b4, b5, c1, c2, c3, c4, c5]
  · simp [hb]

theorem r17_take (x : List UInt8) (hb : H bp = some (.box (rp s l bad))) (hs : s.length ≤ 1000000) (hl : Suf s l)
    (hp : post (.ret (.tuple [])) (H.set bp (.box (if !bad && (peekT s.length l).text == x then rp s l.tail bad else rp s l true)))) : ACalls PP ref17_parser_take_id [.ptr bp 0 [], .str x] H post := by
  refine ref17_parser_take_enter rfl ?_
  simp [ref17_parser_take_rs]
  refine (r17_is x hb hs hl).use ?_
  cases h : (!bad && (peekT s.length l).text == x)
  · rw [h] at hp
    simp [hb, rp, rpS]
    exact ⟨_, .refl _, _, .refl _, hp⟩
  · rw [h] at hp
    simp
    refine r17_adv hb hs hl ?_
    simp
    exact ⟨_, .refl _, _, .refl _, hp⟩

theorem r17_name (hb : H bp = some (.box (rp s l bad))) (hs : s.length ≤ 1000000) (hl : Suf s l)
    (hok : (!bad && isNameT (peekT s.length l)) = true → post (.ret (.str (peekT s.length l).text)) (H.set bp (.box (rp s l.tail bad))))
    (hno : (!bad && isNameT (peekT s.length l)) = false → post (.ret (.str [])) (H.set bp (.box (rp s l true)))) : ACalls PP ref17_parser_name_id [.ptr bp 0 []] H post := by
  refine ref17_parser_name_enter rfl ?_
  simp [ref17_parser_name_rs]
  refine (r17_isName hb hs hl).use ?_
  cases h : (!bad && isNameT (peekT s.length l))
  · simp [hb, rp, rpS]
    exact ⟨_, .refl _, _, .refl _, hno h⟩
  · simp
    refine (r17_text hb hs hl).use ?_
    simp
    refine r17_adv hb hs hl ?_
    simp
    exact ⟨_, .refl _, _, .refl _, hok h⟩
end
end Go.Av
