/- Part of the proof: C4. No condition. -/
import Derived.Test.YtidbbhdejopdgaaC3
set_option linter.unusedVariables false
set_option linter.unusedSimpArgs false
namespace Go.Av

structure LexSt where
  v : AV
  H : AHeap
  at_ : Nat
  done : List Tok

theorem blank_cases (c : UInt8) : isBlank c = true ∨ (isBlank c = false ∧ ¬ (c.toNat : Int) = 32 ∧ ¬ (c.toNat : Int) = 9 ∧ ¬ (c.toNat : Int) = 13 ∧ ¬ (c.toNat : Int) = 10) := by
  cases h : isBlank c
  · refine .inr ⟨rfl, ?_⟩
    have := mt (isBlank_iff c).2 (by simp [h])
    omega
  · exact .inl rfl

theorem take_drop_span {p : UInt8 → Bool} {s : List UInt8} {x : Nat} : (s.take (spanEnd p s x)).drop x = (s.drop x).takeWhile p := by
  unfold spanEnd
  rw [List.drop_take, Nat.add_sub_cancel_left, take_tw]

def lexI (s : List UInt8) (H0 : AHeap) (x : LexSt) : Prop := Grows H0 79 4 (x.done.map Tok.av) x.v x.H ∧ x.at_ ≤ s.length ∧ x.done.length ≤ x.at_ ∧ x.done ++ lexL (s.length - x.at_ + 1) x.at_ (s.drop x.at_) = lex s
def lexE (s : List UInt8) (x : LexSt) : Env := [(0, .str s), (3, x.v), (4, i64 x.at_)]

theorem gp_lex (s : List UInt8) (hs : s.length ≤ 1000000) (H0 : AHeap) : Pure grammarparser_lex_id [.str s] H0 (.list 4 ((lex s).map Tok.av)) := by
  refine grammarparser_lex_enter rfl ?_
  simp [grammarparser_lex_rs]
  refine aw_loopK (lexI s H0) (lexE s) (fun x => x.H) (fun x => s.length - x.at_) ⟨.nils, H0, 0, []⟩ ⟨Grows.nil H0 _ _, by simp, by simp, by simp [lex]⟩ rfl rfl ?_
  rintro ⟨v, H, x, done⟩ ⟨hg, hx, hn, he⟩
  simp only at hg hx he hn
  by_cases h : x < s.length
  · have hr := lex_round h
    have hsp : ∀ p, spanEnd p s x = x + ((s.drop x).takeWhile p).length := fun p => rfl
    have htl : ∀ p : UInt8 → Bool, ((s.drop x).takeWhile p).length ≤ s.length - x := fun p => by have := tw_len (p := p) (s.drop x); simpa using this
    generalize hK : (blockK 0 (seqK PP grammarparser_lex_c47 (retK [ARV.tmp 2] fun r H' => r = ARes.ret (AV.list 4 (List.map Tok.av (lex s))) ∧ H' = H0))) = KK
    simp [h, allocQ, lexE]
    intro _ b hb
    rw [wrap64 (by omega) (by omega), show (x : Int) + 1 = ((x + 1 : Nat) : Int) from by omega]
    have hb0 := hg.base hb
    generalize hc : s[x] = c at *
    have hp := lexStep_pos x c (s.drop (x + 1))
    have hd : s.drop x = c :: s.drop (x + 1) := by rw [← hc]; exact List.drop_eq_getElem_cons h
    rw [← hd] at hp
    have step : ∀ {env : Env} {H' : AHeap}, (lexStep x c (s.drop x)).1 = none → env = [(0, .str s), (3, v), (4, i64 (x + (lexStep x c (s.drop x)).2 : Nat))] → HLe H H' →
        x + (lexStep x c (s.drop x)).2 ≤ s.length →
        loopK (lexI s H0) (lexE s) (fun x => x.H) (fun x => s.length - x.at_) (s.length - x) KK .norm env H' := by
      intro env H' h1 h2 h3 h5
      refine loopK_next ⟨v, H, x + (lexStep x c (s.drop x)).2, done⟩ ⟨hg, h5, by simp only; omega, ?_⟩ (by simp only; omega) (h2 ▸ EnvLe.refl _) h3
      simp only
      rw [← he, hr, h1]
      rfl
    have tail : ∀ (e : Nat) (w : Bool) (num : Int) (ex : Env), (ex = [] ∨ ex = [(49, .bool false)]) → lexStep x c (s.drop x) = (some ⟨x, (s.take e).drop x, w, num⟩, e - x) → x + 1 ≤ e → e ≤ s.length →
        aw PP grammarparser_lex_c37 (blockK 1 (loopK (lexI s H0) (lexE s) (fun x => x.H) (fun x => s.length - x.at_) (s.length - x) KK)) ([(0, .str s), (3, v), (4, i64 x), (5, .ptr b 0 []), (6, i64 e)] ++ ex) (H.set b (.box (.struct [i64 x, .str [], .bool w, i64 num]))) := by
      intro e w num ex hex hst he1 he2
      have run : ∀ env, env = [(0, .str s), (3, v), (6, i64 e)] → appQ (H.set b (.box (.struct [i64 x, .str ((s.take e).drop x), .bool w, i64 num]))) (opK PP [⟨some 3, none, .mov (.t 69)⟩] (regK (seqK PP grammarparser_lex_c35 (blockK 1 (loopK (lexI s H0) (lexE s) (fun x => x.H) (fun x => s.length - x.at_) (s.length - x) KK))) [5, 66, 67, 68, 69]) (panK (seqK PP grammarparser_lex_c35 (blockK 1 (loopK (lexI s H0) (lexE s) (fun x => x.H) (fun x => s.length - x.at_) (s.length - x) KK)))) [(0, .str s), (3, v), (5, .ptr b 0 []), (6, i64 e), (66, v), (67, .struct [i64 x, .str ((s.take e).drop x), .bool w, i64 num]), (68, .list 4 [.struct [i64 x, .str ((s.take e).drop x), .bool w, i64 num]])] (some 69)) 79 4 40 v [.struct [i64 x, .str ((s.take e).drop x), .bool w, i64 num]] := by
        intro env _
        refine (hg.add (o := .box (.struct [i64 x, .str ((s.take e).drop x), .bool w, i64 num])) hb).app (by simp; omega) fun v' H' hg' => ?_
        obtain ⟨H3, hg3, hle⟩ := hg'.drop hb0
        simp
        refine loopK_next ⟨v', H3, e, done ++ [⟨x, (s.take e).drop x, w, num⟩]⟩ ⟨?_, he2, by simp; omega, ?_⟩ (by simp only; omega) (EnvLe.refl _) hle
        · simpa [Tok.av] using hg3
        · simp only [List.append_assoc]
          rw [← he, hr, hst]
          simp only
          rw [show x + (e - x) = e from by omega]
          rfl
      rcases hex with rfl | rfl <;>
      · simp
        refine ⟨by omega, ?_⟩
        exact run _ rfl
    rcases blank_cases c with hbl | ⟨hbl, n1, n2, n3, n4⟩
    · have hst : lexStep x c (s.drop x) = (none, 1) := by simp [lexStep, hbl]
      have : (c.toNat : Int) = 32 ∨ (¬ (c.toNat : Int) = 32 ∧ (c.toNat : Int) = 9) ∨ (¬ (c.toNat : Int) = 32 ∧ ¬ (c.toNat : Int) = 9 ∧ (c.toNat : Int) = 13) ∨ (¬ (c.toNat : Int) = 32 ∧ ¬ (c.toNat : Int) = 9 ∧ ¬ (c.toNat : Int) = 13 ∧ (c.toNat : Int) = 10) := by
        have := (isBlank_iff c).1 hbl
        omega
      rcases this with e | ⟨e1, e⟩ | ⟨e1, e2, e⟩ | ⟨e1, e2, e3, e⟩ <;>
      · simp [*]
        rw [wrap64 (by omega) (by omega)]
        exact step (by rw [hst]) (by rw [hst]; simp) (.set hb) (by rw [hst]; simp; omega)
    · simp [n1, n2, n3, n4]
      by_cases n5 : (c.toNat : Int) = 35
      · have hc35 : (c == 35) = true := by rw [u8_eq]; simpa using n5
        have hst : lexStep x c (s.drop x) = (none, ((s.drop x).takeWhile (· != 10)).length) := by
          simp only [lexStep, hbl, hc35]; rfl
        simp [n5]
        refine (gp_span _ _ (fun b H => gp_lex_1 b H) s x hx _).use ?_
        simp [hsp]
        exact step (by rw [hst]) (by rw [hst]; simp) (.set hb) (by rw [hst]; have := htl (· != 10); omega)
      · have hc35 : (c == 35) = false := by rw [u8_eq]; simpa using n5
        simp [n5]
        refine (gp_letter c _).use ?_
        cases hlt : isLetter c
        · simp
          refine (gp_digit c _).use ?_
          cases hdg : isDigit c
          · have hst : lexStep x c (s.drop x) = (some ⟨x, [c], false, -1⟩, 1) := by
              simp only [lexStep, hbl, hc35, hlt, hdg]; rfl
            simp [-grammarparser_lex_c37_eq]
            simpa [-grammarparser_lex_c37_eq] using tail (x + 1) false (-1) _ (.inr rfl) (by rw [hst, List.drop_take, hd]; simp) (by omega) (by omega)
          · have hst : lexStep x c (s.drop x) = (some ⟨x, (s.drop x).takeWhile isDigit, false, numVal ((s.drop x).takeWhile isDigit)⟩, ((s.drop x).takeWhile isDigit).length) := by
              simp only [lexStep, hbl, hc35, hlt, hdg]; rfl
            rw [hst] at hp
            simp
            refine (gp_span _ _ (fun b H => gp_digit b H) s x hx _).use ?_
            simp
            have h1 := hsp isDigit
            have h2 := htl isDigit
            refine ⟨by omega, ?_⟩
            refine (gp_value _ (fun c hc => ?_) _).use ?_
            · rw [take_drop_span] at hc
              exact List.all_eq_true.1 List.all_takeWhile c hc
            · simp [-grammarparser_lex_c37_eq, take_drop_span]
              exact tail (spanEnd isDigit s x) false _ [] (.inl rfl) (by rw [hst, take_drop_span, h1, Nat.add_sub_cancel_left]) (by omega) (by omega)
        · have hst : lexStep x c (s.drop x) = (some ⟨x, (s.drop x).takeWhile inWord, true, -1⟩, ((s.drop x).takeWhile inWord).length) := by
            simp only [lexStep, hbl, hc35, hlt]; rfl
          rw [hst] at hp
          simp
          refine (gp_span _ _ (fun b H => gp_lex_2 b H) s x hx _).use ?_
          simp [-grammarparser_lex_c37_eq]
          have h1 := hsp inWord
          have h2 := htl inWord
          exact tail (spanEnd inWord s x) true (-1) [] (.inl rfl) (by rw [hst, take_drop_span, h1]; simp) (by omega) (by omega)
  · simp [h, lexE]
    intro _
    rw [List.drop_eq_nil_of_le (by omega)] at he
    have hd : done = lex s := by
      rw [← he]
      simp [lexL]
    subst hd
    refine ⟨?_, hg.sub, hg.HLe⟩
    rcases hg with ⟨rfl, _⟩ | ⟨_, _, rfl, _⟩ <;> rfl
end Go.Av
