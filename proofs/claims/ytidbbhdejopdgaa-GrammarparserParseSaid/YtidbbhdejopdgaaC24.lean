/- Part of the proof: C24. No condition. -/
import Derived.Test.YtidbbhdejopdgaaPL7
import Derived.Test.YtidbbhdejopdgaaD3
import Derived.Test.YtidbbhdejopdgaaD4
import Derived.Test.YtidbbhdejopdgaaC23
set_option linter.unusedVariables false
set_option linter.unusedSimpArgs false
namespace Go.Av
open Go Go.Proofs

theorem sep_at {n : Int} (h0 : 0 ≤ n) (h5 : n < 5) : ∃ x, x ∈ seps ∧ seps[n.toNat]? = some x ∧ x.length ≤ 19 := by
  obtain ⟨k, rfl⟩ : ∃ k : Nat, n = k := ⟨n.toNat, by omega⟩
  have hk : k < 5 := by omega
  have hl : seps.length = 5 := rfl
  refine ⟨seps[k]'(by omega), List.getElem_mem _, by simp [hl, hk], ?_⟩
  have : ∀ x ∈ seps, x.length ≤ 19 := by decide
  exact this _ (List.getElem_mem _)

structure WsSt where
  t : List UInt8
  ps : List (List UInt8 × List UInt8)
def wsI (s s0 : List UInt8) (x : WsSt) : Prop := x.t = s0 ++ x.ps.flatMap (fun p => p.1 ++ p.2) ∧ (∀ p ∈ x.ps, p.2 ∈ seps) ∧ x.ps.length ≤ (lex s).length ∧ x.ps.map (·.1) = ((lex s).take x.ps.length).map Tok.text ∧ x.t.length ≤ 19 + x.ps.length * 319

theorem progM_levels {e F : Nat} {l : List Tok} {f : GF} (h : progM e F l = .ok f) : (f.levels.flatMap GL.tokens).length ≤ l.length := by
  unfold progM at h
  split at h
  · cases h
  · rename_i l1 h1
    obtain ⟨t0, rfl, _⟩ := expM_ok h1
    split at h
    · split at h
      · cases h
      · rename_i l2 h2
        obtain ⟨t1, e1, _⟩ := expM_ok h2
        split at h
        · cases h
        · rename_i lv l3 h3
          have := levelsM_tok e F _ _ _ h3
          split at h
          · cases h
          · injection h with h
            subst h
            have hl := congrArg List.length e1
            simp at hl ⊢
            simp at this
            omega
    · cases h

theorem parseM_levels (s : List UInt8) : ∀ x ∈ (parseM s).1.levels, x.tokens.length ≤ s.length := by
  intro x hx
  have key : ((parseM s).1.levels.flatMap GL.tokens).length ≤ s.length := by
    unfold parseM
    split
    · simp
    · rename_i f hf
      have := progM_levels hf
      have := lex_len s
      split
      · simp only; omega
      · simp
  have : x.tokens.length ≤ ((parseM s).1.levels.flatMap GL.tokens).length := by
    obtain ⟨a, b, e⟩ := List.append_of_mem hx
    rw [e]
    simp
    omega
  omega

theorem wrap_u64_nonneg (n : Int) : 0 ≤ IntKind.u64.wrap n := by
  simp [IntKind.wrap, IntKind.signed, IntKind.bits]; omega

theorem law_WhiteSpace (s : List UInt8) (seed : Int) (h0 : 0 ≤ seed) (H : AHeap) : Pure law17_GrammarparserWhiteSpace_id [.str s, .int .u64 seed] H (.bool true) := by
  refine law17_GrammarparserWhiteSpace_enter rfl ?_
  have hml := maxLen_eq
  by_cases hlong : (300 : Int) < s.length
  · simp [law17_GrammarparserWhiteSpace_rs, hlong]
    intro _
    refine (law_awake H).use ?_
    simp
  · simp [law17_GrammarparserWhiteSpace_rs, hlong]
    intro hm
    have hs : s.length ≤ 1000000 := by omega
    refine (r17_Tokens s hs H).use ?_
    simp
    have hsp : [AV.str [32], AV.str [10], AV.str [9, 32], AV.str [32, 35, 32, 97, 32, 99, 111, 109, 109, 101, 110, 116, 59, 32, 120, 32, 61, 10], AV.str [13, 10]] = seps.map AV.str := rfl
    rw [hsp]
    have t0 := Int.tmod_nonneg 5 h0
    have t5 := Int.tmod_lt_of_pos seed (show (0 : Int) < 5 by omega)
    obtain ⟨s0, hs0, hat, hl0⟩ := sep_at t0 t5
    refine ⟨t0, .str s0, by simp [hat], ⟨rfl, rfl⟩, ?_⟩
    have hlen := lex_len s
    refine aw_loopK (wsI s s0)
      (fun x => [(0, .str s), (1, .int .u64 seed), (5, .list 1 ((lex s).map fun t => .str t.text)), (6, .list 1 (seps.map AV.str)), (7, .str x.t), (8, i64 x.ps.length)]) (fun _ => H) (fun x => (lex s).length - x.ps.length)
      ⟨s0, []⟩ ⟨by simp, by simp, by simp, by simp, by simpa using hl0⟩ rfl rfl ?_
    rintro ⟨t, ps⟩ ⟨e1, e2, e3, e4, e5⟩
    simp only at e1 e2 e3 e4 e5
    by_cases h : ps.length < (lex s).length
    · have h' : ¬ (lex s).length ≤ ps.length := by omega
      have hc : (lex s)[ps.length]? = some (lex s)[ps.length] := List.getElem?_eq_getElem h
      simp [h, h']
      intro _
      refine law17_GrammarparserWhiteSpace_c13_lex ?_
      simp [h, hc]
      have htl : (lex s)[ps.length].text.length ≤ 300 := by
        have := (lexL_good _ _ _ _ (List.getElem_mem h)).2.2
        omega
      generalize (lex s)[ps.length] = tk at *
      have hn : ps.length < 300 := by omega
      have hw := wrap_u64_nonneg ((ps.length : Int).tmod 40)
      generalize IntKind.u64.wrap ((ps.length : Int).tmod 40) = w at *
      have hf : 0 ≤ seed.fdiv (2 ^ min w.toNat IntKind.u64.bits) := Int.fdiv_nonneg h0 (Int.le_of_lt (Int.pow_pos (by decide)))
      generalize seed.fdiv (2 ^ min w.toNat IntKind.u64.bits) = d at *
      have d0 := Int.tmod_nonneg 5 hf
      have d5 := Int.tmod_lt_of_pos d (show (0 : Int) < 5 by omega)
      obtain ⟨s1, hs1, hat1, hl1⟩ := sep_at d0 d5
      refine ⟨by omega, hw, d0, .str s1, ⟨s1, hat1, rfl⟩, ⟨rfl, rfl⟩, ?_, ?_⟩
      · simp; omega
      · rw [wrap64 (by omega) (by omega)]
        refine loopK_same ⟨t ++ tk.text ++ s1, ps ++ [(tk.text, s1)]⟩ ⟨?_, ?_, ?_, ?_, ?_⟩ ?_ (by simp) rfl
        · simp [e1]
        · intro p hp
          rcases List.mem_append.1 hp with h | h
          · exact e2 p h
          · simp at h; subst h; exact hs1
        · simp; omega
        · simp only [List.length_append, List.length_cons, List.length_nil, List.map_append, e4, List.map_cons, List.map_nil, Nat.zero_add]
          rw [List.take_add_one, hc]
          simp
        · simp; omega
        · simp; omega
    · have hp : ps.length = (lex s).length := by omega
      simp [hp, -law17_GrammarparserWhiteSpace_c25_eq]
      intro _
      have hsl : t.length ≤ 1000000 := by rw [hp] at e5; omega
      have e4' : ps.map (·.1) = (lex s).map Tok.text := by rw [e4, hp, List.take_length]
      have hlaw := law_space hs0 e2 e4'
      rw [← e1] at hlaw
      refine (gp_Parse s hs H).use ?_
      obtain ⟨⟨f, a1, c1⟩, hp1⟩ : ∃ p, parseM s = p := ⟨_, rfl⟩
      obtain ⟨⟨g, a2, c2⟩, hp2⟩ : ∃ p, parseM t = p := ⟨_, rfl⟩
      rw [hp1, hp2] at hlaw
      obtain ⟨h1, h2⟩ := hlaw
      simp only at h1 h2
      subst h1 h2
      rw [hp1]
      simp [allocQ, -law17_GrammarparserWhiteSpace_c25_eq]
      intro b1 hb1
      have q1 : (H.set b1 (.box f.av)) b1 = some (.box f.av) := AHeap.set_same _ _ _
      have hl1 : HLe H (H.set b1 (.box f.av)) := .set hb1
      generalize H.set b1 (.box f.av) = H1 at *
      simp [-law17_GrammarparserWhiteSpace_c24_eq]
      refine (gp_Parse t hsl H1).use ?_
      rw [hp2]
      simp [allocQ, -law17_GrammarparserWhiteSpace_c24_eq]
      intro b2 hb2
      have n12 : b1 ≠ b2 := ne_of_some_none q1 hb2
      have q2 : (H1.set b2 (.box f.av)) b1 = some (.box f.av) := by rw [AHeap.set_ne _ _ n12]; exact q1
      have q3 : (H1.set b2 (.box f.av)) b2 = some (.box f.av) := AHeap.set_same _ _ _
      have hl2 : HLe H (H1.set b2 (.box f.av)) := hl1.trans (.set hb2)
      generalize H1.set b2 (.box f.av) = H2 at *
      simp
      refine (law_awake _).use ?_
      simp [q2, q3]
      refine (r16_Equal_self f ?_ H2).use ?_
      · intro x hx
        have := parseM_levels s x (by rw [hp1]; exact hx)
        omega
      · simp
        exact hl2
end Go.Av
