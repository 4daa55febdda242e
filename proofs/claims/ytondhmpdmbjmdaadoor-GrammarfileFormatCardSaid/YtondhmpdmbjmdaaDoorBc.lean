/- Part of the proof: Bc. No condition. -/
import Derived.Test.YtondhmpdmbjmdaaDoorB5
import Derived.Test.YtondhmpdmbjmdaaDoorCf
set_option linter.unusedVariables false
set_option linter.unusedSimpArgs false
namespace Go.Av
open Go Go.Proofs
structure WSt where
  done : List GE
  rest : List GE

theorem w_expr : ∀ (n : Nat) (x : GE), SizeOf.sizeOf x ≤ n → Writes gW_expr_id [x.av] (fmtE x)
  | 0, .mk k nm kids, h => by simp at h
  | n + 1, .mk k nm kids, h => by
    intro b s H hb hl
    have hml := maxLen_eq
    refine gW_expr_enter rfl ?_
    simp [gW_expr_rs, allocQ]
    intro b3 hb3
    have n3 : b ≠ b3 := ne_of_some_none hb hb3
    have q3 : (H.set b3 (.box (GE.mk k nm kids).av)) b3 = some (.box (.struct [i64 k, .str nm, .list 3 (kids.map GE.av)])) := by rw [AHeap.set_same, GE.av_mk]
    have qb : (H.set b3 (.box (GE.mk k nm kids).av)) b = some (.bld s 69 5) := by rw [AHeap.set_ne _ _ n3]; exact hb
    have hle : HLe H (H.set b3 (.box (GE.mk k nm kids).av)) := .set hb3
    generalize H.set b3 (.box (GE.mk k nm kids).av) = H1 at q3 qb hle ⊢
    simp only [GE.kids]
    intro hm
    rw [fmtE_mk] at hl
    refine aw_loopK (fun x : WSt => kids = x.done ++ x.rest) (fun x => [(0, .ptr b 0 []), (3, .ptr b3 0 []), (7, .list 3 (kids.map GE.av)), (8, i64 kids.length), (9, i64 x.done.length)])
      (fun x => H1.set b (.bld (s ++ fmtL k 0 x.done) 69 5)) (fun x => x.rest.length) ⟨[], kids⟩ rfl rfl (by simp [fmtL_nil]; exact (set_self qb).symm) ?_
    rintro ⟨done, rest⟩ he
    simp only at he
    simp only
    cases rest with
    | nil =>
      simp at he
      subst he
      have hlt : ¬ (kids.length : Int) < kids.length := by omega
      simp [hlt, -gW_expr_c54_eq]
      have qb' : (H1.set b (.bld (s ++ fmtL k 0 kids) 69 5)) b = some (.bld (s ++ fmtL k 0 kids) 69 5) := AHeap.set_same _ _ _
      have q3' : (H1.set b (.bld (s ++ fmtL k 0 kids) 69 5)) b3 = some (.box (.struct [i64 k, .str nm, .list 3 (kids.map GE.av)])) := by rw [AHeap.set_ne _ _ n3.symm]; exact q3
      have fin : ∀ x, x = fmtE (.mk k nm kids) → HLe (H.set b (.bld (s ++ fmtE (.mk k nm kids)) 69 5)) (H1.set b (.bld (s ++ x) 69 5)) := fun x hx => by rw [hx]; exact forget hle hb
      rw [List.length_append] at hl
      by_cases k1 : k = 1
      · have hf : fmtE (.mk k nm kids) = fmtL k 0 kids ++ nm := by rw [fmtE_mk]; simp [sufOf, k1]
        have hsl : (sufOf k nm).length = nm.length := by simp [sufOf, k1]
        subst k1
        simp [q3']
        refine gW_expr_c38_lexF [b3] ?_
        simp [q3']
        refine ws_use qb' (by rw [hsl] at hl; simp; omega) ?_
        simp
        exact fin _ (by rw [hf])
      · by_cases k4 : k = 4
        · have hf : fmtE (.mk k nm kids) = fmtL k 0 kids ++ [63] := by rw [fmtE_mk]; simp [sufOf, k4]
          have hsl : (sufOf k nm).length = 1 := by simp [sufOf, k4]
          subst k4
          simp [q3']
          refine wb_use 63 rfl qb' (by simp; omega) ?_
          simp
          exact fin _ (by rw [hf])
        · by_cases k5 : k = 5
          · have hf : fmtE (.mk k nm kids) = fmtL k 0 kids ++ [42] := by rw [fmtE_mk]; simp [sufOf, k5]
            have hsl : (sufOf k nm).length = 1 := by simp [sufOf, k5]
            subst k5
            simp [q3']
            refine wb_use 42 rfl qb' (by simp; omega) ?_
            simp
            exact fin _ (by rw [hf])
          · by_cases k6 : k = 6
            · have hf : fmtE (.mk k nm kids) = fmtL k 0 kids ++ [43] := by rw [fmtE_mk]; simp [sufOf, k6]
              have hsl : (sufOf k nm).length = 1 := by simp [sufOf, k6]
              subst k6
              simp [q3']
              refine wb_use 43 rfl qb' (by simp; omega) ?_
              simp
              exact fin _ (by rw [hf])
            · have hf : fmtE (.mk k nm kids) = fmtL k 0 kids := by rw [fmtE_mk]; simp [sufOf, k1, k4, k5, k6]
              have b1 : (k == 1) = false := by simp [k1]
              have b4 : (k == 4) = false := by simp [k4]
              have b5 : (k == 5) = false := by simp [k5]
              have b6 : (k == 6) = false := by simp [k6]
              simp [q3', k1, k4, k5, k6, b1, b4, b5, b6]
              exact fin _ (by rw [hf])
    | cons e rest =>
      have hlt : (done.length : Int) < kids.length := by rw [he]; simp; omega
      have hat : kids[done.length]? = some e := by rw [he]; simp
      have hlen : s.length + (fmtL k 0 done).length + (sepOf k done.length).length + (encl (reqOf k e) (fmtE e)).length ≤ lim47 := by
        rw [he, fmtL_append, fmtL_cons] at hl
        simp only [List.length_append, Nat.zero_add] at hl
        omega
      have hsz : SizeOf.sizeOf e ≤ n := by
        have : SizeOf.sizeOf e < SizeOf.sizeOf kids := List.sizeOf_lt_of_mem (by rw [he]; simp)
        simp at h
        omega
      have ih := w_expr n e hsz
      have nx : fmtL k 0 (done ++ [e]) = fmtL k 0 done ++ sepOf k done.length ++ encl (reqOf k e) (fmtE e) := by
        rw [fmtL_append, fmtL_cons, fmtL_nil]
        simp
      simp [hlt, hat, allocQ, -gW_expr_c30_eq]
      obtain ⟨q3', qb'⟩ : (H1.set b (.bld (s ++ fmtL k 0 done) 69 5)) b3 = some (.box (.struct [i64 k, .str nm, .list 3 (kids.map GE.av)])) ∧ (H1.set b (.bld (s ++ fmtL k 0 done) 69 5)) b = some (.bld (s ++ fmtL k 0 done) 69 5) :=
        ⟨by rw [AHeap.set_ne _ _ n3.symm]; exact q3, AHeap.set_same _ _ _⟩
      generalize hK1 : H1.set b (.bld (s ++ fmtL k 0 done) 69 5) = K1 at q3' qb' ⊢
      simp [hat, allocQ, -gW_expr_c25_eq]
      intro b5 hb5
      have n35 : b3 ≠ b5 := ne_of_some_none q3' hb5
      have nb5 : b ≠ b5 := ne_of_some_none qb' hb5
      simp [AHeap.set_ne, n35, q3', -gW_expr_c25_eq]
      refine w_kid ih (t := s ++ fmtL k 0 done) (by rw [AHeap.set_ne _ _ nb5]; exact qb') (AHeap.set_same _ _ _) nb5.symm (by simp; omega) ?_
      simp
      rw [wrap64 (by omega) (by omega)]
      have e9 : ((done ++ [e]).length : Int) = done.length + 1 := by simp
      refine loopK_next ⟨done ++ [e], rest⟩ (by simp [he]) (by simp) (by simp only [e9]; exact EnvLe.refl _) ?_
      have h1 : H1.set b (.bld (s ++ fmtL k 0 (done ++ [e])) 69 5) = K1.set b (.bld (s ++ (fmtL k 0 done ++ (sepOf k done.length ++ encl (reqOf k e) (fmtE e)))) 69 5) := by
        rw [← hK1, AHeap.set_set, nx]
        simp
      show HLe (H1.set b (.bld (s ++ fmtL k 0 (done ++ [e])) 69 5)) _
      rw [h1]
      exact forget (.set hb5) qb'

theorem w_E (x : GE) : Writes gW_expr_id [x.av] (fmtE x) := w_expr _ x (Nat.le_refl _)
end Go.Av

namespace Go.Av
open Go Go.Proofs

/-- A price that can be written. -/
def PrOK (H : AHeap) (p : Int) : Prop := 0 ≤ p ∧ (p < 100 ∨ (p ≤ 1000000 ∧ H 1 = some (.tab powTab)))
theorem PrOK.le {H H' : AHeap} {p : Int} (h : PrOK H p) (hle : HLe H H') : PrOK H' p :=
  ⟨h.1, h.2.imp id fun h2 => ⟨h2.1, hle.x 1 _ rfl h2.2⟩⟩
theorem PrOK.set {H : AHeap} {p : Int} {b : Nat} {s s' : List UInt8} {T e : TypeId} (h : PrOK H p) (hb : H b = some (.bld s T e)) : PrOK (H.set b (.bld s' T e)) p :=
  ⟨h.1, h.2.imp id fun h2 => ⟨h2.1, by rw [AHeap.set_ne _ _ (fun e => by rw [← e, h2.2] at hb; cases hb)]; exact h2.2⟩⟩

theorem itoa_pure {H : AHeap} {p : Int} (h : PrOK H p) : Pure strconv_Itoa_id [i64 p] H (.str (Lib.decDigits p.toNat)) := by
  have e : ((p.toNat : Nat) : Int) = p := Int.toNat_of_nonneg h.1
  have key : ACalls PP strconv_Itoa_id [i64 (p.toNat : Nat)] H fun r H' => r = .ret (.str (Lib.decDigits p.toNat)) ∧ H' = H := by
    rcases h.2 with h1 | ⟨h1, h2⟩
    · exact strconv_Itoa_small p.toNat (by omega) H
    · exact strconv_Itoa p.toNat (by omega) H h2
  rw [e] at key
  exact key

set_option maxHeartbeats 2000000 in
theorem w_alt (x : GA) (b : Nat) (s : List UInt8) (H : AHeap) (hb : H b = some (.bld s 69 5)) (hl : s.length + (altText x).length ≤ lim47) (hp : PrOK H x.price) :
    ACalls PP gW_al_id [.ptr b 0 [], x.av] H fun r H' => r = .ret (.tuple []) ∧ H' = H.set b (.bld (s ++ altText x) 69 5) := by
  obtain ⟨e, p⟩ := x
  have hml := maxLen_eq
  have hlim : lim47 = 140737488355328 := rfl
  refine gW_al_enter rfl ?_
  simp [gW_al_rs, allocQ, -gW_al_c11_eq]
  intro b3 hb3
  have n3 : b ≠ b3 := ne_of_some_none hb hb3
  have q3 : (H.set b3 (.box (GA.av ⟨e, p⟩))) b3 = some (.box (.struct [e.av, i64 p])) := AHeap.set_same _ _ _
  have qb : (H.set b3 (.box (GA.av ⟨e, p⟩))) b = some (.bld s 69 5) := by rw [AHeap.set_ne _ _ n3]; exact hb
  have hle : HLe H (H.set b3 (.box (GA.av ⟨e, p⟩))) := .set hb3
  have hp1 := hp.le hle
  generalize H.set b3 (.box (GA.av ⟨e, p⟩)) = H1 at q3 qb hle hp1 ⊢
  simp only at hp1
  simp only [altText, List.length_append] at hl
  -- behind the body
  have tail : ∀ (H2 : AHeap) (env : Env), H2 = H1.set b (.bld (s ++ bodyText e) 69 5) → (env = [(0, .ptr b 0 []), (3, .ptr b3 0 [])] ∨ env = [(0, .ptr b 0 []), (3, .ptr b3 0 []), (14, .bool false)]) →
      aw PP gW_al_c10 (retK [] fun r H' => r = .ret (.tuple []) ∧ H' = H.set b (.bld (s ++ altText ⟨e, p⟩) 69 5)) env H2 := by
    intro H2 env hH2 henv
    have q3' : H2 b3 = some (.box (.struct [e.av, i64 p])) := by rw [hH2, AHeap.set_ne _ _ n3.symm]; exact q3
    have qb' : H2 b = some (.bld (s ++ bodyText e) 69 5) := by rw [hH2, AHeap.set_same]
    have hp2 : PrOK H2 p := by rw [hH2]; exact hp1.set qb
    rcases henv with rfl | rfl <;>
    · by_cases hp0 : p = 0
      · simp [q3', hp0]
        rw [hH2]
        have : altText ⟨e, 0⟩ = bodyText e := by simp [altText, priceText]
        rw [this]
        exact forget hle hb
      · have hp0' : (p == 0) = false := by simp [hp0]
        have hpt : priceText p = kwPr ++ Lib.decDigits p.toNat := by simp [priceText, hp0]
        simp [q3', hp0, hp0']
        refine gW_al_c8_lexF [b3] ?_
        simp [q3']
        refine (itoa_pure hp2).use ?_
        rw [hpt] at hl
        simp [kwPr] at hl
        simp [Agree]
        refine ⟨by omega, ?_⟩
        refine ws_use qb' (by simp; omega) ?_
        simp
        rw [hH2, AHeap.set_set]
        have : altText ⟨e, p⟩ = bodyText e ++ kwPr ++ Lib.decDigits p.toNat := by simp [altText, hpt]
        rw [this]
        simp [kwPr]
        exact forget hle hb
  -- the body
  have hb1 : ∀ q, (e.kind == 2 && e.kids.length == 0) = q → bodyText e = if q then [] else 32 :: encl (e.kind == 3) (fmtE e) := fun q hq => by rw [bodyText, hq]
  have write : ∀ env, env = [(0, AV.ptr b 0 []), (3, .ptr b3 0 []), (14, .bool true)] → (e.kind == 2 && e.kids.length == 0) = false →
      aw PP gW_al_c4 (seqK PP gW_al_c10 (retK [] fun r H' => r = .ret (.tuple []) ∧ H' = H.set b (.bld (s ++ altText ⟨e, p⟩) 69 5))) env H1 := by
    rintro env rfl hq
    have hbt := hb1 _ hq
    simp at hbt
    have hlb : (bodyText e).length = (encl (e.kind == 3) (fmtE e)).length + 1 := by rw [hbt]; simp
    simp [-gW_al_c10_eq]
    refine wb_use 32 rfl qb (by omega) ?_
    simp [q3, AHeap.set_ne _ _ n3.symm, -gW_al_c10_eq]
    refine (w_enclosed _ _ (w_E e)).use (AHeap.set_same _ _ _) (by simp; omega) ?_
    simp [-gW_al_c10_eq]
    exact tail _ _ (by rw [hbt]) (.inl rfl)
  by_cases e2 : e.kind = 2
  · by_cases e0 : e.kids = []
    · have hq : (e.kind == 2 && e.kids.length == 0) = true := by simp [e2, e0]
      have hbt := hb1 _ hq
      simp at hbt
      simp [q3, e2, e0, -gW_al_c10_eq, -gW_al_c4_eq]
      refine tail _ _ ?_ (.inr rfl)
      rw [hbt, List.append_nil, set_self qb]
    · have e0' : 0 < e.kids.length := List.length_pos_iff.2 e0
      have hq : (e.kind == 2 && e.kids.length == 0) = false := by simp [e0]
      simp [q3, e2, e0, e0', -gW_al_c10_eq, -gW_al_c4_eq]
      intro hm
      exact write _ rfl hq
  · have e2' : (e.kind == 2) = false := by simp [e2]
    have e2'' : (e.kind != 2) = true := by simp [e2]
    have hq : (e.kind == 2 && e.kids.length == 0) = false := by simp [e2]
    simp [q3, e2, e2', e2'', -gW_al_c10_eq, -gW_al_c4_eq]
    exact write _ rfl hq
end Go.Av

namespace Go.Av
open Go Go.Proofs

theorem gf_word (a : Int) (H : AHeap) : Pure gF_word_id [i64 a] H (.str (wordM a)) := by
  refine gF_word_enter rfl ?_
  by_cases h1 : a = 1
  · simp [gF_word_rs, h1, wordM]
  · have h1' : (a == 1) = false := by simp [h1]
    by_cases h2 : a = 2
    · simp [gF_word_rs, h2, wordM]
    · have h2' : (a == 2) = false := by simp [h2]
      simp [gF_word_rs, h1, h1', h2, h2', wordM]

theorem fm_c7_ok : lexOK gF_Format_c7_ops (fun i => [10].contains i) = true := by kernel_rfl

theorem fm_c7_lexE {K : AK} {env : Env} {H : AHeap} (h : awLex PP (fun i => [10].contains i) (regK K [5, 23, 24, 25, 26, 27, 28, 29, 30, 31, 32, 33]) (panK K) [(0, ⟨some 23, none, .fa 0 0 (.t 3)⟩), (1, ⟨some 24, none, .fa 0 0 (.t 5)⟩), (2, ⟨some 25, none, .ld false 1 (.t 24)⟩), (3, ⟨some 26, none, .call (.c (.fn (.func 41) [] [])) [.t 25]⟩), (4, ⟨some 27, none, .bin (.add) (.t 26) (.c (.str [32]))⟩), (5, ⟨some 28, none, .fa 1 1 (.t 5)⟩), (6, ⟨some 29, none, .ld false 1 (.t 28)⟩), (7, ⟨some 30, none, .call (.c (.fn (.func 42) [] [])) [.t 29, .c (.str [32])]⟩), (8, ⟨some 31, none, .bin (.add) (.t 27) (.t 30)⟩), (9, ⟨some 32, none, .bin (.add) (.t 31) (.c (.str [59, 10]))⟩), (10, ⟨some 33, none, .call (.c (.fn (.func 40) [] [])) [.t 23, .t 32]⟩)] env H) : aw PP gF_Format_c7 K env H := aw_dreg_lex _ fm_c7_ok h

structure FSt (α : Type) where
  done : List α
  rest : List α

set_option maxHeartbeats 2000000 in
theorem fm_levels {b1 b3 : Nat} {levels : List GL} {s : List UInt8} {H1 : AHeap} {K : AK} (qb : H1 b3 = some (.bld s 69 5)) (hm : levels.length ≤ maxLen) (ht : ∀ l ∈ levels, l.tokens.length ≤ 1000000)
    (hl : s.length + (levels.flatMap levText).length ≤ lim47)
    (hK : K .norm [(1, .ptr b1 0 []), (3, .ptr b3 0 []), (17, .list 2 (levels.map GL.av)), (18, i64 levels.length), (19, i64 levels.length), (20, .bool false)] (H1.set b3 (.bld (s ++ levels.flatMap levText) 69 5))) :
    aw PP gF_Format_c15 K [(1, .ptr b1 0 []), (3, .ptr b3 0 []), (17, .list 2 (levels.map GL.av)), (18, i64 levels.length), (19, i64 0)] H1 := by
  have hml := maxLen_eq
  have hlim : lim47 = 140737488355328 := rfl
  simp
  refine aw_loopK (fun x : FSt GL => levels = x.done ++ x.rest) (fun x => [(1, .ptr b1 0 []), (3, .ptr b3 0 []), (17, .list 2 (levels.map GL.av)), (18, i64 levels.length), (19, i64 x.done.length)])
    (fun x => H1.set b3 (.bld (s ++ x.done.flatMap levText) 69 5)) (fun x => x.rest.length) ⟨[], levels⟩ rfl rfl (by simp; exact (set_self qb).symm) ?_
  rintro ⟨done, rest⟩ he
  simp only at he
  simp only
  cases rest with
  | nil =>
    simp at he
    subst he
    have hlt : ¬ (levels.length : Int) < levels.length := by omega
    simp [hlt]
    exact hK
  | cons e rest =>
    have hlt : (done.length : Int) < levels.length := by rw [he]; simp; omega
    have hat : levels[done.length]? = some e := by rw [he]; simp
    have hlen : s.length + (done.flatMap levText).length + (levText e).length ≤ lim47 := by
      rw [he] at hl
      simp at hl
      simp
      omega
    have hte := ht e (by rw [he]; simp)
    simp [hlt, hat, allocQ, -gF_Format_c11_eq]
    have qb' : (H1.set b3 (.bld (s ++ done.flatMap levText) 69 5)) b3 = some (.bld (s ++ done.flatMap levText) 69 5) := AHeap.set_same _ _ _
    generalize hK1 : H1.set b3 (.bld (s ++ done.flatMap levText) 69 5) = K1 at qb' ⊢
    simp [hat, allocQ]
    intro b5 hb5
    have n35 : b3 ≠ b5 := ne_of_some_none qb' hb5
    have q5 : (K1.set b5 (.box e.av)) b5 = some (.box (.struct [i64 e.assoc, .list 1 (e.tokens.map AV.str)])) := AHeap.set_same _ _ _
    have qb2 : (K1.set b5 (.box e.av)) b3 = some (.bld (s ++ done.flatMap levText) 69 5) := by rw [AHeap.set_ne _ _ n35]; exact qb'
    have hle : HLe K1 (K1.set b5 (.box e.av)) := .set hb5
    generalize K1.set b5 (.box e.av) = K2 at q5 qb2 hle ⊢
    refine fm_c7_lexE ?_
    simp [q5]
    refine ⟨_, gf_word _ _, ?_⟩
    have hll : (levText e).length = (wordM e.assoc).length + 1 + (Lib.join e.tokens [32]).length + 2 := by simp [levText]; omega
    simp
    refine ⟨by omega, _, strings_Join (.list 1 (e.tokens.map AV.str)) 1 e.tokens rfl (.inr rfl) hte [32] (by omega) _, ?_⟩
    simp
    refine ⟨by omega, by omega, ?_⟩
    refine ws_use qb2 (by simp only [List.length_append, List.length_cons, List.length_nil]; omega) ?_
    simp
    rw [wrap64 (by omega) (by omega)]
    have e9 : ((done ++ [e]).length : Int) = done.length + 1 := by simp
    refine loopK_next ⟨done ++ [e], rest⟩ (by simp [he]) (by simp) (by simp only [e9]; exact EnvLe.refl _) ?_
    have h1 : H1.set b3 (.bld (s ++ (done ++ [e]).flatMap levText) 69 5) = K1.set b3 (.bld (s ++ (done.flatMap levText ++ (wordM e.assoc ++ 32 :: (Lib.join e.tokens [32] ++ [59, 10])))) 69 5) := by
      rw [← hK1, AHeap.set_set]
      simp [levText]
    show HLe (H1.set b3 (.bld (s ++ (done ++ [e]).flatMap levText) 69 5)) _
    rw [h1]
    exact forget hle qb'

set_option maxHeartbeats 2000000 in
theorem fm_alts {b3 : Nat} {alts : List GA} {s : List UInt8} {H1 : AHeap} {K : AK} {v36 v37 v38 : AV} (qb : H1 b3 = some (.bld s 69 5)) (hm : alts.length ≤ maxLen) (hp : ∀ a ∈ alts, PrOK H1 a.price)
    (hl : s.length + (altsText 0 alts).length ≤ lim47)
    (hK : K .norm [(3, .ptr b3 0 []), (36, v36), (37, v37), (38, v38), (48, .list 4 (alts.map GA.av)), (49, i64 alts.length), (50, i64 alts.length), (51, .bool false)] (H1.set b3 (.bld (s ++ altsText 0 alts) 69 5))) :
    aw PP gF_Format_c39 K [(3, .ptr b3 0 []), (36, v36), (37, v37), (38, v38), (48, .list 4 (alts.map GA.av)), (49, i64 alts.length), (50, i64 0)] H1 := by
  have hml := maxLen_eq
  have hlim : lim47 = 140737488355328 := rfl
  simp
  refine aw_loopK (fun x : FSt GA => alts = x.done ++ x.rest) (fun x => [(3, .ptr b3 0 []), (36, v36), (37, v37), (38, v38), (48, .list 4 (alts.map GA.av)), (49, i64 alts.length), (50, i64 x.done.length)])
    (fun x => H1.set b3 (.bld (s ++ altsText 0 x.done) 69 5)) (fun x => x.rest.length) ⟨[], alts⟩ rfl rfl (by simp [altsText]; exact (set_self qb).symm) ?_
  rintro ⟨done, rest⟩ he
  simp only at he
  simp only
  cases rest with
  | nil =>
    simp at he
    subst he
    have hlt : ¬ (alts.length : Int) < alts.length := by omega
    simp [hlt]
    exact hK
  | cons e rest =>
    have hlt : (done.length : Int) < alts.length := by rw [he]; simp; omega
    have hat : alts[done.length]? = some e := by rw [he]; simp
    have hlen : s.length + (altsText 0 done).length + (if done.length = 0 then ([] : List UInt8) else [32, 124]).length + (altText e).length ≤ lim47 := by
      rw [he, altsText_append] at hl
      simp only [altsText, List.length_append, Nat.zero_add] at hl
      omega
    have hpe := hp e (by rw [he]; simp)
    simp [hlt, hat, allocQ, -gF_Format_c35_eq]
    have qb' : (H1.set b3 (.bld (s ++ altsText 0 done) 69 5)) b3 = some (.bld (s ++ altsText 0 done) 69 5) := AHeap.set_same _ _ _
    have hpe1 : PrOK (H1.set b3 (.bld (s ++ altsText 0 done) 69 5)) e.price := hpe.set qb
    generalize hK1 : H1.set b3 (.bld (s ++ altsText 0 done) 69 5) = K1 at qb' hpe1 ⊢
    simp [hat, allocQ, -gF_Format_c31_eq]
    intro b9 hb9
    have n39 : b3 ≠ b9 := ne_of_some_none qb' hb9
    have q9 : (K1.set b9 (.box e.av)) b9 = some (.box e.av) := AHeap.set_same _ _ _
    have qb2 : (K1.set b9 (.box e.av)) b3 = some (.bld (s ++ altsText 0 done) 69 5) := by rw [AHeap.set_ne _ _ n39]; exact qb'
    have hle : HLe K1 (K1.set b9 (.box e.av)) := .set hb9
    have hpe2 := hpe1.le hle
    generalize K1.set b9 (.box e.av) = K2 at q9 qb2 hle hpe2 ⊢
    have fin : ∀ t', t' = s ++ altsText 0 (done ++ [e]) → HLe (H1.set b3 (.bld (s ++ altsText 0 (done ++ [e])) 69 5)) (K2.set b3 (.bld t' 69 5)) := by
      intro t' h
      rw [h]
      have h1 : H1.set b3 (.bld (s ++ altsText 0 (done ++ [e])) 69 5) = K1.set b3 (.bld (s ++ altsText 0 (done ++ [e])) 69 5) := by rw [← hK1, AHeap.set_set]
      rw [h1]
      exact forget hle qb'
    have e9 : ((done ++ [e]).length : Int) = done.length + 1 := by simp
    cases done with
    | nil =>
      simp [q9]
      refine (w_alt e b3 (s ++ altsText 0 []) K2 qb2 (by simpa [Nat.add_assoc] using hlen) hpe2).mono ?_
      rintro r H' ⟨rfl, rfl⟩
      simp
      refine loopK_next ⟨[] ++ [e], rest⟩ (by simp [he]) (by simp) (by simp only [e9]; exact EnvLe.refl _) ?_
      exact fin _ (by simp [altsText])
    | cons d0 ds =>
      have hp0 : (0 : Int) < ((d0 :: ds).length : Int) := by rw [List.length_cons]; omega
      simp only [List.length_cons, Nat.succ_ne_zero, if_false, List.length_nil] at hlen
      simp [hp0, -gF_Format_c30_eq]
      refine ws_use qb2 (by simp only [List.length_append, List.length_cons, List.length_nil]; omega) ?_
      simp [AHeap.set_ne _ _ n39.symm, q9]
      refine (w_alt e b3 (s ++ (altsText 0 (d0 :: ds) ++ [32, 124])) _ (AHeap.set_same _ _ _) (by simp only [List.length_append, List.length_cons, List.length_nil]; omega) (hpe2.set qb2)).mono ?_
      rintro r H' ⟨rfl, rfl⟩
      simp
      simp only [List.length_cons] at hlt
      rw [wrap64 (by omega) (by omega)]
      refine loopK_next ⟨(d0 :: ds) ++ [e], rest⟩ (by simp [he]) (by simp) (by simp only [e9]; simp; exact EnvLe.refl _) ?_
      exact fin _ (by rw [altsText_append]; simp [altsText])
end Go.Av

namespace Go.Av
open Go Go.Proofs

set_option maxHeartbeats 2000000 in
theorem fm_rules {b3 : Nat} {rules : List GR} {s : List UInt8} {H1 : AHeap} {K : AK} (qb : H1 b3 = some (.bld s 69 5)) (hm : rules.length ≤ maxLen) (hp : ∀ r ∈ rules, ∀ a ∈ r.alts, PrOK H1 a.price)
    (hl : s.length + (rules.flatMap ruleText).length ≤ lim47)
    (hK : K .norm [(3, .ptr b3 0 []), (36, .list 2 (rules.map GR.av)), (37, i64 rules.length), (38, i64 rules.length), (39, .bool false)] (H1.set b3 (.bld (s ++ rules.flatMap ruleText) 69 5))) :
    aw PP gF_Format_c51 K [(3, .ptr b3 0 []), (36, .list 2 (rules.map GR.av)), (37, i64 rules.length), (38, i64 0)] H1 := by
  have hml := maxLen_eq
  have hlim : lim47 = 140737488355328 := rfl
  simp
  refine aw_loopK (fun x : FSt GR => rules = x.done ++ x.rest) (fun x => [(3, .ptr b3 0 []), (36, .list 2 (rules.map GR.av)), (37, i64 rules.length), (38, i64 x.done.length)])
    (fun x => H1.set b3 (.bld (s ++ x.done.flatMap ruleText) 69 5)) (fun x => x.rest.length) ⟨[], rules⟩ rfl rfl (by simp; exact (set_self qb).symm) ?_
  rintro ⟨done, rest⟩ he
  simp only at he
  simp only
  cases rest with
  | nil =>
    simp at he
    subst he
    have hlt : ¬ (rules.length : Int) < rules.length := by omega
    simp [hlt]
    exact hK
  | cons e rest =>
    have hlt : (done.length : Int) < rules.length := by rw [he]; simp; omega
    have hat : rules[done.length]? = some e := by rw [he]; simp
    have hlen : s.length + (done.flatMap ruleText).length + (ruleText e).length ≤ lim47 := by
      rw [he] at hl
      simp only [List.flatMap_append, List.flatMap_cons, List.length_append] at hl
      omega
    have hll : (ruleText e).length = e.name.length + 2 + (altsText 0 e.alts).length + 2 := by simp [ruleText]; omega
    have hpe := hp e (by rw [he]; simp)
    simp [hlt, hat, allocQ, -gF_Format_c47_eq]
    have qb' : (H1.set b3 (.bld (s ++ done.flatMap ruleText) 69 5)) b3 = some (.bld (s ++ done.flatMap ruleText) 69 5) := AHeap.set_same _ _ _
    have hpe1 : ∀ a ∈ e.alts, PrOK (H1.set b3 (.bld (s ++ done.flatMap ruleText) 69 5)) a.price := fun a ha => (hpe a ha).set qb
    generalize hK1 : H1.set b3 (.bld (s ++ done.flatMap ruleText) 69 5) = K1 at qb' hpe1 ⊢
    simp [hat, allocQ, -gF_Format_c43_eq]
    intro b7 hb7
    have n37 : b3 ≠ b7 := ne_of_some_none qb' hb7
    have q7 : (K1.set b7 (.box e.av)) b7 = some (.box (.struct [.str e.name, .list 4 (e.alts.map GA.av)])) := AHeap.set_same _ _ _
    have qb2 : (K1.set b7 (.box e.av)) b3 = some (.bld (s ++ done.flatMap ruleText) 69 5) := by rw [AHeap.set_ne _ _ n37]; exact qb'
    have hle : HLe K1 (K1.set b7 (.box e.av)) := .set hb7
    have hpe2 : ∀ a ∈ e.alts, PrOK (K1.set b7 (.box e.av)) a.price := fun a ha => (hpe1 a ha).le hle
    generalize K1.set b7 (.box e.av) = K2 at q7 qb2 hle hpe2 ⊢
    simp [q7, -gF_Format_c42_eq]
    refine ⟨by omega, ?_⟩
    refine ws_use qb2 (by simp only [List.length_append, List.length_cons, List.length_nil]; omega) ?_
    simp [AHeap.set_ne _ _ n37.symm, q7, -gF_Format_c39_eq]
    intro hma
    refine fm_alts (s := s ++ (done.flatMap ruleText ++ (e.name ++ [32, 61]))) (AHeap.set_same _ _ _) hma (fun a ha => (hpe2 a ha).set qb2) (by simp only [List.length_append, List.length_cons, List.length_nil]; omega) ?_
    simp
    refine ws_use (s := s ++ (done.flatMap ruleText ++ (e.name ++ 32 :: 61 :: altsText 0 e.alts))) (AHeap.set_same _ _ _) (by simp only [List.length_append, List.length_cons, List.length_nil]; omega) ?_
    simp
    rw [wrap64 (by omega) (by omega)]
    have e9 : ((done ++ [e]).length : Int) = done.length + 1 := by simp
    refine loopK_next ⟨done ++ [e], rest⟩ (by simp [he]) (by simp) (by simp only [e9]; exact EnvLe.refl _) ?_
    have h1 : H1.set b3 (.bld (s ++ (done ++ [e]).flatMap ruleText) 69 5) = K1.set b3 (.bld (s ++ (done.flatMap ruleText ++ (e.name ++ 32 :: 61 :: (altsText 0 e.alts ++ [59, 10])))) 69 5) := by
      rw [← hK1, AHeap.set_set]
      simp [ruleText]
    show HLe (H1.set b3 (.bld (s ++ (done ++ [e]).flatMap ruleText) 69 5)) _
    rw [h1]
    exact forget hle qb'

theorem two_boxes' {H : AHeap} {b c : Nat} {o o' : AObj} (hb : H b = none) (hc : (H.set b o) c = none) : ∃ H1, (H.set b o).set c o' = H1 ∧ H1 b = some o ∧ H1 c = some o' ∧ HLe H H1 := by
  have n : b ≠ c := fun e => by subst e; rw [AHeap.set_same] at hc; cases hc
  exact ⟨_, rfl, by rw [AHeap.set_ne _ _ n, AHeap.set_same], AHeap.set_same _ _ _, (HLe.set hb).trans (.set hc)⟩

set_option maxHeartbeats 2000000 in
theorem gf_Format (f : GF) (H : AHeap) (ht : ∀ l ∈ f.levels, l.tokens.length ≤ 1000000) (hp : ∀ r ∈ f.rules, ∀ a ∈ r.alts, PrOK H a.price) (hl : (gfText f).length ≤ lim47) :
    Pure gF_Format_id [f.av] H (.str (gfText f)) := by
  obtain ⟨start, levels, rules⟩ := f
  have hml := maxLen_eq
  have hlim : lim47 = 140737488355328 := rfl
  simp only at ht hp
  refine gF_Format_enter rfl ?_
  simp [gF_Format_rs, allocQ, allbQ, -gF_Format_c57_eq]
  intro b1 hb1 b3 hb3
  have n31 : b3 ≠ b1 := fun e => by subst e; rw [AHeap.set_same] at hb3; cases hb3
  have h3 : H b3 = none := by rw [AHeap.set_ne _ _ n31] at hb3; exact hb3
  obtain ⟨H1, e1, q1, q3, hle⟩ := two_boxes' (o := .box (GF.av ⟨start, levels, rules⟩)) (o' := .bld [] 69 5) hb1 hb3
  rw [e1]
  have hp1 : ∀ r ∈ rules, ∀ a ∈ r.alts, PrOK H1 a.price := fun r hr a ha => (hp r hr a ha).le hle
  simp only [gfText, List.length_append] at hl
  simp only [GF.av] at q1
  have hst : (startText start).length = start.length + 8 := by simp [startText]
  simp [q1, -gF_Format_c56_eq]
  refine ⟨by omega, by omega, ?_⟩
  refine ws_use q3 (by simp only [List.length_append, List.length_cons, List.length_nil]; omega) ?_
  simp [q1, AHeap.set_ne _ _ n31.symm, -gF_Format_c15_eq, -gF_Format_c51_eq]
  intro hml1
  have hss : startText start = 115 :: 116 :: 97 :: 114 :: 116 :: 32 :: (start ++ [59, 10]) := by simp [startText]
  rw [← hss]
  refine fm_levels (s := startText start) (AHeap.set_same _ _ _) hml1 ht (by omega) ?_
  simp [q1, AHeap.set_ne _ _ n31.symm, -gF_Format_c51_eq]
  intro hmr
  refine fm_rules (s := startText start ++ levels.flatMap levText) (AHeap.set_same _ _ _) hmr (fun r hr a ha => (hp1 r hr a ha).set q3) (by simp only [List.length_append]; omega) ?_
  simp [-List.append_assoc]
  have hne : startText start ++ levels.flatMap levText ++ rules.flatMap ruleText ≠ [] := by simp [startText]
  refine (bld_String (AHeap.set_same _ _ _) hne (by simp only [List.length_append]; omega)).mono ?_
  rintro r H' ⟨rfl, rfl⟩
  simp [-List.append_assoc]
  refine ⟨.refl _, ?_⟩
  refine ⟨fun x v hx => ?_, fun x n z e hx => ?_, fun x o ho hx => ?_⟩
  all_goals
    have hxb : x ≠ b3 := fun e => by subst e; rw [h3] at hx; cases hx
    simp only [AHeap.del, if_neg hxb, AHeap.set_ne _ _ hxb]
    first | exact hle.box x v hx | exact hle.row x n z e hx | exact hle.x x o ho hx
end Go.Av
