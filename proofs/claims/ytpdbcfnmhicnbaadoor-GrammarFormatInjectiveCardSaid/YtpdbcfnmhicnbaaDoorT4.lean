/- Grammars: the mirror; search by a function; equality. -/
import Derived.Test.YtpdbcfnmhicnbaaDoorFnA
import Derived.Test.YtpdbcfnmhicnbaaDoorFnB
import Derived.Test.YtpdbcfnmhicnbaaDoorT1
set_option linter.unusedVariables false
set_option linter.unusedSimpArgs false
namespace Go.Av
open Go Go.Proofs

structure Rl where
  head : Int
  body : List Int
  price : Int
structure Gm where
  terms : List (List UInt8)
  nonterms : List (List UInt8)
  start : Int
  rules : List Rl

def Rl.av (r : Rl) : AV := .struct [i64 r.head, ints r.body, i64 r.price]
abbrev rls (l : List Rl) : AV := .list 3 (l.map Rl.av)
def Gm.av (g : Gm) : AV := .struct [strs g.terms, strs g.nonterms, i64 g.start, rls g.rules]
@[simp] theorem Rl.av_size (r : Rl) : r.av.size = 3 := Eq.trans rfl rfl
@[simp] theorem Rl.av_sto (r : Rl) : r.av.sto = true := Eq.trans rfl rfl
@[simp] theorem Rl.av_agg (r : Rl) : r.av.isAgg = true := Eq.trans rfl rfl
@[simp] theorem Gm.av_size (g : Gm) : g.av.size = 4 := Eq.trans rfl rfl
@[simp] theorem Gm.av_sto (g : Gm) : g.av.sto = true := Eq.trans rfl rfl
@[simp] theorem Gm.av_agg (g : Gm) : g.av.isAgg = true := Eq.trans rfl rfl
theorem Rl.ext' {r s : Rl} (h1 : r.head = s.head) (h2 : r.body = s.body) (h3 : r.price = s.price) : r = s := by cases r; cases s; simp_all
theorem Gm.ext' {r s : Gm} (h1 : r.terms = s.terms) (h2 : r.nonterms = s.nonterms) (h3 : r.start = s.start) (h4 : r.rules = s.rules) : r = s := by cases r; cases s; simp_all

def fewG (g : Gm) : Bool := decide (g.terms.length ≤ 130) && decide (g.nonterms.length ≤ 130) && decide (g.rules.length ≤ 130)

theorem l_few (g : Gm) (H : AHeap) : Pure law18_few_id [g.av] H (.bool (fewG g)) := by
  refine law18_few_enter rfl ?_
  simp [law18_few_rs, allocQ]
  intro b hb
  simp [Gm.av]
  intro h1
  by_cases q1 : g.terms.length ≤ 130
  · have q1' : (g.terms.length : Int) ≤ 130 := by omega
    simp [q1, q1']
    intro h2
    by_cases q2 : g.nonterms.length ≤ 130
    · have q2' : (g.nonterms.length : Int) ≤ 130 := by omega
      simp [q2, q2']
      intro h3
      by_cases q3 : g.rules.length ≤ 130
      · have q3' : (g.rules.length : Int) ≤ 130 := by omega
        simp [fewG, q1, q2, q3, q3']
        exact .set hb
      · have q3' : ¬ (g.rules.length : Int) ≤ 130 := by omega
        simp [fewG, q1, q2, q3, q3']
        exact .set hb
    · have q2' : ¬ (g.nonterms.length : Int) ≤ 130 := by omega
      have q2'' : (130 : Int) < g.nonterms.length := by omega
      simp [fewG, q1, q2, q2', q2'']
      exact .set hb
  · have q1' : ¬ (g.terms.length : Int) ≤ 130 := by omega
    have q1'' : (130 : Int) < g.terms.length := by omega
    simp [fewG, q1, q1', q1'']
    exact .set hb

/-- The first that fits. -/
theorem indexf_int (F : FuncId) (cap : List AV) (p : Int → Bool) (l : List Int) (H : AHeap) (hF : ∀ x ∈ l, Pure F ([i64 x] ++ cap) H (.bool (p x))) :
    ACalls PP sI_int_id [ints l, .fn (.func F) [] cap] H fun r H' => H' = H ∧ ∃ k : Int, r = .ret (i64 k) ∧ IsIdx p l k := by
  have hml := maxLen_eq
  refine sI_int_enter rfl ?_
  simp [sI_int_rs]
  intro h1
  refine aw_loopK (fun i : Nat => i ≤ l.length ∧ ∀ (j : Nat) (x : Int), j < i → l[j]? = some x → p x = false)
    (fun i => [(0, ints l), (1, .fn (.func F) [] cap), (7, i64 l.length), (8, i64 i)]) (fun _ => H) (fun i => l.length - i) 0 ⟨by simp, by simp⟩ rfl rfl ?_
  rintro i ⟨hi, hno⟩
  by_cases h : i < l.length
  · have hc : l[i]? = some l[i] := List.getElem?_eq_getElem h
    simp [h, hc]
    refine (hF _ (List.getElem_mem h)).use ?_
    cases hx : p l[i]
    · simp
      rw [wrap64 (by omega) (by omega)]
      refine loopK_same (i + 1) ⟨by omega, fun j x hj hx' => ?_⟩ (by omega) rfl rfl
      by_cases hji : j < i
      · exact hno j x hji hx'
      · have : j = i := by omega
        subst this
        rw [hc] at hx'
        injection hx' with hx'
        rw [← hx']
        exact hx
    · have : l.any p = true := List.any_eq_true.2 ⟨_, List.getElem_mem h, hx⟩
      simp [IsIdx, this]
      exact ⟨_, .refl _, _, .refl _, rfl, _, rfl, by omega⟩
  · simp [h]
    have : l.any p = false := by
      rw [List.any_eq_false]
      intro x hx
      obtain ⟨j, hj⟩ := List.getElem?_of_mem hx
      rw [hno j x (by have := (List.getElem?_eq_some_iff.1 hj).1; omega) hj]
      simp
    simp [IsIdx, this]
    exact ⟨_, .refl _, _, .refl _, rfl, _, rfl, by omega⟩

theorem containsf_int (F : FuncId) (cap : List AV) (p : Int → Bool) (l : List Int) (H : AHeap) (hF : ∀ x ∈ l, Pure F ([i64 x] ++ cap) H (.bool (p x))) :
    Pure sC_int_id [ints l, .fn (.func F) [] cap] H (.bool (l.any p)) := by
  refine sC_int_enter rfl ?_
  simp [sC_int_rs]
  refine ACalls.mono (indexf_int F cap p l H hF) ?_
  rintro r H' ⟨rfl, k, rfl, hk⟩
  simp [IsIdx] at hk
  simp [hk]

/-- A symbol that is not of the grammar. -/
def badSym (g : Gm) (x : Int) : Bool := decide ((g.terms.length : Int) ≤ x) || decide (x < -(g.nonterms.length : Int))

theorem v1_bad (g : Gm) (x : Int) (b : Nat) (H : AHeap) (hb : H b = some (.box g.av)) : Pure grammar_Valid_1_id [i64 x, .ptr b 0 []] H (.bool (badSym g x)) := by
  have hml := maxLen_eq
  simp only [Gm.av] at hb
  refine grammar_Valid_1_enter rfl ?_
  simp [grammar_Valid_1_rs, hb]
  intro h1
  by_cases q : (g.terms.length : Int) ≤ x
  · simp [q, badSym]
  · simp [q, badSym]
    intro h2 h3 h4
    rw [wrap64 (by omega) (by omega)]
    exact .refl _

theorem eqf_Rule (F : FuncId) (l m : List Rl) (H : AHeap) (hF : ∀ x ∈ l, ∀ y, ∀ H', Pure F [x.av, y.av] H' (.bool (eqB x y))) :
    Pure sE_Rule_id [rls l, rls m, .fn (.func F) [] []] H (.bool (eqB l m)) := by
  have hml := maxLen_eq
  refine sE_Rule_enter rfl ?_
  simp [sE_Rule_rs]
  intro h1 h2
  by_cases hlen : l.length = m.length
  · simp [hlen]
    intro h3
    refine aw_loopK (fun i : Nat => i ≤ l.length ∧ Pre l m i)
      (fun i => [(1, rls m), (2, .fn (.func F) [] []), (15, rls l), (16, i64 m.length), (17, i64 i)]) (fun _ => H) (fun i => l.length - i) 0 ⟨by simp, Pre.zero _ _⟩ rfl rfl ?_
    rintro i ⟨hi, hno⟩
    by_cases h : i < l.length
    · have hc : l[i]? = some l[i] := List.getElem?_eq_getElem h
      have hm' : i < m.length := by omega
      have hd : m[i]? = some m[i] := List.getElem?_eq_getElem hm'
      simp [h, hm', hc, hd, allocQ]
      intro b8 hb8 b9 hb9
      have n89 : b8 ≠ b9 := fun e => by subst e; rw [AHeap.set_same] at hb9; cases hb9
      have hle : HLe H ((H.set b8 (.box l[i].av)).set b9 (.box m[i].av)) := (HLe.set hb8).trans (.set hb9)
      simp [AHeap.set_ne, n89, n89.symm]
      refine (hF _ (List.getElem_mem h) m[i] _).use ?_
      by_cases hx : l[i] = m[i]
      · simp [eqB_iff.2 hx]
        rw [wrap64 (by omega) (by omega)]
        exact loopK_next (i + 1) ⟨by omega, hno.succ hc hd hx⟩ (by omega) (by simp; exact EnvLe.refl _) hle
      · simp [eqB_false.2 hx, eqB_false.2 (Pre.ne hc hd hx)]
        exact hle
    · have : i = l.length := by omega
      subst this
      have h' : ¬ l.length < m.length := by omega
      simp [h', hlen, eqB_iff.2 (Pre.full hlen hno)]
  · have hb : eqB l m = false := eqB_false.2 fun e => hlen (by rw [e])
    have hlen' : ¬ (l.length : Int) = m.length := by omega
    simp [hlen, hlen', hb]

theorem e1_rule (r s : Rl) (H : AHeap) : Pure grammar_Equal_1_id [r.av, s.av] H (.bool (eqB r s)) := by
  refine grammar_Equal_1_enter rfl ?_
  simp [grammar_Equal_1_rs, allocQ, Rl.av]
  intro b2 hb2 b3 hb3
  obtain ⟨H1, e1, q2, q3, hle⟩ := two_boxes (o' := .box (.struct [i64 s.head, ints s.body, i64 s.price])) hb2 hb3
  rw [e1]
  clear hb2 hb3 e1
  by_cases h1 : r.head = s.head
  · by_cases h2 : r.price = s.price
    · simp [q2, q3, h1, h2]
      refine (eq_ints _ _ _).use ?_
      have hq : eqB r s = eqB r.body s.body := by
        rw [Bool.eq_iff_iff, eqB_iff, eqB_iff]
        exact ⟨fun e => by rw [e], fun e => Rl.ext' h1 e h2⟩
      simp [hq]
      exact hle
    · have hq : eqB r s = false := eqB_false.2 fun e => h2 (by rw [e])
      simp [q2, q3, h1, h2, hq]
      exact hle
  · have hq : eqB r s = false := eqB_false.2 fun e => h1 (by rw [e])
    simp [q2, q3, h1, hq]
    exact hle

theorem g_Equal (a b : Gm) (H : AHeap) : Pure grammar_Equal_id [a.av, b.av] H (.bool (eqB a b)) := by
  refine grammar_Equal_enter rfl ?_
  simp [grammar_Equal_rs, allocQ, Gm.av]
  intro b2 hb2 b3 hb3
  obtain ⟨H1, e1, q2, q3, hle⟩ := two_boxes (o' := .box (.struct [strs b.terms, strs b.nonterms, i64 b.start, rls b.rules])) hb2 hb3
  rw [e1]
  clear hb2 hb3 e1
  by_cases h1 : a.start = b.start
  · simp [q2, q3, h1]
    refine (eq_strings _ _ _).use ?_
    by_cases h2 : a.terms = b.terms
    · simp [eqB_iff.2 h2, q2, q3]
      refine (eq_strings _ _ _).use ?_
      by_cases h3 : a.nonterms = b.nonterms
      · simp [eqB_iff.2 h3, q2, q3]
        refine (eqf_Rule _ _ _ _ fun x _ y H' => e1_rule x y H').use ?_
        have hq : eqB a b = eqB a.rules b.rules := by
          rw [Bool.eq_iff_iff, eqB_iff, eqB_iff]
          exact ⟨fun e => by rw [e], fun e => Gm.ext' h2 h3 h1 e⟩
        simp [hq]
        exact hle
      · have hq : eqB a b = false := eqB_false.2 fun e => h3 (by rw [e])
        simp [q2, q3, eqB_false.2 h3, hq]
        exact hle
    · have hq : eqB a b = false := eqB_false.2 fun e => h2 (by rw [e])
      simp [q2, q3, eqB_false.2 h2, hq]
      exact hle
  · have hq : eqB a b = false := eqB_false.2 fun e => h1 (by rw [e])
    simp [q2, q3, h1, hq]
    exact hle
end Go.Av
