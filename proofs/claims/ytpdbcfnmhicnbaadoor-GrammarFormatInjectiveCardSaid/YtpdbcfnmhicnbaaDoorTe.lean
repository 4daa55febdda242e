/- ref18.Valid: the rounds. -/
import Derived.Test.YtpdbcfnmhicnbaaDoorTd
set_option linter.unusedVariables false
set_option linter.unusedSimpArgs false
namespace Go.Av
open Go Go.Proofs

set_option maxHeartbeats 4000000 in
theorem rvalid_inner (g : Gm) (r : Rl) (q8 : g.terms.length ≤ 120 ∧ g.nonterms.length ≤ 120) (b b4 : Nat) (i : Int) (H2 : AHeap) (hb2 : H2 b = some (.box (.struct [strs g.terms, strs g.nonterms, i64 g.start, rls g.rules])))
    (hb3 : H2 b4 = some (.box (.struct [i64 r.head, ints r.body, i64 r.price]))) (K : AK)
    (hf : r.body.any (badSym g) = true → K .ret [(2, AV.bool false)] H2)
    (ht : r.body.any (badSym g) = false → K (.exit 2) [(1, .ptr b 0 []), (3, i64 i), (4, .ptr b4 0 []), (5, i64 r.body.length), (96, .bool false)] H2) :
    aw PP ref18_Valid_c34 K [(1, .ptr b 0 []), (3, i64 i), (4, .ptr b4 0 []), (5, i64 0)] H2 := by
  have hml := maxLen_eq
  simp only [ref18_Valid_c34]
  refine aw_loopK (fun k : Nat => k ≤ r.body.length ∧ ∀ (j : Nat) (x : Int), j < k → r.body[j]? = some x → badSym g x = false)
    (fun k => [(1, .ptr b 0 []), (3, i64 i), (4, .ptr b4 0 []), (5, i64 k)]) (fun _ => H2) (fun k => r.body.length - k) 0 ⟨by simp, by simp⟩ (by simp) rfl ?_
  rintro k ⟨hk, hno⟩
  simp [hb3]
  intro hlen
  by_cases h : k < r.body.length
  case neg =>
    have : k = r.body.length := by omega
    subst this
    simp
    refine ht ?_
    rw [List.any_eq_false]
    intro x hx
    obtain ⟨j, hj⟩ := List.getElem?_of_mem hx
    rw [hno j x (List.getElem?_eq_some_iff.1 hj).1 hj]
    simp
  have hc : r.body[k]? = some r.body[k] := List.getElem?_eq_getElem h
  have h' : ¬ r.body.length ≤ k := by omega
  simp [h, h']
  refine ref18_Valid_c25_lex ?_
  have hl1 : g.terms.length ≤ maxLen := by omega
  have hl2 : g.nonterms.length ≤ maxLen := by omega
  simp [hb2, hb3, h, hc, hl1]
  have hb : badSym g r.body[k] = (decide ((g.terms.length : Int) ≤ r.body[k]) || decide (r.body[k] < -(g.nonterms.length : Int))) := rfl
  have next : badSym g r.body[k] = false → ∀ (j : Nat) (x : Int), j < k + 1 → r.body[j]? = some x → badSym g x = false := fun hg j x hj hx => by
    by_cases hji : j < k
    · exact hno j x hji hx
    · have : j = k := by omega
      subst this
      rw [hc] at hx
      injection hx with hx
      rw [← hx]
      exact hg
  have bad : badSym g r.body[k] = true → r.body.any (badSym g) = true := fun hg => List.any_eq_true.2 ⟨_, List.getElem_mem h, hg⟩
  generalize r.body[k] = x at *
  have hwk : IntKind.i64.wrap ((k : Int) + 1) = (k : Int) + 1 := wrap64 (by omega) (by omega)
  by_cases p1 : (g.terms.length : Int) ≤ x
  · simp [p1]
    exact hf (bad (by simp [hb, p1]))
  · have hwn : IntKind.i64.wrap (0 - (g.nonterms.length : Int)) = -(g.nonterms.length : Int) := by rw [wrap64 (by omega) (by omega)]; omega
    have hwn' : IntKind.i64.wrap (-(g.nonterms.length : Int)) = -(g.nonterms.length : Int) := wrap64 (by omega) (by omega)
    simp [p1, hb2, hb3, hc, hwn, hwn', hl2]
    by_cases p2 : x < -(g.nonterms.length : Int)
    · have p2' : ¬ -(g.nonterms.length : Int) ≤ x := by omega
      simp [p2, p2']
      exact hf (bad (by simp [hb, p2]))
    · have p2' : -(g.nonterms.length : Int) ≤ x := by omega
      simp [p2, p2']
      rw [hwk]
      exact loopK_same (k + 1) ⟨by omega, next (by simp [hb, p1, p2])⟩ (by omega) rfl rfl

set_option maxHeartbeats 4000000 in
theorem rvalid_loop (g : Gm) (q7 : g.rules.length ≤ 120) (q8 : g.terms.length ≤ 120 ∧ g.nonterms.length ≤ 120) (b : Nat) (H1 : AHeap) (hbx : H1 b = some (.box (.struct [strs g.terms, strs g.nonterms, i64 g.start, rls g.rules]))) (K : AK)
    (hf : g.rules.all (okR g) = false → ∀ H', HLe H1 H' → K .ret [(2, AV.bool false)] H')
    (ht : g.rules.all (okR g) = true → K (.exit 0) [(1, .ptr b 0 []), (3, i64 g.rules.length), (57, .bool false)] H1) :
    aw PP ref18_Valid_c43 K [(1, .ptr b 0 []), (3, i64 0)] H1 := by
  have hml := maxLen_eq
  simp only [ref18_Valid_c43]
  refine aw_loopK (fun i : Nat => i ≤ g.rules.length ∧ ∀ (j : Nat) (r : Rl), j < i → g.rules[j]? = some r → okR g r = true)
    (fun i => [(1, .ptr b 0 []), (3, i64 i)]) (fun _ => H1) (fun i => g.rules.length - i) 0 ⟨by simp, by simp⟩ (by simp) rfl ?_
  rintro i ⟨hi, hno⟩
  by_cases h : i < g.rules.length
  case neg =>
    have : i = g.rules.length := by omega
    subst this
    simp [hbx]
    intros
    exact ht (okR_all hno)
  have hc : g.rules[i]? = some g.rules[i] := List.getElem?_eq_getElem h
  have hwi : IntKind.i64.wrap ((i : Int) + 1) = (i : Int) + 1 := wrap64 (by omega) (by omega)
  have h' : ¬ g.rules.length ≤ i := by omega
  simp [h, h', hc, hbx, allocQ]
  intro _
  generalize g.rules[i] = r at hc
  simp only [Rl.av]
  intro b4 hb4
  have n4 : b ≠ b4 := ne_of_some_none hbx hb4
  have hH2 : HLe H1 (H1.set b4 (.box r.av)) := .set hb4
  have hb2 : (H1.set b4 (.box r.av)) b = some (.box g.av) := by rw [AHeap.set_ne _ _ n4]; exact hbx
  have hb3 : (H1.set b4 (.box r.av)) b4 = some (.box r.av) := AHeap.set_same _ _ _
  have hb5 := hb2
  simp only [Rl.av] at hH2 hb2 hb3 hb5
  simp only [Gm.av] at hb2
  generalize H1.set b4 (.box (.struct [i64 r.head, ints r.body, i64 r.price])) = H2 at *
  by_cases p1 : 0 ≤ r.head
  case neg =>
    have p1' : r.head < 0 := by omega
    have hv : okR g r = false := by simp [okR]; omega
    simp [hb2, hb3, p1, p1']
    intros; exact hf (okR_not hc hv) _ hH2
  have p1' : ¬ r.head < 0 := by omega
  by_cases p2 : r.head < g.nonterms.length
  case neg =>
    have p2' : (g.nonterms.length : Int) ≤ r.head := by omega
    have hv : okR g r = false := by simp [okR]; omega
    simp [hb2, hb3, p1, p1', p2, p2']
    intros; exact hf (okR_not hc hv) _ hH2
  have p2' : ¬ (g.nonterms.length : Int) ≤ r.head := by omega
  by_cases p3 : r.body.length ≤ 12
  case neg =>
    have p3' : (12 : Int) < r.body.length := by omega
    have r3 : ¬ (r.body.length : Int) ≤ 12 := by omega
    have hv : okR g r = false := by simp [okR]; omega
    simp [hb2, hb3, p1, p1', p2, p2', p3', r3]
    intros; exact hf (okR_not hc hv) _ hH2
  have p3' : ¬ (12 : Int) < r.body.length := by omega
  have r3 : (r.body.length : Int) ≤ 12 := by omega
  by_cases p4 : 0 ≤ r.price
  case neg =>
    have p4' : r.price < 0 := by omega
    have hv : okR g r = false := by simp [okR]; omega
    simp [hb2, hb3, p1, p1', p2, p2', p3', r3, p4, p4']
    intros; exact hf (okR_not hc hv) _ hH2
  have p4' : ¬ r.price < 0 := by omega
  by_cases p5 : r.price ≤ 1000
  case neg =>
    have p5' : 1000 < r.price := by omega
    have hv : okR g r = false := by simp [okR]; omega
    simp [hb2, hb3, p1, p1', p2, p2', p3', r3, p4, p4', p5, p5']
    intros; exact hf (okR_not hc hv) _ hH2
  have p5' : ¬ 1000 < r.price := by omega
  simp [hb2, hb3, p1, p1', p2, p2', p3', r3, p4, p4', p5, p5']
  intros
  have hok : okR g r = !r.body.any (badSym g) := by
    simp only [okR, decide_eq_true p1, decide_eq_true p2, decide_eq_true p3, decide_eq_true p4, decide_eq_true p5, Bool.true_and]
  refine rvalid_inner g r q8 b b4 (i : Int) H2 hb2 hb3 _ (fun hbad => ?_) fun hbad => ?_
  · exact hf (okR_not hc (by rw [hok, hbad]; rfl)) _ hH2
  · simp
    rw [hwi]
    refine loopK_next (i + 1) ⟨by omega, fun j x hj hx => ?_⟩ (by omega) (EnvLe.refl _) hH2
    by_cases hji : j < i
    · exact hno j x hji hx
    · have : j = i := by omega
      subst this
      rw [hc] at hx
      injection hx with hx
      rw [← hx, hok, hbad]
      rfl
end Go.Av

namespace Go.Av
open Go Go.Proofs

set_option maxHeartbeats 8000000 in
theorem r_Valid (g : Gm) (ha : g.terms.length ≤ 1000) (hb : g.nonterms.length ≤ 1000) (H : AHeap) : Pure ref18_Valid_id [g.av] H (.bool (validG g)) := by
  have hml := maxLen_eq
  refine ref18_Valid_enter rfl ?_
  simp [ref18_Valid_rs, allocQ, Gm.av]
  intro b hb0
  have hH1 : HLe H (H.set b (.box g.av)) := .set hb0
  have hbx : (H.set b (.box g.av)) b = some (.box g.av) := AHeap.set_same _ _ _
  rw [Gm.av] at hH1 hbx
  generalize H.set b (.box (.struct [strs g.terms, strs g.nonterms, i64 g.start, rls g.rules])) = H1 at *
  by_cases q1 : g.terms.length ≤ 120
  case neg =>
    have q1' : (120 : Int) < g.terms.length := by omega
    have hv : validG g = false := by simp [validG]; omega
    have r1 : ¬ (g.terms.length : Int) ≤ 120 := by omega
    simp [hbx, q1', r1, hv]
    intros; exact hH1
  have q1' : ¬ (120 : Int) < g.terms.length := by omega
  have r1 : (g.terms.length : Int) ≤ 120 := by omega
  by_cases q2 : 1 ≤ g.nonterms.length
  case neg =>
    have q2' : (g.nonterms.length : Int) < 1 := by omega
    have r2 : ¬ 1 ≤ (g.nonterms.length : Int) := by omega
    have hv : validG g = false := by simp [validG]; omega
    simp [hbx, q1', r1, q2', r2, hv]
    intros; exact hH1
  have q2' : ¬ (g.nonterms.length : Int) < 1 := by omega
  have r2 : 1 ≤ (g.nonterms.length : Int) := by omega
  by_cases q3 : g.nonterms.length ≤ 120
  case neg =>
    have q3' : (120 : Int) < g.nonterms.length := by omega
    have r3 : ¬ (g.nonterms.length : Int) ≤ 120 := by omega
    have hv : validG g = false := by simp [validG]; omega
    simp [hbx, q1', r1, q2', r2, q3', r3, hv]
    intros; exact hH1
  have q3' : ¬ (120 : Int) < g.nonterms.length := by omega
  have r3 : (g.nonterms.length : Int) ≤ 120 := by omega
  by_cases q6 : 1 ≤ g.rules.length
  case neg =>
    have q6' : (g.rules.length : Int) < 1 := by omega
    have r6 : ¬ 1 ≤ (g.rules.length : Int) := by omega
    have hv : validG g = false := by simp [validG]; omega
    simp [hbx, q1', r1, q2', r2, q3', r3, q6', r6, hv]
    intros; exact hH1
  have q6' : ¬ (g.rules.length : Int) < 1 := by omega
  have r6 : 1 ≤ (g.rules.length : Int) := by omega
  by_cases q7 : g.rules.length ≤ 120
  case neg =>
    have q7' : (120 : Int) < g.rules.length := by omega
    have r7 : ¬ (g.rules.length : Int) ≤ 120 := by omega
    have hv : validG g = false := by simp [validG]; omega
    simp [hbx, q1', r1, q2', r2, q3', r3, q6', r6, q7', r7, hv]
    intros; exact hH1
  have q7' : ¬ (120 : Int) < g.rules.length := by omega
  have r7 : (g.rules.length : Int) ≤ 120 := by omega
  simp [hbx, q1', r1, q2', r2, q3', r3, q6', r6, q7', r7]
  intros
  by_cases q4 : 0 ≤ g.start
  case neg =>
    have q4' : g.start < 0 := by omega
    have hv : validG g = false := by simp [validG]; omega
    simp [hbx, q4, q4', hv]
    intros; exact hH1
  have q4' : ¬ g.start < 0 := by omega
  by_cases q5 : g.start < g.nonterms.length
  case neg =>
    have q5' : (g.nonterms.length : Int) ≤ g.start := by omega
    have hv : validG g = false := by simp [validG]; omega
    simp [hbx, q4, q4', q5, q5', hv]
    intros; exact hH1
  have q5' : ¬ (g.nonterms.length : Int) ≤ g.start := by omega
  simp [hbx, q4, q4', q5, q5']
  intros
  refine (r_names g.terms g.nonterms ha hb H1).use ?_
  cases hn : namesOk (g.terms ++ g.nonterms)
  · have hv : validG g = false := by simp [validG, hn]
    simp [hv]
    exact hH1
  simp [hbx]
  have hvr : validG g = g.rules.all (okR g) := by
    have e1 : g.terms.length ≤ 120 := q1
    simp only [validG, hn, decide_eq_true q1, decide_eq_true q2, decide_eq_true q3, decide_eq_true q4, decide_eq_true q5, decide_eq_true q6, decide_eq_true q7, Bool.true_and]
  rw [hvr]
  refine rvalid_loop g q7 ⟨q1, q3⟩ b H1 hbx _ (fun hv H' hle => ?_) fun hv => ?_
  · simp [hv]
    exact hH1.trans hle
  · simp [hv]
    exact hH1
end Go.Av
