/- Valid grammars. -/
import Derived.Test.YtpdbcfnmhicnbaaDoorTc
set_option linter.unusedVariables false
set_option linter.unusedSimpArgs false
namespace Go.Av
open Go Go.Proofs

def okR (g : Gm) (r : Rl) : Bool := decide (0 ≤ r.head) && decide (r.head < g.nonterms.length) && decide (r.body.length ≤ 12) && decide (0 ≤ r.price) && decide (r.price ≤ 1000) && !r.body.any (badSym g)
def validG (g : Gm) : Bool := decide (g.terms.length ≤ 120) && decide (1 ≤ g.nonterms.length) && decide (g.nonterms.length ≤ 120) && namesOk (g.terms ++ g.nonterms) && decide (0 ≤ g.start) && decide (g.start < g.nonterms.length) && decide (1 ≤ g.rules.length) && decide (g.rules.length ≤ 120) && g.rules.all (okR g)

theorem okR_all {g : Gm} (h : ∀ (j : Nat) (r : Rl), j < g.rules.length → g.rules[j]? = some r → okR g r = true) : g.rules.all (okR g) = true := by
  rw [List.all_eq_true]
  intro r hr
  obtain ⟨j, hj⟩ := List.getElem?_of_mem hr
  exact h j r (List.getElem?_eq_some_iff.1 hj).1 hj
theorem okR_not {g : Gm} {j : Nat} {r : Rl} (h : g.rules[j]? = some r) (ho : okR g r = false) : g.rules.all (okR g) = false := by
  rw [← Bool.not_eq_true, List.all_eq_true]
  intro hh
  rw [hh r (List.mem_of_getElem? h)] at ho
  cases ho

theorem containsf_bad (g : Gm) (l : List Int) (b : Nat) (H : AHeap) (hb : H b = some (.box g.av)) : Pure sC_int_id [ints l, .fn (.func 24) [] [.ptr b 0 []]] H (.bool (l.any (badSym g))) :=
  containsf_int 24 [.ptr b 0 []] (badSym g) l H fun x _ => v1_bad g x b H hb

set_option maxHeartbeats 4000000 in
theorem valid_loop (g : Gm) (q7 : g.rules.length ≤ 120) (b : Nat) (H1 : AHeap) (hbx : H1 b = some (.box (.struct [strs g.terms, strs g.nonterms, i64 g.start, rls g.rules]))) (K : AK)
    (hf : g.rules.all (okR g) = false → ∀ H', HLe H1 H' → K .ret [(2, AV.bool false)] H')
    (ht : g.rules.all (okR g) = true → K (.exit 0) [(1, .ptr b 0 []), (52, rls g.rules), (53, i64 g.rules.length), (54, i64 g.rules.length), (55, .bool false)] H1) :
    aw PP grammar_Valid_c27 K [(1, .ptr b 0 []), (52, rls g.rules), (53, i64 g.rules.length), (54, i64 0)] H1 := by
  have hml := maxLen_eq
  simp only [grammar_Valid_c27]
  refine aw_loopK (fun i : Nat => i ≤ g.rules.length ∧ ∀ (j : Nat) (r : Rl), j < i → g.rules[j]? = some r → okR g r = true)
    (fun i => [(1, .ptr b 0 []), (52, rls g.rules), (53, i64 g.rules.length), (54, i64 i)]) (fun _ => H1) (fun i => g.rules.length - i) 0 ⟨by simp, by simp⟩ (by simp) rfl ?_
  rintro i ⟨hi, hno⟩
  by_cases h : i < g.rules.length
  case neg =>
    have : i = g.rules.length := by omega
    subst this
    simp
    exact ht (okR_all hno)
  have hc : g.rules[i]? = some g.rules[i] := List.getElem?_eq_getElem h
  have hwi : IntKind.i64.wrap ((i : Int) + 1) = (i : Int) + 1 := wrap64 (by omega) (by omega)
  simp [h, hc, allocQ]
  generalize g.rules[i] = r at hc
  simp only [Rl.av]
  intro b4 hb4
  have n4 : b ≠ b4 := ne_of_some_none hbx hb4
  have hH2 : HLe H1 (H1.set b4 (.box r.av)) := .set hb4
  have hb2 : (H1.set b4 (.box r.av)) b = some (.box g.av) := by rw [AHeap.set_ne _ _ n4]; exact hbx
  have hb3 : (H1.set b4 (.box r.av)) b4 = some (.box r.av) := AHeap.set_same _ _ _
  have hb5 := hb2
  simp only [Rl.av] at hH2 hb2 hb3 hb5
  simp only [Gm.av] at hb2
  generalize H1.set b4 (.box (.struct [i64 r.head, ints r.body, i64 r.price])) = H2 at *
  by_cases p1 : 0 ≤ r.head
  case neg =>
    have p1' : r.head < 0 := by omega
    have hv : okR g r = false := by simp [okR]; omega
    simp [hb2, hb3, p1, p1']
    intros; exact hf (okR_not hc hv) _ hH2
  have p1' : ¬ r.head < 0 := by omega
  by_cases p2 : r.head < g.nonterms.length
  case neg =>
    have p2' : (g.nonterms.length : Int) ≤ r.head := by omega
    have hv : okR g r = false := by simp [okR]; omega
    simp [hb2, hb3, p1, p1', p2, p2']
    intros; exact hf (okR_not hc hv) _ hH2
  have p2' : ¬ (g.nonterms.length : Int) ≤ r.head := by omega
  by_cases p3 : r.body.length ≤ 12
  case neg =>
    have p3' : (12 : Int) < r.body.length := by omega
    have r3 : ¬ (r.body.length : Int) ≤ 12 := by omega
    have hv : okR g r = false := by simp [okR]; omega
    simp [hb2, hb3, p1, p1', p2, p2', p3', r3]
    intros; exact hf (okR_not hc hv) _ hH2
  have p3' : ¬ (12 : Int) < r.body.length := by omega
  have r3 : (r.body.length : Int) ≤ 12 := by omega
  by_cases p4 : 0 ≤ r.price
  case neg =>
    have p4' : r.price < 0 := by omega
    have hv : okR g r = false := by simp [okR]; omega
    simp [hb2, hb3, p1, p1', p2, p2', p3', r3, p4, p4']
    intros; exact hf (okR_not hc hv) _ hH2
  have p4' : ¬ r.price < 0 := by omega
  by_cases p5 : r.price ≤ 1000
  case neg =>
    have p5' : 1000 < r.price := by omega
    have hv : okR g r = false := by simp [okR]; omega
    simp [hb2, hb3, p1, p1', p2, p2', p3', r3, p4, p4', p5, p5']
    intros; exact hf (okR_not hc hv) _ hH2
  have p5' : ¬ 1000 < r.price := by omega
  simp [hb2, hb3, p1, p1', p2, p2', p3', r3, p4, p4', p5, p5']
  intros
  refine (containsf_bad g r.body b _ hb5).use ?_
  have hok : okR g r = !r.body.any (badSym g) := by
    simp only [okR, decide_eq_true p1, decide_eq_true p2, decide_eq_true p3, decide_eq_true p4, decide_eq_true p5, Bool.true_and]
  cases hbad : r.body.any (badSym g)
  · simp
    rw [hwi]
    refine loopK_next (i + 1) ⟨by omega, fun j x hj hx => ?_⟩ (by omega) (EnvLe.refl _) hH2
    by_cases hji : j < i
    · exact hno j x hji hx
    · have : j = i := by omega
      subst this
      rw [hc] at hx
      injection hx with hx
      rw [← hx, hok, hbad]
      rfl
  · simp
    exact hf (okR_not hc (by rw [hok, hbad]; rfl)) _ hH2

end Go.Av

namespace Go.Av
open Go Go.Proofs

set_option maxHeartbeats 8000000 in
theorem g_Valid (g : Gm) (ha : g.terms.length ≤ 1000) (hb : g.nonterms.length ≤ 1000) (H : AHeap) (hM : GM H) : Pure grammar_Valid_id [g.av] H (.bool (validG g)) := by
  have hml := maxLen_eq
  refine grammar_Valid_enter rfl ?_
  simp [grammar_Valid_rs, allocQ, Gm.av]
  intro b hb0
  have hM1 := hM.set (o := .box g.av) hb0
  have hH1 : HLe H (H.set b (.box g.av)) := .set hb0
  have hbx : (H.set b (.box g.av)) b = some (.box g.av) := AHeap.set_same _ _ _
  rw [Gm.av] at hM1 hH1 hbx
  generalize H.set b (.box (.struct [strs g.terms, strs g.nonterms, i64 g.start, rls g.rules])) = H1 at *
  by_cases q1 : g.terms.length ≤ 120
  case neg =>
    have q1' : (120 : Int) < g.terms.length := by omega
    have hv : validG g = false := by simp [validG]; omega
    have r1 : ¬ (g.terms.length : Int) ≤ 120 := by omega
    simp [hbx, q1', r1, hv]
    intros; exact hH1
  have q1' : ¬ (120 : Int) < g.terms.length := by omega
  have r1 : (g.terms.length : Int) ≤ 120 := by omega
  by_cases q2 : 1 ≤ g.nonterms.length
  case neg =>
    have q2' : (g.nonterms.length : Int) < 1 := by omega
    have r2 : ¬ 1 ≤ (g.nonterms.length : Int) := by omega
    have hv : validG g = false := by simp [validG]; omega
    simp [hbx, q1', r1, q2', r2, hv]
    intros; exact hH1
  have q2' : ¬ (g.nonterms.length : Int) < 1 := by omega
  have r2 : 1 ≤ (g.nonterms.length : Int) := by omega
  by_cases q3 : g.nonterms.length ≤ 120
  case neg =>
    have q3' : (120 : Int) < g.nonterms.length := by omega
    have r3 : ¬ (g.nonterms.length : Int) ≤ 120 := by omega
    have hv : validG g = false := by simp [validG]; omega
    simp [hbx, q1', r1, q2', r2, q3', r3, hv]
    intros; exact hH1
  have q3' : ¬ (120 : Int) < g.nonterms.length := by omega
  have r3 : (g.nonterms.length : Int) ≤ 120 := by omega
  simp [hbx, q1', r1, q2', r2, q3', r3]
  intro _ _
  refine (g_named g ha hb H1 hM1).use ?_
  cases hn : namesOk (g.terms ++ g.nonterms)
  · have hv : validG g = false := by simp [validG, hn]
    simp [hv]
    exact hH1
  simp [hbx]
  by_cases q4 : 0 ≤ g.start
  case neg =>
    have q4' : g.start < 0 := by omega
    have hv : validG g = false := by simp [validG]; omega
    simp [q4, q4', hv]
    intros; exact hH1
  have q4' : ¬ g.start < 0 := by omega
  by_cases q5 : g.start < g.nonterms.length
  case neg =>
    have q5' : (g.nonterms.length : Int) ≤ g.start := by omega
    have hv : validG g = false := by simp [validG]; omega
    simp [hbx, q4, q4', q5, q5', hv]
    intros; exact hH1
  have q5' : ¬ (g.nonterms.length : Int) ≤ g.start := by omega
  by_cases q6 : 1 ≤ g.rules.length
  case neg =>
    have q6' : (g.rules.length : Int) < 1 := by omega
    have r6 : ¬ 1 ≤ (g.rules.length : Int) := by omega
    have hv : validG g = false := by simp [validG]; omega
    simp [hbx, q4, q4', q5, q5', q6', r6, hv]
    intros; exact hH1
  have q6' : ¬ (g.rules.length : Int) < 1 := by omega
  have r6 : 1 ≤ (g.rules.length : Int) := by omega
  by_cases q7 : g.rules.length ≤ 120
  case neg =>
    have q7' : (120 : Int) < g.rules.length := by omega
    have r7 : ¬ (g.rules.length : Int) ≤ 120 := by omega
    have hv : validG g = false := by simp [validG]; omega
    simp [hbx, q4, q4', q5, q5', q6', r6, q7', r7, hv]
    intros; exact hH1
  have q7' : ¬ (120 : Int) < g.rules.length := by omega
  have r7 : (g.rules.length : Int) ≤ 120 := by omega
  have hvr : validG g = g.rules.all (okR g) := by
    have e1 : g.terms.length ≤ 120 := q1
    simp only [validG, hn, decide_eq_true q1, decide_eq_true q2, decide_eq_true q3, decide_eq_true q4, decide_eq_true q5, decide_eq_true q6, decide_eq_true q7, Bool.true_and]
  rw [hvr]
  simp [hbx, q4, q4', q5, q5', q6', r6, q7', r7]
  intros
  refine valid_loop g q7 b H1 hbx _ (fun hv H' hle => ?_) fun hv => ?_
  · simp [hv]
    exact hH1.trans hle
  · simp [hv]
    exact hH1
end Go.Av
