/- The statement: the rules of the nonterminals partition the rules; each list is increasing. -/
import Derived.Test.YtpdbcfnmhicnbaaDoorFnLru
import Derived.Test.YtpdbcfnmhicnbaaDoorA3
set_option linter.unusedVariables false
set_option linter.unusedSimpArgs false
namespace Go.Av
open Go Go.Proofs

/-- Each element is the index of a rule with that head, and the elements grow. -/
theorem rulesFrom_at (h : Int) : ∀ (n : Nat) (l : List Rl) (i : Nat) (x : Int), (rulesFrom h n l)[i]? = some x → ∃ (k : Nat) (r : Rl), x = ((n + k : Nat) : Int) ∧ l[k]? = some r ∧ r.head = h
  | n, [], i, x, hx => by simp [rulesFrom] at hx
  | n, r :: l, i, x, hx => by
    rw [rulesFrom] at hx
    split at hx
    · rename_i hr
      cases i with
      | zero => simp at hx; exact ⟨0, r, by simp [← hx], rfl, hr⟩
      | succ i =>
        obtain ⟨k, r', e, h1, h2⟩ := rulesFrom_at h (n + 1) l i x (by simpa using hx)
        exact ⟨k + 1, r', by rw [e]; omega, by simpa using h1, h2⟩
    · obtain ⟨k, r', e, h1, h2⟩ := rulesFrom_at h (n + 1) l i x hx
      exact ⟨k + 1, r', by rw [e]; omega, by simpa using h1, h2⟩

theorem rulesFrom_ge (h : Int) (n : Nat) (l : List Rl) (i : Nat) (x : Int) (hx : (rulesFrom h n l)[i]? = some x) : (n : Int) ≤ x := by
  obtain ⟨k, _, e, _⟩ := rulesFrom_at h n l i x hx
  omega

theorem rulesFrom_inc (h : Int) : ∀ (n : Nat) (l : List Rl) (i : Nat) (x y : Int), (rulesFrom h n l)[i]? = some x → (rulesFrom h n l)[i + 1]? = some y → x < y
  | n, [], i, x, y, hx, _ => by simp [rulesFrom] at hx
  | n, r :: l, i, x, y, hx, hy => by
    rw [rulesFrom] at hx hy
    split at hx
    · rename_i hr
      rw [if_pos hr] at hy
      cases i with
      | zero =>
        simp at hx hy
        have := rulesFrom_ge h (n + 1) l 0 y (by simpa using hy)
        omega
      | succ i => exact rulesFrom_inc h (n + 1) l i x y (by simpa using hx) (by simpa using hy)
    · rename_i hr
      rw [if_neg hr] at hy
      exact rulesFrom_inc h (n + 1) l i x y hx hy

def totR (g : Gm) : Nat → Nat
  | 0 => 0
  | k + 1 => totR g k + (rulesFrom ((k : Int) - 1) 0 g.rules).length

/-- How many rules have a head below. -/
def below (m : Int) (l : List Rl) : Nat := (l.filter fun r => decide (r.head < m)).length

theorem below_succ (m : Int) : ∀ (n : Nat) (l : List Rl), below (m + 1) l = below m l + (rulesFrom m n l).length
  | n, [] => by simp [below, rulesFrom]
  | n, r :: l => by
    have ih := below_succ m (n + 1) l
    simp only [below, List.filter_cons, rulesFrom] at ih ⊢
    by_cases h1 : r.head < m
    · have h2 : r.head < m + 1 := by omega
      have h3 : ¬ r.head = m := by omega
      simp [h1, h2, h3]; omega
    · by_cases h3 : r.head = m
      · have h2 : r.head < m + 1 := by omega
        have h4 : m < m + 1 := by omega
        simp [h1, h2, h3, h4]; omega
      · have h2 : ¬ r.head < m + 1 := by omega
        simp [h1, h2, h3]; omega

theorem totR_eq (g : Gm) (hv : VG g) : ∀ k, totR g k = below ((k : Int) - 1) g.rules
  | 0 => by
    have : g.rules.filter (fun r => decide (r.head < -1)) = [] := by
      rw [List.filter_eq_nil_iff]
      intro r hr
      have := (hv.rok r hr).h0
      simp
      omega
    simp [totR, below, this]
  | k + 1 => by
    have h1 := totR_eq g hv k
    have h2 := below_succ ((k : Int) - 1) 0 g.rules
    rw [totR, h1, ← h2]
    congr 1
    push_cast
    omega

theorem totR_all (g : Gm) (hv : VG g) : totR g (g.nonterms.length + 2) = g.rules.length := by
  rw [totR_eq g hv, below, List.filter_eq_self.2]
  intro r hr
  have := (hv.rok r hr).h
  simp
  omega

theorem totR_le (g : Gm) (hv : VG g) (k : Nat) : totR g k ≤ g.rules.length := by
  rw [totR_eq g hv, below]
  exact List.length_filter_le _ _

set_option maxHeartbeats 4000000 in
set_option maxRecDepth 20000 in
theorem part_inner (g : Gm) (hv : VG g) (h : Int) (tot : Int) (b : Nat) (H : AHeap) (hby : H b = some (.box (.struct [strs g.terms, strs g.nonterms, i64 g.start, rls g.rules]))) (K : AK)
    (ht : K (.exit 2) [(1, .ptr b 0 []), (3, i64 tot), (4, i64 h), (5, ints (rulesFrom h 0 g.rules)), (6, i64 (rulesFrom h 0 g.rules).length), (30, .bool false)] H) :
    aw PP law18_GrammarRulesOfPartition_c30 K [(1, .ptr b 0 []), (3, i64 tot), (4, i64 h), (5, ints (rulesFrom h 0 g.rules)), (6, i64 0)] H := by
  have hml := maxLen_eq
  have hl := rulesFrom_len h 0 g.rules
  have hat := rulesFrom_at h 0 g.rules
  have hinc := rulesFrom_inc h 0 g.rules
  have hr := hv.r
  generalize rulesFrom h 0 g.rules = R at *
  simp only [law18_GrammarRulesOfPartition_c30]
  refine aw_loopK (fun i : Nat => i ≤ R.length) (fun i => [(1, .ptr b 0 []), (3, i64 tot), (4, i64 h), (5, ints R), (6, i64 i)]) (fun _ => H) (fun i => R.length - i) 0 (by simp) (by simp) rfl ?_
  intro i hi
  simp
  intro _
  by_cases hlt : i < R.length
  case neg =>
    have : i = R.length := by omega
    subst this
    simp
    exact ht
  have h' : ¬ R.length ≤ i := by omega
  have hc : R[i]? = some R[i] := List.getElem?_eq_getElem hlt
  obtain ⟨k, r, ex, hk, hh⟩ := hat i _ hc
  have hkl := (List.getElem?_eq_some_iff.1 hk).1
  simp only [Nat.zero_add] at ex
  have hml2 : g.rules.length ≤ maxLen := by omega
  have hwi : IntKind.i64.wrap ((i : Int) + 1) = (i : Int) + 1 := wrap64 (by omega) (by omega)
  simp [hlt, h']
  refine law18_GrammarRulesOfPartition_c21_lex ?_
  have n1 : ¬ (k : Int) < 0 := by omega
  have n2 : ¬ g.rules.length ≤ k := by omega
  have hh2 : g.rules[k].head = h := by rw [(List.getElem?_eq_some_iff.1 hk).2]; exact hh
  cases i with
  | zero =>
    simp [hby, hlt, ex, n1, n2, hkl, hml2, Rl.av, hh2]
    rw [wrap64 (by omega) (by omega)]
    exact loopK_same 1 (by omega) (by omega) rfl rfl
  | succ j =>
    have hj : j < R.length := by omega
    have hcj : R[j]? = some R[j] := List.getElem?_eq_getElem hj
    have hlt2 : R[j] < (k : Int) := by rw [← ex]; exact hinc j _ _ hcj hc
    have hle2 : ¬ (k : Int) ≤ R[j] := by omega
    have hj0 : (0 : Int) < (j : Int) + 1 := by omega
    have hj1 : (0 : Int) ≤ (j : Int) + 1 := by omega
    have hwj : IntKind.i64.wrap (j : Int) = (j : Int) := wrap64 (by omega) (by omega)
    simp [hby, hlt, ex, n1, n2, hkl, hml2, Rl.av, hh2, hj0, hj1, hj, hwj, hle2]
    intro _
    rw [wrap64 (by omega) (by omega)]
    exact loopK_same (j + 2) (by omega) (by omega) rfl rfl

theorem law_Rules (g : Gm) (H : AHeap) (hM : GM H) (hT : GT H) : Pure law18_GrammarRulesOfPartition_id [g.av] H (.bool true) := by
  have hml := maxLen_eq
  refine law18_GrammarRulesOfPartition_enter rfl ?_
  simp [law18_GrammarRulesOfPartition_rs, allocQ]
  intro b hb
  have hby : (H.set b (.box g.av)) b = some (.box (.struct [strs g.terms, strs g.nonterms, i64 g.start, rls g.rules])) := AHeap.set_same _ _ _
  have hbx : (H.set b (.box g.av)) b = some (.box g.av) := AHeap.set_same _ _ _
  have hH1 : HLe H (H.set b (.box g.av)) := .set hb
  have hT1 := hT.set (o := .box g.av) hb
  have hM1 := hM.set (o := .box g.av) hb
  refine (l_awake _ hM1 hT1).use ?_
  simp
  generalize H.set b (.box g.av) = H1 at *
  refine (l_few g _).use ?_
  cases hf : fewG g
  · simp
    exact hH1
  obtain ⟨l1, l2, l3⟩ := few_len' hf
  simp [hbx]
  refine (r_Valid g l1 l2 _).use ?_
  cases hv : validG g
  · simp
    exact hH1
  have hvg := (validG_iff g).1 hv
  simp
  refine aw_loopW (fun k : Nat => k ≤ g.nonterms.length + 2) (fun k => [(1, .ptr b 0 []), (3, i64 (totR g k)), (4, i64 ((k : Int) - 1))]) (fun _ => H1) (fun k => g.nonterms.length + 2 - k) 0 (by simp) (by simp [totR]; exact EnvLe.refl _) (.refl _) ?_
  intro k hk
  simp [hby]
  intro _
  by_cases h : k < g.nonterms.length + 2
  case neg =>
    have : k = g.nonterms.length + 2 := by omega
    subst this
    have h' : ¬ ((g.nonterms.length + 2 : Nat) : Int) - 1 ≤ g.nonterms.length := by omega
    have h'' : (g.nonterms.length : Int) < ((g.nonterms.length + 2 : Nat) : Int) - 1 := by omega
    simp only [h', h'']
    simp [hby, totR_all g hvg]
    exact fun _ => hH1
  have h' : (k : Int) - 1 ≤ g.nonterms.length := by omega
  have h'' : ¬ (g.nonterms.length : Int) < (k : Int) - 1 := by omega
  simp [h', h'', hby]
  refine ACalls.mono (g_RulesOf g ((k : Int) - 1) H1 l3) ?_
  rintro r H' ⟨rfl, rfl⟩
  simp
  refine part_inner g hvg _ _ b _ hby _ ?_
  simp
  intro _
  have ht1 := totR_le g hvg (k + 1)
  have ht2 : totR g (k + 1) = totR g k + (rulesFrom ((k : Int) - 1) 0 g.rules).length := rfl
  have hr := hvg.r
  have hn := hvg.n
  rw [wrap64 (by omega) (by omega), wrap64 (by omega) (by omega)]
  refine loopK_next (k + 1) (by omega) (by omega) ?_ (.refl _)
  have e1 : ((k + 1 : Nat) : Int) - 1 = (k : Int) := by omega
  have e2 : ((totR g (k + 1) : Nat) : Int) = (totR g k : Int) + (rulesFrom ((k : Int) - 1) 0 g.rules).length := by rw [ht2]; push_cast; rfl
  simp only [e1, e2]
  exact EnvLe.refl _
end Go.Av
