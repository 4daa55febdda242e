/- Part of the proof: C18. No condition. -/
import Derived.Test.YtidbbhdejopdgaaC17
set_option linter.unusedVariables false
set_option linter.unusedSimpArgs false
namespace Go.Av
def distF : List (List UInt8) → List (List UInt8) → Bool
  | _, [] => true
  | seen, s :: r => nameOK s && !(seen.any fun y => s == y) && distF (seen ++ [s]) r

theorem gf_distinct (v : AV) (s0 : Nat) (l : List (List UInt8)) (hv : v.asList = some (s0, l.map AV.str)) (hs0 : l.map AV.str = [] ∨ s0 = 1) (H : AHeap) :
    Pure grammarfile_distinct_id [v] H (.bool (distF [] l)) := by
  refine grammarfile_distinct_enter rfl ?_
  simp [grammarfile_distinct_rs, hv]
  intro hm
  have hml := maxLen_eq
  refine aw_loopK (fun i : Nat => i ≤ l.length ∧ distF [] l = distF (l.take i) (l.drop i)) (fun i => [(0, v), (5, v), (6, i64 l.length), (7, i64 i)]) (fun _ => H) (fun i => l.length - i) 0 ⟨by simp, by simp⟩ rfl rfl ?_
  rintro i ⟨hi, hd⟩
  by_cases h : i < l.length
  · have hcc : l[i]? = some l[i] := List.getElem?_eq_getElem h
    have hsz : s0 = 1 := by
      rcases hs0 with h0 | h0
      · simp at h0; subst h0; simp at h
      · exact h0
    subst hsz
    have hdd : l.drop i = l[i] :: l.drop (i + 1) := List.drop_eq_getElem_cons h
    rw [hdd] at hd
    simp only [distF] at hd
    simp [h, hv, hcc]
    refine (gf_name l[i] H).use ?_
    cases hn : nameOK l[i]
    · simp [hd, hn]
    · simp [hv, show (i : Int) ≤ l.length from by omega, hi]
      rw [← List.map_take]
      refine (sl_Contains (.list 1 ((l.take i).map AV.str)) 1 (l.take i) rfl (.inr rfl) l[i] H).use ?_
      cases hc : (l.take i).any fun y => l[i] == y
      · simp
        refine loopK_same (i + 1) ⟨by omega, ?_⟩ (by omega) (by simp; exact wrap64 (by omega) (by omega)) rfl
        rw [hd, hn, hc]
        simp [h]
      · simp [hd, hn, hc]
  · have : i = l.length := by omega
    subst this
    simp [h, hd, distF]

def altOK (x : GA) : Bool := decide (0 ≤ x.price) && decide (x.price ≤ 1000) && exprOK 30 x.body

theorem gf_rule_1 (x : GA) (H : AHeap) : Pure grammarfile_rule_1_id [x.av] H (.bool (!altOK x)) := by
  refine grammarfile_rule_1_enter rfl ?_
  simp [grammarfile_rule_1_rs, allocQ]
  intro b hb
  have hex := gf_expr 30 (by decide) x.body
  by_cases h1 : x.price < 0
  · have h1' : ¬ (0 ≤ x.price) := by omega
    simp [GA.av, h1, altOK, h1']
    exact .set hb
  · have h1' : (0 ≤ x.price) := by omega
    by_cases h2 : 1000 < x.price
    · have h2' : ¬ (x.price ≤ 1000) := by omega
      simp [GA.av, h1, h1', altOK, h2', h2]
      exact .set hb
    · have h2' : (x.price ≤ 1000) := by omega
      simp [GA.av, h1, h2, altOK, h2', h1']
      refine (hex _).use ?_
      simp
      exact .set hb

def ruleOK (x : GR) : Bool := decide (0 < x.alts.length) && !(x.alts.any fun a => !altOK a)

theorem gf_rule (x : GR) (H : AHeap) : Pure grammarfile_rule_id [x.av] H (.bool (ruleOK x)) := by
  refine grammarfile_rule_enter rfl ?_
  simp [grammarfile_rule_rs, allocQ]
  intro b hb
  obtain ⟨nm, alts⟩ := x
  cases alts with
  | nil =>
    simp [GR.av, ruleOK]
    exact .set hb
  | cons a r =>
    have h0 : (0 : Int) < (r.length : Int) + 1 := by omega
    simp [GR.av, ruleOK, h0]
    intro _
    refine (sl_ContainsFunc_GAlternative (cap := []) grammarfile_rule_1_id (a :: r) (fun a => !altOK a) _ fun y _ => gf_rule_1 y _).use ?_
    simp
    exact .set hb
end Go.Av
