/- The statement: looking up the name of a symbol returns the symbol. -/
import Derived.Test.YtpdbcfnmhicnbaaDoorFnLsy
import Derived.Test.YtpdbcfnmhicnbaaDoorTi
set_option linter.unusedVariables false
set_option linter.unusedSimpArgs false
namespace Go.Av
open Go Go.Proofs

theorem few_len' {g : Gm} (h : fewG g = true) : g.terms.length ≤ 1000 ∧ g.nonterms.length ≤ 1000 ∧ g.rules.length ≤ 1000 := by
  simp only [fewG, Bool.and_eq_true, decide_eq_true_iff] at h
  omega

theorem sym_nt {g : Gm} (hv : VG g) {i : Nat} {s : List UInt8} (hi : g.nonterms[i]? = some s) : symG g s = (-1 - (i : Int), true) := by
  have hn := (namesOk_iff _).1 hv.names
  have hlt := (List.getElem?_eq_some_iff.1 hi).1
  have hat : (g.terms ++ g.nonterms)[g.terms.length + i]? = some s := by rw [List.getElem?_append_right (by omega)]; simpa using hi
  have h := (hn _ _ hat).2
  have h1 : idxS s g.terms = -1 := idxS_none fun j x hj => h j x (by have := (List.getElem?_eq_some_iff.1 hj).1; omega) (by rw [List.getElem?_append_left (List.getElem?_eq_some_iff.1 hj).1]; exact hj)
  have h2 : idxS s g.nonterms = i := idxS_some hi fun j x hj hx => h (g.terms.length + j) x (by omega) (by rw [List.getElem?_append_right (by omega)]; simpa using hx)
  simp [symG, h1, h2]

theorem law_Symbol (g : Gm) (s : List UInt8) (H : AHeap) (hM : GM H) (hT : GT H) : Pure law18_GrammarSymbolInverse_id [g.av, .str s] H (.bool true) := by
  have hml := maxLen_eq
  refine law18_GrammarSymbolInverse_enter rfl ?_
  simp [law18_GrammarSymbolInverse_rs, allocQ]
  intro b hb
  have hbx : (H.set b (.box g.av)) b = some (.box g.av) := AHeap.set_same _ _ _
  have hby : (H.set b (.box g.av)) b = some (.box (.struct [strs g.terms, strs g.nonterms, i64 g.start, rls g.rules])) := hbx
  have hH1 : HLe H (H.set b (.box g.av)) := .set hb
  have hT1 := hT.set (o := .box g.av) hb
  have hM1 := hM.set (o := .box g.av) hb
  refine (l_awake _ hM1 hT1).use ?_
  simp
  generalize H.set b (.box g.av) = H1 at *
  refine (l_few g _).use ?_
  cases hf : fewG g
  · simp
    exact hH1
  obtain ⟨l1, l2, l3⟩ := few_len' hf
  simp [hbx]
  refine (g_Symbol g s _ l2).use ?_
  simp [hbx]
  refine (r_Symbol g s _ l2).use ?_
  simp
  refine aw_loopW (fun i : Nat => i ≤ g.nonterms.length) (fun i => [(2, .ptr b 0 []), (9, i64 i)]) (fun _ => H1) (fun i => g.nonterms.length - i) 0 (by simp) (by simp; exact EnvLe.refl _) (.refl _) ?_
  intro i hi
  simp [hby]
  intro _
  by_cases h : i < g.nonterms.length
  case neg =>
    have h' : ¬ (i : Int) < g.nonterms.length := by omega
    have h'' : g.nonterms.length ≤ i := by omega
    simp [h, h', h'']
    exact hH1
  have h' : ¬ g.nonterms.length ≤ i := by omega
  have hc : g.nonterms[i]? = some g.nonterms[i] := List.getElem?_eq_getElem h
  simp [h, h', hbx]
  refine (r_Valid g l1 l2 _).use ?_
  cases hv : validG g
  · simp
    exact hH1
  have hvg := (validG_iff g).1 hv
  simp
  refine law18_GrammarSymbolInverse_c22_lex ?_
  simp [hby, hc, h]
  refine ⟨_, g_Symbol g g.nonterms[i] _ l2, ?_⟩
  rw [sym_nt hvg hc]
  have hw : IntKind.i64.wrap (-1 - (i : Int)) = -1 - (i : Int) := wrap64 (by omega) (by omega)
  simp [hw]
  rw [wrap64 (by omega) (by omega)]
  exact loopK_same (i + 1) (by omega) (by omega) rfl rfl
end Go.Av
