/- ref16.Equal: levels and files. -/
import Derived.Test.YtondhmpdmbjmdaaDoorFnsE
import Derived.Test.YtondhmpdmbjmdaaDoorE1
import Derived.Test.YtondhmpdmbjmdaaDoorSiz
set_option linter.unusedVariables false
set_option linter.unusedSimpArgs false
namespace Go.Av
open Go Go.Proofs

theorem r16_sameLevels (l m : List GL) (hl : ∀ x ∈ l, x.tokens.length ≤ 1000000) (hm : ∀ x ∈ m, x.tokens.length ≤ 1000000) (H : AHeap) : Pure r6_sL_id [.list 2 (l.map GL.av), .list 2 (m.map GL.av)] H (.bool (eqB l m)) := by
  have hml := maxLen_eq
  refine r6_sL_enter rfl ?_
  by_cases h3 : l.length = m.length
  · have h3i : (l.length : Int) = m.length := by omega
    simp [r6_sL_rs, h3, h3i]
    intro hm1
    refine aw_loopK (fun i : Nat => i ≤ l.length ∧ Pre l m i) (fun i => [(0, .list 2 (l.map GL.av)), (1, .list 2 (m.map GL.av)), (5, i64 i)]) (fun _ => H) (fun i => l.length - i) 0 ⟨Nat.zero_le _, Pre.zero _ _⟩ rfl rfl ?_
    rintro i ⟨hi, hpre⟩
    by_cases h : i < l.length
    · have hk : i < m.length := by omega
      have hc : l[i]? = some l[i] := List.getElem?_eq_getElem h
      have hd : m[i]? = some m[i] := List.getElem?_eq_getElem hk
      have hmem := hl _ (List.getElem_mem h)
      have hmem2 := hm _ (List.getElem_mem hk)
      have hcc : ((l.map GL.av)[i]?) = some (.struct [i64 l[i].assoc, .list 1 (l[i].tokens.map AV.str)]) := by simp [hc, GL.av]
      have hdd : ((m.map GL.av)[i]?) = some (.struct [i64 m[i].assoc, .list 1 (m[i].tokens.map AV.str)]) := by simp [hd, GL.av]
      generalize hx : l[i] = x at *
      generalize hy : m[i] = y at *
      obtain ⟨xa, xt⟩ := x
      obtain ⟨ya, yt⟩ := y
      simp only at hcc hdd hmem hmem2
      have hi2 : (i : Int) < m.length := by omega
      simp [h, hk, h3, hi2]
      intro _
      refine r6_sL_c10_lex ?_
      by_cases ea : xa = ya
      · by_cases el : xt.length = yt.length
        · have eli : (xt.length : Int) = yt.length := by omega
          simp [h, hk, hcc, hdd, hx, hy, GL.av, ea, el, eli]
          refine ⟨by omega, ?_⟩
          refine aw_loopK (fun k : Nat => k ≤ xt.length ∧ Pre xt yt k) (fun k => [(0, .list 2 (l.map GL.av)), (1, .list 2 (m.map GL.av)), (5, i64 i), (6, i64 k)]) (fun _ => H) (fun k => xt.length - k) 0 ⟨Nat.zero_le _, Pre.zero _ _⟩ rfl rfl ?_
          rintro k ⟨hk1, hpre2⟩
          by_cases h2 : k < xt.length
          · have h2y : k < yt.length := by omega
            have hc2 : xt[k]? = some xt[k] := List.getElem?_eq_getElem h2
            have hd2 : yt[k]? = some yt[k] := List.getElem?_eq_getElem h2y
            have hi3 : (k : Int) < yt.length := by omega
            have h2n : ¬ yt.length ≤ k := by omega
            simp [h, hk, hcc, hdd, hx, hy, GL.av, h2, h2y, el, hi3, h2n]
            intro _
            refine r6_sL_c19_lex ?_
            by_cases et : xt[k] = yt[k]
            · simp [h, hk, hcc, hdd, hx, hy, GL.av, h2, h2y, hc2, hd2, et]
              rw [wrap64 (by omega) (by omega)]
              exact loopK_same (k + 1) ⟨by omega, hpre2.succ hc2 hd2 et⟩ (by omega) rfl rfl
            · have et' : (xt[k] != yt[k]) = true := by simpa using et
              have hne : eqB l m = false := eqB_false.2 (Pre.ne hc hd (by intro e; injection e with _ e; exact Pre.ne hc2 hd2 et e))
              simp [h, hk, hcc, hdd, hx, hy, GL.av, h2, h2y, hc2, hd2, et, et', hne]
          · have : k = xt.length := by omega
            subst this
            have hi3 : ¬ (xt.length : Int) < yt.length := by omega
            have ett := Pre.full el hpre2
            simp [h, hk, hcc, hdd, hx, hy, GL.av, el, hi3]
            intro _
            rw [wrap64 (by omega) (by omega)]
            exact loopK_same (i + 1) ⟨by omega, hpre.succ hc hd (by rw [ea, ett])⟩ (by omega) rfl rfl
        · have el' : ((xt.length : Int) != yt.length) = true := by simp; omega
          have eli : ¬ (xt.length : Int) = yt.length := by omega
          have hne : eqB l m = false := eqB_false.2 (Pre.ne hc hd (by intro e; injection e with _ e; exact el (by rw [e])))
          simp [h, hk, hcc, hdd, hx, hy, GL.av, ea, el, el', eli, hne]
          exact ⟨by omega, by omega⟩
      · have ea' : (xa != ya) = true := by simpa using ea
        have hne : eqB l m = false := eqB_false.2 (Pre.ne hc hd (by intro e; injection e with e _; exact ea e))
        simp [h, hk, hcc, hdd, hx, hy, GL.av, ea, ea', hne]
    · have : i = l.length := by omega
      subst this
      have hi2 : ¬ (l.length : Int) < m.length := by omega
      simp [h3, hi2, eqB_iff.2 (Pre.full h3 hpre)]
  · have h3' : ((l.length : Int) != m.length) = true := by simp; omega
    have h3i : ¬ (l.length : Int) = m.length := by omega
    have hne : eqB l m = false := eqB_false.2 (fun e => h3 (by rw [e]))
    simp [r6_sL_rs, h3, h3', h3i, hne]
end Go.Av
