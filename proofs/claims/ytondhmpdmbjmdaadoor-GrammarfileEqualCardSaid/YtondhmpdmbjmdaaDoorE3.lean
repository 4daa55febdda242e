/- ref16.Equal of files; GrammarfileEqual: the law function. -/
import Derived.Test.YtondhmpdmbjmdaaDoorFnsE
import Derived.Test.YtondhmpdmbjmdaaDoorE2
import Derived.Test.YtondhmpdmbjmdaaDoorLa
set_option linter.unusedVariables false
set_option linter.unusedSimpArgs false
namespace Go.Av
open Go Go.Proofs

set_option maxRecDepth 100000 in
set_option maxHeartbeats 4000000 in
theorem r16_Equal (f g : GF) (hf : ∀ x ∈ f.levels, x.tokens.length ≤ 1000000) (hg : ∀ x ∈ g.levels, x.tokens.length ≤ 1000000) (H : AHeap) : Pure r6_Equal_id [f.av, g.av] H (.bool (eqB f g)) := by
  obtain ⟨st, lv, rs⟩ := f
  obtain ⟨st', lv', rs'⟩ := g
  simp only at hf hg
  have hml := maxLen_eq
  refine r6_Equal_enter rfl ?_
  simp [r6_Equal_rs, allocQ, -r6_Equal_c44_eq]
  intro b2 hb2 b3 hb3
  obtain ⟨H2, e1, q2, q3, hle⟩ := two_boxes (o' := .box (GF.av ⟨st', lv', rs'⟩)) hb2 hb3
  rw [e1]
  simp only [GF.av] at q2 q3
  clear hb2 hb3 e1
  by_cases h1 : st = st'
  · subst h1
    simp [q2, q3, -r6_Equal_c43_eq]
    refine (r16_sameLevels lv lv' hf hg H2).use ?_
    by_cases h2 : lv = lv'
    · subst h2
      have hq : eqB (GF.mk st lv rs) ⟨st, lv, rs'⟩ = eqB rs rs' := by
        rw [Bool.eq_iff_iff, eqB_iff, eqB_iff]; simp
      rw [hq]
      by_cases h3 : rs.length = rs'.length
      · have h3i : (rs.length : Int) = rs'.length := by omega
        simp [eqB_self, q2, q3, h3, h3i]
        intro hm
        refine aw_loopK (fun i : Nat => i ≤ rs.length ∧ Pre rs rs' i) (fun i => [(2, .ptr b2 0 []), (3, .ptr b3 0 []), (5, i64 i)]) (fun _ => H2) (fun i => rs.length - i) 0 ⟨Nat.zero_le _, Pre.zero _ _⟩ rfl rfl ?_
        rintro i ⟨hi, hpre⟩
        by_cases h : i < rs.length
        · have hk : i < rs'.length := by omega
          have hc : rs[i]? = some rs[i] := List.getElem?_eq_getElem h
          have hd : rs'[i]? = some rs'[i] := List.getElem?_eq_getElem hk
          have h' : ¬ rs.length ≤ i := by omega
          have hk' : ¬ rs'.length ≤ i := by omega
          have hi2 : (i : Int) < rs'.length := by omega
          simp [q2, q3, h, h', hk, hk', h3, hi2]
          intro _
          refine r6_Equal_c10_lexF [b2, b3] ?_
          simp [q2, q3, h, hk, hc, hd, allocQ, -r6_Equal_c32_eq]
          intro b6 hb6
          have e26 : b2 ≠ b6 := ne_of_some_none q2 hb6
          have e36 : b3 ≠ b6 := ne_of_some_none q3 hb6
          refine ⟨by simp [Agree, AHeap.set_ne, e26, e36], ?_⟩
          intro b7 hb7
          have e67 : b6 ≠ b7 := by rintro rfl; simp at hb7
          rw [AHeap.set_ne _ _ (Ne.symm e67)] at hb7
          have e27 : b2 ≠ b7 := ne_of_some_none q2 hb7
          have e37 : b3 ≠ b7 := ne_of_some_none q3 hb7
          refine ⟨by simp [Agree, AHeap.set_ne, e26, e36, e27, e37], ?_⟩
          simp [AHeap.set_ne, e67, e67.symm, -r6_Equal_c32_eq]
          refine ⟨by simp [Agree, AHeap.set_ne, e26, e36, e27, e37], ?_⟩
          have hh : (((H2.set b6 (.box (.struct [.str [], .nils]))).set b7 (.box (.struct [.str [], .nils]))).set b6 (.box rs[i].av)).set b7 (.box rs'[i].av) = (H2.set b6 (.box rs[i].av)).set b7 (.box rs'[i].av) := by
            funext x; simp only [AHeap.set]; grind
          rw [hh]
          generalize hr : rs[i] = r at *
          generalize hs : rs'[i] = s at *
          have q6 : ((H2.set b6 (.box r.av)).set b7 (.box s.av)) b6 = some (.box (.struct [.str r.name, .list 4 (r.alts.map GA.av)])) := by rw [AHeap.set_ne _ _ e67, AHeap.set_same]; rfl
          have q7 : ((H2.set b6 (.box r.av)).set b7 (.box s.av)) b7 = some (.box (.struct [.str s.name, .list 4 (s.alts.map GA.av)])) := by rw [AHeap.set_same]; rfl
          have hle3 : HLe H2 ((H2.set b6 (.box r.av)).set b7 (.box s.av)) := (HLe.set hb6).trans (.set (by rw [AHeap.set_ne _ _ (Ne.symm e67)]; exact hb7))
          generalize (H2.set b6 (.box r.av)).set b7 (.box s.av) = H3 at *
          by_cases en : r.name = s.name
          · by_cases ea : r.alts.length = s.alts.length
            · have eai : (r.alts.length : Int) = s.alts.length := by omega
              simp [q6, q7, en, ea, eai]
              intro hm3
              refine aw_loopK (fun k : Nat => k ≤ r.alts.length ∧ Pre r.alts s.alts k) (fun k => [(2, .ptr b2 0 []), (3, .ptr b3 0 []), (5, i64 i), (6, .ptr b6 0 []), (7, .ptr b7 0 []), (8, i64 k)]) (fun _ => H3) (fun k => r.alts.length - k) 0 ⟨Nat.zero_le _, Pre.zero _ _⟩ rfl rfl ?_
              rintro k ⟨hk1, hpre2⟩
              by_cases h2 : k < r.alts.length
              · have h2s : k < s.alts.length := by omega
                have hc2 : r.alts[k]? = some r.alts[k] := List.getElem?_eq_getElem h2
                have hd2 : s.alts[k]? = some s.alts[k] := List.getElem?_eq_getElem h2s
                have h2' : ¬ r.alts.length ≤ k := by omega
                have h2s' : ¬ s.alts.length ≤ k := by omega
                have hi3 : (k : Int) < s.alts.length := by omega
                simp [q6, q7, h2, h2', h2s, h2s', ea, hi3]
                intro _
                refine r6_Equal_c20_lex ?_
                generalize hx : r.alts[k] = x at *
                generalize hy : s.alts[k] = y at *
                obtain ⟨xb, xp⟩ := x
                obtain ⟨yb, yp⟩ := y
                by_cases ep : xp = yp
                · simp [q6, q7, h2, h2s, hc2, hd2, hx, hy, GA.av, ep]
                  refine ⟨_, r16_EqualExpr _ xb (Nat.le_refl _) yb _, ?_⟩
                  by_cases eb : xb = yb
                  · subst eb
                    simp [eqB_self]
                    rw [wrap64 (by omega) (by omega)]
                    exact loopK_same (k + 1) ⟨by omega, hpre2.succ hc2 hd2 (by rw [ep])⟩ (by omega) rfl rfl
                  · have hne : eqB rs rs' = false := eqB_false.2 (Pre.ne hc hd (by intro e; have := congrArg GR.alts e; exact Pre.ne hc2 hd2 (by intro e; injection e with e _; exact eb e) this))
                    simp [eqB_false.2 eb, hne]
                    exact hle.trans hle3
                · have ep' : (xp != yp) = true := by simpa using ep
                  have hne : eqB rs rs' = false := eqB_false.2 (Pre.ne hc hd (by intro e; have := congrArg GR.alts e; exact Pre.ne hc2 hd2 (by intro e; injection e with _ e; exact ep e) this))
                  simp [q6, q7, h2, h2s, hc2, hd2, hx, hy, GA.av, ep, ep', hne]
                  exact hle.trans hle3
              · have : k = r.alts.length := by omega
                subst this
                have hi3 : ¬ (r.alts.length : Int) < s.alts.length := by omega
                have eaa := Pre.full ea hpre2
                simp [q6, q7, ea, hi3]
                intro _
                rw [wrap64 (by omega) (by omega)]
                exact loopK_next (i + 1) ⟨by omega, hpre.succ hc hd (by obtain ⟨a, b⟩ := r; obtain ⟨c, d⟩ := s; simp only at en eaa; rw [en, eaa])⟩ (by omega) (EnvLe.refl _) hle3
            · have ea' : ((r.alts.length : Int) != s.alts.length) = true := by simp; omega
              have eai : ¬ (r.alts.length : Int) = s.alts.length := by omega
              have hne : eqB rs rs' = false := eqB_false.2 (Pre.ne hc hd (by intro e; exact ea (by rw [e])))
              simp [q6, q7, en, ea, ea', eai, hne]
              intros
              exact hle.trans hle3
          · have en' : (r.name != s.name) = true := by simpa using en
            have hne : eqB rs rs' = false := eqB_false.2 (Pre.ne hc hd (by intro e; exact en (by rw [e])))
            simp [q6, q7, en, en', hne]
            exact hle.trans hle3
        · have : i = rs.length := by omega
          subst this
          have hi2 : ¬ (rs.length : Int) < rs'.length := by omega
          simp [q2, q3, h3, hi2, eqB_iff.2 (Pre.full h3 hpre)]
          intros
          exact hle
      · have h3' : ((rs.length : Int) != rs'.length) = true := by simp; omega
        have h3i : ¬ (rs.length : Int) = rs'.length := by omega
        have hne : eqB rs rs' = false := eqB_false.2 (fun e => h3 (by rw [e]))
        simp [eqB_self, q2, q3, h3, h3', h3i, hne]
        intros
        exact hle
    · have hq : eqB (GF.mk st lv rs) ⟨st, lv', rs'⟩ = false := eqB_false.2 (by simp [h2])
      simp [eqB_false.2 h2, hq]
      exact hle
  · have hq : eqB (GF.mk st lv rs) ⟨st', lv', rs'⟩ = false := eqB_false.2 (by simp [h1])
    have h1' : (st != st') = true := by simpa using h1
    simp [q2, q3, h1, h1', hq]
    exact hle
end Go.Av
