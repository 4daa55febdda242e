/- Part of the proof: D4. No condition. -/
import Derived.Test.YtidbbhdejopdgaaDa
import Derived.Test.YtidbbhdejopdgaaFns11
set_option linter.unusedVariables false
set_option linter.unusedSimpArgs false
namespace Go.Av
/-! ### What is the same is equal -/
theorem r16_EqualExpr_self : ∀ (n : Nat) (x : GE), SizeOf.sizeOf x ≤ n → ∀ H, Pure ref16_EqualExpr_id [x.av, x.av] H (.bool true)
  | 0, .mk k nm kids, h => by simp at h
  | n + 1, .mk k nm kids, h => by
    intro H
    have ih : ∀ y ∈ kids, ∀ H, Pure ref16_EqualExpr_id [y.av, y.av] H (.bool true) := fun y hy => r16_EqualExpr_self n y (by
      have := List.sizeOf_lt_of_mem hy
      simp at h
      omega)
    have hml := maxLen_eq
    refine ref16_EqualExpr_enter rfl ?_
    simp only [GE.av_mk]
    simp [ref16_EqualExpr_rs, allocQ, -ref16_EqualExpr_c25_eq]
    intro b2 hb2 b3 hb3
    have n23 : b2 ≠ b3 := by rintro rfl; simp at hb3
    have q2 : ((H.set b2 (.box (.struct [i64 k, .str nm, .list 3 (kids.map GE.av)]))).set b3 (.box (.struct [i64 k, .str nm, .list 3 (kids.map GE.av)]))) b2 = some (.box (.struct [i64 k, .str nm, .list 3 (kids.map GE.av)])) := by rw [AHeap.set_ne _ _ n23, AHeap.set_same]
    have q3 : ((H.set b2 (.box (.struct [i64 k, .str nm, .list 3 (kids.map GE.av)]))).set b3 (.box (.struct [i64 k, .str nm, .list 3 (kids.map GE.av)]))) b3 = some (.box (.struct [i64 k, .str nm, .list 3 (kids.map GE.av)])) := AHeap.set_same _ _ _
    have hle : HLe H ((H.set b2 (.box (.struct [i64 k, .str nm, .list 3 (kids.map GE.av)]))).set b3 (.box (.struct [i64 k, .str nm, .list 3 (kids.map GE.av)]))) := (HLe.set hb2).trans (.set hb3)
    generalize ((H.set b2 (.box (.struct [i64 k, .str nm, .list 3 (kids.map GE.av)]))).set b3 (.box (.struct [i64 k, .str nm, .list 3 (kids.map GE.av)]))) = H2 at q2 q3 hle ⊢
    clear hb2 hb3
    simp [q2, q3]
    intro hm
    refine aw_loopK (fun i : Nat => i ≤ kids.length) (fun i => [(2, .ptr b2 0 []), (3, .ptr b3 0 []), (5, i64 i)]) (fun _ => H2) (fun i => kids.length - i) 0 (Nat.zero_le _) rfl rfl ?_
    intro i hi
    by_cases h : i < kids.length
    · have hc : kids[i]? = some kids[i] := List.getElem?_eq_getElem h
      have h' : ¬ kids.length ≤ i := by omega
      simp [q2, q3, h, h']
      intro _
      refine ref16_EqualExpr_c10_lex ?_
      simp [q2, q3, h, hc]
      refine ⟨_, ih _ (List.getElem_mem h) _, ?_⟩
      simp
      rw [wrap64 (by omega) (by omega)]
      exact loopK_same (i + 1) (by omega) (by omega) rfl rfl
    · have : i = kids.length := by omega
      subst this
      simp [q2, q3]
      exact fun _ => hle

theorem r16_sameLevels_self (l : List GL) (hl : ∀ x ∈ l, x.tokens.length ≤ 1000000) (H : AHeap) : Pure ref16_sameLevels_id [.list 2 (l.map GL.av), .list 2 (l.map GL.av)] H (.bool true) := by
  have hml := maxLen_eq
  refine ref16_sameLevels_enter rfl ?_
  simp [ref16_sameLevels_rs]
  intro hm
  refine aw_loopK (fun i : Nat => i ≤ l.length) (fun i => [(0, .list 2 (l.map GL.av)), (1, .list 2 (l.map GL.av)), (5, i64 i)]) (fun _ => H) (fun i => l.length - i) 0 (Nat.zero_le _) rfl rfl ?_
  intro i hi
  by_cases h : i < l.length
  · have hc : l[i]? = some l[i] := List.getElem?_eq_getElem h
    simp [h]
    intro _
    refine ref16_sameLevels_c10_lex ?_
    simp [h, hc, GL.av]
    have hmem := hl _ (List.getElem_mem h)
    refine ⟨by omega, ?_⟩
    generalize hx : l[i].tokens = tk at *
    have hcc : ((l.map GL.av)[i]?) = some (.struct [i64 l[i].assoc, .list 1 (tk.map AV.str)]) := by simp [hc, GL.av, hx]
    refine aw_loopK (fun k : Nat => k ≤ tk.length) (fun k => [(0, .list 2 (l.map GL.av)), (1, .list 2 (l.map GL.av)), (5, i64 i), (6, i64 k)]) (fun _ => H) (fun k => tk.length - k) 0 (Nat.zero_le _) rfl rfl ?_
    intro k hk
    by_cases h2 : k < tk.length
    · have h2' : ¬ tk.length ≤ k := by omega
      have hc2 : tk[k]? = some tk[k] := List.getElem?_eq_getElem h2
      simp [h, hc, hcc, GL.av, hx, h2, h2']
      intro _
      refine ref16_sameLevels_c19_lex ?_
      simp [h, hc, hcc, GL.av, hx, h2, hc2]
      rw [wrap64 (by omega) (by omega)]
      exact loopK_same (k + 1) (by omega) (by omega) rfl rfl
    · have : k = tk.length := by omega
      subst this
      simp [h, hc, hcc, GL.av, hx]
      intro _
      rw [wrap64 (by omega) (by omega)]
      exact loopK_same (i + 1) (by omega) (by omega) rfl rfl
  · have : i = l.length := by omega
    subst this
    simp

theorem r16_Equal_self (f : GF) (hf : ∀ x ∈ f.levels, x.tokens.length ≤ 1000000) (H : AHeap) : Pure ref16_Equal_id [f.av, f.av] H (.bool true) := by
  obtain ⟨start, levels, rules⟩ := f
  simp only at hf
  have hml := maxLen_eq
  refine ref16_Equal_enter rfl ?_
  simp [ref16_Equal_rs, allocQ, -ref16_Equal_c44_eq]
  intro b2 hb2 b3 hb3
  have n23 : b2 ≠ b3 := by rintro rfl; simp at hb3
  generalize hz : GF.av ⟨start, levels, rules⟩ = z at *
  have hzz : z = .struct [.str start, .list 2 (levels.map GL.av), .list 2 (rules.map GR.av)] := hz.symm
  have q2 : ((H.set b2 (.box z)).set b3 (.box z)) b2 = some (.box z) := by rw [AHeap.set_ne _ _ n23, AHeap.set_same]
  have q3 : ((H.set b2 (.box z)).set b3 (.box z)) b3 = some (.box z) := AHeap.set_same _ _ _
  have hle : HLe H ((H.set b2 (.box z)).set b3 (.box z)) := (HLe.set hb2).trans (.set hb3)
  generalize ((H.set b2 (.box z)).set b3 (.box z)) = H2 at q2 q3 hle ⊢
  clear hb2 hb3
  subst hzz
  clear hz
  simp [q2, q3]
  refine (r16_sameLevels_self levels hf H2).use ?_
  simp [q2, q3]
  intro hm
  refine aw_loopK (fun i : Nat => i ≤ rules.length) (fun i => [(2, .ptr b2 0 []), (3, .ptr b3 0 []), (5, i64 i)]) (fun _ => H2) (fun i => rules.length - i) 0 (Nat.zero_le _) rfl rfl ?_
  intro i hi
  by_cases h : i < rules.length
  · have hc : rules[i]? = some rules[i] := List.getElem?_eq_getElem h
    have h' : ¬ rules.length ≤ i := by omega
    simp [q2, q3, h, h']
    intro _
    refine ref16_Equal_c10_lexF [b2, b3] ?_
    simp [q2, q3, h, hc, allocQ, -ref16_Equal_c32_eq]
    intro b6 hb6
    have e26 : b2 ≠ b6 := ne_of_some_none q2 hb6
    have e36 : b3 ≠ b6 := ne_of_some_none q3 hb6
    refine ⟨by simp [Agree, AHeap.set_ne, e26, e36], ?_⟩
    intro b7 hb7
    have e67 : b6 ≠ b7 := by rintro rfl; simp at hb7
    rw [AHeap.set_ne _ _ (Ne.symm e67)] at hb7
    have e27 : b2 ≠ b7 := ne_of_some_none q2 hb7
    have e37 : b3 ≠ b7 := ne_of_some_none q3 hb7
    refine ⟨by simp [Agree, AHeap.set_ne, e26, e36, e27, e37], ?_⟩
    simp [AHeap.set_ne, e67, e67.symm, -ref16_Equal_c32_eq]
    refine ⟨by simp [Agree, AHeap.set_ne, e26, e36, e27, e37], ?_⟩
    have hh : (((H2.set b6 (.box (.struct [.str [], .nils]))).set b7 (.box (.struct [.str [], .nils]))).set b6 (.box rules[i].av)).set b7 (.box rules[i].av) = (H2.set b6 (.box rules[i].av)).set b7 (.box rules[i].av) := by
      funext x; simp only [AHeap.set]; grind
    rw [hh]
    generalize hr : rules[i] = r at *
    have q6 : ((H2.set b6 (.box r.av)).set b7 (.box r.av)) b6 = some (.box (.struct [.str r.name, .list 4 (r.alts.map GA.av)])) := by rw [AHeap.set_ne _ _ e67, AHeap.set_same]; rfl
    have q7 : ((H2.set b6 (.box r.av)).set b7 (.box r.av)) b7 = some (.box (.struct [.str r.name, .list 4 (r.alts.map GA.av)])) := by rw [AHeap.set_same]; rfl
    have hle3 : HLe H2 ((H2.set b6 (.box r.av)).set b7 (.box r.av)) := (HLe.set hb6).trans (.set (by rw [AHeap.set_ne _ _ (Ne.symm e67)]; exact hb7))
    generalize (H2.set b6 (.box r.av)).set b7 (.box r.av) = H3 at *
    simp [q6, q7]
    intro hm3
    refine aw_loopK (fun k : Nat => k ≤ r.alts.length) (fun k => [(2, .ptr b2 0 []), (3, .ptr b3 0 []), (5, i64 i), (6, .ptr b6 0 []), (7, .ptr b7 0 []), (8, i64 k)]) (fun _ => H3) (fun k => r.alts.length - k) 0 (Nat.zero_le _) rfl rfl ?_
    intro k hk
    by_cases h2 : k < r.alts.length
    · have hc2 : r.alts[k]? = some r.alts[k] := List.getElem?_eq_getElem h2
      have h2' : ¬ r.alts.length ≤ k := by omega
      simp [q6, q7, h2, h2']
      intro _
      refine ref16_Equal_c20_lex ?_
      simp [q6, q7, h2, hc2, GA.av]
      refine ⟨_, r16_EqualExpr_self _ _ (Nat.le_refl _) _, ?_⟩
      simp
      rw [wrap64 (by omega) (by omega)]
      exact loopK_same (k + 1) (by omega) (by omega) rfl rfl
    · have : k = r.alts.length := by omega
      subst this
      simp [q6, q7]
      intro _
      rw [wrap64 (by omega) (by omega)]
      exact loopK_next (i + 1) (by omega) (by omega) (EnvLe.refl _) hle3
  · have : i = rules.length := by omega
    subst this
    simp [q2, q3]
    exact fun _ => hle
end Go.Av
