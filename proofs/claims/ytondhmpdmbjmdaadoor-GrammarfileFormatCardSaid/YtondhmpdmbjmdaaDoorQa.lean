/- Part of the proof: Qa. No condition. -/
import Derived.Test.YtondhmpdmbjmdaaDoorCf
import Derived.Test.YtondhmpdmbjmdaaDoorB5
set_option linter.unusedVariables false
set_option linter.unusedSimpArgs false
namespace Go.Av
theorem aw_loopW {σ : Type} {P : Program} {a : AC} {K : AK} (Inv : σ → Prop) (E : σ → Env) (Hp : σ → AHeap) (μ : σ → Nat) (x0 : σ)
    {env : Env} {H : AHeap} (hi : Inv x0) (he : EnvLe env (E x0)) (hh : HLe (Hp x0) H) (hstep : ∀ x, Inv x → aw P a (loopK Inv E Hp μ (μ x) K) (E x) (Hp x)) : aw P (.loop a) K env H :=
  aw_loop Inv E Hp μ hstep ⟨x0, hi, he, hh⟩
theorem envLe_head {i : Nat} {v : AV} {env : Env} : EnvLe ((i, v) :: env) [(i, v)] := fun j => by
  simp only [Env.get]
  split
  · exact .refl _
  · exact .undef _

theorem envLe_two {i j : Nat} {v w : AV} {env : Env} : EnvLe ((i, v) :: (j, w) :: env) [(i, v), (j, w)] := fun k => by
  simp only [Env.get]
  split
  · exact .refl _
  · split
    · exact .refl _
    · exact .undef _
end Go.Av

namespace Go.Av

noncomputable def eqB {α : Type} (a b : α) : Bool := @decide (a = b) (Classical.propDecidable _)
theorem eqB_iff {α : Type} {a b : α} : eqB a b = true ↔ a = b := by unfold eqB; simp
theorem eqB_false {α : Type} {a b : α} : eqB a b = false ↔ a ≠ b := by unfold eqB; simp
theorem eqB_self {α : Type} (a : α) : eqB a a = true := eqB_iff.2 rfl
theorem eqB_comm {α : Type} (a b : α) : eqB a b = eqB b a := by
  rw [Bool.eq_iff_iff, eqB_iff, eqB_iff]
  exact ⟨Eq.symm, Eq.symm⟩

theorem eqf_GLevel (F : FuncId) (l m : List GL) (H : AHeap) (hF : ∀ x ∈ l, ∀ y, ∀ H', Pure F [x.av, y.av] H' (.bool (eqB x y))) :
    Pure sE_GLevel_id [.list 2 (l.map GL.av), .list 2 (m.map GL.av), .fn (.func F) [] []] H (.bool (eqB l m)) := by
  have hml := maxLen_eq
  refine sE_GLevel_enter rfl ?_
  simp [sE_GLevel_rs]
  intro h1 h2
  by_cases hlen : l.length = m.length
  · simp [hlen]
    intro h3
    refine aw_loopK (fun i : Nat => i ≤ l.length ∧ ∀ j x y, j < i → l[j]? = some x → m[j]? = some y → x = y)
      (fun i => [(1, .list 2 (m.map GL.av)), (2, .fn (.func F) [] []), (15, .list 2 (l.map GL.av)), (16, i64 m.length), (17, i64 i)]) (fun _ => H) (fun i => l.length - i) 0 ⟨by simp, by simp⟩ rfl rfl ?_
    rintro i ⟨hi, hno⟩
    by_cases h : i < l.length
    · have hc : l[i]? = some l[i] := List.getElem?_eq_getElem h
      have hm' : i < m.length := by omega
      have hd : m[i]? = some m[i] := List.getElem?_eq_getElem hm'
      simp [h, hm', hc, hd, allocQ]
      intro b8 hb8 b9 hb9
      have n89 : b8 ≠ b9 := fun e => by subst e; rw [AHeap.set_same] at hb9; cases hb9
      have hle : HLe H ((H.set b8 (.box l[i].av)).set b9 (.box m[i].av)) := (HLe.set hb8).trans (.set hb9)
      simp [AHeap.set_ne, n89, n89.symm]
      refine (hF _ (List.getElem_mem h) m[i] _).use ?_
      cases hx : eqB l[i] m[i]
      · have hb : eqB l m = false := eqB_false.2 fun e => by
          have : l[i]? = m[i]? := by rw [e]
          rw [hc, hd] at this
          injection this with this
          exact eqB_false.1 hx this
        simp [hb]
        exact hle
      · simp
        rw [wrap64 (by omega) (by omega)]
        refine loopK_next (i + 1) ⟨by omega, fun j x y hj hx' hy => ?_⟩ (by omega) (by simp; exact EnvLe.refl _) hle
        by_cases hji : j < i
        · exact hno j x y hji hx' hy
        · have : j = i := by omega
          subst this
          rw [hc] at hx'
          rw [hd] at hy
          injection hx' with hx'
          injection hy with hy
          subst hx' hy
          exact eqB_iff.1 hx
    · have hb : eqB l m = true := eqB_iff.2 (by
        apply List.ext_getElem? 
        intro j
        by_cases hj : j < l.length
        · rw [List.getElem?_eq_getElem hj, List.getElem?_eq_getElem (by omega)]
          rw [hno j _ _ (by omega) (List.getElem?_eq_getElem hj) (List.getElem?_eq_getElem (by omega : j < m.length))]
        · rw [List.getElem?_eq_none (by omega), List.getElem?_eq_none (by omega)])
      have h' : ¬ i < m.length := by omega
      simp [h, h', hb]
  · have hb : eqB l m = false := eqB_false.2 fun e => hlen (by rw [e])
    have hlen' : ¬ (l.length : Int) = m.length := by omega
    simp [hlen, hlen', hb]


theorem eqf_GRule (F : FuncId) (l m : List GR) (H : AHeap) (hF : ∀ x ∈ l, ∀ y, ∀ H', Pure F [x.av, y.av] H' (.bool (eqB x y))) :
    Pure sE_GRule_id [.list 2 (l.map GR.av), .list 2 (m.map GR.av), .fn (.func F) [] []] H (.bool (eqB l m)) := by
  have hml := maxLen_eq
  refine sE_GRule_enter rfl ?_
  simp [sE_GRule_rs]
  intro h1 h2
  by_cases hlen : l.length = m.length
  · simp [hlen]
    intro h3
    refine aw_loopK (fun i : Nat => i ≤ l.length ∧ ∀ j x y, j < i → l[j]? = some x → m[j]? = some y → x = y)
      (fun i => [(1, .list 2 (m.map GR.av)), (2, .fn (.func F) [] []), (15, .list 2 (l.map GR.av)), (16, i64 m.length), (17, i64 i)]) (fun _ => H) (fun i => l.length - i) 0 ⟨by simp, by simp⟩ rfl rfl ?_
    rintro i ⟨hi, hno⟩
    by_cases h : i < l.length
    · have hc : l[i]? = some l[i] := List.getElem?_eq_getElem h
      have hm' : i < m.length := by omega
      have hd : m[i]? = some m[i] := List.getElem?_eq_getElem hm'
      simp [h, hm', hc, hd, allocQ]
      intro b8 hb8 b9 hb9
      have n89 : b8 ≠ b9 := fun e => by subst e; rw [AHeap.set_same] at hb9; cases hb9
      have hle : HLe H ((H.set b8 (.box l[i].av)).set b9 (.box m[i].av)) := (HLe.set hb8).trans (.set hb9)
      simp [AHeap.set_ne, n89, n89.symm]
      refine (hF _ (List.getElem_mem h) m[i] _).use ?_
      cases hx : eqB l[i] m[i]
      · have hb : eqB l m = false := eqB_false.2 fun e => by
          have : l[i]? = m[i]? := by rw [e]
          rw [hc, hd] at this
          injection this with this
          exact eqB_false.1 hx this
        simp [hb]
        exact hle
      · simp
        rw [wrap64 (by omega) (by omega)]
        refine loopK_next (i + 1) ⟨by omega, fun j x y hj hx' hy => ?_⟩ (by omega) (by simp; exact EnvLe.refl _) hle
        by_cases hji : j < i
        · exact hno j x y hji hx' hy
        · have : j = i := by omega
          subst this
          rw [hc] at hx'
          rw [hd] at hy
          injection hx' with hx'
          injection hy with hy
          subst hx' hy
          exact eqB_iff.1 hx
    · have hb : eqB l m = true := eqB_iff.2 (by
        apply List.ext_getElem? 
        intro j
        by_cases hj : j < l.length
        · rw [List.getElem?_eq_getElem hj, List.getElem?_eq_getElem (by omega)]
          rw [hno j _ _ (by omega) (List.getElem?_eq_getElem hj) (List.getElem?_eq_getElem (by omega : j < m.length))]
        · rw [List.getElem?_eq_none (by omega), List.getElem?_eq_none (by omega)])
      have h' : ¬ i < m.length := by omega
      simp [h, h', hb]
  · have hb : eqB l m = false := eqB_false.2 fun e => hlen (by rw [e])
    have hlen' : ¬ (l.length : Int) = m.length := by omega
    simp [hlen, hlen', hb]


theorem eqf_GAlternative (F : FuncId) (l m : List GA) (H : AHeap) (hF : ∀ x ∈ l, ∀ y, ∀ H', Pure F [x.av, y.av] H' (.bool (eqB x y))) :
    Pure sE_GA_id [.list 4 (l.map GA.av), .list 4 (m.map GA.av), .fn (.func F) [] []] H (.bool (eqB l m)) := by
  have hml := maxLen_eq
  refine sE_GA_enter rfl ?_
  simp [sE_GA_rs]
  intro h1 h2
  by_cases hlen : l.length = m.length
  · simp [hlen]
    intro h3
    refine aw_loopK (fun i : Nat => i ≤ l.length ∧ ∀ j x y, j < i → l[j]? = some x → m[j]? = some y → x = y)
      (fun i => [(1, .list 4 (m.map GA.av)), (2, .fn (.func F) [] []), (15, .list 4 (l.map GA.av)), (16, i64 m.length), (17, i64 i)]) (fun _ => H) (fun i => l.length - i) 0 ⟨by simp, by simp⟩ rfl rfl ?_
    rintro i ⟨hi, hno⟩
    by_cases h : i < l.length
    · have hc : l[i]? = some l[i] := List.getElem?_eq_getElem h
      have hm' : i < m.length := by omega
      have hd : m[i]? = some m[i] := List.getElem?_eq_getElem hm'
      simp [h, hm', hc, hd, allocQ]
      intro b8 hb8 b9 hb9
      have n89 : b8 ≠ b9 := fun e => by subst e; rw [AHeap.set_same] at hb9; cases hb9
      have hle : HLe H ((H.set b8 (.box l[i].av)).set b9 (.box m[i].av)) := (HLe.set hb8).trans (.set hb9)
      simp [AHeap.set_ne, n89, n89.symm]
      refine (hF _ (List.getElem_mem h) m[i] _).use ?_
      cases hx : eqB l[i] m[i]
      · have hb : eqB l m = false := eqB_false.2 fun e => by
          have : l[i]? = m[i]? := by rw [e]
          rw [hc, hd] at this
          injection this with this
          exact eqB_false.1 hx this
        simp [hb]
        exact hle
      · simp
        rw [wrap64 (by omega) (by omega)]
        refine loopK_next (i + 1) ⟨by omega, fun j x y hj hx' hy => ?_⟩ (by omega) (by simp; exact EnvLe.refl _) hle
        by_cases hji : j < i
        · exact hno j x y hji hx' hy
        · have : j = i := by omega
          subst this
          rw [hc] at hx'
          rw [hd] at hy
          injection hx' with hx'
          injection hy with hy
          subst hx' hy
          exact eqB_iff.1 hx
    · have hb : eqB l m = true := eqB_iff.2 (by
        apply List.ext_getElem? 
        intro j
        by_cases hj : j < l.length
        · rw [List.getElem?_eq_getElem hj, List.getElem?_eq_getElem (by omega)]
          rw [hno j _ _ (by omega) (List.getElem?_eq_getElem hj) (List.getElem?_eq_getElem (by omega : j < m.length))]
        · rw [List.getElem?_eq_none (by omega), List.getElem?_eq_none (by omega)])
      have h' : ¬ i < m.length := by omega
      simp [h, h', hb]
  · have hb : eqB l m = false := eqB_false.2 fun e => hlen (by rw [e])
    have hlen' : ¬ (l.length : Int) = m.length := by omega
    simp [hlen, hlen', hb]


theorem eqf_GExpr (F : FuncId) (l m : List GE) (H : AHeap) (hF : ∀ x ∈ l, ∀ y, ∀ H', Pure F [x.av, y.av] H' (.bool (eqB x y))) :
    Pure sE_GExpr_id [.list 3 (l.map GE.av), .list 3 (m.map GE.av), .fn (.func F) [] []] H (.bool (eqB l m)) := by
  have hml := maxLen_eq
  refine sE_GExpr_enter rfl ?_
  simp [sE_GExpr_rs]
  intro h1 h2
  by_cases hlen : l.length = m.length
  · simp [hlen]
    intro h3
    refine aw_loopK (fun i : Nat => i ≤ l.length ∧ ∀ j x y, j < i → l[j]? = some x → m[j]? = some y → x = y)
      (fun i => [(1, .list 3 (m.map GE.av)), (2, .fn (.func F) [] []), (15, .list 3 (l.map GE.av)), (16, i64 m.length), (17, i64 i)]) (fun _ => H) (fun i => l.length - i) 0 ⟨by simp, by simp⟩ rfl rfl ?_
    rintro i ⟨hi, hno⟩
    by_cases h : i < l.length
    · have hc : l[i]? = some l[i] := List.getElem?_eq_getElem h
      have hm' : i < m.length := by omega
      have hd : m[i]? = some m[i] := List.getElem?_eq_getElem hm'
      simp [h, hm', hc, hd, allocQ]
      intro b8 hb8 b9 hb9
      have n89 : b8 ≠ b9 := fun e => by subst e; rw [AHeap.set_same] at hb9; cases hb9
      have hle : HLe H ((H.set b8 (.box l[i].av)).set b9 (.box m[i].av)) := (HLe.set hb8).trans (.set hb9)
      simp [AHeap.set_ne, n89, n89.symm]
      refine (hF _ (List.getElem_mem h) m[i] _).use ?_
      cases hx : eqB l[i] m[i]
      · have hb : eqB l m = false := eqB_false.2 fun e => by
          have : l[i]? = m[i]? := by rw [e]
          rw [hc, hd] at this
          injection this with this
          exact eqB_false.1 hx this
        simp [hb]
        exact hle
      · simp
        rw [wrap64 (by omega) (by omega)]
        refine loopK_next (i + 1) ⟨by omega, fun j x y hj hx' hy => ?_⟩ (by omega) (by simp; exact EnvLe.refl _) hle
        by_cases hji : j < i
        · exact hno j x y hji hx' hy
        · have : j = i := by omega
          subst this
          rw [hc] at hx'
          rw [hd] at hy
          injection hx' with hx'
          injection hy with hy
          subst hx' hy
          exact eqB_iff.1 hx
    · have hb : eqB l m = true := eqB_iff.2 (by
        apply List.ext_getElem? 
        intro j
        by_cases hj : j < l.length
        · rw [List.getElem?_eq_getElem hj, List.getElem?_eq_getElem (by omega)]
          rw [hno j _ _ (by omega) (List.getElem?_eq_getElem hj) (List.getElem?_eq_getElem (by omega : j < m.length))]
        · rw [List.getElem?_eq_none (by omega), List.getElem?_eq_none (by omega)])
      have h' : ¬ i < m.length := by omega
      simp [h, h', hb]
  · have hb : eqB l m = false := eqB_false.2 fun e => hlen (by rw [e])
    have hlen' : ¬ (l.length : Int) = m.length := by omega
    simp [hlen, hlen', hb]

end Go.Av

namespace Go.Av

theorem sl_Equal (l m : List (List UInt8)) (H : AHeap) : Pure sl_Equal_string_id [.list 1 (l.map AV.str), .list 1 (m.map AV.str)] H (.bool (eqB l m)) := by
  have hml := maxLen_eq
  refine sl_Equal_string_enter rfl ?_
  simp [sl_Equal_string_rs]
  intro h1 h2
  by_cases hlen : l.length = m.length
  · simp [hlen]
    intro h3
    refine aw_loopK (fun i : Nat => i ≤ l.length ∧ ∀ j x y, j < i → l[j]? = some x → m[j]? = some y → x = y)
      (fun i => [(0, .list 1 (l.map AV.str)), (1, .list 1 (m.map AV.str)), (12, i64 m.length), (13, i64 i)]) (fun _ => H) (fun i => l.length - i) 0 ⟨by simp, by simp⟩ rfl rfl ?_
    rintro i ⟨hi, hno⟩
    by_cases h : i < l.length
    · have hc : l[i]? = some l[i] := List.getElem?_eq_getElem h
      have hm' : i < m.length := by omega
      have hd : m[i]? = some m[i] := List.getElem?_eq_getElem hm'
      simp [h, hm', hc, hd]
      refine sl_Equal_string_c10_lex ?_
      by_cases hx : l[i] = m[i]
      · simp [hc, hd, hx]
        rw [wrap64 (by omega) (by omega)]
        refine loopK_next (i + 1) ⟨by omega, fun j x y hj hx' hy => ?_⟩ (by omega) (by simp; exact EnvLe.refl _) (.refl _)
        by_cases hji : j < i
        · exact hno j x y hji hx' hy
        · have : j = i := by omega
          subst this
          rw [hc] at hx'
          rw [hd] at hy
          injection hx' with hx'
          injection hy with hy
          subst hx' hy
          exact hx
      · have hb : eqB l m = false := eqB_false.2 fun e => by
          have : l[i]? = m[i]? := by rw [e]
          rw [hc, hd] at this
          injection this with this
          exact hx this
        have hx2 : (l[i] == m[i]) = false := by simp [hx]
        simp [hc, hd, hx, hx2, hb]
    · have hb : eqB l m = true := eqB_iff.2 (by
        apply List.ext_getElem?
        intro j
        by_cases hj : j < l.length
        · rw [List.getElem?_eq_getElem hj, List.getElem?_eq_getElem (by omega)]
          rw [hno j _ _ (by omega) (List.getElem?_eq_getElem hj) (List.getElem?_eq_getElem (by omega : j < m.length))]
        · rw [List.getElem?_eq_none (by omega), List.getElem?_eq_none (by omega)])
      have h' : ¬ i < m.length := by omega
      simp [h, h', hb]
  · have hb : eqB l m = false := eqB_false.2 fun e => hlen (by rw [e])
    have hlen' : ¬ (l.length : Int) = m.length := by omega
    simp [hlen, hlen', hb]

/-- Two fresh variables are forgotten. -/
theorem ret_pure_set2 {v : AV} {H : AHeap} {w : AV} {b c : Nat} {o o' : AObj} (hb : H b = none) (hc : (H.set b o) c = none) (h : v = w) : ∃ v' H', Sub v v' ∧ HLe H' ((H.set b o).set c o') ∧ (ARes.ret v' = ARes.ret w ∧ H' = H) :=
  ⟨v, H, .refl _, (HLe.set hb).trans (.set hc), by rw [h], rfl⟩

theorem two_boxes {H : AHeap} {b c : Nat} {o o' : AObj} (hb : H b = none) (hc : (H.set b o) c = none) : ∃ H1, (H.set b o).set c o' = H1 ∧ H1 b = some o ∧ H1 c = some o' ∧ HLe H H1 := by
  have n : b ≠ c := fun e => by subst e; rw [AHeap.set_same] at hc; cases hc
  exact ⟨_, rfl, by rw [AHeap.set_ne _ _ n, AHeap.set_same], AHeap.set_same _ _ _, (HLe.set hb).trans (.set hc)⟩

theorem gf_Equal_1 (x y : GL) (H : AHeap) : Pure gF_Equal_1_id [x.av, y.av] H (.bool (eqB x y)) := by
  obtain ⟨a, t⟩ := x
  obtain ⟨a', t'⟩ := y
  refine gF_Equal_1_enter rfl ?_
  simp [gF_Equal_1_rs, allocQ, -gF_Equal_1_c1_eq]
  intro b2 hb2 b3 hb3
  obtain ⟨H1, e1, q2, q3, hle⟩ := two_boxes (o' := .box (GL.av ⟨a', t'⟩)) hb2 hb3
  rw [e1]
  simp only [GL.av] at q2 q3
  by_cases h1 : a = a'
  · have hq : eqB (GL.mk a t) ⟨a', t'⟩ = eqB t t' := by
      rw [Bool.eq_iff_iff, eqB_iff, eqB_iff]; simp [h1]
    simp [q2, q3, h1]
    refine (sl_Equal t t' H1).use ?_
    simp
    subst h1
    rw [hq]
    exact ⟨.refl _, hle⟩
  · have hq : eqB (GL.mk a t) ⟨a', t'⟩ = false := eqB_false.2 (by simp [h1])
    have h1' : (a == a') = false := by simp [h1]
    simp [q2, q3, h1, h1', hq]
    exact hle

theorem gf_sameExpr : ∀ (n : Nat) (x : GE), SizeOf.sizeOf x ≤ n → ∀ (y : GE) (H : AHeap), Pure gF_sameExpr_id [x.av, y.av] H (.bool (eqB x y))
  | 0, .mk k nm kids, h => by simp at h
  | n + 1, .mk k nm kids, h => by
    rintro ⟨k', nm', kids'⟩ H
    refine gF_sameExpr_enter rfl ?_
    simp [gF_sameExpr_rs, allocQ, -gF_sameExpr_c1_eq]
    intro b2 hb2 b3 hb3
    obtain ⟨H1, e1, q2, q3, hle⟩ := two_boxes (o' := .box (GE.mk k' nm' kids').av) hb2 hb3
    rw [e1]
    rw [GE.av_mk] at q2 q3
    by_cases h1 : k = k'
    · by_cases h2 : nm = nm'
      · subst h1 h2
        have hq : eqB (GE.mk k nm kids) (.mk k nm kids') = eqB kids kids' := by
          rw [Bool.eq_iff_iff, eqB_iff, eqB_iff]; simp
        simp [q2, q3]
        refine (eqf_GExpr _ kids kids' H1 fun x hx y H' => gf_sameExpr n x ?_ y H').use ?_
        · have : SizeOf.sizeOf x < SizeOf.sizeOf kids := List.sizeOf_lt_of_mem hx
          simp at h
          omega
        · simp [hq]
          exact hle
      · have hq : eqB (GE.mk k nm kids) (.mk k' nm' kids') = false := eqB_false.2 (by simp [h2])
        have h2' : (nm == nm') = false := by simp [h2]
        subst h1
        simp [q2, q3, h2, h2', hq]
        exact hle
    · have hq : eqB (GE.mk k nm kids) (.mk k' nm' kids') = false := eqB_false.2 (by simp [h1])
      have h1' : (k == k') = false := by simp [h1]
      simp [q2, q3, h1, h1', hq]
      exact hle

theorem gf_Equal_2_1 (x y : GA) (H : AHeap) : Pure gF_Equal_2_1_id [x.av, y.av] H (.bool (eqB x y)) := by
  obtain ⟨a, t⟩ := x
  obtain ⟨a', t'⟩ := y
  refine gF_Equal_2_1_enter rfl ?_
  simp [gF_Equal_2_1_rs, allocQ, -gF_Equal_2_1_c1_eq]
  intro b2 hb2 b3 hb3
  obtain ⟨H1, e1, q2, q3, hle⟩ := two_boxes (o' := .box (GA.av ⟨a', t'⟩)) hb2 hb3
  rw [e1]
  simp only [GA.av] at q2 q3
  by_cases h1 : t = t'
  · have hq : eqB (GA.mk a t) ⟨a', t'⟩ = eqB a a' := by
      rw [Bool.eq_iff_iff, eqB_iff, eqB_iff]; simp [h1]
    simp [q2, q3, h1]
    refine (gf_sameExpr _ a (Nat.le_refl _) a' H1).use ?_
    simp
    subst h1
    rw [hq]
    exact ⟨.refl _, hle⟩
  · have hq : eqB (GA.mk a t) ⟨a', t'⟩ = false := eqB_false.2 (by simp [h1])
    have h1' : (t == t') = false := by simp [h1]
    simp [q2, q3, h1, h1', hq]
    exact hle

theorem gf_Equal_2 (x y : GR) (H : AHeap) : Pure gF_Equal_2_id [x.av, y.av] H (.bool (eqB x y)) := by
  obtain ⟨a, t⟩ := x
  obtain ⟨a', t'⟩ := y
  refine gF_Equal_2_enter rfl ?_
  simp [gF_Equal_2_rs, allocQ, -gF_Equal_2_c1_eq]
  intro b2 hb2 b3 hb3
  obtain ⟨H1, e1, q2, q3, hle⟩ := two_boxes (o' := .box (GR.av ⟨a', t'⟩)) hb2 hb3
  rw [e1]
  simp only [GR.av] at q2 q3
  by_cases h1 : a = a'
  · have hq : eqB (GR.mk a t) ⟨a', t'⟩ = eqB t t' := by
      rw [Bool.eq_iff_iff, eqB_iff, eqB_iff]; simp [h1]
    simp [q2, q3, h1]
    refine (eqf_GAlternative _ t t' H1 fun x _ y H' => gf_Equal_2_1 x y H').use ?_
    simp
    subst h1
    rw [hq]
    exact ⟨.refl _, hle⟩
  · have hq : eqB (GR.mk a t) ⟨a', t'⟩ = false := eqB_false.2 (by simp [h1])
    have h1' : (a == a') = false := by simp [h1]
    simp [q2, q3, h1, h1', hq]
    exact hle

theorem gf_Equal (x y : GF) (H : AHeap) : Pure gF_Equal_id [x.av, y.av] H (.bool (eqB x y)) := by
  obtain ⟨s, l, r⟩ := x
  obtain ⟨s', l', r'⟩ := y
  refine gF_Equal_enter rfl ?_
  simp [gF_Equal_rs, allocQ, -gF_Equal_c1_eq]
  intro b2 hb2 b3 hb3
  obtain ⟨H1, e1, q2, q3, hle⟩ := two_boxes (o' := .box (GF.av ⟨s', l', r'⟩)) hb2 hb3
  rw [e1]
  simp only [GF.av] at q2 q3
  by_cases h1 : s = s'
  · have hq : eqB (GF.mk s l r) ⟨s', l', r'⟩ = (eqB l l' && eqB r r') := by
      rw [Bool.eq_iff_iff, Bool.and_eq_true, eqB_iff, eqB_iff, eqB_iff]; simp [h1]
    subst h1
    simp [q2, q3]
    refine (eqf_GLevel _ l l' H1 fun x _ y H' => gf_Equal_1 x y H').use ?_
    cases hl : eqB l l'
    · simp [hq, hl]
      exact hle
    · simp [q2, q3]
      refine (eqf_GRule _ r r' H1 fun x _ y H' => gf_Equal_2 x y H').use ?_
      simp [hq, hl]
      exact hle
  · have hq : eqB (GF.mk s l r) ⟨s', l', r'⟩ = false := eqB_false.2 (by simp [h1])
    have h1' : (s == s') = false := by simp [h1]
    simp [q2, q3, h1, h1', hq]
    exact hle
end Go.Av
