/- Symbol, RulesOf, the example; ref18.Equal. -/
import Derived.Test.YtpdbcfnmhicnbaaDoorT4
set_option linter.unusedVariables false
set_option linter.unusedSimpArgs false
namespace Go.Av
open Go Go.Proofs

/-- The symbol with a name, and whether there is one. -/
def symG (g : Gm) (s : List UInt8) : Int × Bool := if 0 ≤ idxS s g.terms then (idxS s g.terms, true) else if 0 ≤ idxS s g.nonterms then (-1 - idxS s g.nonterms, true) else (0, false)

theorem idxS_range (s : List UInt8) : ∀ l : List (List UInt8), idxS s l = -1 ∨ (0 ≤ idxS s l ∧ idxS s l < l.length)
  | [] => .inl rfl
  | x :: l => by
    have := idxS_range s l
    simp only [idxS, List.length_cons]
    split
    · right; omega
    · split
      · left; rfl
      · right; omega

theorem g_Symbol (g : Gm) (s : List UInt8) (H : AHeap) (hl : g.nonterms.length ≤ 1000) : Pure grammar_Symbol_id [g.av, .str s] H (.tuple [i64 (symG g s).1, .bool (symG g s).2]) := by
  refine grammar_Symbol_enter rfl ?_
  simp [grammar_Symbol_rs, allocQ, Gm.av]
  intro b hb
  have hH : HLe H (H.set b (.box (.struct [strs g.terms, strs g.nonterms, i64 g.start, rls g.rules]))) := .set hb
  have hbx : (H.set b (.box (.struct [strs g.terms, strs g.nonterms, i64 g.start, rls g.rules]))) b = some (.box (.struct [strs g.terms, strs g.nonterms, i64 g.start, rls g.rules])) := AHeap.set_same _ _ _
  generalize H.set b (.box (.struct [strs g.terms, strs g.nonterms, i64 g.start, rls g.rules])) = H1 at *
  refine (index_string _ _ _).use ?_
  by_cases q : 0 ≤ idxS s g.terms
  · have q' : ¬ idxS s g.terms < 0 := by omega
    simp [q, q', symG]
    exact hH
  · have q' : idxS s g.terms < 0 := by omega
    simp [q, q', hbx]
    refine (index_string _ _ _).use ?_
    by_cases p : 0 ≤ idxS s g.nonterms
    · have p' : ¬ idxS s g.nonterms < 0 := by omega
      have := idxS_range s g.nonterms
      simp [q, q', p, p', symG]
      rw [wrap64 (by omega) (by omega)]
      exact ⟨.refl _, hH⟩
    · have p' : idxS s g.nonterms < 0 := by omega
      simp [q, q', p, p', symG]
      exact hH

theorem r_Symbol (g : Gm) (s : List UInt8) (H : AHeap) (hl : g.nonterms.length ≤ 1000) : Pure ref18_Symbol_id [g.av, .str s] H (.tuple [i64 (symG g s).1, .bool (symG g s).2]) := by
  have hml := maxLen_eq
  refine ref18_Symbol_enter rfl ?_
  simp [ref18_Symbol_rs, allocQ, Gm.av]
  intro b hb
  have hH : HLe H (H.set b (.box (.struct [strs g.terms, strs g.nonterms, i64 g.start, rls g.rules]))) := .set hb
  have hbx : (H.set b (.box (.struct [strs g.terms, strs g.nonterms, i64 g.start, rls g.rules]))) b = some (.box (.struct [strs g.terms, strs g.nonterms, i64 g.start, rls g.rules])) := AHeap.set_same _ _ _
  generalize H.set b (.box (.struct [strs g.terms, strs g.nonterms, i64 g.start, rls g.rules])) = H1 at *
  refine aw_loopK (fun i : Nat => i ≤ g.terms.length ∧ ∀ (j : Nat) (x : List UInt8), j < i → g.terms[j]? = some x → x ≠ s)
    (fun i => [(1, .str s), (2, .ptr b 0 []), (6, i64 i)]) (fun _ => H1) (fun i => g.terms.length - i) 0 ⟨by simp, by simp⟩ (by simp) rfl ?_
  rintro i ⟨hi, hno⟩
  simp [hbx]
  intro ht
  by_cases h : i < g.terms.length
  · have hc : g.terms[i]? = some g.terms[i] := List.getElem?_eq_getElem h
    have h' : ¬ g.terms.length ≤ i := by omega
    simp [h, h', hc, hbx]
    by_cases hx : g.terms[i] = s
    · have e := idxS_some (by rw [hc, hx]) hno
      simp [hx, symG, e]
      exact hH
    · simp [hx]
      rw [wrap64 (by omega) (by omega)]
      refine loopK_same (i + 1) ⟨by omega, fun j x hj hx' => ?_⟩ (by omega) rfl rfl
      by_cases hji : j < i
      · exact hno j x hji hx'
      · have : j = i := by omega
        subst this
        rw [hc] at hx'
        injection hx' with hx'
        rw [← hx']
        exact hx
  · have hn1 : idxS s g.terms = -1 := idxS_none fun j x hj => hno j x (by have := (List.getElem?_eq_some_iff.1 hj).1; omega) hj
    have h' : g.terms.length ≤ i := by omega
    simp [h, h', hbx]
    refine aw_loopW (fun i : Nat => i ≤ g.nonterms.length ∧ ∀ (j : Nat) (x : List UInt8), j < i → g.nonterms[j]? = some x → x ≠ s)
      (fun i => [(1, .str s), (2, .ptr b 0 []), (7, i64 i)]) (fun _ => H1) (fun i => g.nonterms.length - i) 0 ⟨by simp, by simp⟩ (by simp; exact EnvLe.refl _) (.refl _) ?_
    rintro i ⟨hi, hno⟩
    simp [hbx]
    intro ht
    by_cases h : i < g.nonterms.length
    · have hc : g.nonterms[i]? = some g.nonterms[i] := List.getElem?_eq_getElem h
      have h' : ¬ g.nonterms.length ≤ i := by omega
      simp [h, h', hc, hbx]
      by_cases hx : g.nonterms[i] = s
      · have e := idxS_some (by rw [hc, hx]) hno
        simp [hx, symG, e, hn1]
        rw [wrap64 (by omega) (by omega)]
        exact ⟨.refl _, hH⟩
      · simp [hx]
        rw [wrap64 (by omega) (by omega)]
        refine loopK_same (i + 1) ⟨by omega, fun j x hj hx' => ?_⟩ (by omega) rfl rfl
        by_cases hji : j < i
        · exact hno j x hji hx'
        · have : j = i := by omega
          subst this
          rw [hc] at hx'
          injection hx' with hx'
          rw [← hx']
          exact hx
    · have hn2 : idxS s g.nonterms = -1 := idxS_none fun j x hj => hno j x (by have := (List.getElem?_eq_some_iff.1 hj).1; omega) hj
      have h' : g.nonterms.length ≤ i := by omega
      simp [h, h', symG, hn1, hn2]
      exact hH

/-- The indices of the rules with a head, from a number on. -/
def rulesFrom (h : Int) : Nat → List Rl → List Int
  | _, [] => []
  | n, r :: l => if r.head = h then (n : Int) :: rulesFrom h (n + 1) l else rulesFrom h (n + 1) l

theorem rulesFrom_snoc (h : Int) (r : Rl) : ∀ (n : Nat) (l : List Rl), rulesFrom h n (l ++ [r]) = rulesFrom h n l ++ (if r.head = h then [((n + l.length : Nat) : Int)] else [])
  | n, [] => by simp [rulesFrom]
  | n, x :: l => by
    have ih := rulesFrom_snoc h r (n + 1) l
    simp only [List.cons_append, rulesFrom, List.length_cons]
    rw [ih, show n + 1 + l.length = n + (l.length + 1) by omega]
    split <;> simp

theorem rulesFrom_len (h : Int) : ∀ (n : Nat) (l : List Rl), (rulesFrom h n l).length ≤ l.length
  | n, [] => by simp [rulesFrom]
  | n, x :: l => by
    have := rulesFrom_len h (n + 1) l
    simp only [rulesFrom, List.length_cons]
    split <;> simp <;> omega

theorem g_RulesOf (g : Gm) (h : Int) (H : AHeap) (hl : g.rules.length ≤ 1000) : ACalls PP grammar_RulesOf_id [g.av, i64 h] H fun r H' => r = .ret (ints (rulesFrom h 0 g.rules)) ∧ H' = H := by
  have hml := maxLen_eq
  refine grammar_RulesOf_enter rfl ?_
  simp [grammar_RulesOf_rs, allocQ, Gm.av]
  intro b hb
  have hH : HLe H (H.set b (.box (.struct [strs g.terms, strs g.nonterms, i64 g.start, rls g.rules]))) := .set hb
  have hbx : (H.set b (.box (.struct [strs g.terms, strs g.nonterms, i64 g.start, rls g.rules]))) b = some (.box (.struct [strs g.terms, strs g.nonterms, i64 g.start, rls g.rules])) := AHeap.set_same _ _ _
  generalize H.set b (.box (.struct [strs g.terms, strs g.nonterms, i64 g.start, rls g.rules])) = H1 at *
  intro hlen
  refine aw_loopW (fun x : Nat × AV × AHeap => x.1 ≤ g.rules.length ∧ Grows H1 3 1 ((rulesFrom h 0 (g.rules.take x.1)).map fun n => AV.int .i64 n) x.2.1 x.2.2)
    (fun x => [(1, i64 h), (5, x.2.1), (9, rls g.rules), (10, i64 g.rules.length), (11, i64 x.1)]) (fun x => x.2.2) (fun x => g.rules.length - x.1) (0, .nils, H1) ⟨by simp, by simp [rulesFrom]; exact Grows.nil _ _ _⟩ (by simp; exact EnvLe.refl _) (.refl _) ?_
  rintro ⟨i, v, H2⟩ ⟨hi, hg⟩
  simp only at hi hg ⊢
  have hsz := hg.size
  by_cases hlt : i < g.rules.length
  · have hc : g.rules[i]? = some g.rules[i] := List.getElem?_eq_getElem hlt
    have htk : g.rules.take (i + 1) = g.rules.take i ++ [g.rules[i]] := by rw [List.take_add_one, hc]; rfl
    have hsn := rulesFrom_snoc h g.rules[i] 0 (g.rules.take i)
    rw [← htk] at hsn
    have hln : (g.rules.take i).length = i := by simp; omega
    rw [hln, Nat.zero_add] at hsn
    have hlb := rulesFrom_len h 0 (g.rules.take i)
    simp [hlt, hc, hsz, allocQ]
    generalize g.rules[i] = r at *
    intro b4 hb4
    simp only [Rl.av]
    by_cases e : r.head = h
    · rw [if_pos e] at hsn
      subst e
      simp [hsz]
      have gx := hg.add (o := .box (.struct [i64 r.head, ints r.body, i64 r.price])) hb4
      refine gx.app (by simp; rw [hln] at hlb; omega) fun v' H' g' => ?_
      obtain ⟨H4, g4, hle4⟩ := g'.drop (hg.base hb4)
      have hs4 := g4.size
      simp [hs4]
      rw [wrap64 (by omega) (by omega)]
      refine loopK_next (i + 1, v', H4) ⟨by simp; omega, by rw [hsn]; simpa using g4⟩ (by simp; omega) (by simp; exact EnvLe.refl _) hle4
    · simp [e, hsz]
      rw [if_neg e, List.append_nil] at hsn
      rw [wrap64 (by omega) (by omega)]
      exact loopK_next (i + 1, v, H2) ⟨by simp; omega, by simp only; rw [hsn]; exact hg⟩ (by simp; omega) (by simp; exact EnvLe.refl _) (.set hb4)
  · have : i = g.rules.length := by omega
    subst this
    rw [List.take_length] at hg
    simp [hsz]
    exact ⟨hg.sub, hH.trans hg.HLe⟩

def exG : Gm := ⟨[[97], [98]], [[83]], 0, [⟨0, [0, -1, 1], 2⟩, ⟨0, [], 0⟩]⟩
def noG : Gm := ⟨[], [], 0, []⟩

/-- Lists of the same length whose elements fit. -/
def SubL (l m : List AV) : Prop := l.length = m.length ∧ (∀ (j : Nat) (x y : AV), l[j]? = some x → m[j]? = some y → Sub x y) ∧ ∀ x ∈ m, x ≠ .undef
theorem SubL.nil : SubL [] [] := ⟨rfl, by simp, by simp⟩
theorem SubL.cons {x y : AV} {l m : List AV} (h : Sub x y) (hu : y ≠ .undef) (k : SubL l m) : SubL (x :: l) (y :: m) := by
  refine ⟨by simp [k.1], fun j a b ha hb => ?_, fun a ha => ?_⟩
  · cases j with
    | zero => simp at ha hb; subst ha hb; exact h
    | succ j => exact k.2.1 j a b (by simpa using ha) (by simpa using hb)
  · rcases List.mem_cons.1 ha with rfl | ha
    · exact hu
    · exact k.2.2 a ha
theorem SubL.struct {l m : List AV} (h : SubL l m) : Sub (.struct l) (.struct m) := .struct h.1 h.2.1 h.2.2
theorem SubL.list {z : Nat} {l m : List AV} (h : SubL l m) : Sub (.list z l) (.list z m) := .list h.1 h.2.1 h.2.2
theorem SubL.refl (l : List AV) (h : ∀ x ∈ l, x ≠ .undef) : SubL l l := ⟨rfl, fun j x y hx hy => by rw [hx] at hy; injection hy with hy; subst hy; exact .refl _, h⟩

theorem l_example (H : AHeap) : Pure law18_example_id [] H exG.av := by
  refine law18_example_enter rfl ?_
  simp [law18_example_rs, allocQ]
  intro b hb
  refine ⟨?_, .set hb⟩
  refine SubL.struct (.cons (.refl _) (by simp) (.cons (.refl _) (by simp) (.cons (.refl _) (by simp) (.cons ?_ (by simp) .nil))))
  refine SubL.list (.cons (.refl _) (by simp [Rl.av]) (.cons ?_ (by simp [Rl.av]) .nil))
  exact SubL.struct (.cons (.refl _) (by simp) (.cons (.nils 1) (by simp) (.cons (.refl _) (by simp) .nil)))

theorem noG_sub : Sub (.struct [.nils, .nils, .int .i64 0, .nils]) noG.av :=
  SubL.struct (.cons (.nils 1) (by simp) (.cons (.nils 1) (by simp) (.cons (.refl _) (by simp) (.cons (.nils 3) (by simp) .nil))))
end Go.Av
