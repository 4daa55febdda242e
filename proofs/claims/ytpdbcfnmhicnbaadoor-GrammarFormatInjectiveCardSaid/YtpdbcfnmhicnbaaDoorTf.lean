/- Symbol, RulesOf, the example; ref18.Equal. -/
import Derived.Test.YtpdbcfnmhicnbaaDoorT4
set_option linter.unusedVariables false
set_option linter.unusedSimpArgs false
namespace Go.Av
open Go Go.Proofs

/-- The symbol with a name, and whether there is one. -/
def symG (g : Gm) (s : List UInt8) : Int × Bool := if 0 ≤ idxS s g.terms then (idxS s g.terms, true) else if 0 ≤ idxS s g.nonterms then (-1 - idxS s g.nonterms, true) else (0, false)

theorem idxS_range (s : List UInt8) : ∀ l : List (List UInt8), idxS s l = -1 ∨ (0 ≤ idxS s l ∧ idxS s l < l.length)
  | [] => .inl rfl
  | x :: l => by
    have := idxS_range s l
    simp only [idxS, List.length_cons]
    split
    · right; omega
    · split
      · left; rfl
      · right; omega

theorem g_Symbol (g : Gm) (s : List UInt8) (H : AHeap) (hl : g.nonterms.length ≤ 1000) : Pure grammar_Symbol_id [g.av, .str s] H (.tuple [i64 (symG g s).1, .bool (symG g s).2]) := by
  refine grammar_Symbol_enter rfl ?_
  simp [grammar_Symbol_rs, allocQ, Gm.av]
  intro b hb
  have hH : HLe H (H.set b (.box (.struct [strs g.terms, strs g.nonterms, i64 g.start, rls g.rules]))) := .set hb
  have hbx : (H.set b (.box (.struct [strs g.terms, strs g.nonterms, i64 g.start, rls g.rules]))) b = some (.box (.struct [strs g.terms, strs g.nonterms, i64 g.start, rls g.rules])) := AHeap.set_same _ _ _
  generalize H.set b (.box (.struct [strs g.terms, strs g.nonterms, i64 g.start, rls g.rules])) = H1 at *
  refine (index_string _ _ _).use ?_
  by_cases q : 0 ≤ idxS s g.terms
  · have q' : ¬ idxS s g.terms < 0 := by omega
    simp [q, q', symG]
    exact hH
  · have q' : idxS s g.terms < 0 := by omega
    simp [q, q', hbx]
    refine (index_string _ _ _).use ?_
    by_cases p : 0 ≤ idxS s g.nonterms
    · have p' : ¬ idxS s g.nonterms < 0 := by omega
      have := idxS_range s g.nonterms
      simp [q, q', p, p', symG]
      rw [wrap64 (by omega) (by omega)]
      exact ⟨.refl _, hH⟩
    · have p' : idxS s g.nonterms < 0 := by omega
      simp [q, q', p, p', symG]
      exact hH

theorem r_Symbol (g : Gm) (s : List UInt8) (H : AHeap) (hl : g.nonterms.length ≤ 1000) : Pure ref18_Symbol_id [g.av, .str s] H (.tuple [i64 (symG g s).1, .bool (symG g s).2]) := by
  have hml := maxLen_eq
  refine ref18_Symbol_enter rfl ?_
  simp [ref18_Symbol_rs, allocQ, Gm.av]
  intro b hb
  have hH : HLe H (H.set b (.box (.struct [strs g.terms, strs g.nonterms, i64 g.start, rls g.rules]))) := .set hb
  have hbx : (H.set b (.box (.struct [strs g.terms, strs g.nonterms, i64 g.start, rls g.rules]))) b = some (.box (.struct [strs g.terms, strs g.nonterms, i64 g.start, rls g.rules])) := AHeap.set_same _ _ _
  generalize H.set b (.box (.struct [strs g.terms, strs g.nonterms, i64 g.start, rls g.rules])) = H1 at *
  refine aw_loopK (fun i : Nat => i ≤ g.terms.length ∧ ∀ (j : Nat) (x : List UInt8), j < i → g.terms[j]? = some x → x ≠ s)
    (fun i => [(1, .str s), (2, .ptr b 0 []), (6, i64 i)]) (fun _ => H1) (fun i => g.terms.length - i) 0 ⟨by simp, by simp⟩ (by simp) rfl ?_
  rintro i ⟨hi, hno⟩
  simp [hbx]
  intro ht
  by_cases h : i < g.terms.length
  · have hc : g.terms[i]? = some g.terms[i] := List.getElem?_eq_getElem h
    have h' : ¬ g.terms.length ≤ i := by omega
    simp [h, h', hc, hbx]
    by_cases hx : g.terms[i] = s
    · have e := idxS_some (by rw [hc, hx]) hno
      simp [hx, symG, e]
      exact hH
    · simp [hx]
      rw [wrap64 (by omega) (by omega)]
      refine loopK_same (i + 1) ⟨by omega, fun j x hj hx' => ?_⟩ (by omega) rfl rfl
      by_cases hji : j < i
      · exact hno j x hji hx'
      · have : j = i := by omega
        subst this
        rw [hc] at hx'
        injection hx' with hx'
        rw [← hx']
        exact hx
  · have hn1 : idxS s g.terms = -1 := idxS_none fun j x hj => hno j x (by have := (List.getElem?_eq_some_iff.1 hj).1; omega) hj
    have h' : g.terms.length ≤ i := by omega
    simp [h, h', hbx]
    refine aw_loopW (fun i : Nat => i ≤ g.nonterms.length ∧ ∀ (j : Nat) (x : List UInt8), j < i → g.nonterms[j]? = some x → x ≠ s)
      (fun i => [(1, .str s), (2, .ptr b 0 []), (7, i64 i)]) (fun _ => H1) (fun i => g.nonterms.length - i) 0 ⟨by simp, by simp⟩ (by simp; exact EnvLe.refl _) (.refl _) ?_
    rintro i ⟨hi, hno⟩
    simp [hbx]
    intro ht
    by_cases h : i < g.nonterms.length
    · have hc : g.nonterms[i]? = some g.nonterms[i] := List.getElem?_eq_getElem h
      have h' : ¬ g.nonterms.length ≤ i := by omega
      simp [h, h', hc, hbx]
      by_cases hx : g.nonterms[i] = s
      · have e := idxS_some (by rw [hc, hx]) hno
        simp [hx, symG, e, hn1]
        rw [wrap64 (by omega) (by omega)]
        exact ⟨.refl _, hH⟩
      · simp [hx]
        rw [wrap64 (by omega) (by omega)]
        refine loopK_same (i + 1) ⟨by omega, fun j x hj hx' => ?_⟩ (by omega) rfl rfl
        by_cases hji : j < i
        · exact hno j x hji hx'
        · have : j = i := by omega
          subst this
          rw [hc] at hx'
          injection hx' with hx'
          rw [← hx']
          exact hx
    · have hn2 : idxS s g.nonterms = -1 := idxS_none fun j x hj => hno j x (by have := (List.getElem?_eq_some_iff.1 hj).1; omega) hj
      have h' : g.nonterms.length ≤ i := by omega
      simp [h, h', symG, hn1, hn2]
      exact hH

/-- The indices of the rules with a head, from a number on. -/
def rulesFrom (h : Int) : Nat → List Rl → List Int
  | _, [] => []
  | n, r :: l => if r.head = h then (n : Int) :: rulesFrom h (n + 1) l else rulesFrom h (n + 1) l

theorem rulesFrom_snoc (h : Int) (r : Rl) : ∀ (n : Nat) (l : List Rl), rulesFrom h n (l ++ [r]) = rulesFrom h n l ++ (if r.head = h then [((n + l.length : Nat) : Int)] else [])
  | n, [] => by simp [rulesFrom]
  | n, x :: l => by
    have ih := rulesFrom_snoc h r (n + 1) l
    simp only [List.cons_append, rulesFrom, List.length_cons]
    rw [ih, show n + 1 + l.length = n + (l.length + 1) by omega]
    split <;> simp

theorem rulesFrom_len (h : Int) : ∀ (n : Nat) (l : List Rl), (rulesFrom h n l).length ≤ l.length
  | n, [] => by simp [rulesFrom]
  | n, x :: l => by
    have := rulesFrom_len h (n + 1) l
    simp only [rulesFrom, List.length_cons]
    split <;> simp <;> omega

theorem g_RulesOf (g : Gm) (h : Int) (H : AHeap) (hl : g.rules.length ≤ 1000) : ACalls PP grammar_RulesOf_id [g.av, i64 h] H fun r H' => r = .ret (ints (rulesFrom h 0 g.rules)) ∧ H' = H := by
  have hml := maxLen_eq
  refine grammar_RulesOf_enter rfl ?_
  simp [grammar_RulesOf_rs, allocQ, Gm.av]
  intro b hb
  have hH : HLe H (H.set b (.box (.struct [strs g.terms, strs g.nonterms, i64 g.start, rls g.rules]))) := .set hb
  have hbx : (H.set b (.box (.struct [strs g.terms, strs g.nonterms, i64 g.start, rls g.rules]))) b = some (.box (.struct [strs g.terms, strs g.nonterms, i64 g.start, rls g.rules])) := AHeap.set_same _ _ _
  generalize H.set b (.box (.struct [strs g.terms, strs g.nonterms, i64 g.start, rls g.rules])) = H1 at *
  intro hlen
  refine aw_loopW (fun x : Nat × AV × AHeap => x.1 ≤ g.rules.length ∧ Grows H1 3 1 ((rulesFrom h 0 (g.rules.take x.1)).map fun n => AV.int .i64 n) x.2.1 x.2.2)
    (fun x => [(1, i64 h), (5, x.2.1), (9, rls g.rules), (10, i64 g.rules.length), (11, i64 x.1)]) (fun x => x.2.2) (fun x => g.rules.length - x.1) (0, .nils, H1) ⟨by simp, by simp [rulesFrom]; exact Grows.nil _ _ _⟩ (by simp; exact EnvLe.refl _) (.refl _) ?_
  rintro ⟨i, v, H2⟩ ⟨hi, hg⟩
  simp only at hi hg ⊢
  have hsz := hg.size
  by_cases hlt : i < g.rules.length
  · have hc : g.rules[i]? = some g.rules[i] := List.getElem?_eq_getElem hlt
    have htk : g.rules.take (i + 1) = g.rules.take i ++ [g.rules[i]] := by rw [List.take_add_one, hc]; rfl
    have hsn := rulesFrom_snoc h g.rules[i] 0 (g.rules.take i)
    rw [← htk] at hsn
    have hln : (g.rules.take i).length = i := by simp; omega
    rw [hln, Nat.zero_add] at hsn
    have hlb := rulesFrom_len h 0 (g.rules.take i)
    simp [hlt, hc, hsz, allocQ]
    generalize g.rules[i] = r at *
    intro b4 hb4
    simp only [Rl.av]
    by_cases e : r.head = h
    · rw [if_pos e] at hsn
      subst e
      simp [hsz]
      have gx := hg.add (o := .box (.struct [i64 r.head, ints r.body, i64 r.price])) hb4
      refine gx.app (by simp; rw [hln] at hlb; omega) fun v' H' g' => ?_
      obtain ⟨H4, g4, hle4⟩ := g'.drop (hg.base hb4)
      have hs4 := g4.size
      simp [hs4]
      rw [wrap64 (by omega) (by omega)]
      refine loopK_next (i + 1, v', H4) ⟨by simp; omega, by rw [hsn]; simpa using g4⟩ (by simp; omega) (by simp; exact EnvLe.refl _) hle4
    · simp [e, hsz]
      rw [if_neg e, List.append_nil] at hsn
      rw [wrap64 (by omega) (by omega)]
      exact loopK_next (i + 1, v, H2) ⟨by simp; omega, by simp only; rw [hsn]; exact hg⟩ (by simp; omega) (by simp; exact EnvLe.refl _) (.set hb4)
  · have : i = g.rules.length := by omega
    subst this
    rw [List.take_length] at hg
    simp [hsz]
    exact ⟨hg.sub, hH.trans hg.HLe⟩

def exG : Gm := ⟨[[97], [98]], [[83]], 0, [⟨0, [0, -1, 1], 2⟩, ⟨0, [], 0⟩]⟩
def noG : Gm := ⟨[], [], 0, []⟩

/-- Lists of the same length whose elements fit. -/
def SubL (l m : List AV) : Prop := l.length = m.length ∧ (∀ (j : Nat) (x y : AV), l[j]? = some x → m[j]? = some y → Sub x y) ∧ ∀ x ∈ m, x ≠ .undef
theorem SubL.nil : SubL [] [] := ⟨rfl, by simp, by simp⟩
theorem SubL.cons {x y : AV} {l m : List AV} (h : Sub x y) (hu : y ≠ .undef) (k : SubL l m) : SubL (x :: l) (y :: m) := by
  refine ⟨by simp [k.1], fun j a b ha hb => ?_, fun a ha => ?_⟩
  · cases j with
    | zero => simp at ha hb; subst ha hb; exact h
    | succ j => exact k.2.1 j a b (by simpa using ha) (by simpa using hb)
  · rcases List.mem_cons.1 ha with rfl | ha
    · exact hu
    · exact k.2.2 a ha
theorem SubL.struct {l m : List AV} (h : SubL l m) : Sub (.struct l) (.struct m) := .struct h.1 h.2.1 h.2.2
theorem SubL.list {z : Nat} {l m : List AV} (h : SubL l m) : Sub (.list z l) (.list z m) := .list h.1 h.2.1 h.2.2
theorem SubL.refl (l : List AV) (h : ∀ x ∈ l, x ≠ .undef) : SubL l l := ⟨rfl, fun j x y hx hy => by rw [hx] at hy; injection hy with hy; subst hy; exact .refl _, h⟩

theorem l_example (H : AHeap) : Pure law18_example_id [] H exG.av := by
  refine law18_example_enter rfl ?_
  simp [law18_example_rs, allocQ]
  intro b hb
  refine ⟨?_, .set hb⟩
  refine SubL.struct (.cons (.refl _) (by simp) (.cons (.refl _) (by simp) (.cons (.refl _) (by simp) (.cons ?_ (by simp) .nil))))
  refine SubL.list (.cons (.refl _) (by simp [Rl.av]) (.cons ?_ (by simp [Rl.av]) .nil))
  exact SubL.struct (.cons (.refl _) (by simp) (.cons (.nils 1) (by simp) (.cons (.refl _) (by simp) .nil)))

theorem noG_sub : Sub (.struct [.nils, .nils, .int .i64 0, .nils]) noG.av :=
  SubL.struct (.cons (.nils 1) (by simp) (.cons (.nils 1) (by simp) (.cons (.refl _) (by simp) (.cons (.nils 3) (by simp) .nil))))
end Go.Av

namespace Go.Av
open Go Go.Proofs

theorem requal_inner (r s : Rl) (hl : r.body.length = s.body.length) (b2 b3 b6 b7 : Nat) (i : Int) (H : AHeap)
    (h6 : H b6 = some (.box (.struct [i64 r.head, ints r.body, i64 r.price]))) (h7 : H b7 = some (.box (.struct [i64 s.head, ints s.body, i64 s.price]))) (K : AK)
    (hf : r.body ≠ s.body → K .ret [(4, AV.bool false)] H)
    (ht : r.body = s.body → K (.exit 2) [(2, .ptr b2 0 []), (3, .ptr b3 0 []), (5, i64 i), (6, .ptr b6 0 []), (7, .ptr b7 0 []), (8, i64 r.body.length), (81, .bool false)] H) :
    aw PP ref18_Equal_c29 K [(2, .ptr b2 0 []), (3, .ptr b3 0 []), (5, i64 i), (6, .ptr b6 0 []), (7, .ptr b7 0 []), (8, i64 0)] H := by
  have hml := maxLen_eq
  simp only [ref18_Equal_c29]
  refine aw_loopK (fun k : Nat => k ≤ r.body.length ∧ Pre r.body s.body k)
    (fun k => [(2, .ptr b2 0 []), (3, .ptr b3 0 []), (5, i64 i), (6, .ptr b6 0 []), (7, .ptr b7 0 []), (8, i64 k)]) (fun _ => H) (fun k => r.body.length - k) 0 ⟨by simp, Pre.zero _ _⟩ (by simp) rfl ?_
  rintro k ⟨hk, hno⟩
  simp [h6]
  intro hlen
  by_cases h : k < r.body.length
  case neg =>
    have : k = r.body.length := by omega
    subst this
    simp
    exact ht (Pre.full hl hno)
  have hks : k < s.body.length := by omega
  have hc : r.body[k]? = some r.body[k] := List.getElem?_eq_getElem h
  have hd : s.body[k]? = some s.body[k] := List.getElem?_eq_getElem hks
  have h' : ¬ r.body.length ≤ k := by omega
  simp [h, h']
  refine ref18_Equal_c20_lex ?_
  simp [h6, h7, h, hks, hc, hd]
  by_cases hx : r.body[k] = s.body[k]
  · simp [hx]
    rw [wrap64 (by omega) (by omega)]
    exact loopK_same (k + 1) ⟨by omega, hno.succ hc hd hx⟩ (by omega) rfl rfl
  · have hx' : (r.body[k] != s.body[k]) = true := by simpa using hx
    simp [hx, hx']
    exact hf (Pre.ne hc hd hx)

theorem requal_loop (a c : Gm) (hl : a.rules.length = c.rules.length) (b2 b3 : Nat) (H : AHeap)
    (h2 : H b2 = some (.box (.struct [strs a.terms, strs a.nonterms, i64 a.start, rls a.rules]))) (h3 : H b3 = some (.box (.struct [strs c.terms, strs c.nonterms, i64 c.start, rls c.rules]))) (K : AK)
    (hf : a.rules ≠ c.rules → ∀ H', HLe H H' → K .ret [(4, AV.bool false)] H')
    (ht : a.rules = c.rules → K (.exit 0) [(2, .ptr b2 0 []), (3, .ptr b3 0 []), (5, i64 a.rules.length), (43, .bool false)] H) :
    aw PP ref18_Equal_c38 K [(2, .ptr b2 0 []), (3, .ptr b3 0 []), (5, i64 0)] H := by
  have hml := maxLen_eq
  simp only [ref18_Equal_c38]
  refine aw_loopK (fun k : Nat => k ≤ a.rules.length ∧ Pre a.rules c.rules k)
    (fun k => [(2, .ptr b2 0 []), (3, .ptr b3 0 []), (5, i64 k)]) (fun _ => H) (fun k => a.rules.length - k) 0 ⟨by simp, Pre.zero _ _⟩ (by simp) rfl ?_
  rintro k ⟨hk, hno⟩
  simp [h2]
  intro hlen
  by_cases h : k < a.rules.length
  case neg =>
    have : k = a.rules.length := by omega
    subst this
    simp
    exact ht (Pre.full hl hno)
  have hks : k < c.rules.length := by omega
  have hc : a.rules[k]? = some a.rules[k] := List.getElem?_eq_getElem h
  have hd : c.rules[k]? = some c.rules[k] := List.getElem?_eq_getElem hks
  have h' : ¬ a.rules.length ≤ k := by omega
  simp [h, h']
  refine ref18_Equal_c10_lexF [b2, b3] ?_
  simp [h2, h3, h, hks, hc, hd, allocQ]
  intro b6 hb6
  have n62 := ne_of_some_none h2 hb6
  have n63 := ne_of_some_none h3 hb6
  refine ⟨fun x hx => ?_, ?_⟩
  · simp at hx
    rcases hx with rfl | rfl <;> simp [AHeap.set_ne, n62, n63]
  intro b7 hb7
  have n67 : b6 ≠ b7 := fun e => by subst e; rw [AHeap.set_same] at hb7; cases hb7
  have hb7' : H b7 = none := by rw [AHeap.set_ne _ _ (Ne.symm n67)] at hb7; exact hb7
  have n72 := ne_of_some_none h2 hb7'
  have n73 := ne_of_some_none h3 hb7'
  refine ⟨fun x hx => ?_, ?_⟩
  · simp at hx
    rcases hx with rfl | rfl <;> simp [AHeap.set_ne, n62, n63, n72, n73]
  have n76 := Ne.symm n67
  simp [AHeap.set_ne, n67, n76, AV.size, AV.sizes]
  refine ⟨fun x hx => ?_, ?_⟩
  · simp at hx
    rcases hx with rfl | rfl <;> simp [AHeap.set_ne, n62, n63, n72, n73]
  have eH : ∀ (z z' r s : AObj), (((H.set b6 z).set b7 z').set b6 r).set b7 s = (H.set b6 r).set b7 s := fun z z' r s => by
    rw [set_comm_heap (H := H.set b6 z) n76, AHeap.set_set, AHeap.set_set]
  rw [eH]
  have h6 : ((H.set b6 (.box a.rules[k].av)).set b7 (.box c.rules[k].av)) b6 = some (.box a.rules[k].av) := by rw [AHeap.set_ne _ _ n67, AHeap.set_same]
  have h7 : ((H.set b6 (.box a.rules[k].av)).set b7 (.box c.rules[k].av)) b7 = some (.box c.rules[k].av) := AHeap.set_same _ _ _
  have hle : HLe H ((H.set b6 (.box a.rules[k].av)).set b7 (.box c.rules[k].av)) := (HLe.set hb6).trans (.set (by rw [AHeap.set_ne _ _ n76]; exact hb7'))
  have hno' : a.rules[k] = c.rules[k] → Pre a.rules c.rules (k + 1) := fun e => hno.succ hc hd e
  have hf' : a.rules[k] ≠ c.rules[k] → a.rules ≠ c.rules := Pre.ne hc hd
  clear hc hd eH
  generalize (H.set b6 (.box a.rules[k].av)).set b7 (.box c.rules[k].av) = Hf at *
  generalize a.rules[k] = r at *
  generalize c.rules[k] = s at *
  simp only [Rl.av] at *
  have ne1 : r.head ≠ s.head → r ≠ s := fun h e => h (by rw [e])
  have ne2 : r.price ≠ s.price → r ≠ s := fun h e => h (by rw [e])
  have ne3 : r.body ≠ s.body → r ≠ s := fun h e => h (by rw [e])
  by_cases p1 : r.head = s.head
  case neg =>
    have p1' : (r.head != s.head) = true := by simpa using p1
    simp [h6, h7, p1, p1']
    intros; exact hf (hf' (ne1 p1)) _ hle
  by_cases p2 : r.price = s.price
  case neg =>
    have p2' : (r.price != s.price) = true := by simpa using p2
    simp [h6, h7, p1, p2, p2']
    intros; exact hf (hf' (ne2 p2)) _ hle
  by_cases p3 : r.body.length = s.body.length
  case neg =>
    have p3' : ((r.body.length : Int) != s.body.length) = true := by simp; omega
    have p3i : ¬ (r.body.length : Int) = s.body.length := by omega
    simp [h6, h7, p1, p2, p3, p3', p3i]
    intros; exact hf (hf' (ne3 fun e => p3 (by rw [e]))) _ hle
  simp [h6, h7, p1, p2, p3]
  intros
  refine requal_inner r s p3 b2 b3 b6 b7 (k : Int) Hf (by rw [h6]) (by rw [h7]) _ (fun hb => ?_) fun hb => ?_
  · exact hf (hf' (ne3 hb)) _ hle
  · simp
    rw [wrap64 (by omega) (by omega)]
    exact loopK_next (k + 1) ⟨by omega, hno' (Rl.ext' p1 hb p2)⟩ (by omega) (EnvLe.refl _) hle

theorem r_Equal (a c : Gm) (H : AHeap) : Pure ref18_Equal_id [a.av, c.av] H (.bool (eqB a c)) := by
  have hml := maxLen_eq
  refine ref18_Equal_enter rfl ?_
  simp [ref18_Equal_rs, allocQ, Gm.av]
  intro b2 hb2 b3 hb3
  obtain ⟨H1, e1, q2, q3, hle⟩ := two_boxes (o' := .box (.struct [strs c.terms, strs c.nonterms, i64 c.start, rls c.rules])) hb2 hb3
  rw [e1]
  clear hb2 hb3 e1
  have ne1 : a.terms ≠ c.terms → eqB a c = false := fun h => eqB_false.2 fun e => h (by rw [e])
  have ne2 : a.nonterms ≠ c.nonterms → eqB a c = false := fun h => eqB_false.2 fun e => h (by rw [e])
  have ne3 : a.start ≠ c.start → eqB a c = false := fun h => eqB_false.2 fun e => h (by rw [e])
  have ne4 : a.rules ≠ c.rules → eqB a c = false := fun h => eqB_false.2 fun e => h (by rw [e])
  simp [q2]
  refine (r_sameNames _ _ _).use ?_
  by_cases h2 : a.terms = c.terms
  case neg =>
    simp [eqB_false.2 h2, ne1 h2]
    exact hle
  simp [eqB_iff.2 h2, q2, q3]
  refine (r_sameNames _ _ _).use ?_
  by_cases h3 : a.nonterms = c.nonterms
  case neg =>
    simp [eqB_false.2 h3, ne2 h3, q2, q3]
    exact hle
  simp [eqB_iff.2 h3, q2, q3]
  by_cases h1 : a.start = c.start
  case neg =>
    have h1' : (a.start != c.start) = true := by simpa using h1
    simp [h1, h1', ne3 h1, q2, q3]
    exact hle
  simp [h1, q2, q3]
  intro l1 l2
  by_cases h4 : a.rules.length = c.rules.length
  case neg =>
    have h4' : ((a.rules.length : Int) != c.rules.length) = true := by simp; omega
    have h4i : ¬ (a.rules.length : Int) = c.rules.length := by omega
    simp [h4, h4', h4i, ne4 fun e => h4 (by rw [e])]
    exact hle
  simp [h4]
  refine requal_loop a c h4 b2 b3 H1 q2 q3 _ (fun hb H' hle' => ?_) fun hb => ?_
  · simp [ne4 hb]
    exact hle.trans hle'
  · simp [eqB_iff.2 (Gm.ext' h2 h3 h1 hb)]
    exact hle
end Go.Av
