/- grammar.Format. -/
import Derived.Test.YtpdbcfnmhicnbaaDoorTg
import Derived.Test.YtpdbcfnmhicnbaaDoorTd
set_option linter.unusedVariables false
set_option linter.unusedSimpArgs false
namespace Go.Av
open Go Go.Proofs

theorem g_symbol (g : Gm) (x : Int) (H : AHeap) (hx : badSym g x = false) (hl : g.terms.length ≤ 1000 ∧ g.nonterms.length ≤ 1000) : Pure grammar_symbol_id [g.av, i64 x] H (.str (symN g x)) := by
  have hb : (-1000 : Int) ≤ x ∧ x ≤ 1000 := by
    simp only [badSym, Bool.or_eq_false_iff, decide_eq_false_iff_not] at hx
    omega
  refine grammar_symbol_enter rfl ?_
  simp [grammar_symbol_rs, allocQ, Gm.av]
  intro b hb0
  have hH1 : HLe H (H.set b (.box g.av)) := .set hb0
  rw [Gm.av] at hH1
  by_cases p : 0 ≤ x
  · have hg := symN_pos p hx
    have p' : ¬ x < 0 := by omega
    simp [p, p', hg]
    exact hH1
  · have hg := symN_neg p hx
    have p' : x < 0 := by omega
    have hwx : IntKind.i64.wrap (-1 - x) = -1 - x := wrap64 (by omega) (by omega)
    have p2 : 0 ≤ -1 - x := by omega
    simp [p, p', hwx, p2, hg]
    exact ⟨by omega, hH1⟩

theorem join_words (x : List UInt8) (l : List (List UInt8)) : Lib.join (x :: l) [32] = x ++ wordsT l := by
  rw [Lib.join_cons]
  congr 1

/-- A line is written. -/
theorem line_use {b : Nat} {v : AV} {s0 : Nat} {x : List UInt8} {l : List (List UInt8)} {s : List UInt8} {H : AHeap} {K : AV → AHeap → Prop} {Kp : Value → AHeap → Prop}
    (hb : H b = some (.bld s 48 5)) (hv : v.asList = some (s0, (x :: l).map AV.str)) (hs0 : s0 = 1) (hN : l.length ≤ 1000) (hl : x.length + (wordsT l).length ≤ 1000000) (hs : s.length ≤ 1000000)
    (hK : K (.tuple []) (H.set b (.bld (s ++ (x ++ wordsT l ++ [10])) 48 5))) : ACalls PP grammar_Format_1_id [v, .ptr b 0 []] H (callK K Kp) := by
  have hml := maxLen_eq
  refine grammar_Format_1_enter rfl ?_
  simp [grammar_Format_1_rs]
  have hj := strings_Join v s0 (x :: l) hv (.inr hs0) (by simp; omega) [32] (by rw [join_words]; simp; omega) H
  rw [join_words] at hj
  refine Pure.use hj ?_
  simp
  refine ⟨by omega, ?_⟩
  refine ACalls.mono (bld_WriteString hb (by simp; omega)) ?_
  rintro r H' ⟨rfl, rfl⟩
  simp
  exact ⟨_, .refl _, _, .refl _, by simpa using hK⟩
end Go.Av

namespace Go.Av
open Go Go.Proofs

theorem gfmt_inner (g : Gm) (r : Rl) (hv : VG g) (hr : VR g r) (l0 : List (List UInt8)) (hl0 : l0.length ≤ 1000) (b b3 b6 : Nat) (kk : Int) (n : Int) (Hb : AHeap) (v0 : AV) (H0 : AHeap) (hg0 : Grows Hb 9 1 (l0.map AV.str) v0 H0)
    (q1 : Hb b = some (.box (.struct [strs g.terms, strs g.nonterms, i64 g.start, rls g.rules]))) (K : AK)
    (ht : ∀ v H, Grows Hb 9 1 ((l0 ++ r.body.map (symN g)).map AV.str) v H → K (.exit 2) [(1, .ptr b 0 []), (3, .ptr b3 0 []), (4, .fn (.func 31) [] [.ptr b3 0 []]), (6, .ptr b6 0 []), (7, v), (36, rls g.rules), (37, i64 n), (38, i64 kk), (50, ints r.body), (51, i64 r.body.length), (52, i64 r.body.length), (53, .bool false)] H) :
    aw PP grammar_Format_c27 K [(1, .ptr b 0 []), (3, .ptr b3 0 []), (4, .fn (.func 31) [] [.ptr b3 0 []]), (6, .ptr b6 0 []), (7, v0), (36, rls g.rules), (37, i64 n), (38, i64 kk), (50, ints r.body), (51, i64 r.body.length), (52, i64 0)] H0 := by
  have hml := maxLen_eq
  simp only [grammar_Format_c27]
  refine aw_loopK (fun x : Nat × AV × AHeap => x.1 ≤ r.body.length ∧ Grows Hb 9 1 ((l0 ++ (r.body.map (symN g)).take x.1).map AV.str) x.2.1 x.2.2)
    (fun x => [(1, .ptr b 0 []), (3, .ptr b3 0 []), (4, .fn (.func 31) [] [.ptr b3 0 []]), (6, .ptr b6 0 []), (7, x.2.1), (36, rls g.rules), (37, i64 n), (38, i64 kk), (50, ints r.body), (51, i64 r.body.length), (52, i64 x.1)])
    (fun x => x.2.2) (fun x => r.body.length - x.1) (0, v0, H0) ⟨by simp, by simpa using hg0⟩ (by simp) rfl ?_
  rintro ⟨i, v, H⟩ ⟨hi, hg⟩
  simp only at hi hg ⊢
  have hsz := hg.size
  have hq1 := hg.get q1
  by_cases h : i < r.body.length
  case neg =>
    have : i = r.body.length := by omega
    subst this
    have htk : (r.body.map (symN g)).take r.body.length = r.body.map (symN g) := by rw [← List.length_map (f := symN g), List.take_length]
    rw [htk] at hg
    simp [hsz]
    exact ht v H hg
  have hc : r.body[i]? = some r.body[i] := List.getElem?_eq_getElem h
  have hbad := hr.ok _ (List.getElem_mem h)
  have h4 := hr.b
  have hwk : IntKind.i64.wrap ((i : Int) + 1) = (i : Int) + 1 := wrap64 (by omega) (by omega)
  have hnext : (r.body.map (symN g)).take (i + 1) = (r.body.map (symN g)).take i ++ [symN g r.body[i]] := by
    rw [List.take_add_one, List.getElem?_map, hc]; rfl
  simp [h, hc, hq1, hsz]
  refine (g_symbol g _ _ hbad ⟨by have := hv.t; omega, by have := hv.n; omega⟩).use ?_
  simp [hsz]
  refine hg.app (by simp; omega) fun v' H' g' => ?_
  have hs' := g'.size
  simp [hs']
  rw [hwk]
  refine loopK_same (i + 1, v', H') ⟨by simp; omega, ?_⟩ (by simp; omega) rfl rfl
  have e : List.map AV.str l0 ++ List.take (i + 1) (List.map (AV.str ∘ symN g) r.body) = List.map AV.str (l0 ++ (r.body.map (symN g)).take (i + 1)) := by simp
  simp only
  rw [e, hnext]
  simpa using g'

theorem wordsT_cons (x : List UInt8) (l : List (List UInt8)) : wordsT (x :: l) = 32 :: (x ++ wordsT l) := by simp [wordsT]
theorem wordsT_app (l m : List (List UInt8)) : wordsT (l ++ m) = wordsT l ++ wordsT m := by simp [wordsT]
theorem wordsT_nil : wordsT [] = [] := rfl
theorem HLe.of_eq {H H' : AHeap} (h : H = H') : HLe H H' := h ▸ .refl _

theorem gfmt_loop (g : Gm) (hv : VG g) (s : List UInt8) (hs : s.length ≤ 12000) (b b3 : Nat) (H : AHeap) (hT : GT H)
    (h1 : H b = some (.box (.struct [strs g.terms, strs g.nonterms, i64 g.start, rls g.rules]))) (h3 : H b3 = some (.bld s 48 5)) (K : AK)
    (ht : K (.exit 0) [(1, .ptr b 0 []), (3, .ptr b3 0 []), (4, .fn (.func 31) [] [.ptr b3 0 []]), (36, rls g.rules), (37, i64 g.rules.length), (38, i64 g.rules.length), (39, .bool false)] (H.set b3 (.bld (s ++ rulesT g g.rules) 48 5))) :
    aw PP grammar_Format_c44 K [(1, .ptr b 0 []), (3, .ptr b3 0 []), (4, .fn (.func 31) [] [.ptr b3 0 []]), (36, rls g.rules), (37, i64 g.rules.length), (38, i64 0)] H := by
  have hml := maxLen_eq
  have n31 : b3 ≠ b := fun e => by subst e; rw [h1] at h3; cases h3
  have n13 := Ne.symm n31
  have n3t : (1 : Nat) ≠ b3 := fun e => by subst e; unfold GT at hT; rw [hT] at h3; cases h3
  simp only [grammar_Format_c44]
  refine aw_loopK (fun k : Nat => k ≤ g.rules.length)
    (fun k => [(1, .ptr b 0 []), (3, .ptr b3 0 []), (4, .fn (.func 31) [] [.ptr b3 0 []]), (36, rls g.rules), (37, i64 g.rules.length), (38, i64 k)])
    (fun k => H.set b3 (.bld (s ++ rulesT g (g.rules.take k)) 48 5)) (fun k => g.rules.length - k) 0 (by simp) (by simp) (by simp [rulesT_nil]; exact (set_self h3).symm) ?_
  intro k hk
  by_cases h : k < g.rules.length
  case neg =>
    have : k = g.rules.length := by omega
    subst this
    simp
    exact ht
  have hc : g.rules[k]? = some g.rules[k] := List.getElem?_eq_getElem h
  have hr := hv.rok _ (List.getElem_mem h)
  have hrl := hv.rule_len hr
  have hnext : rulesT g (g.rules.take (k + 1)) = rulesT g (g.rules.take k) ++ ruleT g g.rules[k] := by
    rw [List.take_add_one, hc]
    exact rulesT_snoc _ _ _
  have hal := hv.rules_len (l := g.rules.take k) fun r hr => hv.rok r (List.mem_of_mem_take hr)
  have h3l : (g.rules.take k).length = k := by simp; omega
  have h4 := hv.r
  have hwk : IntKind.i64.wrap ((k : Int) + 1) = (k : Int) + 1 := wrap64 (by omega) (by omega)
  have hT1 : GT (H.set b3 (.bld (s ++ rulesT g (g.rules.take k)) 48 5)) := by unfold GT at *; rw [AHeap.set_ne _ _ n3t]; exact hT
  have q1 : (H.set b3 (.bld (s ++ rulesT g (g.rules.take k)) 48 5)) b = some (.box (.struct [strs g.terms, strs g.nonterms, i64 g.start, rls g.rules])) := by rw [AHeap.set_ne _ _ n13]; exact h1
  have q3 : (H.set b3 (.bld (s ++ rulesT g (g.rules.take k)) 48 5)) b3 = some (.bld (s ++ rulesT g (g.rules.take k)) 48 5) := AHeap.set_same _ _ _
  have hset : ∀ o, (H.set b3 (.bld (s ++ rulesT g (g.rules.take k)) 48 5)).set b3 o = H.set b3 o := fun o => AHeap.set_set _ _ _ _
  simp [h, hc, allocQ]
  generalize H.set b3 (.bld (s ++ rulesT g (g.rules.take k)) 48 5) = H1 at *
  generalize g.rules[k] = r at *
  simp only [Rl.av]
  intro b6 hb6
  have n16 := ne_of_some_none q1 hb6
  have n36 := ne_of_some_none q3 hb6
  have hle : HLe H1 (H1.set b6 (.box (.struct [i64 r.head, ints r.body, i64 r.price]))) := .set hb6
  have hT2 := hT1.set (o := .box (.struct [i64 r.head, ints r.body, i64 r.price])) hb6
  have p1 : (H1.set b6 (.box (.struct [i64 r.head, ints r.body, i64 r.price]))) b = some (.box (.struct [strs g.terms, strs g.nonterms, i64 g.start, rls g.rules])) := by rw [AHeap.set_ne _ _ n16]; exact q1
  have p3 : (H1.set b6 (.box (.struct [i64 r.head, ints r.body, i64 r.price]))) b3 = some (.bld (s ++ rulesT g (g.rules.take k)) 48 5) := by rw [AHeap.set_ne _ _ n36]; exact q3
  have p6 : (H1.set b6 (.box (.struct [i64 r.head, ints r.body, i64 r.price]))) b6 = some (.box (.struct [i64 r.head, ints r.body, i64 r.price])) := AHeap.set_same _ _ _
  generalize H1.set b6 (.box (.struct [i64 r.head, ints r.body, i64 r.price])) = H2 at *
  have hn := nt_get hr.h0 hr.h
  have hnl := hv.nt_len r.head
  have hh0 := hr.h0
  have hbl := hv.body_len r.body
  have hb12 := hr.b
  have hdl := dec_len hr.p
  have hp0 := hr.p0
  simp [p1, p6, hn, hh0]
  intro b7 hb7
  have hg0 : Grows H2 9 1 ([ntN g r.head, [45, 62]].map AV.str) (.own 1 ([ntN g r.head, [45, 62]].map AV.str) b7) (H2.set b7 (.row 2 1 9)) := .inr ⟨b7, hb7, rfl, rfl⟩
  have p6' := hg0.get p6
  simp [p6']
  intro _
  refine gfmt_inner g r hv hr [ntN g r.head, [45, 62]] (by simp) b b3 b6 (k : Int) _ H2 _ _ hg0 p1 _ fun v H3 g3 => ?_
  have r6 := g3.get p6
  have s3 := g3.size
  have eb : ∀ p : List (List UInt8), ntN g r.head ++ wordsT ([45, 62] :: (r.body.map (symN g) ++ p)) ++ [10] = ntN g r.head ++ [32, 45, 62] ++ wordsT (r.body.map (symN g)) ++ wordsT p ++ [10] := fun p => by simp [wordsT]
  by_cases p : r.price = 0
  · have ep : priceT r.price = [] := by simp [priceT, p]
    obtain ⟨s0, ha, hs0⟩ := g3.asList
    have hs1 : s0 = 1 := by simpa using hs0
    simp [r6, s3, p]
    refine line_use (x := ntN g r.head) (l := [45, 62] :: (r.body.map (symN g) ++ [])) (g3.get p3) (by rw [ha]; simp) hs1 (by simp; omega) (by simp [wordsT_cons]; omega) (by simp; omega) ?_
    rw [eb]
    simp
    rw [hwk]
    refine loopK_next (k + 1) (by omega) (by omega) (EnvLe.refl _) ?_
    have hx := forget (b := b3) (o2 := .bld (s ++ rulesT g (g.rules.take (k + 1))) 48 5) (hle.trans g3.HLe) q3
    rw [hset] at hx
    refine hx.trans (HLe.of_eq ?_)
    rw [hnext]
    simp [ruleT, ep, wordsT]
  · have pp : 0 < r.price := by omega
    have ep : priceT r.price = wordsT [[91, 112, 114, 105, 99, 101, 93], Lib.decDigits r.price.toNat] := by simp [priceT, pp, wordsT]
    have p' : (r.price != 0) = true := by simpa using p
    simp [r6, s3, p, p']
    refine (itoa hp0 hr.p H3 (g3.get hT2)).use ?_
    simp [s3]
    refine g3.app (by simp; omega) fun v' H5 g5 => ?_
    have s5 := g5.size
    obtain ⟨s0, ha, hs0⟩ := g5.asList
    have hs1 : s0 = 1 := by simpa using hs0
    simp [s5]
    refine line_use (x := ntN g r.head) (l := [45, 62] :: (r.body.map (symN g) ++ [[91, 112, 114, 105, 99, 101, 93], Lib.decDigits r.price.toNat])) (g5.get p3) (by rw [ha]; simp) hs1 (by simp; omega) (by simp [wordsT_cons, wordsT_app, wordsT_nil]; omega) (by simp; omega) ?_
    rw [eb]
    simp
    rw [hwk]
    refine loopK_next (k + 1) (by omega) (by omega) (EnvLe.refl _) ?_
    have hx := forget (b := b3) (o2 := .bld (s ++ rulesT g (g.rules.take (k + 1))) 48 5) (hle.trans g5.HLe) q3
    rw [hset] at hx
    refine hx.trans (HLe.of_eq ?_)
    rw [hnext]
    simp [ruleT, ep, wordsT]
end Go.Av

namespace Go.Av
open Go Go.Proofs

theorem HLe.set' {H G : AHeap} {b : Nat} {o : AObj} (h : HLe H G) (hb : H b = none) : HLe H (G.set b o) := by
  refine ⟨fun x v hx => ?_, fun x n z e hx => ?_, fun x o ho hx => ?_⟩
  all_goals
    have hxb : x ≠ b := fun e => by subst e; rw [hb] at hx; cases hx
    simp only [AHeap.set_ne _ _ hxb]
    first | exact h.box x v hx | exact h.row x n z e hx | exact h.x x o ho hx
theorem HLe.del' {H G : AHeap} {b : Nat} (h : HLe H G) (hb : H b = none) : HLe H (G.del b) := by
  refine ⟨fun x v hx => ?_, fun x n z e hx => ?_, fun x o ho hx => ?_⟩
  all_goals
    have hxb : x ≠ b := fun e => by subst e; rw [hb] at hx; cases hx
    simp only [AHeap.del, if_neg hxb]
    first | exact h.box x v hx | exact h.row x n z e hx | exact h.x x o ho hx

/-- What holds between the lines. -/
structure Btw (g : Gm) (b b3 : Nat) (H1 : AHeap) (t : List UInt8) (G : AHeap) : Prop where
  q1 : G b = some (.box (.struct [strs g.terms, strs g.nonterms, i64 g.start, rls g.rules]))
  q3 : G b3 = some (.bld t 48 5)
  hT : GT G
  hL : HLe H1 G
theorem Btw.step {g : Gm} {b b3 : Nat} {H1 G G2 : AHeap} {t t2 : List UInt8} {l : List AV} {v : AV} (h : Btw g b b3 H1 t G) (hb : H1 b3 = none) (hg : Grows G 9 1 l v G2) : Btw g b b3 H1 t2 (G2.set b3 (.bld t2 48 5)) := by
  have n : b ≠ b3 := fun e => by have := h.q1; rw [e, h.q3] at this; cases this
  have n2 : (1 : Nat) ≠ b3 := fun e => by have := h.hT; unfold GT at this; rw [e, h.q3] at this; cases this
  refine ⟨by rw [AHeap.set_ne _ _ n]; exact hg.get h.q1, AHeap.set_same _ _ _, ?_, ?_⟩
  · unfold GT
    rw [AHeap.set_ne _ _ n2]
    exact hg.get h.hT
  · exact (h.hL.trans hg.HLe).set' hb

set_option maxHeartbeats 1000000 in
theorem g_Format (g : Gm) (ha : g.terms.length ≤ 1000) (hb : g.nonterms.length ≤ 1000) (H : AHeap) (hM : GM H) (hT : GT H) : Pure grammar_Format_id [g.av] H (.str (fmtG g)) := by
  have hml := maxLen_eq
  refine grammar_Format_enter rfl ?_
  simp [grammar_Format_rs, allocQ]
  intro b hb0
  have hT1 := hT.set (o := .box g.av) hb0
  have hM1 := hM.set (o := .box g.av) hb0
  refine (g_Valid g ha hb _ hM1).use ?_
  have hH1 : HLe H (H.set b (.box g.av)) := .set hb0
  have hbx : (H.set b (.box g.av)) b = some (.box (.struct [strs g.terms, strs g.nonterms, i64 g.start, rls g.rules])) := AHeap.set_same _ _ _
  cases hv : validG g
  · simp [fmtG, hv]
    exact hH1
  have hvg := (validG_iff g).1 hv
  have hfm : fmtG g = headT g ++ rulesT g g.rules := by simp [fmtG, hv, textG]
  simp only [hfm]
  generalize H.set b (.box g.av) = H1 at *
  have hn := nt_get hvg.s0 hvg.s
  have w1 := words_len (l := g.terms) fun x hx => hvg.len x (.inl hx)
  have w2 := words_len (l := g.nonterms) fun x hx => hvg.len x (.inr hx)
  have w3 := hvg.nt_len g.start
  have w4 := hvg.t
  have w5 := hvg.n
  have hs0 := hvg.s0
  have hhl := hvg.head_len
  have hrl := hvg.rules_len hvg.rok
  have hr1 := hvg.r
  simp [allbQ]
  intro b3 hb3
  have n13 := ne_of_some_none hbx hb3
  have hH2 : HLe H1 (H1.set b3 (.bld [] 48 5)) := .set hb3
  have hT2 := hT1.set (o := .bld [] 48 5) hb3
  have q1 : (H1.set b3 (.bld [] 48 5)) b = some (.box (.struct [strs g.terms, strs g.nonterms, i64 g.start, rls g.rules])) := by rw [AHeap.set_ne _ _ n13]; exact hbx
  have q3 : (H1.set b3 (.bld [] 48 5)) b3 = some (.bld [] 48 5) := AHeap.set_same _ _ _
  have B0 : Btw g b b3 H1 [] (H1.set b3 (.bld [] 48 5)) := ⟨q1, q3, hT2, hH2⟩
  generalize H1.set b3 (.bld [] 48 5) = H2 at *
  -- terms
  intro b4 hb4
  have g0 : Grows H2 9 1 ([[116, 101, 114, 109, 115]].map AV.str) (.own 1 ([[116, 101, 114, 109, 115]].map AV.str) b4) (H2.set b4 (.row 1 1 9)) := .inr ⟨b4, hb4, rfl, rfl⟩
  have q1' := g0.get q1
  simp [q1']
  refine g0.app (by simp; omega) fun v H3 g3 => ?_
  have s3 := g3.size
  obtain ⟨s0, ha0, hs0'⟩ := g3.asList
  have hs1 : s0 = 1 := by simpa using hs0'
  simp [s3]
  refine line_use (x := [116, 101, 114, 109, 115]) (l := g.terms) (g3.get q3) (by rw [ha0]; simp) hs1 (by omega) (by simp; omega) (by simp) ?_
  simp only [List.nil_append]
  have B1 := B0.step (t2 := [116, 101, 114, 109, 115] ++ wordsT g.terms ++ [10]) hb3 g3
  generalize H3.set b3 (.bld ([116, 101, 114, 109, 115] ++ wordsT g.terms ++ [10]) 48 5) = G1 at *
  clear q1' g0 g3 s3 ha0 hs0' hs1 hb4 B0 q1 q3 hT2 hH2
  -- nonterms
  simp
  intro b5 hb5
  have g0 : Grows G1 9 1 ([[110, 111, 110, 116, 101, 114, 109, 115]].map AV.str) (.own 1 ([[110, 111, 110, 116, 101, 114, 109, 115]].map AV.str) b5) (G1.set b5 (.row 1 1 9)) := .inr ⟨b5, hb5, rfl, rfl⟩
  have q1' := g0.get B1.q1
  simp [q1']
  refine g0.app (by simp; omega) fun v H3 g3 => ?_
  have s3 := g3.size
  obtain ⟨s0, ha0, hs0'⟩ := g3.asList
  have hs1 : s0 = 1 := by simpa using hs0'
  simp [s3]
  refine line_use (x := [110, 111, 110, 116, 101, 114, 109, 115]) (l := g.nonterms) (g3.get B1.q3) (by rw [ha0]; simp) hs1 (by omega) (by simp; omega) (by simp; omega) ?_
  have B2 := B1.step (t2 := [116, 101, 114, 109, 115] ++ wordsT g.terms ++ [10] ++ ([110, 111, 110, 116, 101, 114, 109, 115] ++ wordsT g.nonterms ++ [10])) hb3 g3
  generalize H3.set b3 (.bld ([116, 101, 114, 109, 115] ++ wordsT g.terms ++ [10] ++ ([110, 111, 110, 116, 101, 114, 109, 115] ++ wordsT g.nonterms ++ [10])) 48 5) = G2 at *
  clear q1' g0 g3 s3 ha0 hs0' hs1 hb5 B1
  -- start
  have q1 := B2.q1
  simp [q1, hn, hs0]
  intro b6 hb6
  have g0 : Grows G2 9 1 ([[115, 116, 97, 114, 116], ntN g g.start].map AV.str) (.own 1 ([[115, 116, 97, 114, 116], ntN g g.start].map AV.str) b6) (G2.set b6 (.row 2 1 9)) := .inr ⟨b6, hb6, rfl, rfl⟩
  refine line_use (x := [115, 116, 97, 114, 116]) (l := [ntN g g.start]) (g0.get B2.q3) rfl rfl (by simp) (by simp [wordsT_cons, wordsT_nil]; omega) (by simp; omega) ?_
  have eh : [116, 101, 114, 109, 115] ++ wordsT g.terms ++ [10] ++ ([110, 111, 110, 116, 101, 114, 109, 115] ++ wordsT g.nonterms ++ [10]) ++ ([115, 116, 97, 114, 116] ++ wordsT [ntN g g.start] ++ [10]) = headT g := by simp [headT, wordsT]
  rw [eh]
  have B3 := B2.step (t2 := headT g) hb3 g0
  generalize (G2.set b6 (.row 2 1 9)).set b3 (.bld (headT g) 48 5) = G3 at *
  clear g0 hb6 B2 q1
  have q1 := B3.q1
  simp [q1]
  intro _
  refine gfmt_loop g hvg (headT g) hhl b b3 G3 B3.hT q1 B3.q3 _ ?_
  simp
  refine ACalls.mono (bld_String (AHeap.set_same _ _ _) (by simp [headT]) (by simp; omega)) ?_
  rintro r H' ⟨rfl, rfl⟩
  simp
  exact hH1.trans ((B3.hL.set' hb3).del' hb3)
end Go.Av
