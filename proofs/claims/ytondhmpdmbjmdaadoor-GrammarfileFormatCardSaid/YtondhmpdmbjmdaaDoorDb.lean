/- Part of the proof: Db. No condition. -/
import Derived.Test.YtondhmpdmbjmdaaDoorD13
import Derived.Test.YtondhmpdmbjmdaaDoorCf
import Derived.Test.YtondhmpdmbjmdaaDoorFns11
set_option linter.unusedVariables false
set_option linter.unusedSimpArgs false
namespace Go.Av
theorem beq_symm' {a b : List UInt8} : (a == b) = (b == a) := by
  rw [Bool.eq_iff_iff]; simp; exact eq_comm

/-- Whether a rule's name was there before. -/
theorem r16_Valid_dup {b1 b5 : Nat} {start nm : List UInt8} {v1 : AV} {alts : AV} {rules : List GR} {i : Nat} {st : Bool} {H : AHeap} {K : AK} (hi : i ≤ rules.length) (hm : rules.length ≤ 1000000)
    (q1 : H b1 = some (.box (.struct [.str start, v1, .list 2 (rules.map GR.av)]))) (q5 : H b5 = some (.box (.struct [.str nm, alts]))) (h1 : v1.size = 1) 
    (hret : ((rules.take i).any fun r => r.name == nm) = true → K .ret [(2, .bool false)] H)
    (hno : ((rules.take i).any fun r => r.name == nm) = false → ∀ b, K .norm [(1, .ptr b1 0 []), (3, .bool st), (4, i64 i), (5, .ptr b5 0 []), (6, i64 i), (56, .bool b)] H) :
    aw PP r6_Valid_c33 K [(1, .ptr b1 0 []), (3, .bool st), (4, i64 i), (5, .ptr b5 0 []), (53, .bool false)] H := by
  simp
  refine aw_loopK (fun k : Nat => k ≤ i ∧ ∀ j r, j < k → rules[j]? = some r → r.name ≠ nm) (fun k => [(1, .ptr b1 0 []), (3, .bool st), (4, i64 i), (5, .ptr b5 0 []), (6, i64 k)]) (fun _ => H) (fun k => i - k) 0 ⟨Nat.zero_le _, fun j r h => by omega⟩ rfl rfl ?_
  rintro k ⟨hk, hall⟩
  by_cases h : k < i
  · have h' : ¬ i ≤ k := by omega
    have hkr : k < rules.length := by omega
    have hc : rules[k]? = some rules[k] := List.getElem?_eq_getElem hkr
    have hmem : rules[k] ∈ rules.take i := by
      rw [List.mem_take_iff_getElem]
      exact ⟨k, by omega, rfl⟩
    simp [h, h']
    refine r6_Valid_c22_lex ?_
    simp [q1, q5, hc, hkr, h1, GR.av]
    by_cases he : rules[k].name = nm
    · have hany : ((rules.take i).any fun r => r.name == nm) = true := List.any_eq_true.2 ⟨rules[k], hmem, by simpa using he⟩
      simp [he]
      exact hret hany
    · have heb : (rules[k].name == nm) = false := by simpa using he
      simp [he, heb]
      rw [wrap64 (by omega) (by omega)]
      refine loopK_same (k + 1) ⟨by omega, fun j r hj hjr => ?_⟩ (by omega) rfl rfl
      by_cases hjk : j < k
      · exact hall j r hjk hjr
      · have : j = k := by omega
        subst this
        rw [hc] at hjr
        injection hjr with hjr
        subst hjr
        exact he
  · have : k = i := by omega
    subst this
    have hany : ((rules.take k).any fun r => r.name == nm) = false := by
      rw [List.any_eq_false]
      intro r hr
      rw [List.mem_take_iff_getElem] at hr
      obtain ⟨j, hj, he⟩ := hr
      have := hall j r (by omega) (by rw [← he]; exact List.getElem?_eq_getElem (by omega))
      simpa using this
    simp
    exact hno hany _

/-- The alternatives of a rule. -/
theorem r16_Valid_alts {b1 b5 : Nat} {nm : List UInt8} {alts : List GA} {i : Nat} {st bb : Bool} {H : AHeap} {K : AK}
    (q5 : H b5 = some (.box (.struct [.str nm, .list 4 (alts.map GA.av)])))
    (hret : alts.all altOK = false → ∀ H', HLe H H' → K .ret [(2, .bool false)] H')
    (hno : alts.all altOK = true → ∀ n b, K .norm [(1, .ptr b1 0 []), (3, .bool st), (4, i64 i), (5, .ptr b5 0 []), (7, i64 n), (72, .bool b)] H) :
    aw PP r6_Valid_c51 K [(1, .ptr b1 0 []), (3, .bool st), (4, i64 i), (5, .ptr b5 0 []), (6, i64 i), (56, .bool bb)] H := by
  have hml := maxLen_eq
  simp
  refine aw_loopK (fun k : Nat => k ≤ alts.length ∧ ∀ j x, j < k → alts[j]? = some x → altOK x = true) (fun k => [(1, .ptr b1 0 []), (3, .bool st), (4, i64 i), (5, .ptr b5 0 []), (7, i64 k)]) (fun _ => H) (fun k => alts.length - k) 0 ⟨Nat.zero_le _, fun j r h => by omega⟩ rfl rfl ?_
  rintro k ⟨hk, hall⟩
  by_cases h : k < alts.length
  · have h' : ¬ alts.length ≤ k := by omega
    have hc : alts[k]? = some alts[k] := List.getElem?_eq_getElem h
    simp [q5, h, h', hc, allocQ, -r6_Valid_c43_eq]
    intro hm b8 hb8
    have hle : HLe H (H.set b8 (.box alts[k].av)) := .set hb8
    have bad : altOK alts[k] = false → K .ret [(2, .bool false)] (H.set b8 (.box alts[k].av)) := by
      intro hx
      refine hret ?_ _ hle
      rw [List.all_eq_false]
      exact ⟨alts[k], List.getElem_mem h, by simp [hx]⟩
    have good : altOK alts[k] = true → loopK (fun k : Nat => k ≤ alts.length ∧ ∀ j x, j < k → alts[j]? = some x → altOK x = true) (fun k => [(1, .ptr b1 0 []), (3, .bool st), (4, i64 i), (5, .ptr b5 0 []), (7, i64 k)]) (fun _ => H) (fun k => alts.length - k) (alts.length - k) (blockK 4 K) .norm
        [(1, .ptr b1 0 []), (3, .bool st), (4, i64 i), (5, .ptr b5 0 []), (7, i64 (k + 1 : Nat))] (H.set b8 (.box alts[k].av)) := by
      intro hx
      refine loopK_next (k + 1) ⟨by omega, fun j x hj hjx => ?_⟩ (by omega) (EnvLe.refl _) hle
      by_cases hjk : j < k
      · exact hall j x hjk hjx
      · have : j = k := by omega
        subst this
        rw [hc] at hjx
        injection hjx with hjx
        subst hjx
        exact hx
    have q8 : (H.set b8 (.box alts[k].av)) b8 = some (.box (.struct [alts[k].body.av, i64 alts[k].price])) := by rw [AHeap.set_same]; rfl
    generalize alts[k] = x at *
    generalize H.set b8 (.box x.av) = H8 at *
    generalize hLK : loopK (fun k : Nat => k ≤ alts.length ∧ ∀ j x, j < k → alts[j]? = some x → altOK x = true) (fun k => [(1, .ptr b1 0 []), (3, .bool st), (4, i64 i), (5, .ptr b5 0 []), (7, i64 k)]) (fun _ => H) (fun k => alts.length - k) (alts.length - k) (blockK 4 K) = LK at good ⊢
    have hrt : ∀ env H', LK .ret env H' = K .ret env H' := by intro env H'; rw [← hLK]; simp
    by_cases c1 : x.price < 0
    · have c1' : ¬ 0 ≤ x.price := by omega
      simp [q8, c1, c1', hrt]
      exact bad (by simp [altOK, c1'])
    · have c1' : 0 ≤ x.price := by omega
      by_cases c2 : 1000 < x.price
      · have c2' : ¬ x.price ≤ 1000 := by omega
        simp [q8, c1, c1', c2, c2', hrt]
        exact bad (by simp [altOK, c2'])
      · have c2' : x.price ≤ 1000 := by omega
        simp [q8, c1, c1', c2, c2']
        refine (r16_Expr 30 (by omega) x.body H8).use ?_
        cases hx : exprOK 30 x.body
        · simp [hrt]
          exact bad (by simp [altOK, hx])
        · simp
          rw [wrap64 (by omega) (by omega)]
          exact good (by simp [altOK, hx, c1', c2'])
  · have : k = alts.length := by omega
    subst this
    simp [q5]
    intro _
    refine hno ?_ _ _
    rw [List.all_eq_true]
    intro x hx
    obtain ⟨j, hj, he⟩ := List.getElem_of_mem hx
    exact hall j x hj (by rw [← he]; exact List.getElem?_eq_getElem hj)
end Go.Av

namespace Go.Av
theorem distF_append : ∀ (seen a b : List (List UInt8)), distF seen (a ++ b) = (distF seen a && distF (seen ++ a) b)
  | seen, [], b => by simp [distF]
  | seen, s :: a, b => by
    simp only [List.cons_append, distF]
    rw [distF_append (seen ++ [s]) a b]
    simp [Bool.and_assoc]

/-- Whether a token was there before. -/
theorem r16_Valid_seen {b1 b11 : Nat} {v : AV} {s0 : Nat} {seen toks : List (List UInt8)} {as_ : AV} {i k : Nat} {st bb : Bool} {H : AHeap} {K : AK} (hk : k < toks.length) (hn : seen.length ≤ 1000000)
    (hv : v.asList = some (s0, seen.map AV.str)) (hs0 : seen.map AV.str = [] ∨ s0 = 1) (q11 : H b11 = some (.box (.struct [as_, .list 1 (toks.map AV.str)]))) (h1 : as_.size = 1)
    (hret : (seen.any fun y => toks[k] == y) = true → K .ret [(2, .bool false)] H)
    (hno : (seen.any fun y => toks[k] == y) = false → ∀ n b, K .norm [(1, .ptr b1 0 []), (3, .bool st), (9, v), (10, i64 i), (11, .ptr b11 0 []), (12, i64 k), (13, i64 n), (130, .bool b)] H) :
    aw PP r6_Valid_c93 K [(1, .ptr b1 0 []), (3, .bool st), (9, v), (10, i64 i), (11, .ptr b11 0 []), (12, i64 k), (124, .bool bb)] H := by
  have hml := maxLen_eq
  have hct : toks[k]? = some toks[k] := List.getElem?_eq_getElem hk
  simp
  refine aw_loopK (fun j : Nat => j ≤ seen.length ∧ ∀ m y, m < j → seen[m]? = some y → ¬ toks[k] = y) (fun j => [(1, .ptr b1 0 []), (3, .bool st), (9, v), (10, i64 i), (11, .ptr b11 0 []), (12, i64 k), (13, i64 j)]) (fun _ => H) (fun j => seen.length - j) 0 ⟨Nat.zero_le _, fun j r h => by omega⟩ rfl rfl ?_
  rintro j ⟨hj, hall⟩
  by_cases h : j < seen.length
  · have h' : ¬ seen.length ≤ j := by omega
    have hc : seen[j]? = some seen[j] := List.getElem?_eq_getElem h
    have hs1 : s0 = 1 := by
      rcases hs0 with h0 | h0
      · simp at h0; subst h0; simp at h
      · exact h0
    subst hs1
    simp [hv, h, h']
    intro _
    refine r6_Valid_c82_lex ?_
    simp [hv, q11, hc, hct, h, hk, h1]
    by_cases he : seen[j] = toks[k]
    · have hany : (seen.any fun y => toks[k] == y) = true := List.any_eq_true.2 ⟨seen[j], List.getElem_mem h, by simp [he]⟩
      simp [he]
      exact hret hany
    · have heb : (seen[j] == toks[k]) = false := by simpa using he
      simp [he, heb]
      rw [wrap64 (by omega) (by omega)]
      refine loopK_same (j + 1) ⟨by omega, fun m y hm hmy => ?_⟩ (by omega) rfl rfl
      by_cases hmj : m < j
      · exact hall m y hmj hmy
      · have : m = j := by omega
        subst this
        rw [hc] at hmy
        injection hmy with hmy
        subst hmy
        exact fun e => he e.symm
  · have : j = seen.length := by omega
    subst this
    have hany : (seen.any fun y => toks[k] == y) = false := by
      rw [List.any_eq_false]
      intro y hy
      obtain ⟨m, hm, he⟩ := List.getElem_of_mem hy
      have := hall m y hm (by rw [← he]; exact List.getElem?_eq_getElem hm)
      simpa using this
    simp [hv]
    exact fun _ => hno hany _ _

structure VtSt where
  v : AV
  H : AHeap
  k : Nat

/-- The tokens of a level. -/
theorem r16_Valid_toks {b1 b11 : Nat} {v0 : AV} {seen toks : List (List UInt8)} {as_ : AV} {i : Nat} {st bb : Bool} {Hb H0 : AHeap} {K : AK} (hn : seen.length + toks.length ≤ 1000000)
    (hg0 : Grows Hb 9 1 (seen.map AV.str) v0 H0) (q11 : Hb b11 = some (.box (.struct [as_, .list 1 (toks.map AV.str)]))) (h1 : as_.size = 1)
    (hret : distF seen toks = false → ∀ H', HLe Hb H' → K .ret [(2, .bool false)] H')
    (hno : distF seen toks = true → ∀ v' H' n b, Grows Hb 9 1 ((seen ++ toks).map AV.str) v' H' → K .norm [(1, .ptr b1 0 []), (3, .bool st), (9, v'), (10, i64 i), (11, .ptr b11 0 []), (12, i64 n), (124, .bool b)] H') :
    aw PP r6_Valid_c108 K [(1, .ptr b1 0 []), (3, .bool st), (9, v0), (10, i64 i), (11, .ptr b11 0 []), (119, .bool bb)] H0 := by
  have hml := maxLen_eq
  simp
  refine aw_loopK (fun x : VtSt => x.k ≤ toks.length ∧ Grows Hb 9 1 ((seen ++ toks.take x.k).map AV.str) x.v x.H ∧ distF seen (toks.take x.k) = true)
    (fun x => [(1, .ptr b1 0 []), (3, .bool st), (9, x.v), (10, i64 i), (11, .ptr b11 0 []), (12, i64 x.k)]) (fun x => x.H) (fun x => toks.length - x.k) ⟨v0, H0, 0⟩ ⟨Nat.zero_le _, by simpa using hg0, rfl⟩ rfl rfl ?_
  rintro ⟨v, H, k⟩ ⟨hk, hg, hd⟩
  simp only at hk hg hd
  have q := hg.get q11
  by_cases h : k < toks.length
  · have h' : ¬ toks.length ≤ k := by omega
    have hc : toks[k]? = some toks[k] := List.getElem?_eq_getElem h
    obtain ⟨s0, hal, hs0⟩ := hg.asList
    have htl : (toks.take k).length = k := by rw [List.length_take]; omega
    have hsplit : toks = toks.take k ++ toks[k] :: toks.drop (k + 1) := by
      rw [← List.drop_eq_getElem_cons h, List.take_append_drop]
    have hdd : distF seen toks = (nameOK toks[k] && !((seen ++ toks.take k).any fun y => toks[k] == y) && distF (seen ++ toks.take k ++ [toks[k]]) (toks.drop (k + 1))) := by
      conv => lhs; rw [hsplit]
      rw [distF_append, hd, Bool.true_and, distF]
    simp [q, h, h', h1, -r6_Valid_c93_eq]
    intro hm
    refine r16_Valid_seen h (by simp; omega) hal hs0 q h1 (fun hany => ?_) fun hany n b => ?_
    · simp
      exact hret (by rw [hdd, hany]; simp) _ hg.HLe
    · simp [q, h, hc, h1]
      refine (r16_Name toks[k] H).use ?_
      cases hnm : nameOK toks[k]
      · simp
        exact hret (by rw [hdd, hnm]; simp) _ hg.HLe
      · simp [q, h, hc, h1]
        refine hg.app (by simp; omega) fun v' H' hg' => ?_
        simp
        rw [wrap64 (by omega) (by omega)]
        have htk : toks.take (k + 1) = toks.take k ++ [toks[k]] := by rw [List.take_add_one, hc]; rfl
        refine loopK_same ⟨v', H', k + 1⟩ ⟨by simp only; omega, ?_, ?_⟩ (by simp only; omega) rfl rfl
        · have e1 : List.take (k + 1) (toks.map AV.str) = List.take k (toks.map AV.str) ++ [.str toks[k]] := by rw [← List.map_take, htk, List.map_append, ← List.map_take]; rfl
          show Grows Hb 9 1 (seen.map AV.str ++ List.take (k + 1) (toks.map AV.str)) v' H'
          rw [e1]
          simpa using hg'
        · show distF seen (toks.take (k + 1)) = true
          rw [htk]
          rw [distF_append, hd, Bool.true_and]
          simp only [distF, hnm, hany]
          rfl
  · have : k = toks.length := by omega
    subst this
    rw [List.take_length] at hg hd
    simp [q, h1]
    intro _
    exact hno hd _ _ _ _ hg
end Go.Av

namespace Go.Av
def stAt (start : List UInt8) (l : List GR) : Bool := l.any fun r => r.name == start
theorem stAt_snoc (start : List UInt8) (l : List GR) (r : GR) : stAt start (l ++ [r]) = (stAt start l || r.name == start) := by simp [stAt]

set_option maxHeartbeats 2000000 in
theorem r16_Valid_levels {b1 : Nat} {start : List UInt8} {levels : List GL} {v2 : AV} {st bb : Bool} {n0 : Int} {H1 : AHeap} {K : AK} (hx : (levels.flatMap GL.tokens).length ≤ 1000000)
    (q1 : H1 b1 = some (.box (.struct [.str start, .list 2 (levels.map GL.av), v2])))
    (hret : (levels.all lvOK && distF [] (levels.flatMap GL.tokens)) = false → ∀ H', HLe H1 H' → K .ret [(2, .bool false)] H')
    (hno : (levels.all lvOK && distF [] (levels.flatMap GL.tokens)) = true → ∀ H', HLe H1 H' → K .ret [(2, .bool st)] H') :
    aw PP r6_Valid_c121 K [(1, .ptr b1 0 []), (3, .bool st), (4, i64 n0), (28, .bool bb)] H1 := by
  have hml := maxLen_eq
  simp
  refine aw_loopK (fun x : VSt GL => levels = x.done ++ x.rest ∧ x.done.all lvOK = true ∧ distF [] (x.done.flatMap GL.tokens) = true ∧ Grows H1 9 1 ((x.done.flatMap GL.tokens).map AV.str) x.v x.H)
    (fun x => [(1, .ptr b1 0 []), (3, .bool st), (9, x.v), (10, i64 x.done.length)]) (fun x => x.H) (fun x => x.rest.length) ⟨.nils, H1, [], levels⟩ ⟨rfl, rfl, rfl, Grows.nil _ _ _⟩ rfl rfl ?_
  rintro ⟨v, Hs, done, rest⟩ ⟨he, hok, hd, hg⟩
  simp only at he hok hd hg
  simp only
  have q := hg.get q1
  cases rest with
  | nil =>
    have hdone : levels = done := by simpa using he
    subst hdone
    simp [q]
    intro _
    exact hno (by rw [hok, hd]; rfl) _ hg.HLe
  | cons y rest =>
    have hlt : done.length < levels.length := by rw [he]; simp
    have hlt' : ¬ levels.length ≤ done.length := by omega
    have hat : levels[done.length]? = some y := by rw [he]; simp
    have hgt : levels[done.length] = y := by rw [List.getElem?_eq_getElem hlt] at hat; injection hat
    simp [q, hlt, hlt', hat, hgt, allocQ, -r6_Valid_c109_eq]
    intro hm b6 hb6
    have bad : lvOK y = false → K .ret [(2, .bool false)] (Hs.set b6 (.box y.av)) := by
      intro hy
      refine hret ?_ _ (hg.HLe.trans (.set hb6))
      have : levels.all lvOK = false := by rw [he]; simp [hy]
      rw [this]; rfl
    have q6 : (Hs.set b6 (.box y.av)) b6 = some (.box (.struct [i64 y.assoc, .list 1 (y.tokens.map AV.str)])) := by rw [AHeap.set_same]; rfl
    have q6' : (H1.set b6 (.box y.av)) b6 = some (.box (.struct [i64 y.assoc, .list 1 (y.tokens.map AV.str)])) := by rw [AHeap.set_same]; rfl
    have hga := hg.add (o := .box y.av) hb6
    have hbase := hg.base hb6
    generalize hHb : Hs.set b6 (.box y.av) = Hb at *
    by_cases a1 : y.assoc < 1
    · have a1' : ¬ 1 ≤ y.assoc := by omega
      simp [q6, a1, a1']
      exact bad (by simp [lvOK, a1'])
    · have a1' : 1 ≤ y.assoc := by omega
      by_cases a2 : 3 < y.assoc
      · have a2' : ¬ y.assoc ≤ 3 := by omega
        simp [q6, a1, a1', a2, a2']
        exact bad (by simp [lvOK, a2'])
      · have a2' : y.assoc ≤ 3 := by omega
        by_cases a3 : y.tokens = []
        · simp [q6, a1, a1', a2, a2', a3]
          exact bad (by simp [lvOK, a3])
        · have a3b : (y.tokens.length == 0) = false := by simpa using a3
          have hlv : lvOK y = true := by
            have : 0 < y.tokens.length := List.length_pos_iff.2 a3
            simp [lvOK, a1', a2', this]
          have hsz : (done.flatMap GL.tokens).length + y.tokens.length ≤ 1000000 := by rw [he] at hx; simp at hx ⊢; omega
          have hdd : distF [] (levels.flatMap GL.tokens) = (distF (done.flatMap GL.tokens) y.tokens && distF (done.flatMap GL.tokens ++ y.tokens) (rest.flatMap GL.tokens)) := by
            rw [he, List.flatMap_append, distF_append, hd, List.flatMap_cons, List.nil_append, distF_append]
            simp
          simp [q6, a1, a1', a2, a2', a3, a3b, -r6_Valid_c108_eq]
          intro _
          refine r16_Valid_toks (Hb := H1.set b6 (.box y.av)) hsz hga q6' rfl (fun hf H' hl => ?_) fun ht v' H' n b hg' => ?_
          · simp
            refine hret (by rw [hdd, hf]; simp) _ ((HLe.set hbase).trans hl)
          · simp
            rw [wrap64 (by omega) (by omega)]
            obtain ⟨H3, hg3, hle3⟩ := hg'.drop hbase
            refine loopK_next ⟨v', H3, done ++ [y], rest⟩ ⟨by rw [he]; simp, ?_, ?_, by simpa using hg3⟩ (by simp) ?_ hle3
            · intro x hxm
              rcases List.mem_append.1 hxm with h | h
              · exact List.all_eq_true.1 hok x h
              · simp at h; subst h; exact hlv
            · simp only [List.flatMap_append, distF_append, hd, Bool.true_and, List.nil_append]
              simpa using ht
            · simp
              exact EnvLe.refl _
end Go.Av

namespace Go.Av
theorem ruleOK_iff (r : GR) : ruleOK r = (decide (0 < r.alts.length) && r.alts.all altOK) := by
  unfold ruleOK
  congr 1
  rw [Bool.eq_iff_iff]
  simp

def vaI (rules : List GR) (i : Nat) : Prop := i ≤ rules.length ∧ (rules.take i).all ruleOK = true ∧ distF [] ((rules.take i).map GR.name) = true

set_option maxHeartbeats 2000000 in
theorem r16_Valid (f : GF) (hx : (f.levels.flatMap GL.tokens).length ≤ 1000000) (H : AHeap) : Pure r6_Valid_id [f.av] H (.bool (validM f)) := by
  obtain ⟨start, levels, rules⟩ := f
  simp only at hx
  have hml := maxLen_eq
  refine r6_Valid_enter rfl ?_
  simp [r6_Valid_rs, allocQ, -r6_Valid_c124_eq]
  intro b1 hb1
  have q1 : (H.set b1 (.box (GF.av ⟨start, levels, rules⟩))) b1 = some (.box (.struct [.str start, .list 2 (levels.map GL.av), .list 2 (rules.map GR.av)])) := by rw [AHeap.set_same]; rfl
  have hle : HLe H (H.set b1 (.box (GF.av ⟨start, levels, rules⟩))) := .set hb1
  generalize (H.set b1 (.box (GF.av ⟨start, levels, rules⟩))) = H1 at q1 hle ⊢
  have bad : validM ⟨start, levels, rules⟩ = false → ∀ H', HLe H1 H' → (retK [.tmp 2] fun r H' => r = .ret (.bool (validM ⟨start, levels, rules⟩)) ∧ H' = H) .ret [(2, .bool false)] H' := by
    intro hv H' hl
    rw [hv]
    simp
    exact hle.trans hl
  by_cases h1 : (rules.length : Int) < 1
  · have h1' : ¬ (1 : Int) ≤ rules.length := by omega
    have hv : validM ⟨start, levels, rules⟩ = false := by
      have : ¬ 1 ≤ rules.length := by omega
      simp [validM, this]
    rw [hv]
    simp [q1, h1, h1']
    exact fun _ => hle
  · by_cases h2 : (120 : Int) < rules.length
    · have h1' : (1 : Int) ≤ rules.length := by omega
      have hv : validM ⟨start, levels, rules⟩ = false := by
        have : ¬ rules.length ≤ 120 := by omega
        simp [validM, this]
      rw [hv]
      simp [q1, h1, h2, h1']
      exact fun _ => hle
    · have h1' : (1 : Int) ≤ rules.length := by omega
      have h2' : (rules.length : Int) ≤ 120 := by omega
      have hvm : validM ⟨start, levels, rules⟩ = (rules.all ruleOK && distF [] (rules.map GR.name) && (levels.all lvOK && distF [] (levels.flatMap GL.tokens)) && stAt start rules) := by
        have e1 : 1 ≤ rules.length := by omega
        have e2 : rules.length ≤ 120 := by omega
        have e3 : ((rules.map GR.name).any fun y => start == y) = stAt start rules := by
          simp only [stAt, List.any_map]
          congr 1
          funext r
          exact beq_symm'
        simp only [validM, e1, e2, decide_true, Bool.true_and, e3]
        cases rules.all ruleOK <;> cases levels.all lvOK <;> cases distF [] (rules.map GR.name) <;> simp
      generalize validM ⟨start, levels, rules⟩ = vm at *
      generalize hKK : (retK [.tmp 2] fun r H' => r = .ret (.bool vm) ∧ H' = H) = KK at *
      simp [q1, h1, h1', h2, h2', -r6_Valid_c121_eq]
      intro hm
      refine aw_loopK (vaI rules) (fun i => [(1, .ptr b1 0 []), (3, .bool (stAt start (rules.take i))), (4, i64 i)]) (fun _ => H1) (fun i => rules.length - i) 0
        ⟨Nat.zero_le _, rfl, rfl⟩ rfl rfl ?_
      rintro i ⟨hi, hok, hd⟩
      by_cases h : i < rules.length
      · have h' : ¬ rules.length ≤ i := by omega
        have hc : rules[i]? = some rules[i] := List.getElem?_eq_getElem h
        have htk : rules.take (i + 1) = rules.take i ++ [rules[i]] := by rw [List.take_add_one, hc]; rfl
        have hsp : rules = rules.take i ++ rules[i] :: rules.drop (i + 1) := by rw [← List.drop_eq_getElem_cons h, List.take_append_drop]
        generalize hr : rules[i] = r at *
        have hany : ((rules.take i).map GR.name).any (fun y => r.name == y) = (rules.take i).any fun x => x.name == r.name := by
          rw [List.any_map]
          congr 1
          funext x
          exact beq_symm'
        have badr : ruleOK r = false → vm = false := by
          intro hr
          have : rules.all ruleOK = false := by rw [hsp]; simp [hr]
          rw [hvm, this]; rfl
        have badd : (nameOK r.name && !((rules.take i).any fun x => x.name == r.name)) = false → vm = false := by
          intro hb
          have : distF [] (rules.map GR.name) = false := by
            rw [hsp, List.map_append, distF_append, hd, List.map_cons, List.nil_append, distF, hany, hb]
            simp
          rw [hvm, this]; simp
        simp [q1, h, h', hc, hr, allocQ, -r6_Valid_c54_eq]
        intro hm2 b5 hb5
        have n15 : b1 ≠ b5 := ne_of_some_none q1 hb5
        have q5 : (H1.set b5 (.box r.av)) b5 = some (.box (.struct [.str r.name, .list 4 (r.alts.map GA.av)])) := by rw [AHeap.set_same]; rfl
        have q1' : (H1.set b5 (.box r.av)) b1 = some (.box (.struct [.str start, .list 2 (levels.map GL.av), .list 2 (rules.map GR.av)])) := by rw [AHeap.set_ne _ _ n15]; exact q1
        have hle5 : HLe H1 (H1.set b5 (.box r.av)) := .set hb5
        generalize H1.set b5 (.box r.av) = H5 at *
        generalize hLK : loopK (vaI rules) (fun i => [(1, .ptr b1 0 []), (3, .bool (stAt start (rules.take i))), (4, i64 i)]) (fun _ => H1) (fun i => rules.length - i) (rules.length - i) (blockK 0 (seqK PP r6_Valid_c121 KK)) = LK
        have hrt : ∀ env H', LK .ret env H' = KK .ret env H' := by intro env H'; rw [← hLK]; simp
        have next : ruleOK r = true → (nameOK r.name && !((rules.take i).any fun x => x.name == r.name)) = true → LK .norm [(1, .ptr b1 0 []), (3, .bool (stAt start (rules.take (i + 1)))), (4, i64 (i + 1 : Nat))] H5 := by
          intro hro hnm
          rw [← hLK]
          refine loopK_next (i + 1) ⟨by omega, ?_, ?_⟩ (by omega) (EnvLe.refl _) hle5
          · rw [htk, List.all_append, hok]; simp [hro]
          · rw [htk, List.map_append, distF_append, hd, List.map_cons, List.map_nil, List.nil_append, distF, hany, hnm]
            rfl
        have key : ∀ st, stAt start (rules.take (i + 1)) = st → aw PP r6_Valid_c53 (blockK 1 (seqK PP r6_Valid_c57 LK)) [(1, .ptr b1 0 []), (3, .bool st), (4, i64 i), (5, .ptr b5 0 [])] H5 := by
          intro st hst
          rw [hst] at next
          clear hst
          simp [q5, -r6_Valid_c33_eq, -r6_Valid_c51_eq]
          refine (r16_Name r.name H5).use ?_
          cases hn : nameOK r.name
          · simp [q5, hrt]
            exact bad (badd (by rw [hn]; rfl)) _ hle5
          · by_cases ha : r.alts = []
            · simp [q5, ha, hrt]
              exact bad (badr (by rw [ruleOK_iff, ha]; rfl)) _ hle5
            · have hab : (r.alts.length == 0) = false := by simpa using ha
              have hpos : 0 < r.alts.length := List.length_pos_iff.2 ha
              simp [q5, ha, hab, -r6_Valid_c33_eq, -r6_Valid_c51_eq]
              intro hm3
              refine r16_Valid_dup hi (by omega) q1' q5 rfl (fun hdup => ?_) fun hdup b => ?_
              · simp [hrt]
                exact bad (badd (by rw [hdup]; simp)) _ hle5
              · rw [seqK_norm]
                refine r16_Valid_alts q5 (fun hb H' hl => ?_) fun hg n b' => ?_
                · simp [hrt]
                  exact bad (badr (by rw [ruleOK_iff, hb]; simp)) _ (hle5.trans hl)
                · simp
                  rw [wrap64 (by omega) (by omega)]
                  exact next (by rw [ruleOK_iff, hg]; simp [hpos]) (by rw [hn, hdup]; rfl)
        rw [htk, stAt_snoc] at key
        cases hst : stAt start (rules.take i)
        · rw [hst] at key
          simp [q5, q1', -r6_Valid_c53_eq]
          exact key _ (by simp)
        · rw [hst] at key
          simp [-r6_Valid_c53_eq]
          exact key _ (by simp)
      · have : i = rules.length := by omega
        subst this
        rw [List.take_length] at hok hd
        simp [q1, -r6_Valid_c121_eq]
        intro _
        refine r16_Valid_levels hx q1 (fun hb H' hl => bad (by rw [hvm, hb]; simp) H' hl) fun hg H' hl => ?_
        have : vm = stAt start rules := by rw [hvm, hok, hd, hg]; simp
        rw [← hKK, this]
        simp
        exact hle.trans hl
end Go.Av
