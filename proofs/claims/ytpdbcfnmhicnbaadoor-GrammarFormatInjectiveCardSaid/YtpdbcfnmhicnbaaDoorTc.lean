/- Lists of names: all valid and all different. -/
import Derived.Test.YtpdbcfnmhicnbaaDoorTb
import Derived.Test.YtpdbcfnmhicnbaaDoorT4
set_option linter.unusedVariables false
set_option linter.unusedSimpArgs false
namespace Go.Av
open Go Go.Proofs

def namesOk (l : List (List UInt8)) : Bool := l.all isName && decide l.Nodup

theorem namesOk_iff (l : List (List UInt8)) : namesOk l = true ↔ ∀ (i : Nat) (x : List UInt8), l[i]? = some x → isName x = true ∧ ∀ (j : Nat) (y : List UInt8), j < i → l[j]? = some y → y ≠ x := by
  simp only [namesOk, Bool.and_eq_true, List.all_eq_true, decide_eq_true_iff]
  constructor
  · rintro ⟨h1, h2⟩ i x hi
    refine ⟨h1 x (List.mem_of_getElem? hi), fun j y hj hy e => ?_⟩
    subst e
    have a1 := (List.getElem?_eq_some_iff.1 hi)
    have a2 := (List.getElem?_eq_some_iff.1 hy)
    obtain ⟨l1, e1⟩ := a1
    obtain ⟨l2, e2⟩ := a2
    exact List.pairwise_iff_getElem.1 h2 j i l2 l1 hj (by rw [e1, e2])
  · intro h
    refine ⟨fun x hx => ?_, ?_⟩
    · obtain ⟨i, hi⟩ := List.getElem?_of_mem hx
      exact (h i x hi).1
    · rw [List.Nodup, List.pairwise_iff_getElem]
      intro i j hi hj hij
      exact (h j l[j] (List.getElem?_eq_getElem hj)).2 i l[i] hij (List.getElem?_eq_getElem hi)

/-- Up to the i-th the names are valid and different. -/
def NamesTo (l : List (List UInt8)) (n : Nat) : Prop := ∀ (i : Nat) (x : List UInt8), i < n → l[i]? = some x → isName x = true ∧ ∀ (j : Nat) (y : List UInt8), j < i → l[j]? = some y → y ≠ x

theorem NamesTo.succ {l : List (List UInt8)} {n : Nat} {x : List UInt8} (h : NamesTo l n) (hx : l[n]? = some x) (h1 : isName x = true) (h2 : ∀ (j : Nat) (y : List UInt8), j < n → l[j]? = some y → y ≠ x) : NamesTo l (n + 1) := by
  intro i y hi hy
  by_cases hin : i < n
  · exact h i y hin hy
  · have : i = n := by omega
    subst this
    rw [hx] at hy
    injection hy with hy
    subst hy
    exact ⟨h1, h2⟩

theorem r_names (a b : List (List UInt8)) (ha : a.length ≤ 1000) (hb : b.length ≤ 1000) (H : AHeap) : Pure ref18_names_id [strs a, strs b] H (.bool (namesOk (a ++ b))) := by
  have hml := maxLen_eq
  refine ref18_names_enter rfl ?_
  simp [ref18_names_rs]
  refine (Grows.nil H 9 1).app (by simp; omega) fun v1 H1 g1 => ?_
  simp
  refine g1.app (by simp; omega) fun v2 H2 g2 => ?_
  have hl0 : ([] ++ List.map AV.str a ++ List.map AV.str b) = (a ++ b).map AV.str := by simp
  rw [hl0] at g2
  have hlen : (a ++ b).length ≤ 2000 := by simp; omega
  generalize a ++ b = l at g2 hlen ⊢
  obtain ⟨s2, hs2, hs2'⟩ := g2.asList
  have hsz := g2.size
  simp [hsz]
  have hs1 : l ≠ [] → s2 = 1 := fun hne => by simpa [hne] using hs2'
  refine aw_loopW (fun i : Nat => i ≤ l.length ∧ NamesTo l i)
    (fun i => [(5, v2), (6, i64 i)]) (fun _ => H2) (fun i => l.length - i) 0 ⟨by simp, fun i x h => by omega⟩ (by simp; exact EnvLe.refl _) (.refl _) ?_
  rintro i ⟨hi, hno⟩
  by_cases h : i < l.length
  · have hc : l[i]? = some l[i] := List.getElem?_eq_getElem h
    have hs : s2 = 1 := hs1 (by rintro rfl; simp at h)
    simp [h, hs2, hc, hs]
    intro _
    refine (r_Name _ _).use ?_
    cases hn : isName l[i]
    · have : namesOk l = false := by
        rw [← Bool.not_eq_true, namesOk_iff]
        intro hh
        have := (hh i _ hc).1
        rw [hn] at this
        cases this
      simp [this]
      exact g2.HLe
    · simp
      refine aw_loopW (fun k : Nat => k ≤ i ∧ ∀ (j : Nat) (y : List UInt8), j < k → l[j]? = some y → y ≠ l[i])
        (fun k => [(5, v2), (6, i64 i), (7, i64 k)]) (fun _ => H2) (fun k => i - k) 0 ⟨by simp, fun j y hj => by omega⟩ (by simp; exact EnvLe.refl _) (.refl _) ?_
      rintro k ⟨hk, hne⟩
      by_cases hki : k < i
      · have hd : l[k]? = some l[k] := List.getElem?_eq_getElem (by omega)
        simp [hki]
        refine ref18_names_c17_lex ?_
        simp [hs2, hs, hd, hc]
        by_cases hx : l[k] = l[i]
        · have : namesOk l = false := by
            rw [← Bool.not_eq_true, namesOk_iff]
            intro hh
            exact (hh i _ hc).2 k _ hki hd hx
          simp [hx, this]
          exact g2.HLe
        · simp [hx]
          rw [wrap64 (by omega) (by omega)]
          refine loopK_same (k + 1) ⟨by omega, fun j y hj hy => ?_⟩ (by omega) rfl rfl
          by_cases hjk : j < k
          · exact hne j y hjk hy
          · have : j = k := by omega
            subst this
            rw [hd] at hy
            injection hy with hy
            rw [← hy]
            exact hx
      · have : k = i := by omega
        subst this
        simp
        rw [wrap64 (by omega) (by omega)]
        exact loopK_same (k + 1) ⟨by omega, hno.succ hc hn hne⟩ (by omega) rfl rfl
  · have hi' : i = l.length := by omega
    subst hi'
    have : namesOk l = true := (namesOk_iff l).2 fun i x hx => hno i x (List.getElem?_eq_some_iff.1 hx).1 hx
    simp [h, hs2, this]
    intro _
    exact g2.HLe

end Go.Av

namespace Go.Av
open Go Go.Proofs

/-- The round over one list: the names before are seen. -/
theorem named_round (all cur : List (List UInt8)) (off : Nat) (hall : all.length ≤ 2000) (ho : off + cur.length ≤ all.length) (hcur : ∀ (i : Nat), i < cur.length → all[off + i]? = cur[i]?)
    (H1 : AHeap) (m : Nat) (hM : GM H1) (hm : H1 m = none) (n1 : NamesTo all off) (v15 : AV) (k : Int) (K : AK)
    (hf : namesOk all = false → ∀ env' H', HLe H1 H' → env' = [(2, AV.bool false)] → K .ret env' H')
    (hn : NamesTo all (off + cur.length) → ∀ env', env' = [(3, .mapp m), (15, v15), (16, i64 2), (17, i64 k), (21, strs cur), (22, i64 cur.length), (23, i64 cur.length), (24, .bool false)] →
      ∀ H', HLe (H1.set m (.mp (all.take (off + cur.length)))) H' → K (.exit 2) env' H') :
    aw PP grammar_named_c25 K [(3, .mapp m), (15, v15), (16, i64 2), (17, i64 k), (21, strs cur), (22, i64 cur.length), (23, i64 0)] (H1.set m (.mp (all.take off))) := by
  have hml := maxLen_eq
  simp only [grammar_named_c25]
  refine aw_loopK (fun i : Nat => i ≤ cur.length ∧ NamesTo all (off + i))
    (fun i => [(3, .mapp m), (15, v15), (16, i64 2), (17, i64 k), (21, strs cur), (22, i64 cur.length), (23, i64 i)]) (fun i => H1.set m (.mp (all.take (off + i)))) (fun i => cur.length - i) 0 ⟨by simp, n1⟩ rfl rfl ?_
  rintro i ⟨hi, hno⟩
  by_cases h : i < cur.length
  · have hc : cur[i]? = some cur[i] := List.getElem?_eq_getElem h
    have hca : all[off + i]? = some cur[i] := by rw [hcur i h, hc]
    simp [h, hc, allocQ]
    intro b hb
    have hbm : b ≠ m := fun e => by subst e; rw [AHeap.set_same] at hb; cases hb
    have hb1 : H1 b = none := by rw [AHeap.set_ne _ _ hbm] at hb; exact hb
    have hcon : cur[i] ∈ all.take (off + i) ↔ ∃ j, j < off + i ∧ all[j]? = some cur[i] := by
      constructor
      · intro hx
        obtain ⟨j, hj⟩ := List.getElem?_of_mem hx
        rw [List.getElem?_take] at hj
        split at hj
        · exact ⟨j, by assumption, hj⟩
        · cases hj
      · rintro ⟨j, hj, hx⟩
        exact List.mem_of_getElem? (i := j) (by rw [List.getElem?_take, if_pos hj]; exact hx)
    have hbm' := Ne.symm hbm
    have hle1 : HLe H1 ((H1.set m (.mp (all.take (off + i)))).set b (.box (.struct []))) := (HLe.set hm).trans (.set hb)
    by_cases hin : cur[i] ∈ all.take (off + i)
    · have hf' : namesOk all = false := by
        rw [← Bool.not_eq_true, namesOk_iff]
        intro hh
        obtain ⟨j, hj, hx⟩ := hcon.1 hin
        exact (hh _ _ hca).2 j _ hj hx rfl
      simp [hin]
      exact hf hf' _ _ hle1 rfl
    · have hne : ∀ (j : Nat) (y : List UInt8), j < off + i → all[j]? = some y → y ≠ cur[i] := fun j y hj hy e => by
        subst e
        exact hin (hcon.2 ⟨j, hj, hy⟩)
      simp [hin]
      refine (g_name _ _ ((hM.set hm).set hb)).use ?_
      cases hname : isName cur[i]
      · have hf' : namesOk all = false := by
          rw [← Bool.not_eq_true, namesOk_iff]
          intro hh
          have := (hh _ _ hca).1
          rw [hname] at this
          cases this
        simp
        exact hf hf' _ _ hle1 rfl
      · simp [hbm', AHeap.set_ne, hin]
        rw [wrap64 (by omega) (by omega)]
        have htk : all.take (off + i) ++ [cur[i]] = all.take (off + (i + 1)) := by
          rw [show off + (i + 1) = off + i + 1 by omega, List.take_add_one, hca]
          rfl
        rw [htk]
        refine loopK_next (i + 1) ⟨by omega, hno.succ hca hname hne⟩ (by omega) (EnvLe.refl _) ?_
        have hx := forget (b := m) (o2 := .mp (all.take (off + (i + 1)))) (HLe.set (o := .box (.struct [])) hb) (AHeap.set_same _ _ _)
        simpa using hx
  · have hi' : i = cur.length := by omega
    subst hi'
    simp [h]
    exact hn hno _ rfl _ (.refl _)
theorem g_named (g : Gm) (ha : g.terms.length ≤ 1000) (hb : g.nonterms.length ≤ 1000) (H : AHeap) (hM : GM H) : Pure grammar_named_id [g.av] H (.bool (namesOk (g.terms ++ g.nonterms))) := by
  have hml := maxLen_eq
  refine grammar_named_enter rfl ?_
  simp [grammar_named_rs, allocQ, allmQ, Gm.av]
  intro b hb0 m hm
  have hbm : b ≠ m := fun e => by subst e; rw [AHeap.set_same] at hm; cases hm
  have hM1 := hM.set (o := .box (.struct [strs g.terms, strs g.nonterms, i64 g.start, rls g.rules])) hb0
  have hH1 : HLe H (H.set b (.box (.struct [strs g.terms, strs g.nonterms, i64 g.start, rls g.rules]))) := .set hb0
  simp [hbm, AHeap.set_ne]
  generalize H.set b (.box (.struct [strs g.terms, strs g.nonterms, i64 g.start, rls g.rules])) = H1 at *
  intro _
  generalize hall : g.terms ++ g.nonterms = all
  have hal : all.length = g.terms.length + g.nonterms.length := by rw [← hall]; simp
  have hoff : ∀ k : Nat, k = 0 ∨ k = 1 → True := fun _ _ => trivial
  refine aw_loopK (fun k : Nat => k ≤ 2 ∧ NamesTo all (if k = 0 then 0 else if k = 1 then g.terms.length else all.length))
    (fun k => [(3, .mapp m), (15, .list 1 [strs g.terms, strs g.nonterms]), (16, i64 2), (17, i64 k)])
    (fun k => H1.set m (.mp (all.take (if k = 0 then 0 else if k = 1 then g.terms.length else all.length)))) (fun k => 2 - k) 0 ⟨by omega, fun i x h => by simp at h⟩ (by simp) (by simp) ?_
  rintro k ⟨hk, hno⟩
  match k, hk with
  | 0, _ =>
    simp
    intro h1
    refine named_round all g.terms 0 (by omega) (by omega) (fun i hi => by rw [← hall, Nat.zero_add, List.getElem?_append_left hi]) H1 m hM1 hm hno _ _ _ ?_ ?_
    · rintro hf env' H' hle rfl
      simp [hf]
      exact hH1.trans hle
    · rintro hn env' rfl H' hle
      simp
      rw [wrap64 (by omega) (by omega)]
      exact loopK_next 1 ⟨by omega, by simpa using hn⟩ (by omega) (EnvLe.refl _) (by simpa using hle)
  | 1, _ =>
    simp
    intro h1
    refine named_round all g.nonterms g.terms.length (by omega) (by omega) (fun i hi => by rw [← hall, List.getElem?_append_right (by omega)]; congr 1; omega) H1 m hM1 hm (by simpa using hno) _ _ _ ?_ ?_
    · rintro hf env' H' hle rfl
      simp [hf]
      exact hH1.trans hle
    · rintro hn env' rfl H' hle
      simp
      rw [wrap64 (by omega) (by omega)]
      exact loopK_next 2 ⟨by omega, by simpa [hal] using hn⟩ (by omega) (EnvLe.refl _) (by simpa [hal] using hle)
  | 2, _ =>
    have : namesOk all = true := (namesOk_iff all).2 fun i x hx => hno i x (by simpa using (List.getElem?_eq_some_iff.1 hx).1) hx
    simp [this]
    exact hH1.trans (.set hm)
end Go.Av
