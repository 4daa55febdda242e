/- The statement: a grammar with two or more rules stays valid without one of them, and is no longer equal. -/
import Derived.Test.YtpdbcfnmhicnbaaDoorFnLre
import Derived.Test.YtpdbcfnmhicnbaaDoorA3
set_option linter.unusedVariables false
set_option linter.unusedSimpArgs false
namespace Go.Av
open Go Go.Proofs

theorem erase_snoc {α : Type} (l : List α) (k i : Nat) (x : α) (hx : l[i]? = some x) : (l.take (i + 1)).eraseIdx k = (l.take i).eraseIdx k ++ (if i = k then [] else [x]) := by
  have hi := (List.getElem?_eq_some_iff.1 hx).1
  have hl : (l.take i).length = i := by simp; omega
  rw [List.take_add_one, hx]
  simp only [Option.toList_some]
  by_cases h : k < i
  · rw [List.eraseIdx_append_of_lt_length (by omega), if_neg (by omega)]
  · rw [List.eraseIdx_append_of_length_le (by omega), List.eraseIdx_of_length_le (by omega : (l.take i).length ≤ k), hl]
    by_cases h2 : i = k
    · subst h2
      simp
    · rw [if_neg h2, List.eraseIdx_of_length_le (by simp; omega)]

theorem validG_erase {g : Gm} (hv : VG g) (h2 : 2 ≤ g.rules.length) (k : Nat) : validG { g with rules := g.rules.eraseIdx k } = true := by
  have hle : g.rules.length - 1 ≤ (g.rules.eraseIdx k).length ∧ (g.rules.eraseIdx k).length ≤ g.rules.length := by
    rw [List.length_eraseIdx]; split <;> omega
  refine (validG_iff _).2 ⟨hv.t, hv.n1, hv.n, hv.names, hv.s0, hv.s, ?_, ?_, fun r hr => ?_⟩
  · show 1 ≤ (g.rules.eraseIdx k).length; omega
  · show (g.rules.eraseIdx k).length ≤ 120; have := hv.r; omega
  · exact hv.ok r (List.mem_of_mem_eraseIdx hr)

theorem ACalls.sub2 {P : Program} {f : FuncId} {u v v' : AV} {H : AHeap} {post : ARes → AHeap → Prop} (h : Sub v v') (hc : ACalls P f [u, v'] H post) : ACalls P f [u, v] H post :=
  ACalls.sub (args := [u, v]) (args' := [u, v']) rfl (fun j a b ha hb => by
    match j with
    | 0 => simp at ha hb; subst ha hb; exact .refl _
    | 1 => simp at ha hb; subst ha hb; exact h
    | j + 2 => simp at ha) hc

theorem law_Remove (g : Gm) (n : Int) (hn0 : 0 ≤ n) (hn1 : n < 256) (H : AHeap) (hM : GM H) (hT : GT H) : Pure law18_GrammarRemoveRule_id [g.av, .int .u8 n] H (.bool true) := by
  have hml := maxLen_eq
  refine law18_GrammarRemoveRule_enter rfl ?_
  simp [law18_GrammarRemoveRule_rs, allocQ]
  intro b hb
  have hby : (H.set b (.box g.av)) b = some (.box (.struct [strs g.terms, strs g.nonterms, i64 g.start, rls g.rules])) := AHeap.set_same _ _ _
  have hbx : (H.set b (.box g.av)) b = some (.box g.av) := AHeap.set_same _ _ _
  have hH1 : HLe H (H.set b (.box g.av)) := .set hb
  have hT1 := hT.set (o := .box g.av) hb
  have hM1 := hM.set (o := .box g.av) hb
  refine (l_awake _ hM1 hT1).use ?_
  simp
  generalize H.set b (.box g.av) = H1 at *
  refine (l_few g _).use ?_
  cases hf : fewG g
  · simp
    exact hH1
  obtain ⟨l1, l2, l3⟩ := few_len' hf
  simp [hbx]
  refine (r_Valid g l1 l2 _).use ?_
  cases hv : validG g
  · simp
    exact hH1
  have hvg := (validG_iff g).1 hv
  have hr := hvg.r
  simp [hby]
  intro _
  by_cases h2 : 2 ≤ g.rules.length
  case neg =>
    have h2' : ¬ (2 : Int) ≤ g.rules.length := by omega
    have h2'' : (g.rules.length : Int) < 2 := by omega
    simp [h2, h2', h2'']
    exact hH1
  have h2' : (2 : Int) ≤ g.rules.length := by omega
  have h2'' : ¬ (g.rules.length : Int) < 2 := by omega
  simp [h2, h2', h2'', hby]
  intro _
  obtain ⟨k, hk, hkl⟩ : ∃ k : Nat, (IntKind.i64.wrap n).tmod g.rules.length = (k : Int) ∧ k < g.rules.length := by
    rw [wrap64 (by omega) (by omega), Int.tmod_eq_emod_of_nonneg hn0]
    have h1 := Int.emod_nonneg n (show (g.rules.length : Int) ≠ 0 by omega)
    have h3 := Int.emod_lt_of_pos n (show (0 : Int) < g.rules.length by omega)
    exact ⟨(n % g.rules.length).toNat, by omega, by omega⟩
  rw [hk]
  refine ⟨fun e => by rw [e] at h2; simp at h2, ?_⟩
  intro b6 hb6
  have n6 := ne_of_some_none hby hb6
  simp [AV.size, AV.sizes]
  -- the copy without rules
  let gv : AV → AV := fun v => .struct [strs g.terms, strs g.nonterms, i64 g.start, v]
  have hbase : ∀ v, (H1.set b6 (.box (gv v))) b6 = some (.box (gv v)) := fun v => AHeap.set_same _ _ _
  refine aw_loopW (fun x : Nat × AV × AHeap => x.1 ≤ g.rules.length ∧ Grows (H1.set b6 (.box (gv x.2.1))) 36 3 (((g.rules.take x.1).eraseIdx k).map Rl.av) x.2.1 x.2.2)
    (fun x => [(2, .ptr b 0 []), (5, i64 k), (6, .ptr b6 0 []), (7, i64 x.1)]) (fun x => x.2.2) (fun x => g.rules.length - x.1) (0, .nils, H1.set b6 (.box (gv .nils))) ⟨by simp, by simp; exact Grows.nil _ _ _⟩ (by simp; exact EnvLe.refl _) (.refl _) ?_
  rintro ⟨i, v, H2⟩ ⟨hi, hg⟩
  simp only at hi hg ⊢
  have hsz := hg.size
  have q2 : H2 b = some (.box (.struct [strs g.terms, strs g.nonterms, i64 g.start, rls g.rules])) := hg.get (by rw [AHeap.set_ne _ _ n6]; exact hby)
  have q6 : H2 b6 = some (.box (.struct [strs g.terms, strs g.nonterms, i64 g.start, v])) := hg.get (hbase v)
  have hml2 : g.rules.length ≤ maxLen := by omega
  have hwi : IntKind.i64.wrap ((i : Int) + 1) = (i : Int) + 1 := wrap64 (by omega) (by omega)
  simp [q2]
  intro _
  by_cases h : i < g.rules.length
  case neg =>
    have h' : g.rules.length ≤ i := by omega
    have hie : i = g.rules.length := by omega
    subst hie
    rw [List.take_length] at hg
    simp [h, h', q2, q6, hsz]
    have hsub : Sub (.struct [strs g.terms, strs g.nonterms, i64 g.start, v]) (Gm.av { g with rules := g.rules.eraseIdx k }) :=
      SubL.struct (.cons (.refl _) (by simp) (.cons (.refl _) (by simp) (.cons (.refl _) (by simp) (.cons hg.sub (by simp) .nil))))
    have hM2 : GM H2 := by
      obtain ⟨m, hm⟩ := hM1.set (o := .box (gv v)) hb6
      exact ⟨m, hg.get hm⟩
    have hne : ¬ g = { g with rules := g.rules.eraseIdx k } := fun e => by
      have e2 : g.rules.length = (g.rules.eraseIdx k).length := congrArg (fun x : Gm => x.rules.length) e
      rw [List.length_eraseIdx, if_pos hkl] at e2
      omega
    have c1 : Pure grammar_Valid_id [.struct [strs g.terms, strs g.nonterms, i64 g.start, v]] H2 (.bool true) := by
      have := ACalls.sub1 hsub (g_Valid { g with rules := g.rules.eraseIdx k } l1 l2 H2 hM2)
      rw [validG_erase hvg h2] at this
      exact this
    have c2 : Pure grammar_Equal_id [g.av, .struct [strs g.terms, strs g.nonterms, i64 g.start, v]] H2 (.bool false) := by
      have := ACalls.sub2 (u := g.av) hsub (g_Equal g { g with rules := g.rules.eraseIdx k } H2)
      rw [eqB_false.2 hne] at this
      exact this
    refine c1.use ?_
    simp [q2, q6, hsz]
    refine Pure.use c2 ?_
    simp
    have hL : HLe H1 (H1.set b6 (.box (gv v))) := .set hb6
    exact hH1.trans (hL.trans hg.HLe)
  have h' : ¬ g.rules.length ≤ i := by omega
  have hc : g.rules[i]? = some g.rules[i] := List.getElem?_eq_getElem h
  have hsn := erase_snoc g.rules k i _ hc
  have hel : ((g.rules.take i).eraseIdx k).length ≤ i := by rw [List.length_eraseIdx]; split <;> simp <;> omega
  by_cases hik : i = k
  · have hik' : (i : Int) = k := by omega
    simp [h, h', hik']
    rw [← hik', hwi]
    refine loopK_same (i + 1, v, H2) ⟨by simp; omega, ?_⟩ (by simp; omega) rfl rfl
    simp only
    rw [hsn, if_pos hik, List.append_nil]
    exact hg
  · have hik' : ¬ (i : Int) = k := by omega
    have hik2 : ((i : Int) != k) = true := by simpa using hik'
    simp [h, h', hik, hik', hik2]
    refine law18_GrammarRemoveRule_c19_lex ?_
    simp [q2, q6, hsz, h, hc]
    refine hg.app (by simp; omega) fun v' H' g' => ?_
    have q6' := g'.get (hbase v)
    have hs' := g'.size
    simp only [gv] at q6'
    simp [q6', hs']
    rw [hwi]
    refine ⟨hsz.1, loopK_same (i + 1, v', H'.set b6 (.box (gv v'))) ⟨by simp; omega, ?_⟩ (by simp; omega) rfl rfl⟩
    have g2 := g'.set (o := .box (gv v')) (hbase v)
    rw [AHeap.set_set] at g2
    simp only
    rw [hsn, if_neg hik]
    simpa using g2
theorem law_Remove' (g : Gm) (n : Int) (H : AHeap) (hM : GM H) (hT : GT H) (w : (Lit.int .u8 n).wf = true) : Pure law18_GrammarRemoveRule_id [g.av, .int .u8 n] H (.bool true) := by
  have h1 : 0 ≤ n ∧ n < 256 := by
    simp [Lit.wf, IntKind.min, IntKind.max, IntKind.signed, IntKind.bits] at w
    omega
  exact law_Remove g n h1.1 h1.2 H hM hT
end Go.Av
