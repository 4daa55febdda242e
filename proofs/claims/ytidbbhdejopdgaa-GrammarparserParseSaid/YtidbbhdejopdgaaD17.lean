/- Part of the proof: D17. No condition. -/
import Derived.Test.YtidbbhdejopdgaaDe
set_option linter.unusedVariables false
set_option linter.unusedSimpArgs false
namespace Go.Av
theorem ruleOK_iff (r : GR) : ruleOK r = (decide (0 < r.alts.length) && r.alts.all altOK) := by
  unfold ruleOK
  congr 1
  rw [Bool.eq_iff_iff]
  simp

def vaI (rules : List GR) (i : Nat) : Prop := i ≤ rules.length ∧ (rules.take i).all ruleOK = true ∧ distF [] ((rules.take i).map GR.name) = true

set_option maxHeartbeats 2000000 in
theorem r16_Valid (f : GF) (hx : (f.levels.flatMap GL.tokens).length ≤ 1000000) (H : AHeap) : Pure ref16_Valid_id [f.av] H (.bool (validM f)) := by
  obtain ⟨start, levels, rules⟩ := f
  simp only at hx
  have hml := maxLen_eq
  refine ref16_Valid_enter rfl ?_
  simp [ref16_Valid_rs, allocQ, -ref16_Valid_c124_eq]
  intro b1 hb1
  have q1 : (H.set b1 (.box (GF.av ⟨start, levels, rules⟩))) b1 = some (.box (.struct [.str start, .list 2 (levels.map GL.av), .list 2 (rules.map GR.av)])) := by rw [AHeap.set_same]; rfl
  have hle : HLe H (H.set b1 (.box (GF.av ⟨start, levels, rules⟩))) := .set hb1
  generalize (H.set b1 (.box (GF.av ⟨start, levels, rules⟩))) = H1 at q1 hle ⊢
  have bad : validM ⟨start, levels, rules⟩ = false → ∀ H', HLe H1 H' → (retK [.tmp 2] fun r H' => r = .ret (.bool (validM ⟨start, levels, rules⟩)) ∧ H' = H) .ret [(2, .bool false)] H' := by
    intro hv H' hl
    rw [hv]
    simp
    exact hle.trans hl
  by_cases h1 : (rules.length : Int) < 1
  · have h1' : ¬ (1 : Int) ≤ rules.length := by omega
    have hv : validM ⟨start, levels, rules⟩ = false := by
      have : ¬ 1 ≤ rules.length := by omega
      simp [validM, this]
    rw [hv]
    simp [q1, h1, h1']
    exact fun _ => hle
  · by_cases h2 : (120 : Int) < rules.length
    · have h1' : (1 : Int) ≤ rules.length := by omega
      have hv : validM ⟨start, levels, rules⟩ = false := by
        have : ¬ rules.length ≤ 120 := by omega
        simp [validM, this]
      rw [hv]
      simp [q1, h1, h2, h1']
      exact fun _ => hle
    · have h1' : (1 : Int) ≤ rules.length := by omega
      have h2' : (rules.length : Int) ≤ 120 := by omega
      have hvm : validM ⟨start, levels, rules⟩ = (rules.all ruleOK && distF [] (rules.map GR.name) && (levels.all lvOK && distF [] (levels.flatMap GL.tokens)) && stAt start rules) := by
        have e1 : 1 ≤ rules.length := by omega
        have e2 : rules.length ≤ 120 := by omega
        have e3 : ((rules.map GR.name).any fun y => start == y) = stAt start rules := by
          simp only [stAt, List.any_map]
          congr 1
          funext r
          exact beq_symm'
        simp only [validM, e1, e2, decide_true, Bool.true_and, e3]
        cases rules.all ruleOK <;> cases levels.all lvOK <;> cases distF [] (rules.map GR.name) <;> simp
      generalize validM ⟨start, levels, rules⟩ = vm at *
      generalize hKK : (retK [.tmp 2] fun r H' => r = .ret (.bool vm) ∧ H' = H) = KK at *
      simp [q1, h1, h1', h2, h2', -ref16_Valid_c121_eq]
      intro hm
      refine aw_loopK (vaI rules) (fun i => [(1, .ptr b1 0 []), (3, .bool (stAt start (rules.take i))), (4, i64 i)]) (fun _ => H1) (fun i => rules.length - i) 0
        ⟨Nat.zero_le _, rfl, rfl⟩ rfl rfl ?_
      rintro i ⟨hi, hok, hd⟩
      by_cases h : i < rules.length
      · have h' : ¬ rules.length ≤ i := by omega
        have hc : rules[i]? = some rules[i] := List.getElem?_eq_getElem h
        have htk : rules.take (i + 1) = rules.take i ++ [rules[i]] := by rw [List.take_add_one, hc]; rfl
        have hsp : rules = rules.take i ++ rules[i] :: rules.drop (i + 1) := by rw [← List.drop_eq_getElem_cons h, List.take_append_drop]
        generalize hr : rules[i] = r at *
        have hany : ((rules.take i).map GR.name).any (fun y => r.name == y) = (rules.take i).any fun x => x.name == r.name := by
          rw [List.any_map]
          congr 1
          funext x
          exact beq_symm'
        have badr : ruleOK r = false → vm = false := by
          intro hr
          have : rules.all ruleOK = false := by rw [hsp]; simp [hr]
          rw [hvm, this]; rfl
        have badd : (nameOK r.name && !((rules.take i).any fun x => x.name == r.name)) = false → vm = false := by
          intro hb
          have : distF [] (rules.map GR.name) = false := by
            rw [hsp, List.map_append, distF_append, hd, List.map_cons, List.nil_append, distF, hany, hb]
            simp
          rw [hvm, this]; simp
        simp [q1, h, h', hc, hr, allocQ, -ref16_Valid_c54_eq]
        intro hm2 b5 hb5
        have n15 : b1 ≠ b5 := ne_of_some_none q1 hb5
        have q5 : (H1.set b5 (.box r.av)) b5 = some (.box (.struct [.str r.name, .list 4 (r.alts.map GA.av)])) := by rw [AHeap.set_same]; rfl
        have q1' : (H1.set b5 (.box r.av)) b1 = some (.box (.struct [.str start, .list 2 (levels.map GL.av), .list 2 (rules.map GR.av)])) := by rw [AHeap.set_ne _ _ n15]; exact q1
        have hle5 : HLe H1 (H1.set b5 (.box r.av)) := .set hb5
        generalize H1.set b5 (.box r.av) = H5 at *
        generalize hLK : loopK (vaI rules) (fun i => [(1, .ptr b1 0 []), (3, .bool (stAt start (rules.take i))), (4, i64 i)]) (fun _ => H1) (fun i => rules.length - i) (rules.length - i) (blockK 0 (seqK PP ref16_Valid_c121 KK)) = LK
        have hrt : ∀ env H', LK .ret env H' = KK .ret env H' := by intro env H'; rw [← hLK]; simp
        have next : ruleOK r = true → (nameOK r.name && !((rules.take i).any fun x => x.name == r.name)) = true → LK .norm [(1, .ptr b1 0 []), (3, .bool (stAt start (rules.take (i + 1)))), (4, i64 (i + 1 : Nat))] H5 := by
          intro hro hnm
          rw [← hLK]
          refine loopK_next (i + 1) ⟨by omega, ?_, ?_⟩ (by omega) (EnvLe.refl _) hle5
          · rw [htk, List.all_append, hok]; simp [hro]
          · rw [htk, List.map_append, distF_append, hd, List.map_cons, List.map_nil, List.nil_append, distF, hany, hnm]
            rfl
        have key : ∀ st, stAt start (rules.take (i + 1)) = st → aw PP ref16_Valid_c53 (blockK 1 (seqK PP ref16_Valid_c57 LK)) [(1, .ptr b1 0 []), (3, .bool st), (4, i64 i), (5, .ptr b5 0 [])] H5 := by
          intro st hst
          rw [hst] at next
          clear hst
          simp [q5, -ref16_Valid_c33_eq, -ref16_Valid_c51_eq]
          refine (r16_Name r.name H5).use ?_
          cases hn : nameOK r.name
          · simp [q5, hrt]
            exact bad (badd (by rw [hn]; rfl)) _ hle5
          · by_cases ha : r.alts = []
            · simp [q5, ha, hrt]
              exact bad (badr (by rw [ruleOK_iff, ha]; rfl)) _ hle5
            · have hab : (r.alts.length == 0) = false := by simpa using ha
              have hpos : 0 < r.alts.length := List.length_pos_iff.2 ha
              simp [q5, ha, hab, -ref16_Valid_c33_eq, -ref16_Valid_c51_eq]
              intro hm3
              refine r16_Valid_dup hi (by omega) q1' q5 rfl (fun hdup => ?_) fun hdup b => ?_
              · simp [hrt]
                exact bad (badd (by rw [hdup]; simp)) _ hle5
              · rw [seqK_norm]
                refine r16_Valid_alts q5 (fun hb H' hl => ?_) fun hg n b' => ?_
                · simp [hrt]
                  exact bad (badr (by rw [ruleOK_iff, hb]; simp)) _ (hle5.trans hl)
                · simp
                  rw [wrap64 (by omega) (by omega)]
                  exact next (by rw [ruleOK_iff, hg]; simp [hpos]) (by rw [hn, hdup]; rfl)
        rw [htk, stAt_snoc] at key
        cases hst : stAt start (rules.take i)
        · rw [hst] at key
          simp [q5, q1', -ref16_Valid_c53_eq]
          exact key _ (by simp)
        · rw [hst] at key
          simp [-ref16_Valid_c53_eq]
          exact key _ (by simp)
      · have : i = rules.length := by omega
        subst this
        rw [List.take_length] at hok hd
        simp [q1, -ref16_Valid_c121_eq]
        intro _
        refine r16_Valid_levels hx q1 (fun hb H' hl => bad (by rw [hvm, hb]; simp) H' hl) fun hg H' hl => ?_
        have : vm = stAt start rules := by rw [hvm, hok, hd, hg]; simp
        rw [← hKK, this]
        simp
        exact hle.trans hl
end Go.Av
