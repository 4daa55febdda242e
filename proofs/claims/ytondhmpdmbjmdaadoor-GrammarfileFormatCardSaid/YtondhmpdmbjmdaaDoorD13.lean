/- Part of the proof: D13. No condition. -/
import Derived.Test.YtondhmpdmbjmdaaDoorD12
import Derived.Test.YtondhmpdmbjmdaaDoorCf
set_option linter.unusedVariables false
set_option linter.unusedSimpArgs false
namespace Go.Av
theorem nameOK_ne {n : List UInt8} (h : nameOK n = true) : n ≠ [] := by
  rintro rfl
  simp [nameOK] at h

/-- The reference's test ahead of the kinds. -/
theorem exprOK_pre {d : Nat} {k : Int} {n : List UInt8} {kids : List GE} (h : exprOK (d + 1) (.mk k n kids) = true) : 1 ≤ k ∧ k ≤ 6 ∧ ((k == 1) = (n != [])) := by
  simp only [exprOK, Bool.and_eq_true] at h
  obtain ⟨⟨h1, h2⟩, _⟩ := h
  by_cases hk : k = 1
  · subst hk
    refine ⟨by omega, by omega, ?_⟩
    simp [kindOK] at h2
    have := nameOK_ne h2.1
    simp [this]
  · have hkb : (k == 1) = false := by simpa using hk
    have hn : n = [] := by simpa [hk] using h1
    subst hn
    unfold kindOK at h2
    rw [hkb] at h2
    refine ⟨?_, ?_, by simp [hk]⟩
    · by_cases hlt : 1 ≤ k
      · exact hlt
      · have e2 : (k == 2) = false := by rw [beq_eq_false_iff_ne]; omega
        have e3 : (k == 3) = false := by rw [beq_eq_false_iff_ne]; omega
        have e4 : (k == 4) = false := by rw [beq_eq_false_iff_ne]; omega
        have e5 : (k == 5) = false := by rw [beq_eq_false_iff_ne]; omega
        have e6 : (k == 6) = false := by rw [beq_eq_false_iff_ne]; omega
        simp [e2, e3, e4, e5, e6] at h2
    · by_cases hlt : k ≤ 6
      · exact hlt
      · have e2 : (k == 2) = false := by rw [beq_eq_false_iff_ne]; omega
        have e3 : (k == 3) = false := by rw [beq_eq_false_iff_ne]; omega
        have e4 : (k == 4) = false := by rw [beq_eq_false_iff_ne]; omega
        have e5 : (k == 5) = false := by rw [beq_eq_false_iff_ne]; omega
        have e6 : (k == 6) = false := by rw [beq_eq_false_iff_ne]; omega
        simp [e2, e3, e4, e5, e6] at h2

set_option maxHeartbeats 1000000 in
theorem r16_Expr (d : Nat) : d ≤ 1000 → ∀ (x : GE) (H : AHeap), Pure r6_Expr_id [x.av, i64 d] H (.bool (exprOK d x)) := by
  have hml := maxLen_eq
  induction d with
  | zero =>
    intro _ x H
    refine r6_Expr_enter rfl ?_
    simp [r6_Expr_rs, allocQ, exprOK]
    intro b2 hb2
    exact .set hb2
  | succ d ih =>
    intro hd x H
    obtain ⟨k, n, kids⟩ := x
    refine r6_Expr_enter rfl ?_
    simp only [GE.av_mk]
    simp [r6_Expr_rs, allocQ, -r6_Expr_c58_eq]
    intro b2 hb2
    have q2 : (H.set b2 (.box (.struct [i64 k, .str n, .list 3 (kids.map GE.av)]))) b2 = some (.box (.struct [i64 k, .str n, .list 3 (kids.map GE.av)])) := AHeap.set_same _ _ _
    have hle : HLe H (H.set b2 (.box (.struct [i64 k, .str n, .list 3 (kids.map GE.av)]))) := .set hb2
    generalize (H.set b2 (.box (.struct [i64 k, .str n, .list 3 (kids.map GE.av)]))) = H2 at q2 hle ⊢
    have hd1 : ¬ (d : Int) + 1 < 1 := by omega
    have hd2 : (1 : Int) ≤ (d : Int) + 1 := by omega
    -- the kids
    have loop : (∃ z, exprOK (d + 1) (.mk k n kids) = (z && !(kids.any fun y => !exprOK d y)) ∧ z = true) → ∀ t b, (t = 32 ∨ t = 44 ∨ t = 50 ∨ t = 56) → aw PP r6_Expr_c56 (retK [.tmp 4] fun r H' => r = .ret (.bool (exprOK (d + 1) (.mk k n kids))) ∧ H' = H) [(1, i64 ((d + 1 : Nat) : Int)), (2, .ptr b2 0 []), (t, .bool b)] H2 := by
      rintro ⟨z, hz, rfl⟩ t b ht
      rw [hz]
      have body : aw PP r6_Expr_c52 (seqK PP r6_Expr_c55 (retK [.tmp 4] fun r H' => r = .ret (.bool (true && !(kids.any fun y => !exprOK d y))) ∧ H' = H)) [(1, i64 ((d + 1 : Nat) : Int)), (2, .ptr b2 0 []), (5, i64 0)] H2 := by
        simp
        refine aw_loopK (fun i : Nat => i ≤ kids.length ∧ ∀ j y, j < i → kids[j]? = some y → exprOK d y = true) (fun i => [(1, i64 ((d : Int) + 1)), (2, .ptr b2 0 []), (5, i64 i)]) (fun _ => H2) (fun i => kids.length - i) 0 ⟨Nat.zero_le _, fun j y h => by omega⟩ rfl rfl ?_
        rintro i ⟨hi, hall⟩
        by_cases h : i < kids.length
        · have h' : ¬ kids.length ≤ i := by omega
          have hc : kids[i]? = some kids[i] := List.getElem?_eq_getElem h
          simp [q2, h, h', hc]
          intro hm
          rw [wrap64 (by omega) (by omega)]
          refine (ih (by omega) kids[i] H2).use ?_
          cases hx : exprOK d kids[i]
          · have : (kids.any fun y => !exprOK d y) = true := List.any_eq_true.2 ⟨kids[i], List.getElem_mem h, by simp [hx]⟩
            rw [this]
            simp
            exact hle
          · simp
            rw [wrap64 (by omega) (by omega)]
            refine loopK_same (i + 1) ⟨by omega, fun j y hj hjy => ?_⟩ (by omega) rfl rfl
            by_cases hji : j < i
            · exact hall j y hji hjy
            · have : j = i := by omega
              subst this
              rw [hc] at hjy
              injection hjy with hjy
              subst hjy
              exact hx
        · have : i = kids.length := by omega
          subst this
          have hany : (kids.any fun y => !exprOK d y) = false := by
            rw [List.any_eq_false]
            intro y hy
            obtain ⟨j, hj, he⟩ := List.getElem_of_mem hy
            have := hall j y hj (by rw [← he]; exact List.getElem?_eq_getElem hj)
            simp [this]
          simp [q2]
          intro _
          refine ⟨?_, hle⟩
          simp only [hany]
          exact .refl _
      rcases ht with rfl | rfl | rfl | rfl <;>
      · simp [-r6_Expr_c52_eq, -r6_Expr_c55_eq]
        simpa using body
    have bad : (¬ (1 ≤ k ∧ k ≤ 6 ∧ ((k == 1) = (n != [])))) → exprOK (d + 1) (.mk k n kids) = false := by
      intro hb
      rw [Bool.eq_false_iff]
      intro h
      exact hb (exprOK_pre h)
    by_cases p1 : 1 ≤ k
    · have p1' : ¬ k < 1 := by omega
      by_cases p2 : k ≤ 6
      · have p2' : ¬ 6 < k := by omega
        by_cases hk1 : k = 1
        · subst hk1
          cases n with
          | nil =>
            rw [bad (by simp)]
            simp [q2, hd1, hd2]
            exact hle
          | cons c r =>
            simp [q2, hd1, hd2, -r6_Expr_c56_eq]
            refine (r16_Name (c :: r) H2).use ?_
            cases hn : nameOK (c :: r)
            · have hf : exprOK (d + 1) (.mk 1 (c :: r) kids) = false := by simp [exprOK, kindOK, hn]
              rw [hf]
              simp
              exact hle
            · cases kids with
              | nil =>
                simp [q2, -r6_Expr_c56_eq]
                have := loop ⟨true, by simp [exprOK, kindOK, hn], rfl⟩ 44 false (by simp)
                simpa [-r6_Expr_c56_eq] using this
              | cons y ys =>
                have hf : exprOK (d + 1) (.mk 1 (c :: r) (y :: ys)) = false := by simp [exprOK, kindOK, hn]
                rw [hf]
                have h0 : (((ys.length : Int) + 1) != 0) = true := by simp; omega
                have h0' : ¬ ((ys.length : Int) + 1 = 0) := by omega
                simp [q2, h0, h0']
                exact fun _ => hle
        · cases n with
          | cons c r =>
            rw [bad (fun h => by have h2 := h.2.2; rw [beq_eq_false_iff_ne.2 hk1] at h2; simp at h2)]
            simp [q2, hd1, hd2, p1, p1', p2, p2', hk1]
            exact hle
          | nil =>
            have hx : exprOK (d + 1) (.mk k [] kids) = (kindOK k [] kids.length && !(kids.any fun y => !exprOK d y)) := by simp [exprOK]
            have fin : ∀ t, (t = 32 ∨ t = 44 ∨ t = 50 ∨ t = 56) → kindOK k [] kids.length = true → aw PP r6_Expr_c56 (retK [.tmp 4] fun r H' => r = .ret (.bool (exprOK (d + 1) (.mk k [] kids))) ∧ H' = H) [(1, i64 ((d + 1 : Nat) : Int)), (2, .ptr b2 0 []), (t, .bool false)] H2 := by
              intro t ht hk
              exact loop ⟨true, by rw [hx, hk], rfl⟩ t false ht
            have nope : kindOK k [] kids.length = false → exprOK (d + 1) (.mk k [] kids) = false := by
              intro hk; rw [hx, hk]; rfl
            have hks : k = 2 ∨ k = 3 ∨ k = 4 ∨ k = 5 ∨ k = 6 := by omega
            rcases hks with hk | hk | hk | hk | hk
            · subst hk
              by_cases hc : kids.length = 1
              · rw [nope (by simp [kindOK, hc])]
                simp [q2, hd1, hd2, hc]
                exact fun _ => hle
              · have hc' : ¬ ((kids.length : Int) = 1) := by omega
                have hcb : ((kids.length : Int) == 1) = false := by simpa using hc'
                simp [q2, hd1, hd2, hc, hc', hcb, -r6_Expr_c56_eq]
                intro _
                have := fin 50 (by simp) (by simp [kindOK]; omega)
                simpa [-r6_Expr_c56_eq] using this
            · subst hk
              by_cases hc : kids.length < 2
              · have hc' : (kids.length : Int) < 2 := by omega
                have hc2 : ¬ (2 : Int) ≤ (kids.length : Int) := by omega
                rw [nope (by simp [kindOK]; omega)]
                simp [q2, hd1, hd2, hc, hc', hc2]
                exact fun _ => hle
              · have hc' : ¬ (kids.length : Int) < 2 := by omega
                have hc2 : (2 : Int) ≤ (kids.length : Int) := by omega
                simp [q2, hd1, hd2, hc, hc', hc2, -r6_Expr_c56_eq]
                intro _
                have := fin 56 (by simp) (by simp [kindOK]; omega)
                simpa [-r6_Expr_c56_eq] using this
            · subst hk
              by_cases hc : kids.length = 1
              · simp [q2, hd1, hd2, hc, -r6_Expr_c56_eq]
                intro _
                have := fin 32 (by simp) (by simp [kindOK, hc])
                simpa [-r6_Expr_c56_eq] using this
              · have hc' : ¬ ((kids.length : Int) = 1) := by omega
                have hcb : ((kids.length : Int) != 1) = true := by simpa using hc'
                rw [nope (by simp [kindOK, hc])]
                simp [q2, hd1, hd2, hc, hc', hcb]
                exact fun _ => hle
            · subst hk
              by_cases hc : kids.length = 1
              · simp [q2, hd1, hd2, hc, -r6_Expr_c56_eq]
                intro _
                have := fin 32 (by simp) (by simp [kindOK, hc])
                simpa [-r6_Expr_c56_eq] using this
              · have hc' : ¬ ((kids.length : Int) = 1) := by omega
                have hcb : ((kids.length : Int) != 1) = true := by simpa using hc'
                rw [nope (by simp [kindOK, hc])]
                simp [q2, hd1, hd2, hc, hc', hcb]
                exact fun _ => hle
            · subst hk
              by_cases hc : kids.length = 1
              · simp [q2, hd1, hd2, hc, -r6_Expr_c56_eq]
                intro _
                have := fin 32 (by simp) (by simp [kindOK, hc])
                simpa [-r6_Expr_c56_eq] using this
              · have hc' : ¬ ((kids.length : Int) = 1) := by omega
                have hcb : ((kids.length : Int) != 1) = true := by simpa using hc'
                rw [nope (by simp [kindOK, hc])]
                simp [q2, hd1, hd2, hc, hc', hcb]
                exact fun _ => hle
      · have p2' : 6 < k := by omega
        rw [bad (fun h => p2 h.2.1)]
        simp [q2, hd1, hd2, p1, p1', p2, p2']
        exact hle
    · have p1' : k < 1 := by omega
      rw [bad (fun h => p1 h.1)]
      simp [q2, hd1, hd2, p1, p1']
      exact hle
end Go.Av
