/- Part of the proof: C17. No condition. -/
import Derived.Test.YtondhmpdmbjmdaaDoorCe
set_option linter.unusedVariables false
set_option linter.unusedSimpArgs false
namespace Go.Av
def kindOK (k : Int) (n : List UInt8) (m : Nat) : Bool :=
  if k == 1 then nameOK n && m == 0 else if k == 2 then m != 1 else if k == 3 then decide (2 ≤ m) else if k == 4 || k == 5 || k == 6 then m == 1 else false

def exprOK : Nat → GE → Bool
  | 0, _ => false
  | d + 1, .mk k n kids => !(k != 1 && n != []) && kindOK k n kids.length && !(kids.any fun y => !exprOK d y)

theorem gf_expr_1 {d : Nat} (hd : d ≤ 1000) (x : GE) (b : Nat) (H : AHeap) (hb : H b = some (.box (i64 (d + 1 : Nat)))) (ih : ∀ H', Pure gF_expr_id [x.av, i64 d] H' (.bool (exprOK d x))) :
    Pure gF_expr_1_id [x.av, .ptr b 0 []] H (.bool (!exprOK d x)) := by
  refine gF_expr_1_enter rfl ?_
  simp [gF_expr_1_rs, allocQ]
  intro b2 hb2
  have n1 := ne_of_some_none hb hb2
  simp [AHeap.set_ne, n1, hb]
  have e1 : IntKind.i64.wrap (d : Int) = d := wrap64 (by omega) (by omega)
  rw [e1]
  refine (ih _).use ?_
  simp
  exact .set hb2

theorem gf_expr0 (x : GE) (H : AHeap) : Pure gF_expr_id [x.av, i64 0] H (.bool (exprOK 0 x)) := by
  refine gF_expr_enter rfl ?_
  simp [gF_expr_rs, allocQ]
  intro b2 hb2 b3 hb3
  refine ⟨.refl _, (HLe.set (o := .box x.av) hb2).trans (.set hb3)⟩

set_option maxHeartbeats 1000000 in
theorem gf_expr (d : Nat) : d ≤ 1000 → ∀ (x : GE) (H : AHeap), Pure gF_expr_id [x.av, i64 d] H (.bool (exprOK d x)) := by
  induction d with
  | zero => exact fun _ x H => gf_expr0 x H
  | succ d ih =>
    intro hd x H
    obtain ⟨k, n, kids⟩ := x
    refine gF_expr_enter rfl ?_
    simp only [GE.av_mk]
    simp [gF_expr_rs, allocQ, -gF_expr_c36_eq]
    intro b2 hb2 b3 hb3
    have n23 : b2 ≠ b3 := by rintro rfl; simp at hb3
    have hb3' : H b3 = none := by rwa [AHeap.set_ne _ _ (Ne.symm n23)] at hb3
    have hle : HLe H ((H.set b2 (.box (.struct [i64 k, .str n, .list 3 (kids.map GE.av)]))).set b3 (.box (i64 ((d : Int) + 1)))) := (HLe.set hb2).trans (.set hb3)
    have q2 : ((H.set b2 (.box (.struct [i64 k, .str n, .list 3 (kids.map GE.av)]))).set b3 (.box (i64 ((d : Int) + 1)))) b2 = some (.box (.struct [i64 k, .str n, .list 3 (kids.map GE.av)])) := by rw [AHeap.set_ne _ _ n23, AHeap.set_same]
    have q3 : ((H.set b2 (.box (.struct [i64 k, .str n, .list 3 (kids.map GE.av)]))).set b3 (.box (i64 ((d : Int) + 1)))) b3 = some (.box (i64 ((d + 1 : Nat) : Int))) := by rw [AHeap.set_same]; rfl
    generalize ((H.set b2 (.box (.struct [i64 k, .str n, .list 3 (kids.map GE.av)]))).set b3 (.box (i64 ((d : Int) + 1)))) = H2 at *
    have tail : ∀ (ok : Bool) (env : Env), (env = [(2, .ptr b2 0 []), (3, .ptr b3 0 []), (6, .bool ok)] ∨ ∃ m : Int, env = [(2, .ptr b2 0 []), (3, .ptr b3 0 []), (5, i64 m), (6, .bool ok), (41, .bool false)]) → exprOK (d + 1) (.mk k n kids) = (ok && !(kids.any fun y => !exprOK d y)) →
        aw PP gF_expr_c33 (retK [.tmp 4] fun r H' => r = .ret (.bool (exprOK (d + 1) (.mk k n kids))) ∧ H' = H) env H2 := by
      intro ok env he hok
      rcases he with rfl | ⟨m, rfl⟩ <;> cases ok
      · simp [hok]
        exact hle
      · simp [q2]
        refine (sl_ContainsFunc_GExpr gF_expr_1_id kids (fun y => !exprOK d y) H2 fun x _ => gf_expr_1 (by omega) x b3 H2 q3 fun H' => ih (by omega) x H').use ?_
        simp [hok]
        exact hle
      · simp [hok]
        exact hle
      · simp [q2]
        refine (sl_ContainsFunc_GExpr gF_expr_1_id kids (fun y => !exprOK d y) H2 fun x _ => gf_expr_1 (by omega) x b3 H2 q3 fun H' => ih (by omega) x H').use ?_
        simp [hok]
        exact hle
    have q3' : H2 b3 = some (.box (i64 ((d : Int) + 1))) := q3
    have hd1 : ¬ (d : Int) + 1 < 1 := by omega
    have hd2 : (1 : Int) ≤ (d : Int) + 1 := by omega
    by_cases hk1 : k = 1
    · subst hk1
      simp [q2, q3', hd1, -gF_expr_c33_eq]
      intro _ _
      refine (gf_name n H2).use ?_
      cases hn : nameOK n
      · simp [-gF_expr_c33_eq]
        exact tail false _ (.inl rfl) (by simp [exprOK, kindOK, hn])
      · cases kids with
        | nil =>
          simp [-gF_expr_c33_eq]
          exact tail true _ (.inl rfl) (by simp [exprOK, kindOK, hn])
        | cons y r =>
          have h0 : (((y :: r).length : Int) == 0) = false := by rw [beq_eq_false_iff_ne]; simp; omega
          simp only [List.length_cons, Int.natCast_add, Int.cast_ofNat_Int] at h0
          simp [h0, -gF_expr_c33_eq]
          exact tail false _ (.inl rfl) (by simp [exprOK, kindOK, hn])
    · have hk1b : (k == 1) = false := by simpa using hk1
      by_cases hn : n = []
      · subst hn
        have hx : exprOK (d + 1) (.mk k [] kids) = (kindOK k [] kids.length && !(kids.any fun y => !exprOK d y)) := by simp [exprOK]
        have e1 : ((kids.length : Int) != 1) = (kids.length != 1) := by rw [Bool.eq_iff_iff]; simp; omega
        have e2 : (decide ((2 : Int) ≤ (kids.length : Int))) = decide (2 ≤ kids.length) := by rw [Bool.eq_iff_iff]; simp; omega
        have e3 : ((kids.length : Int) == 1) = (kids.length == 1) := by rw [Bool.eq_iff_iff]; simp; omega
        by_cases hk2 : k = 2
        · subst hk2
          simp [q2, q3', hd1, -gF_expr_c33_eq]
          intro _ _
          exact tail _ _ (.inl rfl) (by rw [hx, e1]; rfl)
        · by_cases hk3 : k = 3
          · subst hk3
            simp [q2, q3', hd1, -gF_expr_c33_eq]
            intro _ _
            exact tail _ _ (.inl rfl) (by rw [hx, e2]; rfl)
          · by_cases hk4 : k = 4
            · subst hk4
              simp [q2, q3', hd1, -gF_expr_c33_eq]
              intro _ _
              exact tail _ _ (.inl rfl) (by rw [hx, e3]; rfl)
            · by_cases hk5 : k = 5
              · subst hk5
                simp [q2, q3', hd1, -gF_expr_c33_eq]
                intro _ _
                exact tail _ _ (.inl rfl) (by rw [hx, e3]; rfl)
              · by_cases hk6 : k = 6
                · subst hk6
                  simp [q2, q3', hd1, -gF_expr_c33_eq]
                  intro _ _
                  exact tail _ _ (.inl rfl) (by rw [hx, e3]; rfl)
                · have hk2b : (k == 2) = false := by simpa using hk2
                  have hk3b : (k == 3) = false := by simpa using hk3
                  have hk4b : (k == 4) = false := by simpa using hk4
                  have hk5b : (k == 5) = false := by simpa using hk5
                  have hk6b : (k == 6) = false := by simpa using hk6
                  simp [q2, q3', hd1, hk1b, hk2b, hk3b, hk4b, hk5b, hk6b, hk1, hk2, hk3, hk4, hk5, hk6, -gF_expr_c33_eq]
                  intro _ _
                  exact tail false _ (.inr ⟨_, rfl⟩) (by rw [hx]; simp [kindOK, hk1, hk2, hk3, hk4, hk5, hk6])
      · have hnb : (n == []) = false := by simpa using hn
        have hf : exprOK (d + 1) (.mk k n kids) = false := by simp [exprOK, hk1b, hnb, bne]
        rw [hf]
        simp [q2, q3', hd1, hk1b, hnb, hn, hk1, -gF_expr_c35_eq, -gF_expr_c34_eq]
        exact fun _ => hle
end Go.Av
