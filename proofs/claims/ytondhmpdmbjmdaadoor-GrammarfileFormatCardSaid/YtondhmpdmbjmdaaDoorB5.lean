/- Part of the proof: B5. No condition. -/
import Derived.Test.YtondhmpdmbjmdaaDoorBb
import Derived.Test.YtondhmpdmbjmdaaDoorCd
import Derived.Test.YtondhmpdmbjmdaaDoorFmt
set_option linter.unusedVariables false
set_option linter.unusedSimpArgs false
namespace Go.Av
open Go Go.Proofs

abbrev lim47 : Nat := 140737488355328

/-- What a writing method does. -/
def Writes (f : FuncId) (args : List AV) (t : List UInt8) : Prop :=
  ∀ (b : Nat) (s : List UInt8) (H : AHeap), H b = some (.bld s 69 5) → s.length + t.length ≤ lim47 →
    ACalls PP f (.ptr b 0 [] :: args) H fun r H' => r = .ret (.tuple []) ∧ H' = H.set b (.bld (s ++ t) 69 5)

theorem Writes.use {f : FuncId} {args : List AV} {t : List UInt8} (h : Writes f args t) {b : Nat} {s : List UInt8} {H : AHeap} {K : ARes → AHeap → Prop} (hb : H b = some (.bld s 69 5)) (hl : s.length + t.length ≤ lim47)
    (hK : K (.ret (.tuple [])) (H.set b (.bld (s ++ t) 69 5))) : ACalls PP f (.ptr b 0 [] :: args) H K :=
  (h b s H hb hl).mono fun r H' ⟨h1, h2⟩ => by rw [h1, h2]; exact hK

theorem ws_use {b : Nat} {path : List Nat} {s t : List UInt8} {H : AHeap} {K : ARes → AHeap → Prop} (hb : H b = some (.bld s 69 5)) (hl : s.length + t.length ≤ lim47)
    (hK : K (.ret (.tuple [.int .i64 (t.length : Int), .nili])) (H.set b (.bld (s ++ t) 69 5))) : ACalls PP sB_WriteString_id [.ptr b 0 path, .str t] H K :=
  (bld_WriteString hb hl).mono fun r H' ⟨h1, h2⟩ => by rw [h1, h2]; exact hK

theorem wb_use {b : Nat} {path : List Nat} {s : List UInt8} {n : Int} {H : AHeap} {K : ARes → AHeap → Prop} (ch : UInt8) (hn : n = (ch.toNat : Int)) (hb : H b = some (.bld s 69 5)) (hl : s.length + 1 ≤ lim47)
    (hK : K (.ret .nili) (H.set b (.bld (s ++ [ch]) 69 5))) : ACalls PP sB_WriteByte_id [.ptr b 0 path, .int .u8 n] H K := by
  subst hn
  exact (bld_WriteByte hb hl).mono fun r H' ⟨h1, h2⟩ => by rw [h1, h2]; exact hK

/-- Boxes that were made meanwhile are forgotten. -/
theorem forget {H H1 : AHeap} {b : Nat} {o o2 : AObj} (hle : HLe H H1) (hb : H b = some o) : HLe (H.set b o2) (H1.set b o2) := by
  refine ⟨fun x v hx => ?_, fun x n z e hx => ?_, fun x o ho hx => ?_⟩
  all_goals
    by_cases hxb : x = b
    · subst hxb
      rw [AHeap.set_same] at hx ⊢
      first | exact .inl hx | exact hx
    · rw [AHeap.set_ne _ _ hxb] at hx ⊢
      first | exact hle.box x v hx | exact hle.row x n z e hx | exact hle.x x o ho hx

theorem w_enclosed (x : GE) (q : Bool) (hx : Writes gW_expr_id [x.av] (fmtE x)) : Writes gW_enclosed_id [x.av, .bool q] (encl q (fmtE x)) := by
  intro b s H hb hl
  refine gW_enclosed_enter rfl ?_
  simp [gW_enclosed_rs, allocQ]
  intro b4 hb4
  have n4 : b ≠ b4 := ne_of_some_none hb hb4
  have q4 : (H.set b4 (.box x.av)) b4 = some (.box x.av) := AHeap.set_same _ _ _
  have qb : (H.set b4 (.box x.av)) b = some (.bld s 69 5) := by rw [AHeap.set_ne _ _ n4]; exact hb
  have hle : HLe H (H.set b4 (.box x.av)) := .set hb4
  generalize H.set b4 (.box x.av) = H1 at q4 qb hle ⊢
  cases q
  · simp
    refine hx.use qb (by simpa [encl] using hl) ?_
    simp [encl]
    exact forget hle hb
  · simp
    have hl' : s.length + ((fmtE x).length + 2) ≤ lim47 := by simp [encl] at hl; omega
    refine wb_use 40 rfl qb (by omega) ?_
    simp [q4, AHeap.set_ne _ _ n4.symm]
    refine hx.use (AHeap.set_same _ _ _) (by simp; omega) ?_
    simp [AHeap.set_set]
    refine wb_use 41 rfl (AHeap.set_same _ _ _) (by simp; omega) ?_
    simp [AHeap.set_set, encl]
    exact forget hle hb


@[simp] theorem GE.av_at0 (e : GE) : e.av.at_ [0] = some (i64 e.kind) := by cases e; rw [GE.av_mk]; rfl
@[simp] theorem GE.av_offs0 (e : GE) : e.av.offs [0] = 0 := by cases e; rw [GE.av_mk]; rfl
@[simp] theorem GE.av_at1 (e : GE) : e.av.at_ [1] = some (.str e.name) := by cases e; rw [GE.av_mk]; rfl
@[simp] theorem GE.av_offs1 (e : GE) : e.av.offs [1] = 1 := by cases e; rw [GE.av_mk]; rfl
@[simp] theorem GE.av_at2 (e : GE) : e.av.at_ [2] = some (.list 3 (e.kids.map GE.av)) := by cases e; rw [GE.av_mk]; rfl
@[simp] theorem GE.av_offs2 (e : GE) : e.av.offs [2] = 2 := by cases e; rw [GE.av_mk]; rfl

set_option maxHeartbeats 8000000 in
theorem w_kid {b b3 b5 i : Nat} {k : Int} {e : GE} {t : List UInt8} {vl v8 v9 : AV} {K2 : AHeap} {K : AK} (ih : Writes gW_expr_id [e.av] (fmtE e)) (qb : K2 b = some (.bld t 69 5)) (q5 : K2 b5 = some (.box e.av)) (n5 : b5 ≠ b)
    (hl : t.length + (sepOf k i).length + (encl (reqOf k e) (fmtE e)).length ≤ lim47)
    (hK : K .norm [(0, .ptr b 0 []), (3, .ptr b3 0 []), (7, vl), (8, v8), (9, v9)] (K2.set b (.bld (t ++ sepOf k i ++ encl (reqOf k e) (fmtE e)) 69 5))) :
    aw PP gW_expr_c25 K [(0, .ptr b 0 []), (3, .ptr b3 0 []), (4, i64 i), (5, .ptr b5 0 []), (7, vl), (8, v8), (9, v9), (15, i64 k)] K2 := by
  by_cases h2 : k = 2
  · subst h2
    have hr : reqOf 2 e = (e.kind == 2 || e.kind == 3) := by simp [reqOf]
    have mid : ∀ (t' : List UInt8) (K3 : AHeap) (env : Env), K3 b = some (.bld t' 69 5) → K3 b5 = some (.box e.av) → t'.length + (encl (reqOf 2 e) (fmtE e)).length ≤ lim47 → K3.set b (.bld (t' ++ encl (reqOf 2 e) (fmtE e)) 69 5) = K2.set b (.bld (t ++ sepOf 2 i ++ encl (reqOf 2 e) (fmtE e)) 69 5) →
        (env = [(0, .ptr b 0 []), (3, .ptr b3 0 []), (5, .ptr b5 0 []), (7, vl), (8, v8), (9, v9)] ∨ env = [(0, .ptr b 0 []), (3, .ptr b3 0 []), (5, .ptr b5 0 []), (7, vl), (8, v8), (9, v9), (25, .bool false)]) →
        aw PP gW_expr_c11 (blockK 2 K) env K3 := by
      intro t' K3 env h1 h5 h3 h4 henv
      rcases henv with rfl | rfl <;>
      · by_cases e2 : e.kind = 2
        · have hq : reqOf 2 e = true := by simp [hr, e2]
          rw [hq] at h3 h4
          rw [hq] at hK
          simp [h5, e2]
          refine (w_enclosed _ _ ih).use h1 h3 ?_
          rw [h4]
          simp [-List.append_assoc]
          exact hK
        · by_cases e3 : e.kind = 3
          · have hq : reqOf 2 e = true := by simp [hr, e3]
            rw [hq] at h3 h4
            rw [hq] at hK
            simp [h5, e3]
            refine (w_enclosed _ _ ih).use h1 h3 ?_
            rw [h4]
            simp [-List.append_assoc]
            exact hK
          · have hq : reqOf 2 e = false := by simp [hr, e2, e3]
            rw [hq] at h3 h4
            rw [hq] at hK
            have e2' : (e.kind == 2) = false := by simp [e2]
            have e3' : (e.kind == 3) = false := by simp [e3]
            simp [h5, e2, e3, e2', e3']
            refine (w_enclosed _ _ ih).use h1 h3 ?_
            rw [h4]
            simp [-List.append_assoc]
            exact hK
    cases i with
    | zero =>
      simp [-gW_expr_c11_eq]
      exact mid t K2 _ qb q5 (by simpa [sepOf] using hl) (by simp [sepOf]) (.inr rfl)
    | succ i =>
      have hp : (0 : Int) < ((i + 1 : Nat) : Int) := by omega
      have hs : sepOf 2 (i + 1) = [32] := by simp [sepOf]
      rw [hs] at hl
      simp at hl
      simp [hp, -gW_expr_c11_eq]
      refine wb_use 32 rfl qb (by omega) ?_
      simp [-gW_expr_c11_eq]
      refine mid (t ++ [32]) _ _ (AHeap.set_same _ _ _) (by rw [AHeap.set_ne _ _ n5]; exact q5) (by simp; omega) (by simp [hs]) (.inl rfl)
  · by_cases h3 : k = 3
    · subst h3
      have hr : reqOf 3 e = (e.kind == 3 || (e.kind == 2 && e.kids.length == 0)) := by simp [reqOf]
      have mid : ∀ (t' : List UInt8) (K3 : AHeap) (env : Env), K3 b = some (.bld t' 69 5) → K3 b5 = some (.box e.av) → t'.length + (encl (reqOf 3 e) (fmtE e)).length ≤ lim47 → K3.set b (.bld (t' ++ encl (reqOf 3 e) (fmtE e)) 69 5) = K2.set b (.bld (t ++ sepOf 3 i ++ encl (reqOf 3 e) (fmtE e)) 69 5) →
          (env = [(0, .ptr b 0 []), (3, .ptr b3 0 []), (5, .ptr b5 0 []), (7, vl), (8, v8), (9, v9)] ∨ env = [(0, .ptr b 0 []), (3, .ptr b3 0 []), (5, .ptr b5 0 []), (7, vl), (8, v8), (9, v9), (44, .bool false)]) →
          aw PP gW_expr_c18 (blockK 2 K) env K3 := by
        intro t' K3 env h1 h5 h3 h4 henv
        rcases henv with rfl | rfl <;>
        · by_cases e3 : e.kind = 3
          · have hq : reqOf 3 e = true := by simp [hr, e3]
            rw [hq] at h3 h4
            rw [hq] at hK
            simp [h5, e3]
            refine (w_enclosed _ _ ih).use h1 h3 ?_
            rw [h4]
            simp [-List.append_assoc]
            exact hK
          · have e3' : (e.kind == 3) = false := by simp [e3]
            by_cases e2 : e.kind = 2
            · by_cases e0 : e.kids = []
              · have hq : reqOf 3 e = true := by simp [hr, e2, e0]
                rw [hq] at h3 h4
                rw [hq] at hK
                simp [h5, e3', e3, e2, e0]
                refine (w_enclosed _ _ ih).use h1 h3 ?_
                rw [h4]
                simp [-List.append_assoc]
                exact hK
              · have hq : reqOf 3 e = false := by simp [hr, e2, e0]
                rw [hq] at h3 h4
                rw [hq] at hK
                have e0' : ¬ e.kids.length = 0 := by simpa using e0
                have e0'' : ((e.kids.length : Int) == 0) = false := by simp; exact e0
                simp [h5, e3', e3, e2, e0, e0', e0'']
                intro hm
                refine (w_enclosed _ _ ih).use h1 h3 ?_
                rw [h4]
                simp [-List.append_assoc]
                exact hK
            · have hq : reqOf 3 e = false := by simp [hr, e2, e3]
              rw [hq] at h3 h4
              rw [hq] at hK
              have e2' : (e.kind == 2) = false := by simp [e2]
              simp [h5, e3', e3, e2, e2']
              refine (w_enclosed _ _ ih).use h1 h3 ?_
              rw [h4]
              simp [-List.append_assoc]
              exact hK
      cases i with
      | zero =>
        simp [-gW_expr_c18_eq]
        exact mid t K2 _ qb q5 (by simpa [sepOf] using hl) (by simp [sepOf]) (.inr rfl)
      | succ i =>
        have hp : (0 : Int) < ((i + 1 : Nat) : Int) := by omega
        have hs : sepOf 3 (i + 1) = [32, 124, 32] := by simp [sepOf]
        rw [hs] at hl
        simp at hl
        simp [hp, -gW_expr_c18_eq]
        refine ws_use qb (by simp; omega) ?_
        simp [-gW_expr_c18_eq]
        refine mid (t ++ [32, 124, 32]) _ _ (AHeap.set_same _ _ _) (by rw [AHeap.set_ne _ _ n5]; exact q5) (by simp; omega) (by simp [hs]) (.inl rfl)
    · have hr : reqOf k e = (e.kind != 1) := by simp [reqOf, h2, h3]
      have hs : sepOf k i = [] := by simp [sepOf, h2, h3]
      have h2' : (k == 2) = false := by simp [h2]
      have h3' : (k == 3) = false := by simp [h3]
      rw [hr, hs] at hl hK
      simp at hl
      by_cases e1 : e.kind = 1
      · simp [h2, h3, h2', h3', q5, e1]
        refine (w_enclosed _ _ ih).use qb (by simpa [e1] using hl) ?_
        simp [e1] at hK
        simp
        exact hK
      · have e1' : (e.kind != 1) = true := by simp [e1]
        simp [h2, h3, h2', h3', q5, e1, e1']
        rw [e1'] at hl hK
        refine (w_enclosed _ _ ih).use qb hl ?_
        simp at hK
        simp
        exact hK

end Go.Av
