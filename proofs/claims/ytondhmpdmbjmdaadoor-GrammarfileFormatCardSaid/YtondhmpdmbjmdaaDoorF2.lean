/- ref16.FormatExpr: alternatives. -/
import Derived.Test.YtondhmpdmbjmdaaDoorFnsF
import Derived.Test.YtondhmpdmbjmdaaDoorF1
set_option linter.unusedVariables false
set_option linter.unusedSimpArgs false
namespace Go.Av
open Go Go.Proofs

theorem fmtL2_len : ∀ (l : List GE) (i : Nat), l.length ≤ (fmtL 2 (i + 1) l).length
  | [], i => by simp
  | e :: l, i => by
    have := fmtL2_len l (i + 1)
    rw [fmtL_cons]
    simp only [List.length_append, List.length_cons]
    have h : (sepOf 2 (i + 1)).length = 1 := by simp [sepOf]
    omega
theorem kids_len {e : GE} (h : e.kind = 2) : e.kids.length ≤ (fmtE e).length + 1 := by
  obtain ⟨k, nm, l⟩ := e
  simp only [GE.kind] at h
  subst h
  rw [fmtE_mk]
  cases l with
  | nil => simp [GE.kids]
  | cons x l =>
    have := fmtL2_len l 0
    rw [fmtL_cons]
    simp only [GE.kids, List.length_cons, List.length_append]
    omega

set_option maxRecDepth 100000 in
set_option maxHeartbeats 4000000 in
theorem fe_alt {b1 : Nat} {nm : List UInt8} {kids : List GE} {H1 : AHeap} {K : AK} (q1 : H1 b1 = some (.box (.struct [i64 3, .str nm, .list 3 (kids.map GE.av)]))) (hk : KidsF kids) (hl : (fmtL 3 0 kids).length ≤ Lim)
    (hK : ∀ j : Int, K .norm [(1, .ptr b1 0 []), (3, .str (fmtL 3 0 kids)), (5, i64 j), (78, .bool false)] H1) :
    aw PP r6_FE_c40 K [(1, .ptr b1 0 []), (3, .str []), (72, .bool true)] H1 := by
  have hml := maxLen_eq
  have hLim := Lim_eq
  simp [-r6_FE_c33_eq]
  refine aw_loopK (fun x : FESt => kids = x.done ++ x.rest) (fun x => [(1, .ptr b1 0 []), (3, .str (fmtL 3 0 x.done)), (5, i64 x.done.length)]) (fun _ => H1) (fun x => x.rest.length) ⟨[], kids⟩ rfl (by rw [fmtL_nil]; rfl) rfl ?_
  rintro ⟨done, rest⟩ he
  simp only at he
  simp only
  cases rest with
  | nil =>
    simp at he
    subst he
    simp [q1]
    exact fun _ => hK _
  | cons e rest =>
    have hlt : (done.length : Int) < kids.length := by rw [he]; simp; omega
    have hlt' : done.length < kids.length := by omega
    have hlt2 : ¬ kids.length ≤ done.length := by omega
    have hat : kids[done.length]? = some e := by rw [he]; simp
    have hget : kids[done.length] = e := by rw [List.getElem?_eq_getElem hlt'] at hat; injection hat
    have hsp := fmtL_split 3 done e rest
    rw [← he] at hsp
    have hge := encl_ge (reqOf 3 e) (fmtE e)
    have hle0 : (fmtE e).length ≤ Lim := by omega
    have hke := hk e (by rw [he]; simp) hle0
    have e9 : ((done ++ [e]).length : Int) = done.length + 1 := by simp
    have hr : reqOf 3 e = (e.kind == 3 || (e.kind == 2 && e.kids.length == 0)) := by simp [reqOf]
    have hkid := fun H => r16_kid e (reqOf 3 e) H (by omega) hke
    have hav : e.av = .struct [i64 e.kind, .str e.name, .list 3 (e.kids.map GE.av)] := by cases e; rw [GE.av_mk]; rfl
    simp only [hav] at hkid
    simp [q1, hlt, hlt', hlt2, -r6_FE_c33_eq]
    refine fun _ => ?_
    have mid : ∀ t env, t = fmtL 3 0 done ++ sepOf 3 done.length → (env = [(1, AV.ptr b1 0 []), (3, .str t), (5, i64 done.length)] ∨ env = [(1, AV.ptr b1 0 []), (3, .str t), (5, i64 done.length), (82, .bool false)]) →
        aw PP r6_FE_c32 (blockK 5 (seqK PP r6_FE_c35 (loopK (fun x : FESt => kids = x.done ++ x.rest) (fun x => [(1, .ptr b1 0 []), (3, .str (fmtL 3 0 x.done)), (5, i64 x.done.length)]) (fun _ => H1) (fun x => x.rest.length) (e :: rest).length (blockK 4 K)))) env H1 := by
      intro t env ht henv
      have htl : t.length = (fmtL 3 0 done).length + (sepOf 3 done.length).length := by rw [ht]; simp
      have fin : t ++ encl (reqOf 3 e) (fmtE e) = fmtL 3 0 (done ++ [e]) := by rw [fmtL_snoc, ht]; simp
      refine r6_FE_c32_lex ?_
      by_cases e3 : e.kind = 3
      · have hq : reqOf 3 e = true := by simp [hr, e3]
        rw [hq] at hkid fin hge
        simp only [e3] at hkid
        rcases henv with rfl | rfl <;>
        · simp [q1, hlt', hlt2, hat, hget, hav, e3]
          refine ⟨_, hkid _, ?_⟩
          simp
          refine ⟨by rw [hq] at hsp; omega, ?_⟩
          rw [wrap64 (by omega) (by omega)]
          refine loopK_next ⟨done ++ [e], rest⟩ (by simp [he]) (by simp) (by simp only [e9, ← fin]; exact EnvLe.refl _) (.refl _)
      · have e3' : (e.kind == 3) = false := by simp [e3]
        by_cases e2 : e.kind = 2
        · by_cases e0 : e.kids = []
          · have hq : reqOf 3 e = true := by simp [hr, e2, e0]
            rw [hq] at hkid fin hge
            simp only [e2, e0] at hkid
            rcases henv with rfl | rfl <;>
            · simp [q1, hlt', hlt2, hat, hget, hav, e2, e3, e3', e0]
              have hkid' : Pure r6_kid_id [.struct [i64 2, .str e.name, .list 3 []], .bool true] H1 (.str (encl true (fmtE e))) := by simpa using hkid H1
              refine ⟨_, hkid', ?_⟩
              simp
              refine ⟨by rw [hq] at hsp; omega, ?_⟩
              rw [wrap64 (by omega) (by omega)]
              refine loopK_next ⟨done ++ [e], rest⟩ (by simp [he]) (by simp) (by simp only [e9, ← fin]; exact EnvLe.refl _) (.refl _)
          · have hq : reqOf 3 e = false := by simp [hr, e2, e0]
            have e0' : ¬ e.kids.length = 0 := by simpa using e0
            have e0'' : ((e.kids.length : Int) == 0) = false := by simp; exact e0
            rw [hq] at hkid fin hge
            simp only [e2] at hkid
            rcases henv with rfl | rfl <;>
            · simp [q1, hlt', hlt2, hat, hget, hav, e2, e3, e3', e0, e0', e0'']
              refine ⟨by have := kids_len e2; omega, _, hkid _, ?_⟩
              simp
              refine ⟨by rw [hq] at hsp; omega, ?_⟩
              rw [wrap64 (by omega) (by omega)]
              refine loopK_next ⟨done ++ [e], rest⟩ (by simp [he]) (by simp) (by simp only [e9, ← fin]; exact EnvLe.refl _) (.refl _)
        · have hq : reqOf 3 e = false := by simp [hr, e2, e3]
          have e2' : (e.kind == 2) = false := by simp [e2]
          rw [hq] at hkid fin hge
          rcases henv with rfl | rfl <;>
          · simp [q1, hlt', hlt2, hat, hget, hav, e2, e2', e3, e3']
            refine ⟨_, hkid _, ?_⟩
            simp
            refine ⟨by rw [hq] at hsp; omega, ?_⟩
            rw [wrap64 (by omega) (by omega)]
            refine loopK_next ⟨done ++ [e], rest⟩ (by simp [he]) (by simp) (by simp only [e9, ← fin]; exact EnvLe.refl _) (.refl _)
    cases done with
    | nil =>
      simp [-r6_FE_c35_eq]
      exact mid _ _ (by simp [sepOf]) (.inr rfl)
    | cons d0 ds =>
      have hp0 : (0 : Int) < ((d0 :: ds).length : Int) := by rw [List.length_cons]; omega
      have hs : sepOf 3 (d0 :: ds).length = [32, 124, 32] := by simp [sepOf]
      rw [hs] at hsp
      simp only [List.length_cons] at hp0 hsp
      simp [hp0, -r6_FE_c35_eq]
      refine ⟨by simp at hsp; omega, ?_⟩
      exact mid _ _ (by rw [hs]) (.inl rfl)

set_option maxRecDepth 100000 in
set_option maxHeartbeats 4000000 in
theorem r16_FormatExpr : ∀ (n : Nat) (x : GE), SizeOf.sizeOf x ≤ n → ∀ (d : Nat), exprOK d x = true → (fmtE x).length ≤ Lim → ∀ H, Pure r6_FE_id [x.av] H (.str (fmtE x))
  | 0, .mk k nm kids, h => by simp at h
  | n + 1, .mk k nm kids, h => by
    intro d he hl H
    have hml := maxLen_eq
    have hLim := Lim_eq
    obtain ⟨d', rfl, hn, hk, hkl⟩ := exprOK_mk he
    have ih : KidsF kids := fun x hx hlx => r16_FormatExpr n x (by
      have := List.sizeOf_lt_of_mem hx
      simp at h
      omega) d' (hkl x hx) hlx
    rw [fmtE_mk] at hl ⊢
    rw [List.length_append] at hl
    refine r6_FE_enter rfl ?_
    simp [r6_FE_rs, allocQ, -r6_FE_c66_eq]
    intro b1 hb1
    have q1 : (H.set b1 (.box (GE.mk k nm kids).av)) b1 = some (.box (.struct [i64 k, .str nm, .list 3 (kids.map GE.av)])) := by rw [AHeap.set_same, GE.av_mk]
    have hle : HLe H (H.set b1 (.box (GE.mk k nm kids).av)) := .set hb1
    generalize H.set b1 (.box (GE.mk k nm kids).av) = H1 at q1 hle ⊢
    rcases kindOK_cases hk with ⟨rfl, h1, h2⟩ | ⟨rfl, h1⟩ | ⟨rfl, h1⟩ | ⟨h1, h2⟩
    · have : kids = [] := by simpa using h2
      subst this
      simp [q1, fmtL_nil, sufOf]
      exact hle
    · simp [q1, -r6_FE_c22_eq]
      refine fe_seq q1 ih (by omega) fun j => ?_
      simp [sufOf]
      exact hle
    · simp [q1, -r6_FE_c40_eq]
      refine fe_alt q1 ih (by omega) fun j => ?_
      simp [sufOf]
      exact hle
    · obtain ⟨x, rfl⟩ : ∃ x, kids = [x] := by
        match kids, h2 with
        | [x], _ => exact ⟨x, rfl⟩
      have hav : x.av = .struct [i64 x.kind, .str x.name, .list 3 (x.kids.map GE.av)] := by cases x; rw [GE.av_mk]; rfl
      have hrq : reqOf k x = (x.kind != 1) := by unfold reqOf; rcases h1 with rfl | rfl | rfl <;> rfl
      have hfl : fmtL k 0 [x] = encl (x.kind != 1) (fmtE x) := by
        rw [fmtL_cons, fmtL_nil, hrq]; simp [sepOf]
      rw [hfl] at hl ⊢
      have hge := encl_ge (x.kind != 1) (fmtE x)
      have hkid := fun H => r16_kid x (x.kind != 1) H (by omega) (ih x (by simp) (by omega))
      simp only [hav] at hkid
      rcases h1 with rfl | rfl | rfl
      · have hs : sufOf 4 nm = [63] := rfl
        rw [hs] at hl ⊢
        simp [q1]
        refine r6_FE_c41_lex ?_
        simp [q1, hav]
        refine ⟨_, hkid _, ?_⟩
        simp [q1]
        exact ⟨by simp at hl; omega, hle⟩
      · have hs : sufOf 5 nm = [42] := rfl
        rw [hs] at hl ⊢
        simp [q1]
        refine r6_FE_c41_lex ?_
        simp [q1, hav]
        refine ⟨_, hkid _, ?_⟩
        simp [q1]
        exact ⟨by simp at hl; omega, hle⟩
      · have hs : sufOf 6 nm = [43] := rfl
        rw [hs] at hl ⊢
        simp [q1]
        refine r6_FE_c41_lex ?_
        simp [q1, hav]
        refine ⟨_, hkid _, ?_⟩
        simp [q1]
        exact ⟨by simp at hl; omega, hle⟩
end Go.Av
