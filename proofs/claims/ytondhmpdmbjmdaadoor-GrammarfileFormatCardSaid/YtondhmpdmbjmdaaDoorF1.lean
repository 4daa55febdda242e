/- ref16.FormatExpr: the text of an expression. -/
import Derived.Test.YtondhmpdmbjmdaaDoorFnsF
import Derived.Test.YtondhmpdmbjmdaaDoorFmt
import Derived.Test.YtondhmpdmbjmdaaDoorSiz
import Derived.Test.YtondhmpdmbjmdaaDoorRT5
set_option linter.unusedVariables false
set_option linter.unusedSimpArgs false
namespace Go.Av
open Go Go.Proofs

@[simp] theorem GE.av_at0' (e : GE) : e.av.at_ [0] = some (i64 e.kind) := by cases e; rw [GE.av_mk]; rfl
@[simp] theorem GE.av_offs0' (e : GE) : e.av.offs [0] = 0 := by cases e; rw [GE.av_mk]; rfl
@[simp] theorem GE.av_at2' (e : GE) : e.av.at_ [2] = some (.list 3 (e.kids.map GE.av)) := by cases e; rw [GE.av_mk]; rfl
@[simp] theorem GE.av_offs2' (e : GE) : e.av.offs [2] = 2 := by cases e; rw [GE.av_mk]; rfl

abbrev Lim : Nat := 2000000
theorem Lim_eq : Lim = 2000000 := rfl

theorem r16_kid (x : GE) (q : Bool) (H : AHeap) (hl : (encl q (fmtE x)).length ≤ Lim) (hx : ∀ H', Pure r6_FE_id [x.av] H' (.str (fmtE x))) : Pure r6_kid_id [x.av, .bool q] H (.str (encl q (fmtE x))) := by
  have hml := maxLen_eq
  have hLim := Lim_eq
  refine r6_kid_enter rfl ?_
  simp [r6_kid_rs, allocQ]
  intro b2 hb2
  have q2 : (H.set b2 (.box x.av)) b2 = some (.box x.av) := AHeap.set_same _ _ _
  have hle : HLe H (H.set b2 (.box x.av)) := .set hb2
  generalize H.set b2 (.box x.av) = H1 at q2 hle ⊢
  cases q
  · simp
    refine (hx H1).use ?_
    simp [encl]
    exact hle
  · have hl' : (fmtE x).length + 2 ≤ Lim := by simpa [encl] using hl
    simp
    refine (hx H1).use ?_
    simp [encl]
    refine ⟨by omega, by omega, hle⟩

structure FESt where
  done : List GE
  rest : List GE

theorem fmtL_snoc (k : Int) (l : List GE) (e : GE) : fmtL k 0 (l ++ [e]) = fmtL k 0 l ++ (sepOf k l.length ++ encl (reqOf k e) (fmtE e)) := by
  rw [fmtL_append, fmtL_cons, fmtL_nil]; simp
theorem fmtL_split (k : Int) (l : List GE) (e : GE) (m : List GE) : (fmtL k 0 (l ++ e :: m)).length = (fmtL k 0 l).length + (sepOf k l.length).length + (encl (reqOf k e) (fmtE e)).length + (fmtL k (l.length + 1) m).length := by
  rw [fmtL_append, fmtL_cons]
  simp only [List.length_append, Nat.zero_add]
  omega
theorem encl_ge (b : Bool) (t : List UInt8) : t.length ≤ (encl b t).length := by cases b <;> simp [encl] <;> omega

/-- The kids can be written. -/
def KidsF (l : List GE) : Prop := ∀ x ∈ l, (fmtE x).length ≤ Lim → ∀ H, Pure r6_FE_id [x.av] H (.str (fmtE x))

set_option maxHeartbeats 4000000 in
theorem fe_seq {b1 : Nat} {nm : List UInt8} {kids : List GE} {H1 : AHeap} {K : AK} (q1 : H1 b1 = some (.box (.struct [i64 2, .str nm, .list 3 (kids.map GE.av)]))) (hk : KidsF kids) (hl : (fmtL 2 0 kids).length ≤ Lim)
    (hK : ∀ j : Int, K .norm [(1, .ptr b1 0 []), (3, .str (fmtL 2 0 kids)), (4, i64 j), (41, .bool false)] H1) :
    aw PP r6_FE_c22 K [(1, .ptr b1 0 []), (3, .str []), (7, i64 2), (35, .bool true)] H1 := by
  have hml := maxLen_eq
  have hLim := Lim_eq
  simp [-r6_FE_c15_eq]
  refine aw_loopK (fun x : FESt => kids = x.done ++ x.rest) (fun x => [(1, .ptr b1 0 []), (3, .str (fmtL 2 0 x.done)), (4, i64 x.done.length)]) (fun _ => H1) (fun x => x.rest.length) ⟨[], kids⟩ rfl (by rw [fmtL_nil]; rfl) rfl ?_
  rintro ⟨done, rest⟩ he
  simp only at he
  simp only
  cases rest with
  | nil =>
    simp at he
    subst he
    simp [q1]
    exact fun _ => hK _
  | cons e rest =>
    have hlt : (done.length : Int) < kids.length := by rw [he]; simp; omega
    have hlt' : done.length < kids.length := by omega
    have hlt2 : ¬ kids.length ≤ done.length := by omega
    have hat : kids[done.length]? = some e := by rw [he]; simp
    have hget : kids[done.length] = e := by rw [List.getElem?_eq_getElem hlt'] at hat; injection hat
    have hsp := fmtL_split 2 done e rest
    rw [← he] at hsp
    have hge := encl_ge (reqOf 2 e) (fmtE e)
    have hke := hk e (by rw [he]; simp) (by omega)
    have e9 : ((done ++ [e]).length : Int) = done.length + 1 := by simp
    have hr : reqOf 2 e = (e.kind == 2 || e.kind == 3) := by simp [reqOf]
    have hkid := fun H => r16_kid e (reqOf 2 e) H (by omega) hke
    have hav : e.av = .struct [i64 e.kind, .str e.name, .list 3 (e.kids.map GE.av)] := by cases e; rw [GE.av_mk]; rfl
    simp only [hav] at hkid
    simp [q1, hlt, hlt', hlt2, -r6_FE_c15_eq]
    refine fun _ => ?_
    have mid : ∀ t env, t = fmtL 2 0 done ++ sepOf 2 done.length → (env = [(1, AV.ptr b1 0 []), (3, .str t), (4, i64 done.length)] ∨ env = [(1, AV.ptr b1 0 []), (3, .str t), (4, i64 done.length), (45, .bool false)]) →
        aw PP r6_FE_c14 (blockK 3 (seqK PP r6_FE_c17 (loopK (fun x : FESt => kids = x.done ++ x.rest) (fun x => [(1, .ptr b1 0 []), (3, .str (fmtL 2 0 x.done)), (4, i64 x.done.length)]) (fun _ => H1) (fun x => x.rest.length) (e :: rest).length (blockK 2 K)))) env H1 := by
      intro t env ht henv
      have htl : t.length = (fmtL 2 0 done).length + (sepOf 2 done.length).length := by rw [ht]; simp
      have fin : t ++ encl (reqOf 2 e) (fmtE e) = fmtL 2 0 (done ++ [e]) := by rw [fmtL_snoc, ht]; simp
      refine r6_FE_c14_lex ?_
      by_cases e2 : e.kind = 2
      · have hq : reqOf 2 e = true := by simp [hr, e2]
        rw [hq] at hkid fin hge
        simp only [e2] at hkid
        rcases henv with rfl | rfl <;>
        · simp [q1, hlt', hlt2, hat, hget, hav, e2]
          refine ⟨_, hkid _, ?_⟩
          simp
          refine ⟨by rw [hq] at hsp; omega, ?_⟩
          rw [wrap64 (by omega) (by omega)]
          refine loopK_next ⟨done ++ [e], rest⟩ (by simp [he]) (by simp) (by simp only [e9, ← fin]; exact EnvLe.refl _) (.refl _)
      · have e2' : (e.kind == 2) = false := by simp [e2]
        by_cases e3 : e.kind = 3
        · have hq : reqOf 2 e = true := by simp [hr, e3]
          rw [hq] at hkid fin hge
          simp only [e3] at hkid
          rcases henv with rfl | rfl <;>
          · simp [q1, hlt', hlt2, hat, hget, hav, e2, e2', e3]
            refine ⟨_, hkid _, ?_⟩
            simp
            refine ⟨by rw [hq] at hsp; omega, ?_⟩
            rw [wrap64 (by omega) (by omega)]
            refine loopK_next ⟨done ++ [e], rest⟩ (by simp [he]) (by simp) (by simp only [e9, ← fin]; exact EnvLe.refl _) (.refl _)
        · have hq : reqOf 2 e = false := by simp [hr, e2, e3]
          have e3' : (e.kind == 3) = false := by simp [e3]
          rw [hq] at hkid fin hge
          rcases henv with rfl | rfl <;>
          · simp [q1, hlt', hlt2, hat, hget, hav, e2, e2', e3, e3']
            refine ⟨_, hkid _, ?_⟩
            simp
            refine ⟨by rw [hq] at hsp; omega, ?_⟩
            rw [wrap64 (by omega) (by omega)]
            refine loopK_next ⟨done ++ [e], rest⟩ (by simp [he]) (by simp) (by simp only [e9, ← fin]; exact EnvLe.refl _) (.refl _)
    cases done with
    | nil =>
      simp [-r6_FE_c17_eq]
      exact mid _ _ (by simp [sepOf]) (.inr rfl)
    | cons d0 ds =>
      have hp0 : (0 : Int) < ((d0 :: ds).length : Int) := by rw [List.length_cons]; omega
      have hs : sepOf 2 (d0 :: ds).length = [32] := by simp [sepOf]
      rw [hs] at hsp
      simp only [List.length_cons] at hp0 hsp
      simp [hp0, -r6_FE_c17_eq]
      refine ⟨by simp at hsp; omega, ?_⟩
      exact mid _ _ (by rw [hs]) (.inl rfl)
end Go.Av
