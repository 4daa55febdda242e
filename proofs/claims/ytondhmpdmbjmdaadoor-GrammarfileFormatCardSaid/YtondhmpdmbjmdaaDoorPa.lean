/- Part of the proof: Pa. No condition. -/
import Derived.Test.YtondhmpdmbjmdaaDoorCf
import Derived.Test.YtondhmpdmbjmdaaDoorFns9
set_option linter.unusedVariables false
set_option linter.unusedSimpArgs false
namespace Go.Av
/-- The rules, to the text's end. -/
def rulesM (e F : Nat) : Nat → List Tok → PR (List GR)
  | 0, _ => .error (e + 1)
  | _ + 1, [] => .ok ([], [])
  | g + 1, t :: l => match ruleM e F (t :: l) with
    | .error k => .error k
    | .ok (x, l1) => consM x (rulesM e F g l1)

def progM (e F : Nat) (l : List Tok) : Except Nat GF :=
  match expM e kwStart l with
  | .error k => .error k
  | .ok l1 =>
    if isNameT (peekT e l1) then
      match expM e [59] l1.tail with
      | .error k => .error k
      | .ok l2 => match levelsM e F l2 with
        | .error k => .error k
        | .ok (lv, l3) => match rulesM e F F l3 with
          | .error k => .error k
          | .ok (rs, _) => .ok ⟨(peekT e l1).text, lv, rs⟩
    else .error (peekT e l1).at_

theorem lexL_len : ∀ (f k : Nat) (r : List UInt8), (lexL f k r).length ≤ r.length
  | 0, k, r => by simp [lexL]
  | f + 1, k, [] => by simp [lexL]
  | f + 1, k, c :: r => by
    have h := lexStep_pos k c r
    have ih := lexL_len f (k + (lexStep k c (c :: r)).2) ((c :: r).drop (lexStep k c (c :: r)).2)
    simp only [lexL, List.length_append]
    have h1 : (lexStep k c (c :: r)).1.toList.length ≤ 1 := by cases (lexStep k c (c :: r)).1 <;> simp
    rw [List.length_drop] at ih
    simp only [List.length_cons] at ih ⊢
    omega

theorem lex_len (s : List UInt8) : (lex s).length ≤ s.length := lexL_len _ _ _

theorem namesM_tok (e : Nat) : ∀ (l : List Tok), (namesM e l).1.length + (namesM e l).2.length ≤ l.length
  | [] => by simp [namesM]
  | t :: r => by
    simp only [namesM]
    split
    · have := namesM_tok e r
      simp; omega
    · simp

theorem levelM_tok {e : Nat} {a : Int} {t : Tok} {l l' : List Tok} {x : GL} (h : levelM e a (t :: l) = .ok (x, l')) : x.tokens.length + l'.length ≤ l.length := by
  by_cases hn : isNameT (peekT e l) = true
  · obtain ⟨t1, r, rfl, _⟩ := isNameT_cons hn
    simp only [levelM, List.tail_cons, hn, if_true] at h
    split at h
    · cases h
    · rename_i r' hr
      obtain ⟨t2, e2, _⟩ := expM_ok hr
      injection h with h
      injection h with q1 q2
      subst q1 q2
      have := namesM_tok e r
      rw [e2] at this
      simp at *; omega
  · have hn' : isNameT (peekT e l) = false := by simpa using hn
    simp only [levelM, List.tail_cons, hn', Bool.false_eq_true, if_false] at h
    cases h

theorem levelsM_tok (e : Nat) : ∀ (f : Nat) (l l' : List Tok) (x : List GL), levelsM e f l = .ok (x, l') → (x.flatMap GL.tokens).length + l'.length ≤ l.length
  | 0, l, l', x, h => by simp [levelsM] at h
  | f + 1, l, l', x, h => by
    simp only [levelsM] at h
    split at h
    · injection h with h
      injection h with h1 h2
      subst h1 h2; simp
    · rename_i a ha
      cases l with
      | nil => simp [assocOf, kwLeft, kwRight, kwNone] at ha
      | cons t r =>
        split at h
        · cases h
        · rename_i y l1 hy
          obtain ⟨xs, h1, e1⟩ := consM_ok h
          subst e1
          have := levelM_tok hy
          have := levelsM_tok e f _ _ _ h1
          simp at *; omega

theorem sub_file {nm : List UInt8} {v w : AV} {lv : List GL} {rs : List GR} (h : Sub v (.list 2 (lv.map GL.av))) (k : Sub w (.list 2 (rs.map GR.av))) : Sub (.struct [.str nm, v, w]) (GF.av ⟨nm, lv, rs⟩) := by
  unfold GF.av
  refine .struct rfl (fun j x y hx hy => ?_) (fun x hx => ?_)
  · match j with
    | 0 => simp at hx hy; subst hx hy; exact .refl _
    | 1 => simp at hx hy; subst hx hy; exact h
    | 2 => simp at hx hy; subst hx hy; exact k
    | n + 3 => simp at hx
  · simp at hx
    rcases hx with rfl | rfl | rfl <;> simp

def zGF : AV := .struct [.str [], .nils, .nils]
/-- The heap with the boxes of the results. -/
def E3 (H : AHeap) (b2 b3 b4 : Nat) (v : AV) (at_ err : Int) : AHeap := ((H.set b2 (.box v)).set b3 (.box (i64 at_))).set b4 (.box (i64 err))

theorem E3_zero {H : AHeap} {b2 b3 b4 : Nat} {v : AV} (n23 : b2 ≠ b3) (n24 : b2 ≠ b4) (n34 : b3 ≠ b4) (h3 : H b3 = some (.box (i64 0))) (h4 : H b4 = some (.box (i64 0))) : E3 H b2 b3 b4 v 0 0 = H.set b2 (.box v) := by
  funext x
  simp only [E3, AHeap.set]
  grind

theorem HLe.set2 {A B : AHeap} (h : HLe A B) (b : Nat) (o : AObj) : HLe (A.set b o) (B.set b o) := by
  refine ⟨fun x v hx => ?_, fun x n s e hx => ?_, fun x o' ho hx => ?_⟩
  · by_cases hb : x = b
    · subst hb; rw [AHeap.set_same] at hx ⊢; exact .inl hx
    · rw [AHeap.set_ne _ _ hb] at hx ⊢; exact h.box x v hx
  · by_cases hb : x = b
    · subst hb; rw [AHeap.set_same] at hx ⊢; exact hx
    · rw [AHeap.set_ne _ _ hb] at hx ⊢; exact h.row x n s e hx
  · by_cases hb : x = b
    · subst hb; rw [AHeap.set_same] at hx ⊢; exact hx
    · rw [AHeap.set_ne _ _ hb] at hx ⊢; exact h.x x o' ho hx

theorem HLe.setSub {A : AHeap} {v v' : AV} (b : Nat) (h : Sub v v') (hu : v' ≠ .undef) : HLe (A.set b (.box v')) (A.set b (.box v)) := by
  refine ⟨fun x w hx => ?_, fun x n s e hx => ?_, fun x o' ho hx => ?_⟩
  · by_cases hb : x = b
    · subst hb; rw [AHeap.set_same] at hx ⊢
      injection hx with hx; injection hx with hx; subst hx
      exact .inr ⟨hu, v, rfl, h⟩
    · rw [AHeap.set_ne _ _ hb] at hx ⊢; exact .inl hx
  · by_cases hb : x = b
    · subst hb; rw [AHeap.set_same] at hx; cases hx
    · rw [AHeap.set_ne _ _ hb] at hx ⊢; exact hx
  · by_cases hb : x = b
    · subst hb; rw [AHeap.set_same] at hx; injection hx with hx; subst hx; cases ho
    · rw [AHeap.set_ne _ _ hb] at hx ⊢; exact hx

theorem E3_sub {A : AHeap} {b2 b3 b4 : Nat} {v v' : AV} {x y : Int} (h : Sub v v') (hu : v' ≠ .undef) : HLe (E3 A b2 b3 b4 v' x y) (E3 A b2 b3 b4 v x y) := ((HLe.setSub b2 h hu).set2 _ _).set2 _ _
theorem E3_up {A B : AHeap} {b2 b3 b4 : Nat} {w : AV} {x y : Int} (h : HLe A B) : HLe (E3 A b2 b3 b4 w x y) (E3 B b2 b3 b4 w x y) := ((h.set2 _ _).set2 _ _).set2 _ _
theorem E3_E3 {A : AHeap} {b2 b3 b4 : Nat} {v w : AV} {x y x' y' : Int} : E3 (E3 A b2 b3 b4 v x y) b2 b3 b4 w x' y' = E3 A b2 b3 b4 w x' y' := by
  funext z
  simp only [E3, AHeap.set]
  grind

structure PsSt where
  v : AV
  H : AHeap
  l : List Tok
  done : List GR
  g : Nat

set_option maxHeartbeats 2000000 in
theorem gp_Parse_body {H0 : AHeap} {b2 b3 b4 : Nat} (s : List UInt8) (hs : s.length ≤ 1000000) (n23 : b2 ≠ b3) (n24 : b2 ≠ b4) (n34 : b3 ≠ b4)
    (h2 : H0 b2 = some (.box zGF)) (h3 : H0 b3 = some (.box (i64 0))) (h4 : H0 b4 = some (.box (i64 0))) (F : Nat) (hF : 3 * s.length + 3 ≤ F) (K : AK)
    (hok : ∀ f H', progM s.length F (lex s) = .ok f → validM f = true → HLe (E3 H0 b2 b3 b4 f.av 0 0) H' → K .ret [(2, .ptr b2 0 []), (3, .ptr b3 0 []), (4, .ptr b4 0 [])] H')
    (harg : ∀ f H', progM s.length F (lex s) = .ok f → validM f = false → HLe (E3 H0 b2 b3 b4 zGF 0 1) H' → K .ret [(2, .ptr b2 0 []), (3, .ptr b3 0 []), (4, .ptr b4 0 [])] H')
    (herr : ∀ k v H', progM s.length F (lex s) = .error k → v.size = 3 → v.sto = true → HLe (E3 H0 b2 b3 b4 v 0 0) H' → K (.pan (synErr k)) [] H') :
    aw PP gP_Parse_p1_ac K [(0, .str s), (2, .ptr b2 0 []), (3, .ptr b3 0 []), (4, .ptr b4 0 [])] H0 := by
  have hll := lex_len s
  simp [allocQ, -gP_Parse_c30_eq]
  refine (gp_lex s hs H0).use ?_
  simp [allocQ, -gP_Parse_c30_eq]
  intro hm bp hbp
  have e2 : bp ≠ b2 := by rintro rfl; rw [h2] at hbp; cases hbp
  have e3 : bp ≠ b3 := by rintro rfl; rw [h3] at hbp; cases hbp
  have e4 : bp ≠ b4 := by rintro rfl; rw [h4] at hbp; cases hbp
  generalize s.length = e at *
  generalize lex s = l at *
  have hst : H0.set bp (.box (.struct [.list 4 (l.map Tok.av), i64 e])) = Bs H0 bp b2 e zGF l := by
    unfold Bs
    funext x
    simp only [AHeap.set, rdr]
    grind
  rw [hst]
  clear hst
  have sz : zGF.size = 3 := rfl
  have so : zGF.sto = true := rfl
  have fin0 : ∀ z l, HLe (E3 H0 b2 b3 b4 z 0 0) (Bs H0 bp b2 e z l) := by
    intro z l
    rw [E3_zero n23 n24 n34 h3 h4]
    unfold Bs
    rw [set_comm_heap e2]
    exact .set (by rw [AHeap.set_ne _ _ e2]; exact hbp)
  generalize hpm : progM e F l = pm at *
  unfold progM at hpm
  simp [-gP_Parse_c29_eq]
  refine gp_expM kwStart (by simp [kwStart]) (Bs_bp e2) ?_
  cases q0 : expM e kwStart l with
  | error k =>
    simp only [q0] at hpm
    subst hpm
    simp [synErr]
    exact herr k zGF _ rfl sz so (fin0 _ _)
  | ok l1 =>
    obtain ⟨t0, rfl, _⟩ := expM_ok q0
    simp only [q0] at hpm
    simp only [List.length_cons] at hll
    simp only []
    rw [Bs_set e2]
    simp [-gP_Parse_c28_eq]
    refine gp_name (Bs_bp e2) (fun t1 r he hn => ?_) fun hn => ?_
    · subst he
      simp only [peekT_cons, hn, if_true, List.tail_cons] at hpm
      simp only [List.length_cons] at hll
      rw [Bs_set e2]
      simp [Bs_b2, zGF, -gP_Parse_c28_eq]
      rw [Bs_set2]
      simp [-gP_Parse_c27_eq]
      refine gp_expM [59] (by simp) (Bs_bp e2) ?_
      cases q1 : expM e [59] r with
      | error k =>
        simp only [q1] at hpm
        subst hpm
        simp [synErr]
        exact herr k _ _ rfl rfl rfl (fin0 _ _)
      | ok l2 =>
        obtain ⟨t2, rfl, _⟩ := expM_ok q1
        simp only [q1] at hpm
        simp only [List.length_cons] at hll
        simp only []
        rw [Bs_set e2]
        simp [-gP_Parse_c26_eq]
        refine gp_levels (f := F) (Bs_bp e2) (by omega) (by omega) ?_
        cases q2 : levelsM e F l2 with
        | error k =>
          simp only [q2] at hpm
          subst hpm
          intro l'
          rw [Bs_set e2]
          simp [synErr]
          exact herr k _ _ rfl rfl rfl (fin0 _ _)
        | ok p =>
          obtain ⟨lv, l3⟩ := p
          have k1 := levelsM_len e F _ _ _ q2
          have k2 := levelsM_tok e F _ _ _ q2
          simp only [q2] at hpm
          simp only [PRpost]
          rw [Bs_set e2]
          simp [Bs_b2, -gP_Parse_c26_eq]
          rw [Bs_set2]
          generalize hz : AV.struct [.str t1.text, .list 2 (lv.map GL.av), .nils] = z
          have zs : z.size = 3 := by subst hz; rfl
          have zo : z.sto = true := by subst hz; rfl
          simp [-gP_Parse_c24_eq]
          refine aw_loopK (fun x : PsSt => Grows (Bs H0 bp b2 e z x.l) 41 2 (x.done.map GR.av) x.v x.H ∧ x.done.length + x.l.length ≤ l3.length ∧ x.l.length < x.g ∧ rulesM e F F l3 = prepM x.done (rulesM e F x.g x.l))
            (fun x => [(2, .ptr b2 0 []), (3, .ptr b3 0 []), (4, .ptr b4 0 []), (5, .ptr bp 0 []), (6, x.v)]) (fun x => x.H) (fun x => x.l.length)
            ⟨.nils, _, l3, [], F⟩ ⟨Grows.nil _ _ _, by simp, by simp only; omega, (prepM_nil _).symm⟩ rfl rfl ?_
          rintro ⟨v, Hs, l', done, g⟩ ⟨hg, hnn, hgf, he⟩
          simp only at hg hnn hgf he
          obtain ⟨g, rfl⟩ : ∃ g', g = g' + 1 := ⟨g - 1, by omega⟩
          have hbs := hg.get (Bs_bp e2)
          have hb2 := hg.get Bs_b2
          cases l' with
          | nil =>
            simp only [rulesM, prepM, List.append_nil] at he
            simp only [he] at hpm
            subst hpm
            simp [hbs, rdr, -gP_Parse_c24_eq]
            have q3 : Hs b3 = some (.box (i64 0)) := hg.get (by unfold Bs; rw [AHeap.set_ne _ _ (Ne.symm n23), AHeap.set_ne _ _ (Ne.symm e3)]; exact h3)
            have q4 : Hs b4 = some (.box (i64 0)) := hg.get (by unfold Bs; rw [AHeap.set_ne _ _ (Ne.symm n24), AHeap.set_ne _ _ (Ne.symm e4)]; exact h4)
            have hg5 := hg.set (o := .box (.struct [.str t1.text, .list 2 (lv.map GL.av), v])) Bs_b2
            rw [Bs_set2] at hg5
            have hl5 := (fin0 (.struct [.str t1.text, .list 2 (lv.map GL.av), v]) []).trans hg5.HLe
            have hsub : Sub (.struct [.str t1.text, .list 2 (lv.map GL.av), v]) (GF.av ⟨t1.text, lv, done⟩) := sub_file (.refl _) hg.sub
            subst hz
            simp [hb2, hg.size, -gP_Parse_c23_eq]
            have r2 : (Hs.set b2 (.box (.struct [.str t1.text, .list 2 (lv.map GL.av), v]))) b2 = some (.box (.struct [.str t1.text, .list 2 (lv.map GL.av), v])) := AHeap.set_same _ _ _
            have r3 : (Hs.set b2 (.box (.struct [.str t1.text, .list 2 (lv.map GL.av), v]))) b3 = some (.box (i64 0)) := by rw [AHeap.set_ne _ _ (Ne.symm n23)]; exact q3
            have r4 : (Hs.set b2 (.box (.struct [.str t1.text, .list 2 (lv.map GL.av), v]))) b4 = some (.box (i64 0)) := by rw [AHeap.set_ne _ _ (Ne.symm n24)]; exact q4
            generalize Hs.set b2 (.box (.struct [.str t1.text, .list 2 (lv.map GL.av), v])) = H5 at *
            have s3 : ∀ o, (H5.set b2 o) b3 = some (.box (i64 0)) := fun o => by rw [AHeap.set_ne _ _ (Ne.symm n23)]; exact r3
            have s4 : ∀ o o', ((H5.set b2 o).set b3 o') b4 = some (.box (i64 0)) := fun o o' => by rw [AHeap.set_ne _ _ (Ne.symm n34), AHeap.set_ne _ _ (Ne.symm n24)]; exact r4
            simp [r2, hg.size]
            refine ACalls.sub1 hsub ((gf_Valid ⟨t1.text, lv, done⟩ (by simp only; omega) H5).use ?_)
            cases hv : validM ⟨t1.text, lv, done⟩
            · simp [r2, s3, s4, hg.size]
              refine harg _ _ rfl hv ?_
              have := E3_up (b2 := b2) (b3 := b3) (b4 := b4) (w := zGF) (x := 0) (y := 1) hl5
              rw [E3_E3] at this
              exact this
            · simp [r2, s3, s4, hg.size]
              refine hok _ _ rfl hv ?_
              have := E3_up (b2 := b2) (b3 := b3) (b4 := b4) (w := .struct [.str t1.text, .list 2 (lv.map GL.av), v]) (x := 0) (y := 0) hl5
              rw [E3_E3] at this
              exact (E3_sub hsub (by simp [GF.av])).trans this
          | cons t l' =>
            have hlt : (0 : Int) < (l'.length : Int) + 1 := by omega
            simp [hbs, rdr, hlt]
            intro _
            simp only [rulesM] at he
            simp only [List.length_cons] at hnn hgf
            refine gp_rule (f := F) hbs (by simp; omega) (by simp; omega) ?_
            cases hr : ruleM e F (t :: l') with
            | error k =>
              rw [hr] at he
              simp only [prepM] at he
              simp only [he] at hpm
              subst hpm
              intro l''
              simp [synErr]
              have := hg.set (o := .box (rdr l'' e)) (Bs_bp e2)
              rw [Bs_set e2] at this
              exact herr k _ _ rfl zs zo ((fin0 _ _).trans this.HLe)
            | ok p =>
              obtain ⟨x, l1'⟩ := p
              rw [hr] at he
              simp only [prepM_cons] at he
              have hl1 := ruleM_len hr
              simp only [List.length_cons] at hl1
              have hg2 := hg.set (o := .box (rdr l1' e)) (Bs_bp e2)
              rw [Bs_set e2] at hg2
              simp [PRpost]
              refine hg2.app (by simp; omega) fun v' H' hg' => ?_
              simp
              exact loopK_same ⟨v', H', l1', done ++ [x], g⟩ ⟨by simpa using hg', by simp; omega, by simp only; omega, he⟩ (by simp only [List.length_cons]; omega) rfl rfl
    · simp only [hn, Bool.false_eq_true, if_false] at hpm
      subst hpm
      simp [synErr]
      exact herr _ zGF _ rfl sz so (fin0 _ _)
end Go.Av

namespace Go.Av
def TokOK (t : Tok) : Prop := ∃ c r, t.text = c :: r ∧ t.word = isLetter c ∧ t.num = if isDigit c then numVal t.text else -1

theorem letter_not_digit {c : UInt8} (h : isLetter c = true) : isDigit c = false := by
  cases hd : isDigit c with
  | false => rfl
  | true =>
    have h1 := (isLetter_iff _).1 h
    have h2 := (isDigit_iff _).1 hd
    omega

theorem lexStep_tok {k : Nat} {c : UInt8} {r : List UInt8} {t : Tok} {n : Nat} (h : lexStep k c (c :: r) = (some t, n)) : TokOK t ∧ t.text.length = n ∧ t.text = (c :: r).take n := by
  unfold lexStep at h
  split at h
  · cases h
  · split at h
    · cases h
    · split at h
      · rename_i hl
        injection h with h1 h2
        injection h1 with h1
        subst h1 h2
        refine ⟨⟨c, r.takeWhile inWord, by simp [inWord, hl], hl.symm, by simp [letter_not_digit hl]⟩, rfl, (take_tw _).symm⟩
      · rename_i hl
        have hl' : isLetter c = false := by simpa using hl
        split at h
        · rename_i hd
          injection h with h1 h2
          injection h1 with h1
          subst h1 h2
          exact ⟨⟨c, r.takeWhile isDigit, by simp [hd], hl'.symm, by simp [hd]⟩, rfl, (take_tw _).symm⟩
        · rename_i hd
          have hd' : isDigit c = false := by simpa using hd
          injection h with h1 h2
          injection h1 with h1
          subst h1 h2
          exact ⟨⟨c, [], rfl, hl'.symm, by simp [hd']⟩, rfl, rfl⟩

end Go.Av

namespace Go.Av
def bindM {α β : Type} (r : PR α) (F : α → List Tok → PR β) : PR β := match r with
  | .error k => .error k
  | .ok (x, l) => F x l
@[simp] theorem bindM_error {α β : Type} (k : Nat) (F : α → List Tok → PR β) : bindM (.error k) F = .error k := rfl
@[simp] theorem bindM_ok {α β : Type} (x : α) (l : List Tok) (F : α → List Tok → PR β) : bindM (.ok (x, l)) F = F x l := rfl
def expB (e : Nat) (x : List UInt8) (l : List Tok) : PR Unit := match expM e x l with
  | .error k => .error k
  | .ok r => .ok ((), r)

theorem consM_bind {α : Type} (x : α) (r : PR (List α)) : consM x r = bindM r fun xs l => .ok (x :: xs, l) := by
  cases r with
  | error k => rfl
  | ok p => rfl

theorem itemsM_eq (e f : Nat) (l : List Tok) : itemsM e (f + 1) l = if isNameT (peekT e l) || (peekT e l).text == [40] then bindM (itemM e f l) fun x l1 => bindM (itemsM e f l1) fun xs l2 => .ok (x :: xs, l2) else .ok ([], l) := by
  rw [itemsM]
  split
  · cases itemM e f l with
    | error k => rfl
    | ok p => obtain ⟨p1, p2⟩ := p; simp [consM_bind]
  · rfl
theorem itemM_eq (e f : Nat) (l : List Tok) : itemM e (f + 1) l = bindM (primM e f l) fun x l1 => .ok (sufM x l1) := by
  rw [itemM]
  cases primM e f l with
  | error k => rfl
  | ok p => rfl
theorem primM_eq (e f : Nat) (l : List Tok) : primM e (f + 1) l = if isNameT (peekT e l) then .ok (.mk 1 (peekT e l).text [], l.tail) else
    bindM (expB e [40] l) fun _ l0 => bindM (itemsM e f l0) fun xs l1 => bindM (altsM e f l1) fun ys l2 => bindM (expB e [41] l2) fun _ l3 => .ok (mkSeq 3 (mkSeq 2 xs :: ys), l3) := by
  rw [primM]
  split
  · rfl
  · unfold expB
    cases expM e [40] l with
    | error k => rfl
    | ok l0 =>
      simp only [bindM_ok]
      cases itemsM e f l0 with
      | error k => rfl
      | ok p =>
        obtain ⟨p1, p2⟩ := p
        simp only [bindM_ok]
        cases altsM e f p2 with
        | error k => rfl
        | ok q =>
          obtain ⟨q1, q2⟩ := q
          simp only [bindM_ok]
          cases expM e [41] q2 with
          | error k => rfl
          | ok l3 => rfl
theorem altsM_eq (e f : Nat) (l : List Tok) : altsM e (f + 1) l = if (peekT e l).text == [124] then bindM (itemsM e f l.tail) fun xs l1 => bindM (altsM e f l1) fun ys l2 => .ok (mkSeq 2 xs :: ys, l2) else .ok ([], l) := by
  rw [altsM]
  split
  · cases itemsM e f l.tail with
    | error k => rfl
    | ok p => obtain ⟨p1, p2⟩ := p; simp [consM_bind]
  · rfl
theorem altM_eq (e f : Nat) (l : List Tok) : altM e f l = bindM (itemsM e f l) fun xs l1 => if (peekT e l1).text == kwPrice then
      if (peekT e l1.tail).num < 0 then .error (peekT e l1.tail).at_ else .ok (⟨mkSeq 2 xs, (peekT e l1.tail).num⟩, l1.tail.tail)
    else .ok (⟨mkSeq 2 xs, 0⟩, l1) := by
  rw [altM]
  cases itemsM e f l with
  | error k => rfl
  | ok p => rfl
theorem moreM_eq (e f : Nat) (l : List Tok) : moreM e (f + 1) l = if (peekT e l).text == [124] then bindM (altM e f l.tail) fun x l1 => bindM (moreM e f l1) fun xs l2 => .ok (x :: xs, l2) else .ok ([], l) := by
  rw [moreM]
  split
  · cases altM e f l.tail with
    | error k => rfl
    | ok p => obtain ⟨p1, p2⟩ := p; simp [consM_bind]
  · rfl
theorem ruleM_eq (e f : Nat) (l : List Tok) : ruleM e f l = if isNameT (peekT e l) then
    bindM (expB e [61] l.tail) fun _ l0 => bindM (altM e f l0) fun a l1 => bindM (moreM e f l1) fun bs l2 => bindM (expB e [59] l2) fun _ l3 => .ok (⟨(peekT e l).text, a :: bs⟩, l3)
  else .error (peekT e l).at_ := by
  rw [ruleM]
  split
  · unfold expB
    cases expM e [61] l.tail with
    | error k => rfl
    | ok l0 =>
      simp only [bindM_ok]
      cases altM e f l0 with
      | error k => rfl
      | ok p =>
        obtain ⟨p1, p2⟩ := p
        simp only [bindM_ok]
        cases moreM e f p2 with
        | error k => rfl
        | ok q =>
          obtain ⟨q1, q2⟩ := q
          simp only [bindM_ok]
          cases expM e [59] q2 with
          | error k => rfl
          | ok l3 => rfl
  · rfl
theorem levelM_eq (e : Nat) (a : Int) (l : List Tok) : levelM e a l = if isNameT (peekT e l.tail) then
    bindM (expB e [59] (namesM e l.tail.tail).2) fun _ r => .ok (⟨a, (peekT e l.tail).text :: (namesM e l.tail.tail).1⟩, r) else .error (peekT e l.tail).at_ := by
  rw [levelM]
  split
  · unfold expB
    cases expM e [59] (namesM e l.tail.tail).2 with
    | error k => rfl
    | ok l0 => rfl
  · rfl
theorem levelsM_eq (e f : Nat) (l : List Tok) : levelsM e (f + 1) l = match assocOf (peekT e l).text with
    | none => .ok ([], l)
    | some a => bindM (levelM e a l) fun x l1 => bindM (levelsM e f l1) fun xs l2 => .ok (x :: xs, l2) := by
  rw [levelsM]
  cases assocOf (peekT e l).text with
  | none => rfl
  | some a =>
    simp only []
    cases levelM e a l with
    | error k => rfl
    | ok p => obtain ⟨p1, p2⟩ := p; simp [consM_bind]
theorem rulesM_eq (e F g : Nat) (t : Tok) (l : List Tok) : rulesM e F (g + 1) (t :: l) = bindM (ruleM e F (t :: l)) fun x l1 => bindM (rulesM e F g l1) fun xs l2 => .ok (x :: xs, l2) := by
  rw [rulesM]
  cases ruleM e F (t :: l) with
  | error k => rfl
  | ok p => obtain ⟨p1, p2⟩ := p; simp [consM_bind]
def progP (e F : Nat) (l : List Tok) : PR GF :=
  bindM (expB e kwStart l) fun _ l1 => if isNameT (peekT e l1) then
    bindM (expB e [59] l1.tail) fun _ l2 => bindM (levelsM e F l2) fun lv l3 => bindM (rulesM e F F l3) fun rs l4 => .ok (⟨(peekT e l1).text, lv, rs⟩, l4)
    else .error (peekT e l1).at_
theorem progM_eq (e F : Nat) (l : List Tok) : progM e F l = match progP e F l with
  | .error k => .error k
  | .ok (x, _) => .ok x := by
  unfold progM progP expB
  cases expM e kwStart l with
  | error k => rfl
  | ok l1 =>
    simp only [bindM_ok]
    split
    · cases expM e [59] l1.tail with
      | error k => rfl
      | ok l2 =>
        simp only [bindM_ok]
        cases levelsM e F l2 with
        | error k => rfl
        | ok p =>
          obtain ⟨p1, p2⟩ := p
          simp only [bindM_ok]
          cases rulesM e F F p2 with
          | error k => rfl
          | ok q => rfl
    · rfl
end Go.Av

namespace Go.Av
/-! ### Text behind: what was decided stays decided -/
def NilP {α : Type} (e : Nat) (r : PR α) : Prop := (∀ k, r = .error k → e ≤ k) ∧ ∀ x l, r = .ok (x, l) → l = []
def Ext {α : Type} (e : Nat) (X : List Tok) (r r' : PR α) : Prop := (∀ k, k < e → r = .error k → r' = .error k) ∧ ∀ x l, l ≠ [] → r = .ok (x, l) → r' = .ok (x, l ++ X)

theorem NilP.bind {α β : Type} {e : Nat} {r : PR α} {F : α → List Tok → PR β} (h : NilP e r) (hF : ∀ x, NilP e (F x [])) : NilP e (bindM r F) := by
  cases r with
  | error k => exact ⟨fun k' hk => h.1 k' (by simpa using hk), fun x l hx => by simp at hx⟩
  | ok p =>
    obtain ⟨x, l⟩ := p
    have := h.2 x l rfl
    subst this
    exact hF x
theorem NilP.pure {α : Type} {e : Nat} (x : α) : NilP e (.ok (x, []) : PR α) := ⟨fun k hk => (by cases hk), fun y l hy => by injection hy with hy; injection hy with _ h; exact h.symm⟩
theorem NilP.err {α : Type} {e k : Nat} (h : e ≤ k) : NilP e (.error k : PR α) := ⟨fun k' hk => by injection hk with hk; omega, fun y l hy => by cases hy⟩
theorem NilP.ext {α : Type} {e : Nat} {X : List Tok} {r r' : PR α} (h : NilP e r) : Ext e X r r' := ⟨fun k hk hr => by have := h.1 k hr; omega, fun x l hl hr => absurd (h.2 x l hr) hl⟩

theorem Ext.bind {α β : Type} {e : Nat} {X : List Tok} {r r' : PR α} {F F' : α → List Tok → PR β} (h : Ext e X r r') (hF : ∀ x l, l ≠ [] → Ext e X (F x l) (F' x (l ++ X))) (hn : ∀ x, NilP e (F x [])) : Ext e X (bindM r F) (bindM r' F') := by
  cases r with
  | error k => exact ⟨fun k' hk hr => by rw [h.1 k' hk (by simpa using hr)]; rfl, fun x l hl hr => by simp at hr⟩
  | ok p =>
    obtain ⟨x, l⟩ := p
    by_cases hl : l = []
    · subst hl
      exact (hn x).ext
    · rw [h.2 x l hl rfl]
      exact hF x l hl
theorem Ext.pure {α : Type} {e : Nat} {X : List Tok} (x : α) (l : List Tok) : Ext e X (.ok (x, l) : PR α) (.ok (x, l ++ X)) := ⟨fun k _ hk => (by cases hk), fun y l' _ hy => by injection hy with hy; injection hy with h1 h2; subst h1 h2; rfl⟩
theorem Ext.err {α : Type} {e k : Nat} {X : List Tok} : Ext e X (.error k : PR α) (.error k) := ⟨fun k' _ hk => hk, fun y l hl hy => by cases hy⟩
theorem Ext.errE {α : Type} {e k : Nat} {X : List Tok} {r : PR α} (h : e ≤ k) : Ext e X (.error k : PR α) r := (NilP.err h).ext

variable {e e' : Nat} {X : List Tok}
theorem expB_nil (x : List UInt8) : NilP e (expB e x []) := NilP.err (Nat.le_refl _)
theorem expB_ext (x : List UInt8) (l : List Tok) : Ext e X (expB e x l) (expB e' x (l ++ X)) := by
  cases l with
  | nil => exact (expB_nil x).ext
  | cons t r =>
    simp only [expB, expM, List.cons_append]
    cases t.text == x
    · exact Ext.err
    · exact Ext.pure _ _

theorem sufM_nil (x : GE) : sufM x [] = (x, []) := rfl
theorem sufM_ext : ∀ (l : List Tok) (x : GE), (sufM x l).2 ≠ [] → sufM x (l ++ X) = ((sufM x l).1, (sufM x l).2 ++ X)
  | [], x, h => by simp [sufM] at h
  | t :: r, x, h => by
    simp only [sufM, List.cons_append] at h ⊢
    split
    · rename_i h1; rw [if_pos h1] at h; exact sufM_ext r _ h
    · rename_i h1
      rw [if_neg h1] at h
      split
      · rename_i h2; rw [if_pos h2] at h; exact sufM_ext r _ h
      · rename_i h2
        rw [if_neg h2] at h
        split
        · rename_i h3; rw [if_pos h3] at h; exact sufM_ext r _ h
        · simp

theorem sufB_ext (l : List Tok) (x : GE) : Ext e X (.ok (sufM x l) : PR GE) (.ok (sufM x (l ++ X))) := by
  refine ⟨fun k _ hk => (by cases hk), fun y l' hl hy => ?_⟩
  injection hy with hy
  rw [sufM_ext l x (by rw [hy]; exact hl), hy]

theorem namesM_ext : ∀ (l : List Tok), (namesM e l).2 ≠ [] → namesM e' (l ++ X) = ((namesM e l).1, (namesM e l).2 ++ X)
  | [], h => by simp [namesM] at h
  | t :: r, h => by
    simp only [namesM, List.cons_append] at h ⊢
    split
    · rename_i h1
      rw [if_pos h1] at h
      rw [namesM_ext r h]
    · simp

theorem itemsM_nil (f : Nat) : NilP e (itemsM e f []) := by
  cases f with
  | zero => exact NilP.err (by omega)
  | succ f => rw [itemsM_eq]; exact NilP.pure _
theorem altsM_nil (f : Nat) : NilP e (altsM e f []) := by
  cases f with
  | zero => exact NilP.err (by omega)
  | succ f => rw [altsM_eq]; exact NilP.pure _
theorem altM_nil (f : Nat) : NilP e (altM e f []) := by
  rw [altM_eq]
  exact (itemsM_nil f).bind fun x => NilP.pure _
theorem moreM_nil (f : Nat) : NilP e (moreM e f []) := by
  cases f with
  | zero => exact NilP.err (by omega)
  | succ f => rw [moreM_eq]; exact NilP.pure _
theorem levelsM_nil (f : Nat) : NilP e (levelsM e f []) := by
  cases f with
  | zero => exact NilP.err (by omega)
  | succ f => rw [levelsM_eq]; exact NilP.pure _
theorem rulesM_nil (F g : Nat) : NilP e (rulesM e F g []) := by
  cases g with
  | zero => exact NilP.err (by omega)
  | succ g => rw [rulesM]; exact NilP.pure _

theorem peek_ext {l : List Tok} (h : l ≠ []) : peekT e' (l ++ X) = peekT e l := by
  cases l with
  | nil => exact absurd rfl h
  | cons t r => rfl
theorem tail_ext {l : List Tok} (h : l ≠ []) : (l ++ X).tail = l.tail ++ X := by
  cases l with
  | nil => exact absurd rfl h
  | cons t r => rfl

theorem readM_ext : ∀ (f : Nat), (∀ l, Ext e X (itemsM e f l) (itemsM e' f (l ++ X))) ∧ (∀ l, Ext e X (itemM e f l) (itemM e' f (l ++ X))) ∧
    (∀ l, Ext e X (primM e f l) (primM e' f (l ++ X))) ∧ (∀ l, Ext e X (altsM e f l) (altsM e' f (l ++ X)))
  | 0 => ⟨fun l => Ext.errE (by omega), fun l => Ext.errE (by omega), fun l => Ext.errE (by omega), fun l => Ext.errE (by omega)⟩
  | f + 1 => by
    obtain ⟨i1, i2, i3, i4⟩ := readM_ext f
    refine ⟨fun l => ?_, fun l => ?_, fun l => ?_, fun l => ?_⟩
    · by_cases hl : l = []
      · subst hl; exact (itemsM_nil _).ext
      · rw [itemsM_eq, itemsM_eq, peek_ext (e := e) hl]
        split
        · exact (i2 l).bind (fun x l1 h1 => (i1 l1).bind (fun xs l2 h2 => Ext.pure _ _) fun xs => NilP.pure _) fun x => (itemsM_nil f).bind fun xs => NilP.pure _
        · exact Ext.pure _ _
    · rw [itemM_eq, itemM_eq]
      exact (i3 l).bind (fun x l1 h1 => sufB_ext l1 x) fun x => NilP.pure _
    · by_cases hl : l = []
      · subst hl
        rw [primM_eq, if_neg (by simp [isNameT])]
        refine NilP.ext ?_
        exact (expB_nil _).bind fun _ => (itemsM_nil f).bind fun _ => (altsM_nil f).bind fun _ => (expB_nil _).bind fun _ => NilP.pure _
      · rw [primM_eq, primM_eq, peek_ext (e := e) hl, tail_ext hl]
        split
        · exact Ext.pure _ _
        · exact (expB_ext _ l).bind (fun _ l0 h0 => (i1 l0).bind (fun xs l1 h1 => (i4 l1).bind (fun ys l2 h2 => (expB_ext _ l2).bind (fun _ l3 h3 => Ext.pure _ _) fun _ => NilP.pure _)
            fun ys => (expB_nil _).bind fun _ => NilP.pure _) fun xs => (altsM_nil f).bind fun _ => (expB_nil _).bind fun _ => NilP.pure _)
            fun _ => (itemsM_nil f).bind fun _ => (altsM_nil f).bind fun _ => (expB_nil _).bind fun _ => NilP.pure _
    · by_cases hl : l = []
      · subst hl; exact (altsM_nil _).ext
      · rw [altsM_eq, altsM_eq, peek_ext (e := e) hl, tail_ext hl]
        split
        · exact (i1 _).bind (fun x l1 h1 => (i4 l1).bind (fun xs l2 h2 => Ext.pure _ _) fun xs => NilP.pure _) fun x => (altsM_nil f).bind fun xs => NilP.pure _
        · exact Ext.pure _ _

theorem altM_ext (f : Nat) (l : List Tok) : Ext e X (altM e f l) (altM e' f (l ++ X)) := by
  rw [altM_eq, altM_eq]
  refine ((readM_ext f).1 l).bind (fun xs l1 h1 => ?_) fun xs => NilP.pure _
  rw [peek_ext (e := e) h1, tail_ext h1]
  split
  · by_cases h2 : l1.tail = []
    · rw [h2]
      exact Ext.errE (Nat.le_refl _)
    · rw [peek_ext (e := e) h2, tail_ext h2]
      split
      · exact Ext.err
      · exact Ext.pure _ _
  · exact Ext.pure _ _

theorem moreM_ext : ∀ (f : Nat) (l : List Tok), Ext e X (moreM e f l) (moreM e' f (l ++ X))
  | 0, l => Ext.errE (by omega)
  | f + 1, l => by
    by_cases hl : l = []
    · subst hl; exact (moreM_nil _).ext
    · rw [moreM_eq, moreM_eq, peek_ext (e := e) hl, tail_ext hl]
      split
      · exact (altM_ext f _).bind (fun x l1 h1 => (moreM_ext f l1).bind (fun xs l2 h2 => Ext.pure _ _) fun xs => NilP.pure _) fun x => (moreM_nil f).bind fun xs => NilP.pure _
      · exact Ext.pure _ _

theorem ruleM_ext (f : Nat) (l : List Tok) : Ext e X (ruleM e f l) (ruleM e' f (l ++ X)) := by
  by_cases hl : l = []
  · subst hl
    rw [ruleM_eq]
    exact Ext.errE (Nat.le_refl _)
  · rw [ruleM_eq, ruleM_eq, peek_ext (e := e) hl, tail_ext hl]
    split
    · exact (expB_ext _ _).bind (fun _ l0 h0 => (altM_ext f l0).bind (fun a l1 h1 => (moreM_ext f l1).bind (fun bs l2 h2 => (expB_ext _ l2).bind (fun _ l3 h3 => Ext.pure _ _) fun _ => NilP.pure _)
        fun ys => (expB_nil _).bind fun _ => NilP.pure _) fun xs => (moreM_nil f).bind fun _ => (expB_nil _).bind fun _ => NilP.pure _)
        fun _ => (altM_nil f).bind fun _ => (moreM_nil f).bind fun _ => (expB_nil _).bind fun _ => NilP.pure _
    · exact Ext.err

theorem levelM_cons (e : Nat) (a : Int) (t : Tok) (l : List Tok) : levelM e a (t :: l) = if isNameT (peekT e l) then
    bindM (expB e [59] (namesM e l.tail).2) fun _ r => .ok (⟨a, (peekT e l).text :: (namesM e l.tail).1⟩, r) else .error (peekT e l).at_ := levelM_eq e a (t :: l)

theorem levelM_ext (a : Int) (t : Tok) (l : List Tok) : Ext e X (levelM e a (t :: l)) (levelM e' a ((t :: l) ++ X)) := by
  rw [List.cons_append, levelM_cons, levelM_cons]
  by_cases hl : l = []
  · subst hl
    exact Ext.errE (Nat.le_refl _)
  · rw [peek_ext (e := e) hl, tail_ext hl]
    split
    · by_cases h2 : (namesM e l.tail).2 = []
      · rw [h2]
        exact ((expB_nil _).bind fun _ => NilP.pure _).ext
      · rw [namesM_ext (e := e) _ h2]
        exact (expB_ext _ _).bind (fun _ r h => Ext.pure _ _) fun _ => NilP.pure _
    · exact Ext.err

theorem levelsM_ext : ∀ (f : Nat) (l : List Tok), Ext e X (levelsM e f l) (levelsM e' f (l ++ X))
  | 0, l => Ext.errE (by omega)
  | f + 1, [] => (levelsM_nil _).ext
  | f + 1, t :: l => by
    have hl : t :: l ≠ [] := by simp
    rw [levelsM_eq, levelsM_eq, peek_ext (e := e) hl]
    cases assocOf (peekT e (t :: l)).text with
    | none => exact Ext.pure _ _
    | some a => exact (levelM_ext a t l).bind (fun x l1 h1 => (levelsM_ext f l1).bind (fun xs l2 h2 => Ext.pure _ _) fun xs => NilP.pure _) fun x => (levelsM_nil f).bind fun xs => NilP.pure _

theorem rulesM_ext (F : Nat) : ∀ (g : Nat) (l : List Tok), Ext e X (rulesM e F g l) (rulesM e' F g (l ++ X))
  | 0, l => Ext.errE (by omega)
  | g + 1, [] => (rulesM_nil _ _).ext
  | g + 1, t :: l => by
    rw [List.cons_append, rulesM_eq, rulesM_eq]
    exact (ruleM_ext F (t :: l)).bind (fun x l1 h1 => (rulesM_ext F g l1).bind (fun xs l2 h2 => Ext.pure _ _) fun xs => NilP.pure _) fun x => (rulesM_nil F g).bind fun xs => NilP.pure _

theorem progP_ext (F : Nat) (l : List Tok) : Ext e X (progP e F l) (progP e' F (l ++ X)) := by
  have n2 : ∀ (nm : List UInt8), NilP e (bindM (expB e [59] []) fun _ l2 => bindM (levelsM e F l2) fun lv l3 => bindM (rulesM e F F l3) fun rs l4 => (.ok ((⟨nm, lv, rs⟩ : GF), l4) : PR GF)) := fun nm =>
    (expB_nil _).bind fun _ => (levelsM_nil _).bind fun _ => (rulesM_nil _ _).bind fun _ => NilP.pure _
  unfold progP
  refine (expB_ext _ l).bind (fun _ l1 h1 => ?_) fun _ => NilP.err (Nat.le_refl _)
  rw [peek_ext (e := e) h1, tail_ext h1]
  split
  · exact (expB_ext _ _).bind (fun _ l2 h2 => (levelsM_ext F l2).bind (fun lv l3 h3 => (rulesM_ext F F l3).bind (fun rs l4 h4 => Ext.pure _ _) fun _ => NilP.pure _) fun _ => (rulesM_nil _ _).bind fun _ => NilP.pure _)
      fun _ => (levelsM_nil _).bind fun _ => (rulesM_nil _ _).bind fun _ => NilP.pure _
  · exact Ext.err

/-- A syntax error at a token stays, whatever follows. -/
theorem progM_ext (F : Nat) (l : List Tok) (k : Nat) (hk : k < e) (h : progM e F l = .error k) : progM e' F (l ++ X) = .error k := by
  rw [progM_eq] at h ⊢
  cases hp : progP e F l with
  | error k' =>
    rw [hp] at h
    simp only [Except.error.injEq] at h
    subst h
    rw [(progP_ext F l).1 _ hk hp]
  | ok p => rw [hp] at h; cases h
end Go.Av

namespace Go.Av
/-! ### Errors lie in the text -/
def AtL (S : Nat → Prop) (l : List Tok) : Prop := ∀ t ∈ l, S t.at_
def Bd {α : Type} (S : Nat → Prop) (n : Nat) (r : PR α) : Prop := (∀ k, r = .error k → S k) ∧ ∀ x l, r = .ok (x, l) → AtL S l ∧ l.length ≤ n

theorem Bd.bind {α β : Type} {S : Nat → Prop} {n m : Nat} {r : PR α} {F : α → List Tok → PR β} (h : Bd S n r) (hF : ∀ x l, AtL S l → l.length ≤ n → Bd S m (F x l)) : Bd S m (bindM r F) := by
  cases r with
  | error k => exact ⟨fun k' hk => h.1 k' (by simpa using hk), fun x l hx => by simp at hx⟩
  | ok p =>
    obtain ⟨x, l⟩ := p
    exact hF x l (h.2 x l rfl).1 (h.2 x l rfl).2
theorem Bd.ok {α : Type} {S : Nat → Prop} {n : Nat} (x : α) {l : List Tok} (h : AtL S l) (hn : l.length ≤ n) : Bd S n (.ok (x, l) : PR α) := ⟨fun k hk => (by cases hk), fun y l' hy => by injection hy with hy; injection hy with _ h2; subst h2; exact ⟨h, hn⟩⟩
theorem Bd.err {α : Type} {S : Nat → Prop} {n k : Nat} (h : S k) : Bd S n (.error k : PR α) := ⟨fun k' hk => by injection hk with hk; rw [← hk]; exact h, fun y l hy => by cases hy⟩
theorem Bd.mono {α : Type} {S : Nat → Prop} {n m : Nat} {r : PR α} (h : Bd S n r) (hm : n ≤ m) : Bd S m r := ⟨h.1, fun x l hx => ⟨(h.2 x l hx).1, Nat.le_trans (h.2 x l hx).2 hm⟩⟩

theorem AtL.tail {S : Nat → Prop} {l : List Tok} (h : AtL S l) : AtL S l.tail := fun t ht => h t (List.mem_of_mem_tail ht)
theorem AtL.peek {S : Nat → Prop} {e : Nat} (hS : S e) {l : List Tok} (h : AtL S l) : S (peekT e l).at_ := by
  cases l with
  | nil => exact hS
  | cons t r => exact h t (by simp)

variable {e : Nat} {S : Nat → Prop} (hS : S e)
include hS
theorem expB_bd (x : List UInt8) {l : List Tok} (h : AtL S l) : Bd S (l.length - 1) (expB e x l) := by
  cases l with
  | nil => exact Bd.err hS
  | cons t r =>
    simp only [expB, expM]
    cases t.text == x
    · exact Bd.err (h t (by simp))
    · exact Bd.ok _ h.tail (by simp)

omit hS in
theorem sufM_bd : ∀ (l : List Tok) (x : GE), AtL S l → AtL S (sufM x l).2
  | [], x, h => h
  | t :: r, x, h => by
    simp only [sufM]
    split
    · exact sufM_bd r _ h.tail
    · split
      · exact sufM_bd r _ h.tail
      · split
        · exact sufM_bd r _ h.tail
        · exact h

omit hS in
theorem namesM_bd : ∀ (l : List Tok), AtL S l → AtL S (namesM e l).2
  | [], h => h
  | t :: r, h => by
    simp only [namesM]
    split
    · exact namesM_bd r h.tail
    · exact h

theorem readM_bd : ∀ (f : Nat) (l : List Tok), AtL S l → (3 * l.length + 3 ≤ f → Bd S l.length (itemsM e f l)) ∧ (3 * l.length + 2 ≤ f → Bd S (l.length - 1) (itemM e f l)) ∧
    (3 * l.length + 1 ≤ f → Bd S (l.length - 1) (primM e f l)) ∧ (3 * l.length + 2 ≤ f → Bd S l.length (altsM e f l))
  | 0, l, h => ⟨fun h => by omega, fun h => by omega, fun h => by omega, fun h => by omega⟩
  | f + 1, l, h => by
    have ih := fun l (h : AtL S l) => readM_bd f l h
    refine ⟨fun hf => ?_, fun hf => ?_, fun hf => ?_, fun hf => ?_⟩
    · rw [itemsM_eq]
      cases l with
      | nil => exact Bd.ok _ h (by simp)
      | cons t r =>
        simp only [List.length_cons] at hf ⊢
        split
        · refine ((ih (t :: r) h).2.1 (by simp; omega)).bind fun x l1 h1 n1 => ?_
          simp at n1
          exact (((ih l1 h1).1 (by omega)).bind fun xs l2 h2 n2 => Bd.ok _ h2 n2).mono (by omega)
        · exact Bd.ok _ h (by simp)
    · rw [itemM_eq]
      exact ((ih l h).2.2.1 (by omega)).bind fun x l1 h1 n1 => Bd.ok _ (sufM_bd l1 x h1) (Nat.le_trans (sufM_len l1 x) n1)
    · rw [primM_eq]
      split
      · exact Bd.ok _ h.tail (by simp)
      · cases l with
        | nil => exact Bd.err hS
        | cons t r =>
          simp only [List.length_cons] at hf ⊢
          refine (expB_bd hS _ h).bind fun _ l0 h0 n0 => ?_
          simp at n0
          refine ((ih l0 h0).1 (by omega)).bind fun xs l1 h1 n1 => ?_
          refine ((ih l1 h1).2.2.2 (by omega)).bind fun ys l2 h2 n2 => ?_
          exact (expB_bd hS _ h2).bind fun _ l3 h3 n3 => Bd.ok _ h3 (by omega)
    · rw [altsM_eq]
      cases l with
      | nil => exact Bd.ok _ h (by simp)
      | cons t r =>
        simp only [List.length_cons] at hf ⊢
        split
        · refine ((ih r h.tail).1 (by omega)).bind fun x l1 h1 n1 => ?_
          exact (((ih l1 h1).2.2.2 (by omega)).bind fun xs l2 h2 n2 => Bd.ok _ h2 (by omega))
        · exact Bd.ok _ h (by simp)

theorem altM_bd {f : Nat} {l : List Tok} (h : AtL S l) (hf : 3 * l.length + 3 ≤ f) : Bd S l.length (altM e f l) := by
  rw [altM_eq]
  refine ((readM_bd hS f l h).1 hf).bind fun xs l1 h1 n1 => ?_
  split
  · split
    · exact Bd.err (AtL.peek hS h1.tail)
    · exact Bd.ok _ h1.tail.tail (by simp; omega)
  · exact Bd.ok _ h1 n1

theorem moreM_bd : ∀ (f : Nat) (l : List Tok), AtL S l → 3 * l.length + 1 ≤ f → Bd S l.length (moreM e f l)
  | 0, l, h, hf => by omega
  | f + 1, l, h, hf => by
    rw [moreM_eq]
    cases l with
    | nil => exact Bd.ok _ h (by simp)
    | cons t r =>
      simp only [List.length_cons] at hf ⊢
      split
      · refine (altM_bd hS (f := f) (l := r) h.tail (by omega)).bind fun x l1 h1 n1 => ?_
        exact (moreM_bd f l1 h1 (by omega)).bind fun xs l2 h2 n2 => Bd.ok _ h2 (by omega)
      · exact Bd.ok _ h (by simp)

theorem ruleM_bd {f : Nat} {l : List Tok} (h : AtL S l) (hf : 3 * l.length + 3 ≤ f) : Bd S (l.length - 1) (ruleM e f l) := by
  rw [ruleM_eq]
  cases l with
  | nil => exact Bd.err hS
  | cons t r =>
    simp only [List.length_cons] at hf ⊢
    split
    · refine (expB_bd hS _ h.tail).bind fun _ l0 h0 n0 => ?_
      simp at n0
      refine (altM_bd hS h0 (by omega)).bind fun a l1 h1 n1 => ?_
      refine (moreM_bd hS f l1 h1 (by omega)).bind fun bs l2 h2 n2 => ?_
      exact (expB_bd hS _ h2).bind fun _ l3 h3 n3 => Bd.ok _ h3 (by omega)
    · exact Bd.err (AtL.peek hS h)

theorem levelM_bd (a : Int) {t : Tok} {l : List Tok} (h : AtL S (t :: l)) : Bd S l.length (levelM e a (t :: l)) := by
  rw [levelM_cons]
  split
  · have hl := namesM_len e l.tail
    refine (expB_bd hS _ (namesM_bd _ h.tail.tail)).bind fun _ r h1 n1 => Bd.ok _ h1 ?_
    simp at hl
    simp only [List.tail_cons] at n1
    omega
  · exact Bd.err (AtL.peek hS h.tail)

theorem levelsM_bd : ∀ (f : Nat) (l : List Tok), AtL S l → l.length < f → Bd S l.length (levelsM e f l)
  | 0, l, h, hf => by omega
  | f + 1, [], h, hf => by rw [levelsM_eq]; exact Bd.ok _ h (by simp)
  | f + 1, t :: l, h, hf => by
    simp only [List.length_cons] at hf ⊢
    rw [levelsM_eq]
    split
    · exact Bd.ok _ h (by simp)
    · exact (levelM_bd hS _ h).bind fun x l1 h1 n1 => (levelsM_bd f l1 h1 (by omega)).bind fun xs l2 h2 n2 => Bd.ok _ h2 (by omega)

theorem rulesM_bd (F : Nat) : ∀ (g : Nat) (l : List Tok), AtL S l → l.length < g → 3 * l.length + 3 ≤ F → Bd S l.length (rulesM e F g l)
  | 0, l, h, hf, hF => by omega
  | g + 1, [], h, hf, hF => by rw [rulesM]; exact Bd.ok _ h (by simp)
  | g + 1, t :: l, h, hf, hF => by
    simp only [List.length_cons] at hf hF ⊢
    rw [rulesM_eq]
    exact (ruleM_bd hS (l := t :: l) h (by simp; omega)).bind fun x l1 h1 n1 => (rulesM_bd F g l1 h1 (by simp at n1; omega) (by simp at n1; omega)).bind fun xs l2 h2 n2 => Bd.ok _ h2 (by simp at n1; omega)

theorem progP_bd (F : Nat) (l : List Tok) (h : AtL S l) (hF : 3 * l.length + 3 ≤ F) : Bd S l.length (progP e F l) := by
  unfold progP
  refine (expB_bd hS _ h).bind fun _ l1 h1 n1 => ?_
  split
  · refine (expB_bd hS _ h1.tail).bind fun _ l2 h2 n2 => ?_
    simp at n2
    refine (levelsM_bd hS F l2 h2 (by omega)).bind fun lv l3 h3 n3 => ?_
    exact (rulesM_bd hS F F l3 h3 (by omega) (by omega)).bind fun rs l4 h4 n4 => Bd.ok _ h4 (by omega)
  · exact Bd.err (AtL.peek hS h1)

theorem progM_bd {F : Nat} {l : List Tok} {k : Nat} (h : AtL S l) (hF : 3 * l.length + 3 ≤ F) (hp : progM e F l = .error k) : S k := by
  rw [progM_eq] at hp
  cases hq : progP e F l with
  | error k' =>
    rw [hq] at hp
    simp only [Except.error.injEq] at hp
    subst hp
    exact (progP_bd hS F l h hF).1 _ hq
  | ok p => rw [hq] at hp; cases hp
end Go.Av

namespace Go.Av
/-! ### The tokens of a text's beginning, and of a text with more behind it -/
theorem tw_take {p : UInt8 → Bool} : ∀ (l : List UInt8) (n : Nat), (l.takeWhile p).length ≤ n → (l.take n).takeWhile p = l.takeWhile p
  | [], n, h => by simp
  | c :: r, n, h => by
    cases n with
    | zero =>
      have : List.takeWhile p (c :: r) = [] := List.eq_nil_of_length_eq_zero (by omega)
      rw [this]; rfl
    | succ n =>
      simp only [List.take_succ_cons, List.takeWhile_cons] at h ⊢
      split
      · rename_i hp
        rw [if_pos hp] at h
        rw [tw_take r n (by simpa using h)]
      · rfl

theorem tw_app {p : UInt8 → Bool} {b : UInt8} (hb : p b = false) : ∀ (l m : List UInt8), (l ++ b :: m).takeWhile p = l.takeWhile p
  | [], m => by simp [hb]
  | c :: r, m => by
    simp only [List.cons_append, List.takeWhile_cons]
    split
    · rw [tw_app hb r m]
    · rfl

theorem tw_app_lt {p : UInt8 → Bool} : ∀ (l m : List UInt8), (l.takeWhile p).length < l.length → (l ++ m).takeWhile p = l.takeWhile p
  | [], m, h => by simp at h
  | c :: r, m, h => by
    simp only [List.cons_append, List.takeWhile_cons] at h ⊢
    split
    · rename_i hp
      rw [if_pos hp] at h
      rw [tw_app_lt r m (by simpa using h)]
    · rfl

theorem lexStep_le (k : Nat) (c : UInt8) (r : List UInt8) : (lexStep k c (c :: r)).2 ≤ (c :: r).length := by
  unfold lexStep
  split
  · simp
  · split
    · exact tw_len _
    · split
      · exact tw_len _
      · split
        · exact tw_len _
        · simp

theorem lexStep_take (k : Nat) (c : UInt8) (l : List UInt8) (n : Nat) (h : (lexStep k c l).2 ≤ n) : lexStep k c (l.take n) = lexStep k c l := by
  unfold lexStep at h ⊢
  split
  · rfl
  · rename_i h1
    rw [if_neg h1] at h
    split
    · rename_i h2
      rw [if_pos h2] at h
      rw [tw_take _ _ h]
    · rename_i h2
      rw [if_neg h2] at h
      split
      · rename_i h3
        rw [if_pos h3] at h
        rw [tw_take _ _ h]
      · rename_i h3
        rw [if_neg h3] at h
        split
        · rename_i h4
          rw [if_pos h4] at h
          rw [tw_take _ _ h]
        · rfl

theorem lexStep_at {k : Nat} {c : UInt8} {l : List UInt8} {t : Tok} (h : (lexStep k c l).1 = some t) : t.at_ = k := by
  unfold lexStep at h
  split at h
  · cases h
  · split at h
    · cases h
    · split at h
      · injection h with h; subst h; rfl
      · split at h
        · injection h with h; subst h; rfl
        · injection h with h; subst h; rfl

theorem lexL_at : ∀ (f k : Nat) (r : List UInt8) (t : Tok), t ∈ lexL f k r → k ≤ t.at_ ∧ t.at_ < k + r.length
  | 0, k, r, t, h => by simp [lexL] at h
  | f + 1, k, [], t, h => by simp [lexL] at h
  | f + 1, k, c :: r, t, h => by
    simp only [lexL, List.mem_append, Option.mem_toList] at h
    rcases h with h | h
    · have := lexStep_at (by simpa using h)
      simp; omega
    · have h1 := lexL_at f _ _ t h
      have h2 := lexStep_le k c r
      rw [List.length_drop] at h1
      simp only [List.length_cons] at h1 h2 ⊢
      omega

/-- At a token the text may be cut. -/
theorem lexL_cut : ∀ (f k : Nat) (r : List UInt8) (t : Tok), r.length < f → t ∈ lexL f k r → lexL f k r = lexL f k (r.take (t.at_ - k)) ++ lexL f t.at_ (r.drop (t.at_ - k))
  | 0, k, r, t, hf, h => by omega
  | f + 1, k, [], t, hf, h => by simp [lexL] at h
  | f + 1, k, c :: r, t, hf, h => by
    have h0 := h
    simp only [lexL, List.mem_append, Option.mem_toList] at h
    have h2 := lexStep_le k c r
    have h3 := lexStep_pos k c r
    rcases h with h | h
    · have h1 := lexStep_at (by simpa using h)
      rw [h1]
      simp [lexL]
    · have h1 := lexL_at f _ _ t h
      have hdl : ((c :: r).drop (lexStep k c (c :: r)).2).length < f := by
        rw [List.length_drop]; simp only [List.length_cons] at hf h2 ⊢; omega
      have ih := lexL_cut f _ _ t hdl h
      obtain ⟨n, hn⟩ : ∃ n, t.at_ = k + (lexStep k c (c :: r)).2 + n := ⟨t.at_ - (k + (lexStep k c (c :: r)).2), by omega⟩
      generalize hst : lexStep k c (c :: r) = st at *
      obtain ⟨o, m⟩ := st
      simp only at *
      have e1 : t.at_ - k = m + n := by omega
      have e2 : t.at_ - (k + m) = n := by omega
      rw [e2] at ih
      rw [e1]
      have hm : m + n = (m + n - 1) + 1 := by omega
      have ht : (c :: r).take (m + n) = c :: r.take (m + n - 1) := by rw [hm]; rfl
      have hs : lexStep k c (c :: r.take (m + n - 1)) = (o, m) := by
        rw [← ht, lexStep_take _ _ _ _ (by rw [hst]; simp only; omega), hst]
      have e3 : (c :: r.take (m + n - 1)).drop m = ((c :: r).drop m).take n := by
        rw [← ht, List.take_drop]
      have e4 : (c :: r).drop (m + n) = ((c :: r).drop m).drop n := by rw [List.drop_drop]
      rw [ht]
      have lhs : lexL (f + 1) k (c :: r) = o.toList ++ lexL f (k + m) ((c :: r).drop m) := by rw [lexL, hst]
      have mid : lexL (f + 1) k (c :: r.take (m + n - 1)) = o.toList ++ lexL f (k + m) (((c :: r).drop m).take n) := by rw [lexL, hs, e3]
      rw [lhs, mid, ih, List.append_assoc, e4]
      congr 2
      refine lexL_fuel _ _ _ _ ?_ ?_
      · rw [List.length_drop]; omega
      · rw [List.length_drop]; omega

theorem lex_cut {s : List UInt8} {t : Tok} (h : t ∈ lex s) : ∃ X, lex s = lex (s.take t.at_) ++ X := by
  have h1 := lexL_cut _ _ _ t (by omega) h
  rw [Nat.sub_zero] at h1
  refine ⟨lexL (s.length + 1) t.at_ (s.drop t.at_), h1.trans ?_⟩
  congr 1
  refine lexL_fuel _ _ _ _ ?_ ?_
  · rw [List.length_take]; omega
  · omega

/-- Text behind a space. -/
theorem lexL_more (m : List UInt8) : ∀ (f f' k : Nat) (r : List UInt8), r.length < f → (r ++ 32 :: m).length < f' → ∃ X, lexL f' k (r ++ 32 :: m) = lexL f k r ++ X
  | 0, f', k, r, hf, hf' => by omega
  | f + 1, 0, k, r, hf, hf' => by omega
  | f + 1, f' + 1, k, [], hf, hf' => ⟨lexL (f' + 1) k ([] ++ 32 :: m), by rw [show lexL (f + 1) k [] = [] from rfl, List.nil_append, List.nil_append]⟩
  | f + 1, f' + 1, k, c :: r, hf, hf' => by
    have h2 := lexStep_le k c r
    have h3 := lexStep_pos k c r
    by_cases hs : lexStep k c ((c :: r) ++ 32 :: m) = lexStep k c (c :: r)
    · simp only [List.cons_append, lexL] at hs ⊢
      rw [hs]
      obtain ⟨X, hX⟩ := lexL_more m f f' (k + (lexStep k c (c :: r)).2) ((c :: r).drop (lexStep k c (c :: r)).2) (by rw [List.length_drop]; simp only [List.length_cons] at *; omega) (by
        simp only [List.length_append, List.length_drop, List.length_cons] at *; omega)
      refine ⟨X, ?_⟩
      rw [List.append_assoc, ← hX, ← List.drop_append_of_le_length h2, List.cons_append]
    · have h35 : lexStep k c (c :: r) = (none, (c :: r).length) := by
        unfold lexStep at hs ⊢
        split
        · rename_i h1; rw [if_pos h1, if_pos h1] at hs; exact absurd rfl hs
        · rename_i h1
          rw [if_neg h1, if_neg h1] at hs
          split
          · rename_i h4
            rw [if_pos h4, if_pos h4] at hs
            by_cases hl : ((c :: r).takeWhile (· != 10)).length < (c :: r).length
            · rw [tw_app_lt _ _ hl] at hs
              exact absurd rfl hs
            · have := tw_len (p := (· != 10)) (c :: r)
              rw [show ((c :: r).takeWhile (· != 10)).length = (c :: r).length from by omega]
          · rename_i h4
            rw [if_neg h4, if_neg h4] at hs
            split
            · rename_i h5
              rw [if_pos h5, if_pos h5, tw_app (by decide)] at hs
              exact absurd rfl hs
            · rename_i h5
              rw [if_neg h5, if_neg h5] at hs
              split
              · rename_i h6
                rw [if_pos h6, if_pos h6, tw_app (by decide)] at hs
                exact absurd rfl hs
              · rename_i h6
                rw [if_neg h6, if_neg h6] at hs
                exact absurd rfl hs
      have : lexL (f + 1) k (c :: r) = [] := by
        rw [lexL, h35]
        simp only [Option.toList_none, List.nil_append, List.drop_length]
        cases f <;> rfl
      exact ⟨_, by rw [this, List.nil_append]⟩

theorem lex_more (s m : List UInt8) : ∃ X, lex (s ++ 32 :: m) = lex s ++ X := lexL_more m _ _ 0 s (by omega) (by omega)
end Go.Av

namespace Go.Av
def parseM (s : List UInt8) : GF × Int × Int :=
  match progM s.length 3000003 (lex s) with
  | .error k => (⟨[], [], []⟩, k, 3)
  | .ok f => if validM f then (f, 0, 0) else (⟨[], [], []⟩, 0, 1)

end Go.Av

namespace Go.Av
/-! ### The two laws on errors -/
theorem parseM_err {s : List UInt8} (h : (parseM s).2.2 = 3) : ∃ k, progM s.length 3000003 (lex s) = .error k ∧ (parseM s).2.1 = (k : Int) := by
  unfold parseM at h ⊢
  cases hp : progM s.length 3000003 (lex s) with
  | error k => exact ⟨k, rfl, by simp⟩
  | ok f =>
    rw [hp] at h
    simp only at h
    cases hv : validM f <;> rw [hv] at h <;> simp at h

theorem parseM_of_err {s : List UInt8} {k : Nat} (h : progM s.length 3000003 (lex s) = .error k) : parseM s = (⟨[], [], []⟩, (k : Int), 3) := by
  unfold parseM
  rw [h]

theorem parseM_codes (s : List UInt8) : (parseM s).2.2 = 0 ∨ (parseM s).2.2 = 1 ∨ (parseM s).2.2 = 3 := by
  unfold parseM
  split
  · simp
  · split <;> simp

/-- The position of an error: the end, or a token. -/
theorem err_at {s : List UInt8} {k : Nat} (hs : s.length ≤ 1000000) (h : progM s.length 3000003 (lex s) = .error k) : k = s.length ∨ ∃ t ∈ lex s, t.at_ = k := by
  have hl := lex_len s
  exact progM_bd (S := fun k => k = s.length ∨ ∃ t ∈ lex s, t.at_ = k) (.inl rfl) (fun t ht => .inr ⟨t, ht, rfl⟩) (by omega) h

theorem err_le {s : List UInt8} {k : Nat} (hs : s.length ≤ 1000000) (h : progM s.length 3000003 (lex s) = .error k) : k ≤ s.length := by
  rcases err_at hs h with h1 | ⟨t, ht, rfl⟩
  · omega
  · have := lexL_at _ _ _ t ht; omega

theorem law_final {s m : List UInt8} (h : (parseM s).2.2 = 3) (hlt : (parseM s).2.1 < s.length) : parseM (s ++ 32 :: m) = (⟨[], [], []⟩, (parseM s).2.1, 3) := by
  obtain ⟨k, hk, ha⟩ := parseM_err h
  rw [ha] at hlt ⊢
  obtain ⟨X, hX⟩ := lex_more s m
  refine parseM_of_err ?_
  rw [hX]
  exact progM_ext (e := s.length) _ _ _ (by omega) hk

theorem law_viable {s : List UInt8} (hs : s.length ≤ 1000000) (h : (parseM s).2.2 = 3) : 0 ≤ (parseM s).2.1 ∧ (parseM s).2.1 ≤ s.length ∧
    ((parseM (s.take (parseM s).2.1.toNat)).2.2 = 0 ∨ (parseM (s.take (parseM s).2.1.toNat)).2.2 = 1 ∨ (parseM (s.take (parseM s).2.1.toNat)).2.1 = (parseM s).2.1) := by
  obtain ⟨k, hk, ha⟩ := parseM_err h
  have hle := err_le hs hk
  rw [ha]
  refine ⟨by omega, by omega, ?_⟩
  rw [Int.toNat_natCast]
  rcases err_at hs hk with h1 | ⟨t, ht, h1⟩
  · right; right
    rw [h1, List.take_length, ha, h1]
  · rcases parseM_codes (s.take k) with h2 | h2 | h2
    · exact .inl h2
    · exact .inr (.inl h2)
    · right; right
      obtain ⟨j, hj, hja⟩ := parseM_err h2
      have hlen : (s.take k).length = k := by rw [List.length_take]; omega
      have hjk := err_le (by rw [hlen]; omega) hj
      rw [hja]
      rw [hlen] at hj hjk
      by_cases hlt : j < k
      · obtain ⟨X, hX⟩ := lex_cut ht
        rw [h1] at hX
        have := progM_ext (e := k) (e' := s.length) (X := X) _ _ _ hlt hj
        rw [← hX, hk] at this
        injection this with this
        omega
      · have : j = k := by omega
        rw [this]
end Go.Av

namespace Go.Av
/-! ### The tokens of texts that are put together -/
def lexK (k : Nat) (r : List UInt8) : List Tok := lexL (r.length + 1) k r
theorem lexK_nil (k : Nat) : lexK k [] = [] := rfl
theorem lexK_cons (k : Nat) (c : UInt8) (r : List UInt8) : lexK k (c :: r) = (lexStep k c (c :: r)).1.toList ++ lexK (k + (lexStep k c (c :: r)).2) ((c :: r).drop (lexStep k c (c :: r)).2) := by
  have h1 := lexStep_pos k c r
  have h2 := lexStep_le k c r
  unfold lexK
  rw [lexL]
  congr 1
  refine lexL_fuel _ _ _ _ ?_ ?_
  · rw [List.length_drop]; simp only [List.length_cons] at *; omega
  · omega
theorem lexK_lex (s : List UInt8) : lex s = lexK 0 s := rfl

/-- A text that is one token. -/
def Good (x : List UInt8) : Prop := ∃ c r, x = c :: r ∧ isBlank c = false ∧ c ≠ 35 ∧ ((isLetter c = true ∧ r.all inWord = true) ∨ (isLetter c = false ∧ isDigit c = true ∧ r.all isDigit = true) ∨ (isLetter c = false ∧ isDigit c = false ∧ r = []))
def tokOf (k : Nat) (x : List UInt8) : Tok := ⟨k, x, match x with | [] => false | c :: _ => isLetter c, match x with | [] => -1 | c :: _ => if isDigit c then numVal x else -1⟩

theorem tw_all {p : UInt8 → Bool} : ∀ (x : List UInt8) {rest : List UInt8}, x.all p = true → (rest = [] ∨ ∃ b r, rest = b :: r ∧ p b = false) → (x ++ rest).takeWhile p = x
  | [], rest, _, h => by
    rcases h with rfl | ⟨b, r, rfl, hb⟩
    · rfl
    · simp [hb]
  | c :: x, rest, h, hr => by
    simp only [List.all_cons, Bool.and_eq_true] at h
    simp only [List.cons_append, List.takeWhile_cons, h.1, if_true]
    rw [tw_all x h.2 hr]

theorem blank_not {b : UInt8} (h : isBlank b = true) : inWord b = false ∧ isDigit b = false := by
  have h1 := (isBlank_iff b).1 h
  have hl : isLetter b = false := by
    cases hl : isLetter b with
    | false => rfl
    | true => have := (isLetter_iff b).1 hl; omega
  have hd : isDigit b = false := by
    cases hd : isDigit b with
    | false => rfl
    | true => have := (isDigit_iff b).1 hd; omega
  refine ⟨?_, hd⟩
  have : (b == 95) = false := by
    rw [u8_eq, decide_eq_false_iff_not]
    intro e
    have : (b.toNat : Int) = 95 := e
    omega
  simp [inWord, hl, hd, this]

theorem lexStep_good {x : List UInt8} (hx : Good x) {rest : List UInt8} (hr : rest = [] ∨ ∃ b r, rest = b :: r ∧ isBlank b = true) (k : Nat) :
    ∃ c r, x = c :: r ∧ lexStep k c (x ++ rest) = (some (tokOf k x), x.length) := by
  obtain ⟨c, r, rfl, h1, h2, h3⟩ := hx
  refine ⟨c, r, rfl, ?_⟩
  have hw : rest = [] ∨ ∃ b r, rest = b :: r ∧ inWord b = false := hr.imp id fun ⟨b, r, e, hb⟩ => ⟨b, r, e, (blank_not hb).1⟩
  have hd : rest = [] ∨ ∃ b r, rest = b :: r ∧ isDigit b = false := hr.imp id fun ⟨b, r, e, hb⟩ => ⟨b, r, e, (blank_not hb).2⟩
  have h35 : (c == 35) = false := by simpa using h2
  rcases h3 with ⟨hl, ha⟩ | ⟨hl, hdg, ha⟩ | ⟨hl, hdg, rfl⟩
  · simp only [lexStep, h1, h35, hl, Bool.false_eq_true, if_false, if_true]
    rw [tw_all (c :: r) (by rw [List.all_cons, ha, show inWord c = true from by simp [inWord, hl]]; rfl) hw]
    simp [tokOf, hl, letter_not_digit hl]
  · simp only [lexStep, h1, h35, hl, hdg, Bool.false_eq_true, if_false, if_true]
    rw [tw_all (c :: r) (by rw [List.all_cons, ha, hdg]; rfl) hd]
    simp [tokOf, hl, hdg]
  · simp only [lexStep, h1, h35, hl, hdg, Bool.false_eq_true, if_false]
    simp [tokOf, hl, hdg]

theorem lexK_good {x : List UInt8} (hx : Good x) {rest : List UInt8} (hr : rest = [] ∨ ∃ b r, rest = b :: r ∧ isBlank b = true) (k : Nat) :
    lexK k (x ++ rest) = tokOf k x :: lexK (k + x.length) rest := by
  obtain ⟨c, r, rfl, h⟩ := lexStep_good hx hr k
  rw [List.cons_append] at h ⊢
  rw [lexK_cons, h]
  simp

theorem lexK_blank {b : UInt8} (hb : isBlank b = true) (k : Nat) (r : List UInt8) : lexK k (b :: r) = lexK (k + 1) r := by
  rw [lexK_cons, show lexStep k b (b :: r) = (none, 1) from by simp [lexStep, hb]]
  rfl

/-- What stands between tokens. -/
def seps : List (List UInt8) := [[32], [10], [9, 32], [32, 35, 32, 97, 32, 99, 111, 109, 109, 101, 110, 116, 59, 32, 120, 32, 61, 10], [13, 10]]

theorem lexK_sep {x : List UInt8} (hx : x ∈ seps) (k : Nat) (r : List UInt8) : lexK k (x ++ r) = lexK (k + x.length) r := by
  simp only [seps, List.mem_cons, List.not_mem_nil, or_false] at hx
  rcases hx with rfl | rfl | rfl | rfl | rfl
  · exact lexK_blank (by decide) k r
  · exact lexK_blank (by decide) k r
  · rw [show [9, 32] ++ r = 9 :: 32 :: r from rfl, lexK_blank (by decide), lexK_blank (by decide)]; rfl
  · rw [show [32, 35, 32, 97, 32, 99, 111, 109, 109, 101, 110, 116, 59, 32, 120, 32, 61, 10] ++ r = 32 :: 35 :: 32 :: 97 :: 32 :: 99 :: 111 :: 109 :: 109 :: 101 :: 110 :: 116 :: 59 :: 32 :: 120 :: 32 :: 61 :: 10 :: r from rfl, lexK_blank (by decide), lexK_cons]
    rw [show lexStep (k + 1) 35 (35 :: 32 :: 97 :: 32 :: 99 :: 111 :: 109 :: 109 :: 101 :: 110 :: 116 :: 59 :: 32 :: 120 :: 32 :: 61 :: 10 :: r) = (none, 16) from rfl]
    simp only [Option.toList_none, List.nil_append, List.drop_succ_cons, List.drop_zero]
    rw [lexK_blank (by decide)]
    rfl
  · rw [show [13, 10] ++ r = 13 :: 10 :: r from rfl, lexK_blank (by decide), lexK_blank (by decide)]; rfl

theorem sep_blank {x : List UInt8} (hx : x ∈ seps) : ∃ b r, x = b :: r ∧ isBlank b = true := by
  simp only [seps, List.mem_cons, List.not_mem_nil, or_false] at hx
  rcases hx with rfl | rfl | rfl | rfl | rfl <;> exact ⟨_, _, rfl, by decide⟩

theorem lexK_join : ∀ (ps : List (List UInt8 × List UInt8)) (k : Nat), (∀ p ∈ ps, Good p.1 ∧ p.2 ∈ seps) → (lexK k (ps.flatMap fun p => p.1 ++ p.2)).map Tok.text = ps.map (·.1)
  | [], k, h => rfl
  | p :: ps, k, h => by
    obtain ⟨h1, h2⟩ := h p (by simp)
    obtain ⟨b, r, e, hb⟩ := sep_blank h2
    rw [List.flatMap_cons, List.append_assoc, lexK_good h1 (.inr ⟨b, r ++ ps.flatMap fun p => p.1 ++ p.2, by rw [e]; rfl, hb⟩), lexK_sep h2]
    simp only [List.map_cons]
    rw [lexK_join ps _ fun q hq => h q (by simp [hq])]
    rfl

theorem all_tw {p : UInt8 → Bool} (l : List UInt8) : (l.takeWhile p).all p = true := List.all_takeWhile

theorem lexStep_isGood {k : Nat} {c : UInt8} {r : List UInt8} {t : Tok} {n : Nat} (h : lexStep k c (c :: r) = (some t, n)) : Good t.text := by
  unfold lexStep at h
  split at h
  · cases h
  · rename_i hb
    have hb' : isBlank c = false := by simpa using hb
    split at h
    · cases h
    · rename_i h35
      have h35' : c ≠ 35 := by simpa using h35
      split at h
      · rename_i hl
        injection h with h1 h2
        injection h1 with h1
        subst h1
        exact ⟨c, r.takeWhile inWord, by simp [inWord, hl], hb', h35', .inl ⟨hl, all_tw _⟩⟩
      · rename_i hl
        have hl' : isLetter c = false := by simpa using hl
        split at h
        · rename_i hd
          injection h with h1 h2
          injection h1 with h1
          subst h1
          exact ⟨c, r.takeWhile isDigit, by simp [hd], hb', h35', .inr (.inl ⟨hl', hd, all_tw _⟩)⟩
        · rename_i hd
          have hd' : isDigit c = false := by simpa using hd
          injection h with h1 h2
          injection h1 with h1
          subst h1
          exact ⟨c, [], rfl, hb', h35', .inr (.inr ⟨hl', hd', rfl⟩)⟩

theorem lexL_good : ∀ (f k : Nat) (r : List UInt8), ∀ t ∈ lexL f k r, Good t.text ∧ TokOK t ∧ t.text.length ≤ r.length
  | 0, k, r, t, h => by simp [lexL] at h
  | f + 1, k, [], t, h => by simp [lexL] at h
  | f + 1, k, c :: r, t, h => by
    simp only [lexL, List.mem_append, Option.mem_toList] at h
    cases hst : lexStep k c (c :: r) with
    | mk o n =>
      rw [hst] at h
      simp only at h
      rcases h with h | h
      · have h : o = some t := by simpa using h
        subst h
        obtain ⟨a1, a2, a3⟩ := lexStep_tok hst
        have := lexStep_le k c r
        rw [hst] at this
        exact ⟨lexStep_isGood hst, a1, by rw [a2]; exact this⟩
      · obtain ⟨a1, a2, a3⟩ := lexL_good f _ _ t h
        refine ⟨a1, a2, Nat.le_trans a3 ?_⟩
        rw [List.length_drop]; omega

/-! ### Positions do not matter -/
def Key (t t' : Tok) : Prop := t.text = t'.text ∧ t.word = t'.word ∧ t.num = t'.num
theorem key_of_text {t t' : Tok} (h : TokOK t) (h' : TokOK t') (he : t.text = t'.text) : Key t t' := by
  obtain ⟨c, r, e1, e2, e3⟩ := h
  obtain ⟨c', r', f1, f2, f3⟩ := h'
  have : c = c' := by rw [e1, f1] at he; injection he
  subst this
  exact ⟨he, e2.trans f2.symm, by rw [e3, f3, he]⟩

inductive KL : List Tok → List Tok → Prop where
  | nil : KL [] []
  | cons {t t' : Tok} {l l' : List Tok} (h : Key t t') (hl : KL l l') : KL (t :: l) (t' :: l')

theorem KL.of_text : ∀ {l l' : List Tok}, (∀ t ∈ l, TokOK t) → (∀ t ∈ l', TokOK t) → l.map Tok.text = l'.map Tok.text → KL l l'
  | [], [], _, _, _ => .nil
  | [], t :: l', _, _, h => by simp at h
  | t :: l, [], _, _, h => by simp at h
  | t :: l, t' :: l', h1, h2, h => by
    simp only [List.map_cons, List.cons.injEq] at h
    exact .cons (key_of_text (h1 t (by simp)) (h2 t' (by simp)) h.1) (KL.of_text (fun x hx => h1 x (by simp [hx])) (fun x hx => h2 x (by simp [hx])) h.2)
end Go.Av

namespace Go.Av
/-- The same but for positions. -/
def Sm {α : Type} : PR α → PR α → Prop
  | .ok (x, l), .ok (x', l') => x = x' ∧ KL l l'
  | .error _, .error _ => True
  | _, _ => False

theorem Sm.bind {α β : Type} {r r' : PR α} {F F' : α → List Tok → PR β} (h : Sm r r') (hF : ∀ x l l', KL l l' → Sm (F x l) (F' x l')) : Sm (bindM r F) (bindM r' F') := by
  cases r with
  | error k =>
    cases r' with
    | error k' => exact trivial
    | ok p' => exact h.elim
  | ok p =>
    obtain ⟨x, l⟩ := p
    cases r' with
    | error k' => exact h.elim
    | ok p' =>
      obtain ⟨x', l'⟩ := p'
      obtain ⟨rfl, hl⟩ := h
      exact hF _ _ _ hl
theorem Sm.ok {α : Type} (x : α) {l l' : List Tok} (h : KL l l') : Sm (.ok (x, l) : PR α) (.ok (x, l')) := ⟨rfl, h⟩
theorem Sm.err {α : Type} {k k' : Nat} : Sm (.error k : PR α) (.error k') := trivial

variable {e e' : Nat}
theorem KL.peek {l l' : List Tok} (h : KL l l') : Key (peekT e l) (peekT e' l') := by
  cases h with
  | nil => exact ⟨rfl, rfl, rfl⟩
  | cons h _ => exact h
theorem KL.tail {l l' : List Tok} (h : KL l l') : KL l.tail l'.tail := by
  cases h with
  | nil => exact .nil
  | cons _ h => exact h
theorem Key.isName {t t' : Tok} (h : Key t t') : isNameT t' = isNameT t := by
  obtain ⟨h1, h2, h3⟩ := h
  simp only [isNameT, h1, h2]

theorem expB_sm (x : List UInt8) {l l' : List Tok} (h : KL l l') : Sm (expB e x l) (expB e' x l') := by
  cases h with
  | nil => exact trivial
  | cons h hl =>
    simp only [expB, expM, ← h.1]
    generalize (_ == x) = b
    cases b
    · exact trivial
    · exact ⟨rfl, hl⟩

theorem sufM_sm : ∀ {l l' : List Tok} (h : KL l l') (x : GE), (sufM x l).1 = (sufM x l').1 ∧ KL (sufM x l).2 (sufM x l').2
  | _, _, .nil, x => ⟨rfl, .nil⟩
  | _, _, .cons (t := t) (t' := t') h hl, x => by
    simp only [sufM, ← h.1]
    split
    · exact sufM_sm hl _
    · split
      · exact sufM_sm hl _
      · split
        · exact sufM_sm hl _
        · exact ⟨rfl, .cons h hl⟩

theorem namesM_sm : ∀ {l l' : List Tok} (h : KL l l'), (namesM e l).1 = (namesM e' l').1 ∧ KL (namesM e l).2 (namesM e' l').2
  | _, _, .nil => ⟨rfl, .nil⟩
  | _, _, .cons (t := t) (t' := t') h hl => by
    simp only [namesM, h.isName]
    split
    · obtain ⟨a, b⟩ := namesM_sm hl
      exact ⟨by simp only [a, h.1], b⟩
    · exact ⟨rfl, .cons h hl⟩

theorem readM_sm : ∀ (f : Nat) {l l' : List Tok}, KL l l' → Sm (itemsM e f l) (itemsM e' f l') ∧ Sm (itemM e f l) (itemM e' f l') ∧ Sm (primM e f l) (primM e' f l') ∧ Sm (altsM e f l) (altsM e' f l')
  | 0, l, l', h => ⟨trivial, trivial, trivial, trivial⟩
  | f + 1, l, l', h => by
    have ih := fun {l l' : List Tok} (h : KL l l') => readM_sm f h
    have hp := h.peek (e := e) (e' := e')
    refine ⟨?_, ?_, ?_, ?_⟩
    · rw [itemsM_eq, itemsM_eq, hp.isName, ← hp.1]
      split
      · exact (ih h).2.1.bind fun x l1 l1' h1 => (ih h1).1.bind fun xs l2 l2' h2 => Sm.ok _ h2
      · exact Sm.ok _ h
    · rw [itemM_eq, itemM_eq]
      refine (ih h).2.2.1.bind fun x l1 l1' h1 => ?_
      obtain ⟨a, b⟩ := sufM_sm h1 x
      exact ⟨a, b⟩
    · rw [primM_eq, primM_eq, hp.isName, ← hp.1]
      split
      · exact Sm.ok _ h.tail
      · exact (expB_sm _ h).bind fun _ l0 l0' h0 => (ih h0).1.bind fun xs l1 l1' h1 => (ih h1).2.2.2.bind fun ys l2 l2' h2 => (expB_sm _ h2).bind fun _ l3 l3' h3 => Sm.ok _ h3
    · rw [altsM_eq, altsM_eq, ← hp.1]
      split
      · exact (ih h.tail).1.bind fun x l1 l1' h1 => (ih h1).2.2.2.bind fun xs l2 l2' h2 => Sm.ok _ h2
      · exact Sm.ok _ h

theorem altM_sm (f : Nat) {l l' : List Tok} (h : KL l l') : Sm (altM e f l) (altM e' f l') := by
  rw [altM_eq, altM_eq]
  refine (readM_sm f h).1.bind fun xs l1 l1' h1 => ?_
  have hp := h1.peek (e := e) (e' := e')
  have hp2 := h1.tail.peek (e := e) (e' := e')
  rw [← hp.1, ← hp2.2.2]
  split
  · split
    · exact trivial
    · exact Sm.ok _ h1.tail.tail
  · exact Sm.ok _ h1

theorem moreM_sm : ∀ (f : Nat) {l l' : List Tok}, KL l l' → Sm (moreM e f l) (moreM e' f l')
  | 0, l, l', h => trivial
  | f + 1, l, l', h => by
    have hp := h.peek (e := e) (e' := e')
    rw [moreM_eq, moreM_eq, ← hp.1]
    split
    · exact (altM_sm f h.tail).bind fun x l1 l1' h1 => (moreM_sm f h1).bind fun xs l2 l2' h2 => Sm.ok _ h2
    · exact Sm.ok _ h

theorem ruleM_sm (f : Nat) {l l' : List Tok} (h : KL l l') : Sm (ruleM e f l) (ruleM e' f l') := by
  have hp := h.peek (e := e) (e' := e')
  rw [ruleM_eq, ruleM_eq, hp.isName, ← hp.1]
  split
  · exact (expB_sm _ h.tail).bind fun _ l0 l0' h0 => (altM_sm f h0).bind fun a l1 l1' h1 => (moreM_sm f h1).bind fun bs l2 l2' h2 => (expB_sm _ h2).bind fun _ l3 l3' h3 => Sm.ok _ h3
  · exact trivial

theorem levelM_sm (a : Int) {l l' : List Tok} (h : KL l l') : Sm (levelM e a l) (levelM e' a l') := by
  have hp := h.tail.peek (e := e) (e' := e')
  obtain ⟨n1, n2⟩ := namesM_sm (e := e) (e' := e') h.tail.tail
  rw [levelM_eq, levelM_eq, hp.isName, ← hp.1, ← n1]
  split
  · exact (expB_sm _ n2).bind fun _ r r' hr => Sm.ok _ hr
  · exact trivial

theorem levelsM_sm : ∀ (f : Nat) {l l' : List Tok}, KL l l' → Sm (levelsM e f l) (levelsM e' f l')
  | 0, l, l', h => trivial
  | f + 1, l, l', h => by
    have hp := h.peek (e := e) (e' := e')
    rw [levelsM_eq, levelsM_eq, ← hp.1]
    cases assocOf (peekT e l).text with
    | none => exact Sm.ok _ h
    | some a => exact (levelM_sm a h).bind fun x l1 l1' h1 => (levelsM_sm f h1).bind fun xs l2 l2' h2 => Sm.ok _ h2

theorem rulesM_sm (F : Nat) : ∀ (g : Nat) {l l' : List Tok}, KL l l' → Sm (rulesM e F g l) (rulesM e' F g l')
  | 0, l, l', h => trivial
  | g + 1, _, _, .nil => Sm.ok _ .nil
  | g + 1, _, _, .cons h hl => by
    rw [rulesM_eq, rulesM_eq]
    exact (ruleM_sm F (.cons h hl)).bind fun x l1 l1' h1 => (rulesM_sm F g h1).bind fun xs l2 l2' h2 => Sm.ok _ h2

theorem progP_sm (F : Nat) {l l' : List Tok} (h : KL l l') : Sm (progP e F l) (progP e' F l') := by
  unfold progP
  refine (expB_sm _ h).bind fun _ l1 l1' h1 => ?_
  have hp := h1.peek (e := e) (e' := e')
  rw [hp.isName, ← hp.1]
  split
  · exact (expB_sm _ h1.tail).bind fun _ l2 l2' h2 => (levelsM_sm F h2).bind fun lv l3 l3' h3 => (rulesM_sm F F h3).bind fun rs l4 l4' h4 => Sm.ok _ h4
  · exact trivial

theorem parseM_key {s t : List UInt8} (h : (lex s).map Tok.text = (lex t).map Tok.text) : (parseM s).1 = (parseM t).1 ∧ (parseM s).2.2 = (parseM t).2.2 := by
  have hk : KL (lex s) (lex t) := KL.of_text (fun x hx => (lexL_good _ _ _ x hx).2.1) (fun x hx => (lexL_good _ _ _ x hx).2.1) h
  have hs := progP_sm (e := s.length) (e' := t.length) 3000003 hk
  unfold parseM
  rw [progM_eq, progM_eq]
  cases h1 : progP s.length 3000003 (lex s) with
  | error k =>
    rw [h1] at hs
    cases h2 : progP t.length 3000003 (lex t) with
    | error k' => exact ⟨rfl, rfl⟩
    | ok p => rw [h2] at hs; exact hs.elim
  | ok p =>
    obtain ⟨x, l⟩ := p
    rw [h1] at hs
    cases h2 : progP t.length 3000003 (lex t) with
    | error k' => rw [h2] at hs; exact hs.elim
    | ok p' =>
      obtain ⟨x', l'⟩ := p'
      rw [h2] at hs
      obtain ⟨rfl, _⟩ := hs
      exact ⟨rfl, rfl⟩

theorem law_space {s : List UInt8} {s0 : List UInt8} {ps : List (List UInt8 × List UInt8)} (h0 : s0 ∈ seps) (hp : ∀ p ∈ ps, p.2 ∈ seps) (ht : ps.map (·.1) = (lex s).map Tok.text) :
    (parseM s).1 = (parseM (s0 ++ ps.flatMap fun p => p.1 ++ p.2)).1 ∧ (parseM s).2.2 = (parseM (s0 ++ ps.flatMap fun p => p.1 ++ p.2)).2.2 := by
  refine parseM_key ?_
  rw [lexK_lex (s0 ++ _), lexK_sep h0, lexK_join ps _ fun p hp' => ⟨?_, hp p hp'⟩, ht]
  have : p.1 ∈ (lex s).map Tok.text := by rw [← ht]; exact List.mem_map_of_mem hp'
  obtain ⟨t, ht', he⟩ := List.mem_map.1 this
  rw [← he]
  exact (lexL_good _ _ _ t ht').1
end Go.Av
