/- Part of the proof: C20. No condition. -/
import Derived.Test.YtidbbhdejopdgaaC19
import Derived.Test.YtidbbhdejopdgaaFns9
set_option linter.unusedVariables false
set_option linter.unusedSimpArgs false
namespace Go.Av
/-- The rules, to the text's end. -/
def rulesM (e F : Nat) : Nat → List Tok → PR (List GR)
  | 0, _ => .error (e + 1)
  | _ + 1, [] => .ok ([], [])
  | g + 1, t :: l => match ruleM e F (t :: l) with
    | .error k => .error k
    | .ok (x, l1) => consM x (rulesM e F g l1)

def progM (e F : Nat) (l : List Tok) : Except Nat GF :=
  match expM e kwStart l with
  | .error k => .error k
  | .ok l1 =>
    if isNameT (peekT e l1) then
      match expM e [59] l1.tail with
      | .error k => .error k
      | .ok l2 => match levelsM e F l2 with
        | .error k => .error k
        | .ok (lv, l3) => match rulesM e F F l3 with
          | .error k => .error k
          | .ok (rs, _) => .ok ⟨(peekT e l1).text, lv, rs⟩
    else .error (peekT e l1).at_

theorem lexL_len : ∀ (f k : Nat) (r : List UInt8), (lexL f k r).length ≤ r.length
  | 0, k, r => by simp [lexL]
  | f + 1, k, [] => by simp [lexL]
  | f + 1, k, c :: r => by
    have h := lexStep_pos k c r
    have ih := lexL_len f (k + (lexStep k c (c :: r)).2) ((c :: r).drop (lexStep k c (c :: r)).2)
    simp only [lexL, List.length_append]
    have h1 : (lexStep k c (c :: r)).1.toList.length ≤ 1 := by cases (lexStep k c (c :: r)).1 <;> simp
    rw [List.length_drop] at ih
    simp only [List.length_cons] at ih ⊢
    omega

theorem lex_len (s : List UInt8) : (lex s).length ≤ s.length := lexL_len _ _ _

theorem namesM_tok (e : Nat) : ∀ (l : List Tok), (namesM e l).1.length + (namesM e l).2.length ≤ l.length
  | [] => by simp [namesM]
  | t :: r => by
    simp only [namesM]
    split
    · have := namesM_tok e r
      simp; omega
    · simp

theorem levelM_tok {e : Nat} {a : Int} {t : Tok} {l l' : List Tok} {x : GL} (h : levelM e a (t :: l) = .ok (x, l')) : x.tokens.length + l'.length ≤ l.length := by
  by_cases hn : isNameT (peekT e l) = true
  · obtain ⟨t1, r, rfl, _⟩ := isNameT_cons hn
    simp only [levelM, List.tail_cons, hn, if_true] at h
    split at h
    · cases h
    · rename_i r' hr
      obtain ⟨t2, e2, _⟩ := expM_ok hr
      injection h with h
      injection h with q1 q2
      subst q1 q2
      have := namesM_tok e r
      rw [e2] at this
      simp at *; omega
  · have hn' : isNameT (peekT e l) = false := by simpa using hn
    simp only [levelM, List.tail_cons, hn', Bool.false_eq_true, if_false] at h
    cases h

theorem levelsM_tok (e : Nat) : ∀ (f : Nat) (l l' : List Tok) (x : List GL), levelsM e f l = .ok (x, l') → (x.flatMap GL.tokens).length + l'.length ≤ l.length
  | 0, l, l', x, h => by simp [levelsM] at h
  | f + 1, l, l', x, h => by
    simp only [levelsM] at h
    split at h
    · injection h with h
      injection h with h1 h2
      subst h1 h2; simp
    · rename_i a ha
      cases l with
      | nil => simp [assocOf, kwLeft, kwRight, kwNone] at ha
      | cons t r =>
        split at h
        · cases h
        · rename_i y l1 hy
          obtain ⟨xs, h1, e1⟩ := consM_ok h
          subst e1
          have := levelM_tok hy
          have := levelsM_tok e f _ _ _ h1
          simp at *; omega

theorem sub_file {nm : List UInt8} {v w : AV} {lv : List GL} {rs : List GR} (h : Sub v (.list 2 (lv.map GL.av))) (k : Sub w (.list 2 (rs.map GR.av))) : Sub (.struct [.str nm, v, w]) (GF.av ⟨nm, lv, rs⟩) := by
  unfold GF.av
  refine .struct rfl (fun j x y hx hy => ?_) (fun x hx => ?_)
  · match j with
    | 0 => simp at hx hy; subst hx hy; exact .refl _
    | 1 => simp at hx hy; subst hx hy; exact h
    | 2 => simp at hx hy; subst hx hy; exact k
    | n + 3 => simp at hx
  · simp at hx
    rcases hx with rfl | rfl | rfl <;> simp

def zGF : AV := .struct [.str [], .nils, .nils]
/-- The heap with the boxes of the results. -/
def E3 (H : AHeap) (b2 b3 b4 : Nat) (v : AV) (at_ err : Int) : AHeap := ((H.set b2 (.box v)).set b3 (.box (i64 at_))).set b4 (.box (i64 err))

theorem E3_zero {H : AHeap} {b2 b3 b4 : Nat} {v : AV} (n23 : b2 ≠ b3) (n24 : b2 ≠ b4) (n34 : b3 ≠ b4) (h3 : H b3 = some (.box (i64 0))) (h4 : H b4 = some (.box (i64 0))) : E3 H b2 b3 b4 v 0 0 = H.set b2 (.box v) := by
  funext x
  simp only [E3, AHeap.set]
  grind

theorem HLe.set2 {A B : AHeap} (h : HLe A B) (b : Nat) (o : AObj) : HLe (A.set b o) (B.set b o) := by
  refine ⟨fun x v hx => ?_, fun x n s e hx => ?_⟩
  · by_cases hb : x = b
    · subst hb; rw [AHeap.set_same] at hx ⊢; exact .inl hx
    · rw [AHeap.set_ne _ _ hb] at hx ⊢; exact h.box x v hx
  · by_cases hb : x = b
    · subst hb; rw [AHeap.set_same] at hx ⊢; exact hx
    · rw [AHeap.set_ne _ _ hb] at hx ⊢; exact h.row x n s e hx

theorem HLe.setSub {A : AHeap} {v v' : AV} (b : Nat) (h : Sub v v') (hu : v' ≠ .undef) : HLe (A.set b (.box v')) (A.set b (.box v)) := by
  refine ⟨fun x w hx => ?_, fun x n s e hx => ?_⟩
  · by_cases hb : x = b
    · subst hb; rw [AHeap.set_same] at hx ⊢
      injection hx with hx; injection hx with hx; subst hx
      exact .inr ⟨hu, v, rfl, h⟩
    · rw [AHeap.set_ne _ _ hb] at hx ⊢; exact .inl hx
  · by_cases hb : x = b
    · subst hb; rw [AHeap.set_same] at hx; cases hx
    · rw [AHeap.set_ne _ _ hb] at hx ⊢; exact hx

theorem E3_sub {A : AHeap} {b2 b3 b4 : Nat} {v v' : AV} {x y : Int} (h : Sub v v') (hu : v' ≠ .undef) : HLe (E3 A b2 b3 b4 v' x y) (E3 A b2 b3 b4 v x y) := ((HLe.setSub b2 h hu).set2 _ _).set2 _ _
theorem E3_up {A B : AHeap} {b2 b3 b4 : Nat} {w : AV} {x y : Int} (h : HLe A B) : HLe (E3 A b2 b3 b4 w x y) (E3 B b2 b3 b4 w x y) := ((h.set2 _ _).set2 _ _).set2 _ _
theorem E3_E3 {A : AHeap} {b2 b3 b4 : Nat} {v w : AV} {x y x' y' : Int} : E3 (E3 A b2 b3 b4 v x y) b2 b3 b4 w x' y' = E3 A b2 b3 b4 w x' y' := by
  funext z
  simp only [E3, AHeap.set]
  grind

structure PsSt where
  v : AV
  H : AHeap
  l : List Tok
  done : List GR
  g : Nat

set_option maxHeartbeats 2000000 in
theorem gp_Parse_body {H0 : AHeap} {b2 b3 b4 : Nat} (s : List UInt8) (hs : s.length ≤ 1000000) (n23 : b2 ≠ b3) (n24 : b2 ≠ b4) (n34 : b3 ≠ b4)
    (h2 : H0 b2 = some (.box zGF)) (h3 : H0 b3 = some (.box (i64 0))) (h4 : H0 b4 = some (.box (i64 0))) (F : Nat) (hF : 3 * s.length + 3 ≤ F) (K : AK)
    (hok : ∀ f H', progM s.length F (lex s) = .ok f → validM f = true → HLe (E3 H0 b2 b3 b4 f.av 0 0) H' → K .ret [(2, .ptr b2 0 []), (3, .ptr b3 0 []), (4, .ptr b4 0 [])] H')
    (harg : ∀ f H', progM s.length F (lex s) = .ok f → validM f = false → HLe (E3 H0 b2 b3 b4 zGF 0 1) H' → K .ret [(2, .ptr b2 0 []), (3, .ptr b3 0 []), (4, .ptr b4 0 [])] H')
    (herr : ∀ k v H', progM s.length F (lex s) = .error k → v.size = 3 → v.sto = true → HLe (E3 H0 b2 b3 b4 v 0 0) H' → K (.pan (synErr k)) [] H') :
    aw PP grammarparser_Parse_p1_ac K [(0, .str s), (2, .ptr b2 0 []), (3, .ptr b3 0 []), (4, .ptr b4 0 [])] H0 := by
  have hll := lex_len s
  simp [allocQ, -grammarparser_Parse_c30_eq]
  refine (gp_lex s hs H0).use ?_
  simp [allocQ, -grammarparser_Parse_c30_eq]
  intro hm bp hbp
  have e2 : bp ≠ b2 := by rintro rfl; rw [h2] at hbp; cases hbp
  have e3 : bp ≠ b3 := by rintro rfl; rw [h3] at hbp; cases hbp
  have e4 : bp ≠ b4 := by rintro rfl; rw [h4] at hbp; cases hbp
  generalize s.length = e at *
  generalize lex s = l at *
  have hst : H0.set bp (.box (.struct [.list 4 (l.map Tok.av), i64 e])) = Bs H0 bp b2 e zGF l := by
    unfold Bs
    funext x
    simp only [AHeap.set, rdr]
    grind
  rw [hst]
  clear hst
  have sz : zGF.size = 3 := rfl
  have so : zGF.sto = true := rfl
  have fin0 : ∀ z l, HLe (E3 H0 b2 b3 b4 z 0 0) (Bs H0 bp b2 e z l) := by
    intro z l
    rw [E3_zero n23 n24 n34 h3 h4]
    unfold Bs
    rw [set_comm_heap e2]
    exact .set (by rw [AHeap.set_ne _ _ e2]; exact hbp)
  generalize hpm : progM e F l = pm at *
  unfold progM at hpm
  simp [-grammarparser_Parse_c29_eq]
  refine gp_expM kwStart (by simp [kwStart]) (Bs_bp e2) ?_
  cases q0 : expM e kwStart l with
  | error k =>
    simp only [q0] at hpm
    subst hpm
    simp [synErr]
    exact herr k zGF _ rfl sz so (fin0 _ _)
  | ok l1 =>
    obtain ⟨t0, rfl, _⟩ := expM_ok q0
    simp only [q0] at hpm
    simp only [List.length_cons] at hll
    simp only []
    rw [Bs_set e2]
    simp [-grammarparser_Parse_c28_eq]
    refine gp_name (Bs_bp e2) (fun t1 r he hn => ?_) fun hn => ?_
    · subst he
      simp only [peekT_cons, hn, if_true, List.tail_cons] at hpm
      simp only [List.length_cons] at hll
      rw [Bs_set e2]
      simp [Bs_b2, zGF, -grammarparser_Parse_c28_eq]
      rw [Bs_set2]
      simp [-grammarparser_Parse_c27_eq]
      refine gp_expM [59] (by simp) (Bs_bp e2) ?_
      cases q1 : expM e [59] r with
      | error k =>
        simp only [q1] at hpm
        subst hpm
        simp [synErr]
        exact herr k _ _ rfl rfl rfl (fin0 _ _)
      | ok l2 =>
        obtain ⟨t2, rfl, _⟩ := expM_ok q1
        simp only [q1] at hpm
        simp only [List.length_cons] at hll
        simp only []
        rw [Bs_set e2]
        simp [-grammarparser_Parse_c26_eq]
        refine gp_levels (f := F) (Bs_bp e2) (by omega) (by omega) ?_
        cases q2 : levelsM e F l2 with
        | error k =>
          simp only [q2] at hpm
          subst hpm
          intro l'
          rw [Bs_set e2]
          simp [synErr]
          exact herr k _ _ rfl rfl rfl (fin0 _ _)
        | ok p =>
          obtain ⟨lv, l3⟩ := p
          have k1 := levelsM_len e F _ _ _ q2
          have k2 := levelsM_tok e F _ _ _ q2
          simp only [q2] at hpm
          simp only [PRpost]
          rw [Bs_set e2]
          simp [Bs_b2, -grammarparser_Parse_c26_eq]
          rw [Bs_set2]
          generalize hz : AV.struct [.str t1.text, .list 2 (lv.map GL.av), .nils] = z
          have zs : z.size = 3 := by subst hz; rfl
          have zo : z.sto = true := by subst hz; rfl
          simp [-grammarparser_Parse_c24_eq]
          refine aw_loopK (fun x : PsSt => Grows (Bs H0 bp b2 e z x.l) 44 2 (x.done.map GR.av) x.v x.H ∧ x.done.length + x.l.length ≤ l3.length ∧ x.l.length < x.g ∧ rulesM e F F l3 = prepM x.done (rulesM e F x.g x.l))
            (fun x => [(2, .ptr b2 0 []), (3, .ptr b3 0 []), (4, .ptr b4 0 []), (5, .ptr bp 0 []), (6, x.v)]) (fun x => x.H) (fun x => x.l.length)
            ⟨.nils, _, l3, [], F⟩ ⟨Grows.nil _ _ _, by simp, by simp only; omega, (prepM_nil _).symm⟩ rfl rfl ?_
          rintro ⟨v, Hs, l', done, g⟩ ⟨hg, hnn, hgf, he⟩
          simp only at hg hnn hgf he
          obtain ⟨g, rfl⟩ : ∃ g', g = g' + 1 := ⟨g - 1, by omega⟩
          have hbs := hg.get (Bs_bp e2)
          have hb2 := hg.get Bs_b2
          cases l' with
          | nil =>
            simp only [rulesM, prepM, List.append_nil] at he
            simp only [he] at hpm
            subst hpm
            simp [hbs, rdr, -grammarparser_Parse_c24_eq]
            have q3 : Hs b3 = some (.box (i64 0)) := hg.get (by unfold Bs; rw [AHeap.set_ne _ _ (Ne.symm n23), AHeap.set_ne _ _ (Ne.symm e3)]; exact h3)
            have q4 : Hs b4 = some (.box (i64 0)) := hg.get (by unfold Bs; rw [AHeap.set_ne _ _ (Ne.symm n24), AHeap.set_ne _ _ (Ne.symm e4)]; exact h4)
            have hg5 := hg.set (o := .box (.struct [.str t1.text, .list 2 (lv.map GL.av), v])) Bs_b2
            rw [Bs_set2] at hg5
            have hl5 := (fin0 (.struct [.str t1.text, .list 2 (lv.map GL.av), v]) []).trans hg5.HLe
            have hsub : Sub (.struct [.str t1.text, .list 2 (lv.map GL.av), v]) (GF.av ⟨t1.text, lv, done⟩) := sub_file (.refl _) hg.sub
            subst hz
            simp [hb2, hg.size, -grammarparser_Parse_c23_eq]
            have r2 : (Hs.set b2 (.box (.struct [.str t1.text, .list 2 (lv.map GL.av), v]))) b2 = some (.box (.struct [.str t1.text, .list 2 (lv.map GL.av), v])) := AHeap.set_same _ _ _
            have r3 : (Hs.set b2 (.box (.struct [.str t1.text, .list 2 (lv.map GL.av), v]))) b3 = some (.box (i64 0)) := by rw [AHeap.set_ne _ _ (Ne.symm n23)]; exact q3
            have r4 : (Hs.set b2 (.box (.struct [.str t1.text, .list 2 (lv.map GL.av), v]))) b4 = some (.box (i64 0)) := by rw [AHeap.set_ne _ _ (Ne.symm n24)]; exact q4
            generalize Hs.set b2 (.box (.struct [.str t1.text, .list 2 (lv.map GL.av), v])) = H5 at *
            have s3 : ∀ o, (H5.set b2 o) b3 = some (.box (i64 0)) := fun o => by rw [AHeap.set_ne _ _ (Ne.symm n23)]; exact r3
            have s4 : ∀ o o', ((H5.set b2 o).set b3 o') b4 = some (.box (i64 0)) := fun o o' => by rw [AHeap.set_ne _ _ (Ne.symm n34), AHeap.set_ne _ _ (Ne.symm n24)]; exact r4
            simp [r2, hg.size]
            refine ACalls.sub1 hsub ((gf_Valid ⟨t1.text, lv, done⟩ (by simp only; omega) H5).use ?_)
            cases hv : validM ⟨t1.text, lv, done⟩
            · simp [r2, s3, s4, hg.size]
              refine harg _ _ rfl hv ?_
              have := E3_up (b2 := b2) (b3 := b3) (b4 := b4) (w := zGF) (x := 0) (y := 1) hl5
              rw [E3_E3] at this
              exact this
            · simp [r2, s3, s4, hg.size]
              refine hok _ _ rfl hv ?_
              have := E3_up (b2 := b2) (b3 := b3) (b4 := b4) (w := .struct [.str t1.text, .list 2 (lv.map GL.av), v]) (x := 0) (y := 0) hl5
              rw [E3_E3] at this
              exact (E3_sub hsub (by simp [GF.av])).trans this
          | cons t l' =>
            have hlt : (0 : Int) < (l'.length : Int) + 1 := by omega
            simp [hbs, rdr, hlt]
            intro _
            simp only [rulesM] at he
            simp only [List.length_cons] at hnn hgf
            refine gp_rule (f := F) hbs (by simp; omega) (by simp; omega) ?_
            cases hr : ruleM e F (t :: l') with
            | error k =>
              rw [hr] at he
              simp only [prepM] at he
              simp only [he] at hpm
              subst hpm
              intro l''
              simp [synErr]
              have := hg.set (o := .box (rdr l'' e)) (Bs_bp e2)
              rw [Bs_set e2] at this
              exact herr k _ _ rfl zs zo ((fin0 _ _).trans this.HLe)
            | ok p =>
              obtain ⟨x, l1'⟩ := p
              rw [hr] at he
              simp only [prepM_cons] at he
              have hl1 := ruleM_len hr
              simp only [List.length_cons] at hl1
              have hg2 := hg.set (o := .box (rdr l1' e)) (Bs_bp e2)
              rw [Bs_set e2] at hg2
              simp [PRpost]
              refine hg2.app (by simp; omega) fun v' H' hg' => ?_
              simp
              exact loopK_same ⟨v', H', l1', done ++ [x], g⟩ ⟨by simpa using hg', by simp; omega, by simp only; omega, he⟩ (by simp only [List.length_cons]; omega) rfl rfl
    · simp only [hn, Bool.false_eq_true, if_false] at hpm
      subst hpm
      simp [synErr]
      exact herr _ zGF _ rfl sz so (fin0 _ _)
end Go.Av
