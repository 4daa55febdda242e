/- Part of the proof: C10. No condition. -/
import Derived.Test.YtidbbhdejopdgaaC9
import Derived.Test.YtidbbhdejopdgaaAvF
set_option linter.unusedVariables false
set_option linter.unusedSimpArgs false
namespace Go.Av
structure GL where
  assoc : Int
  tokens : List (List UInt8)
  deriving Inhabited, DecidableEq
def GL.av (x : GL) : AV := .struct [i64 x.assoc, .list 1 (x.tokens.map AV.str)]

/-- Names, as many as there are. -/
def namesM (e : Nat) : List Tok → List (List UInt8) × List Tok
  | [] => ([], [])
  | t :: r => if isNameT t then let p := namesM e r; (t.text :: p.1, p.2) else ([], t :: r)

def levelM (e : Nat) (assoc : Int) (l : List Tok) : PR GL :=
  if isNameT (peekT e l.tail) then
    match expM e [59] (namesM e l.tail.tail).2 with
    | .error k => .error k
    | .ok r => .ok (⟨assoc, (peekT e l.tail).text :: (namesM e l.tail.tail).1⟩, r)
  else .error (peekT e l.tail).at_

/-- As 'Bs', with a second variable. -/
def B3 (H : AHeap) (bp b4 b5 e : Nat) (z y : AV) (l : List Tok) : AHeap := (Bs H bp b4 e z l).set b5 (.box y)
section
variable {H : AHeap} {bp b4 b5 e : Nat} {z z' y y' : AV} {l l' : List Tok}
theorem B3_bp (h : bp ≠ b4) (h5 : bp ≠ b5) : B3 H bp b4 b5 e z y l bp = some (.box (rdr l e)) := by
  unfold B3
  rw [AHeap.set_ne _ _ h5]; exact Bs_bp h
theorem B3_b4 (h : b4 ≠ b5) : B3 H bp b4 b5 e z y l b4 = some (.box z) := by
  unfold B3
  rw [AHeap.set_ne _ _ h]; exact Bs_b2
theorem B3_b5 : B3 H bp b4 b5 e z y l b5 = some (.box y) := by simp [B3]
theorem B3_set (h : bp ≠ b4) (h5 : bp ≠ b5) : (B3 H bp b4 b5 e z y l).set bp (.box (rdr l' e)) = B3 H bp b4 b5 e z y l' := by
  unfold B3
  rw [set_comm_heap (Ne.symm h5), Bs_set h]
theorem B3_set5 : (B3 H bp b4 b5 e z y l).set b5 (.box y') = B3 H bp b4 b5 e z y' l := by
  unfold B3
  rw [AHeap.set_set]
theorem B3_set4 (h : b4 ≠ b5) : (B3 H bp b4 b5 e z y l).set b4 (.box z') = B3 H bp b4 b5 e z' y l := by
  unfold B3
  rw [set_comm_heap (Ne.symm h), Bs_set2]
theorem Bs_none {b : Nat} (h : Bs H bp b4 e z l b = none) : bp ≠ b4 → b ≠ bp ∧ b ≠ b4 ∧ H b = none := by
  intro hne
  have h1 : bp ≠ b := ne_of_some_none (Bs_bp hne) h
  have h2 : b4 ≠ b := ne_of_some_none Bs_b2 h
  refine ⟨h1.symm, h2.symm, ?_⟩
  simpa [Bs, AHeap.set_ne, h1.symm, h2.symm] using h
theorem B3_le (h : bp ≠ b4) (hn : H b4 = none) (h1 : b5 ≠ bp) (h2 : b5 ≠ b4) (h5 : H b5 = none) : HLe (H.set bp (.box (rdr l e))) (B3 H bp b4 b5 e z y l) :=
  (Bs_le (z := z) h hn).trans (.set (by simp [Bs, AHeap.set_ne, h1, h2, h5]))
end

structure LvSt where
  v : AV
  H : AHeap
  l : List Tok
  done : List (List UInt8)

theorem strs_mem {x : AV} {l : List (List UInt8)} (h : x ∈ l.map AV.str) : x ≠ .undef := by
  obtain ⟨s, _, rfl⟩ := List.mem_map.1 h
  simp

theorem gp_level {bp e : Nat} {t : Tok} {l : List Tok} {H : AHeap} {post : ARes → AHeap → Prop} (assoc : Int) (hb : H bp = some (.box (rdr (t :: l) e))) (hl : l.length ≤ 1000000)
    (hp : PRpost bp e H GL.av post (levelM e assoc (t :: l))) : ACalls PP grammarparser_reader_level_id [.ptr bp 0 [], i64 assoc] H post := by
  refine grammarparser_reader_level_enter rfl ?_
  simp [grammarparser_reader_level_rs, allocQ]
  intro b4 hb4
  have ne := ne_of_some_none hb hb4
  generalize hz : AV.struct [AV.int IntKind.i64 0, AV.nils] = z
  have hzs : z.size = 2 := by rw [← hz]; rfl
  rw [show H.set b4 (.box z) = Bs H bp b4 e z (t :: l) from Bs_start hb]
  refine gp_next (Bs_bp ne) ?_
  rw [Bs_set ne]
  simp
  simp only [levelM, List.tail_cons] at hp
  refine gp_name (Bs_bp ne) (fun t1 r he hn => ?_) fun h => ?_
  · subst he
    rw [Bs_set ne]
    simp [allocQ]
    simp only [peekT_cons, hn, if_true, List.tail_cons] at hp
    intro b hb0 b5 hb5
    have hg0 := Grows.lit (e := 9) (sz := 1) (x := .str t1.text) hb0
    have hb5' := hg0.base hb5
    obtain ⟨n1, n2, n3⟩ := Bs_none hb5' ne
    have hg0 := hg0.add (o := .box (.struct [i64 assoc, .own 1 [.str t1.text] b])) hb5
    refine aw_loopK (fun x : LvSt => Grows (B3 H bp b4 b5 e z (.struct [i64 assoc, x.v]) x.l) 9 1 ((t1.text :: x.done).map AV.str) x.v x.H ∧ x.done.length + x.l.length ≤ r.length ∧
        x.done ++ (namesM e x.l).1 = (namesM e r).1 ∧ (namesM e x.l).2 = (namesM e r).2) (fun x => [(0, .ptr bp 0 []), (4, .ptr b4 0 []), (5, .ptr b5 0 [])]) (fun x => x.H) (fun x => x.l.length)
      ⟨.own 1 [.str t1.text] b, _, r, []⟩ ⟨hg0, by simp, rfl, rfl⟩ rfl rfl ?_
    rintro ⟨v, Hs, l', done⟩ ⟨hg, hnn, he1, he2⟩
    simp only at hg hnn he1 he2
    have hbs := hg.get (B3_bp ne n1.symm)
    have hb5s := hg.get B3_b5
    simp
    refine (gp_isName hbs).use ?_
    cases hc : isNameT (peekT e l')
    · have hstop : namesM e l' = ([], l') := by
        cases l' with
        | nil => rfl
        | cons t2 r2 => simp at hc; simp [namesM, hc]
      rw [hstop] at he1 he2
      simp only [List.append_nil] at he1 he2
      rw [← he1, ← he2] at hp
      simp
      refine gp_expM _ (by simp) hbs ?_
      cases h4 : expM e [59] l' with
      | error k =>
        rw [h4] at hp
        simp
        refine ⟨_, ?_, hp l'⟩
        exact (B3_le ne hb4 n1 n2 n3).trans hg.HLe
      | ok l3 =>
        rw [h4] at hp
        simp only [PRpost] at hp ⊢
        have hg1 := hg.set (o := .box (rdr l3 e)) (B3_bp ne n1.symm)
        rw [B3_set ne n1.symm] at hg1
        have q5 := hg1.get B3_b5
        have q4 := hg1.get (B3_b4 n2.symm)
        simp [q5, q4, hg.size, hzs]
        refine ⟨_, ?_, _, ?_, hp⟩
        · refine .struct rfl (fun j x y hx hy => ?_) (fun x hx => ?_)
          · match j with
            | 0 => simp at hx hy; subst hx hy; exact .refl _
            | 1 => simp at hx hy; subst hx hy; exact hg.sub
            | j + 2 => simp at hx
          · simp at hx
            rcases hx with rfl | rfl <;> simp
        · have := hg1.set (o := .box (.struct [i64 assoc, v])) (B3_b4 n2.symm)
          rw [B3_set4 n2.symm] at this
          exact (B3_le ne hb4 n1 n2 n3).trans this.HLe
    · obtain ⟨t2, r2, rfl, ht2⟩ := isNameT_cons hc
      simp only [namesM, ht2, if_true] at he1 he2
      simp
      refine grammarparser_reader_level_c6_lexF [b5] ?_
      simp [hb5s, hg.size]
      refine gp_name hbs (fun t' r' he _ => ?_) fun h => ?_
      · injection he with e1 e2
        subst e1 e2
        have hg1 := hg.set (o := .box (rdr r2 e)) (B3_bp ne n1.symm)
        rw [B3_set ne n1.symm] at hg1
        have ha : Agree [b5] Hs (Hs.set bp (.box (rdr r2 e))) := by
          intro x hx
          simp at hx
          subst hx
          rw [AHeap.set_ne _ _ n1]
        simp [ha]
        have hd : done.length ≤ 1000000 := by simp only [List.length_cons] at hl; omega
        refine hg1.app (by simp; omega) fun v' H' hg' => ?_
        have q5 := hg'.get B3_b5
        simp [q5, hg.size, hg'.size]
        refine loopK_same ⟨v', H'.set b5 (.box (.struct [i64 assoc, v'])), r2, done ++ [t2.text]⟩ ⟨?_, by simp at *; omega, ?_, he2⟩ (by simp) rfl rfl
        · have := hg'.set (o := .box (.struct [i64 assoc, v'])) B3_b5
          rw [B3_set5] at this
          simpa using this
        · rw [← he1]; simp
      · rw [hc] at h; cases h
  · simp only [h, Bool.false_eq_true, if_false, PRpost] at hp
    simp
    exact ⟨_, Bs_le ne hb4, hp l⟩
end Go.Av
