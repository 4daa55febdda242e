/- Part of the proof: PL2. No condition. -/
import Derived.Test.YtidbbhdejopdgaaPL1
set_option linter.unusedVariables false
set_option linter.unusedSimpArgs false
namespace Go.Av
/-! ### Text behind: what was decided stays decided -/
def NilP {α : Type} (e : Nat) (r : PR α) : Prop := (∀ k, r = .error k → e ≤ k) ∧ ∀ x l, r = .ok (x, l) → l = []
def Ext {α : Type} (e : Nat) (X : List Tok) (r r' : PR α) : Prop := (∀ k, k < e → r = .error k → r' = .error k) ∧ ∀ x l, l ≠ [] → r = .ok (x, l) → r' = .ok (x, l ++ X)

theorem NilP.bind {α β : Type} {e : Nat} {r : PR α} {F : α → List Tok → PR β} (h : NilP e r) (hF : ∀ x, NilP e (F x [])) : NilP e (bindM r F) := by
  cases r with
  | error k => exact ⟨fun k' hk => h.1 k' (by simpa using hk), fun x l hx => by simp at hx⟩
  | ok p =>
    obtain ⟨x, l⟩ := p
    have := h.2 x l rfl
    subst this
    exact hF x
theorem NilP.pure {α : Type} {e : Nat} (x : α) : NilP e (.ok (x, []) : PR α) := ⟨fun k hk => (by cases hk), fun y l hy => by injection hy with hy; injection hy with _ h; exact h.symm⟩
theorem NilP.err {α : Type} {e k : Nat} (h : e ≤ k) : NilP e (.error k : PR α) := ⟨fun k' hk => by injection hk with hk; omega, fun y l hy => by cases hy⟩
theorem NilP.ext {α : Type} {e : Nat} {X : List Tok} {r r' : PR α} (h : NilP e r) : Ext e X r r' := ⟨fun k hk hr => by have := h.1 k hr; omega, fun x l hl hr => absurd (h.2 x l hr) hl⟩

theorem Ext.bind {α β : Type} {e : Nat} {X : List Tok} {r r' : PR α} {F F' : α → List Tok → PR β} (h : Ext e X r r') (hF : ∀ x l, l ≠ [] → Ext e X (F x l) (F' x (l ++ X))) (hn : ∀ x, NilP e (F x [])) : Ext e X (bindM r F) (bindM r' F') := by
  cases r with
  | error k => exact ⟨fun k' hk hr => by rw [h.1 k' hk (by simpa using hr)]; rfl, fun x l hl hr => by simp at hr⟩
  | ok p =>
    obtain ⟨x, l⟩ := p
    by_cases hl : l = []
    · subst hl
      exact (hn x).ext
    · rw [h.2 x l hl rfl]
      exact hF x l hl
theorem Ext.pure {α : Type} {e : Nat} {X : List Tok} (x : α) (l : List Tok) : Ext e X (.ok (x, l) : PR α) (.ok (x, l ++ X)) := ⟨fun k _ hk => (by cases hk), fun y l' _ hy => by injection hy with hy; injection hy with h1 h2; subst h1 h2; rfl⟩
theorem Ext.err {α : Type} {e k : Nat} {X : List Tok} : Ext e X (.error k : PR α) (.error k) := ⟨fun k' _ hk => hk, fun y l hl hy => by cases hy⟩
theorem Ext.errE {α : Type} {e k : Nat} {X : List Tok} {r : PR α} (h : e ≤ k) : Ext e X (.error k : PR α) r := (NilP.err h).ext

variable {e e' : Nat} {X : List Tok}
theorem expB_nil (x : List UInt8) : NilP e (expB e x []) := NilP.err (Nat.le_refl _)
theorem expB_ext (x : List UInt8) (l : List Tok) : Ext e X (expB e x l) (expB e' x (l ++ X)) := by
  cases l with
  | nil => exact (expB_nil x).ext
  | cons t r =>
    simp only [expB, expM, List.cons_append]
    cases t.text == x
    · exact Ext.err
    · exact Ext.pure _ _

theorem sufM_nil (x : GE) : sufM x [] = (x, []) := rfl
theorem sufM_ext : ∀ (l : List Tok) (x : GE), (sufM x l).2 ≠ [] → sufM x (l ++ X) = ((sufM x l).1, (sufM x l).2 ++ X)
  | [], x, h => by simp [sufM] at h
  | t :: r, x, h => by
    simp only [sufM, List.cons_append] at h ⊢
    split
    · rename_i h1; rw [if_pos h1] at h; exact sufM_ext r _ h
    · rename_i h1
      rw [if_neg h1] at h
      split
      · rename_i h2; rw [if_pos h2] at h; exact sufM_ext r _ h
      · rename_i h2
        rw [if_neg h2] at h
        split
        · rename_i h3; rw [if_pos h3] at h; exact sufM_ext r _ h
        · simp

theorem sufB_ext (l : List Tok) (x : GE) : Ext e X (.ok (sufM x l) : PR GE) (.ok (sufM x (l ++ X))) := by
  refine ⟨fun k _ hk => (by cases hk), fun y l' hl hy => ?_⟩
  injection hy with hy
  rw [sufM_ext l x (by rw [hy]; exact hl), hy]

theorem namesM_ext : ∀ (l : List Tok), (namesM e l).2 ≠ [] → namesM e' (l ++ X) = ((namesM e l).1, (namesM e l).2 ++ X)
  | [], h => by simp [namesM] at h
  | t :: r, h => by
    simp only [namesM, List.cons_append] at h ⊢
    split
    · rename_i h1
      rw [if_pos h1] at h
      rw [namesM_ext r h]
    · simp

theorem itemsM_nil (f : Nat) : NilP e (itemsM e f []) := by
  cases f with
  | zero => exact NilP.err (by omega)
  | succ f => rw [itemsM_eq]; exact NilP.pure _
theorem altsM_nil (f : Nat) : NilP e (altsM e f []) := by
  cases f with
  | zero => exact NilP.err (by omega)
  | succ f => rw [altsM_eq]; exact NilP.pure _
theorem altM_nil (f : Nat) : NilP e (altM e f []) := by
  rw [altM_eq]
  exact (itemsM_nil f).bind fun x => NilP.pure _
theorem moreM_nil (f : Nat) : NilP e (moreM e f []) := by
  cases f with
  | zero => exact NilP.err (by omega)
  | succ f => rw [moreM_eq]; exact NilP.pure _
theorem levelsM_nil (f : Nat) : NilP e (levelsM e f []) := by
  cases f with
  | zero => exact NilP.err (by omega)
  | succ f => rw [levelsM_eq]; exact NilP.pure _
theorem rulesM_nil (F g : Nat) : NilP e (rulesM e F g []) := by
  cases g with
  | zero => exact NilP.err (by omega)
  | succ g => rw [rulesM]; exact NilP.pure _

theorem peek_ext {l : List Tok} (h : l ≠ []) : peekT e' (l ++ X) = peekT e l := by
  cases l with
  | nil => exact absurd rfl h
  | cons t r => rfl
theorem tail_ext {l : List Tok} (h : l ≠ []) : (l ++ X).tail = l.tail ++ X := by
  cases l with
  | nil => exact absurd rfl h
  | cons t r => rfl

theorem readM_ext : ∀ (f : Nat), (∀ l, Ext e X (itemsM e f l) (itemsM e' f (l ++ X))) ∧ (∀ l, Ext e X (itemM e f l) (itemM e' f (l ++ X))) ∧
    (∀ l, Ext e X (primM e f l) (primM e' f (l ++ X))) ∧ (∀ l, Ext e X (altsM e f l) (altsM e' f (l ++ X)))
  | 0 => ⟨fun l => Ext.errE (by omega), fun l => Ext.errE (by omega), fun l => Ext.errE (by omega), fun l => Ext.errE (by omega)⟩
  | f + 1 => by
    obtain ⟨i1, i2, i3, i4⟩ := readM_ext f
    refine ⟨fun l => ?_, fun l => ?_, fun l => ?_, fun l => ?_⟩
    · by_cases hl : l = []
      · subst hl; exact (itemsM_nil _).ext
      · rw [itemsM_eq, itemsM_eq, peek_ext (e := e) hl]
        split
        · exact (i2 l).bind (fun x l1 h1 => (i1 l1).bind (fun xs l2 h2 => Ext.pure _ _) fun xs => NilP.pure _) fun x => (itemsM_nil f).bind fun xs => NilP.pure _
        · exact Ext.pure _ _
    · rw [itemM_eq, itemM_eq]
      exact (i3 l).bind (fun x l1 h1 => sufB_ext l1 x) fun x => NilP.pure _
    · by_cases hl : l = []
      · subst hl
        rw [primM_eq, if_neg (by simp [isNameT])]
        refine NilP.ext ?_
        exact (expB_nil _).bind fun _ => (itemsM_nil f).bind fun _ => (altsM_nil f).bind fun _ => (expB_nil _).bind fun _ => NilP.pure _
      · rw [primM_eq, primM_eq, peek_ext (e := e) hl, tail_ext hl]
        split
        · exact Ext.pure _ _
        · exact (expB_ext _ l).bind (fun _ l0 h0 => (i1 l0).bind (fun xs l1 h1 => (i4 l1).bind (fun ys l2 h2 => (expB_ext _ l2).bind (fun _ l3 h3 => Ext.pure _ _) fun _ => NilP.pure _)
            fun ys => (expB_nil _).bind fun _ => NilP.pure _) fun xs => (altsM_nil f).bind fun _ => (expB_nil _).bind fun _ => NilP.pure _)
            fun _ => (itemsM_nil f).bind fun _ => (altsM_nil f).bind fun _ => (expB_nil _).bind fun _ => NilP.pure _
    · by_cases hl : l = []
      · subst hl; exact (altsM_nil _).ext
      · rw [altsM_eq, altsM_eq, peek_ext (e := e) hl, tail_ext hl]
        split
        · exact (i1 _).bind (fun x l1 h1 => (i4 l1).bind (fun xs l2 h2 => Ext.pure _ _) fun xs => NilP.pure _) fun x => (altsM_nil f).bind fun xs => NilP.pure _
        · exact Ext.pure _ _

theorem altM_ext (f : Nat) (l : List Tok) : Ext e X (altM e f l) (altM e' f (l ++ X)) := by
  rw [altM_eq, altM_eq]
  refine ((readM_ext f).1 l).bind (fun xs l1 h1 => ?_) fun xs => NilP.pure _
  rw [peek_ext (e := e) h1, tail_ext h1]
  split
  · by_cases h2 : l1.tail = []
    · rw [h2]
      exact Ext.errE (Nat.le_refl _)
    · rw [peek_ext (e := e) h2, tail_ext h2]
      split
      · exact Ext.err
      · exact Ext.pure _ _
  · exact Ext.pure _ _

theorem moreM_ext : ∀ (f : Nat) (l : List Tok), Ext e X (moreM e f l) (moreM e' f (l ++ X))
  | 0, l => Ext.errE (by omega)
  | f + 1, l => by
    by_cases hl : l = []
    · subst hl; exact (moreM_nil _).ext
    · rw [moreM_eq, moreM_eq, peek_ext (e := e) hl, tail_ext hl]
      split
      · exact (altM_ext f _).bind (fun x l1 h1 => (moreM_ext f l1).bind (fun xs l2 h2 => Ext.pure _ _) fun xs => NilP.pure _) fun x => (moreM_nil f).bind fun xs => NilP.pure _
      · exact Ext.pure _ _

theorem ruleM_ext (f : Nat) (l : List Tok) : Ext e X (ruleM e f l) (ruleM e' f (l ++ X)) := by
  by_cases hl : l = []
  · subst hl
    rw [ruleM_eq]
    exact Ext.errE (Nat.le_refl _)
  · rw [ruleM_eq, ruleM_eq, peek_ext (e := e) hl, tail_ext hl]
    split
    · exact (expB_ext _ _).bind (fun _ l0 h0 => (altM_ext f l0).bind (fun a l1 h1 => (moreM_ext f l1).bind (fun bs l2 h2 => (expB_ext _ l2).bind (fun _ l3 h3 => Ext.pure _ _) fun _ => NilP.pure _)
        fun ys => (expB_nil _).bind fun _ => NilP.pure _) fun xs => (moreM_nil f).bind fun _ => (expB_nil _).bind fun _ => NilP.pure _)
        fun _ => (altM_nil f).bind fun _ => (moreM_nil f).bind fun _ => (expB_nil _).bind fun _ => NilP.pure _
    · exact Ext.err

theorem levelM_cons (e : Nat) (a : Int) (t : Tok) (l : List Tok) : levelM e a (t :: l) = if isNameT (peekT e l) then
    bindM (expB e [59] (namesM e l.tail).2) fun _ r => .ok (⟨a, (peekT e l).text :: (namesM e l.tail).1⟩, r) else .error (peekT e l).at_ := levelM_eq e a (t :: l)

theorem levelM_ext (a : Int) (t : Tok) (l : List Tok) : Ext e X (levelM e a (t :: l)) (levelM e' a ((t :: l) ++ X)) := by
  rw [List.cons_append, levelM_cons, levelM_cons]
  by_cases hl : l = []
  · subst hl
    exact Ext.errE (Nat.le_refl _)
  · rw [peek_ext (e := e) hl, tail_ext hl]
    split
    · by_cases h2 : (namesM e l.tail).2 = []
      · rw [h2]
        exact ((expB_nil _).bind fun _ => NilP.pure _).ext
      · rw [namesM_ext (e := e) _ h2]
        exact (expB_ext _ _).bind (fun _ r h => Ext.pure _ _) fun _ => NilP.pure _
    · exact Ext.err

theorem levelsM_ext : ∀ (f : Nat) (l : List Tok), Ext e X (levelsM e f l) (levelsM e' f (l ++ X))
  | 0, l => Ext.errE (by omega)
  | f + 1, [] => (levelsM_nil _).ext
  | f + 1, t :: l => by
    have hl : t :: l ≠ [] := by simp
    rw [levelsM_eq, levelsM_eq, peek_ext (e := e) hl]
    cases assocOf (peekT e (t :: l)).text with
    | none => exact Ext.pure _ _
    | some a => exact (levelM_ext a t l).bind (fun x l1 h1 => (levelsM_ext f l1).bind (fun xs l2 h2 => Ext.pure _ _) fun xs => NilP.pure _) fun x => (levelsM_nil f).bind fun xs => NilP.pure _

theorem rulesM_ext (F : Nat) : ∀ (g : Nat) (l : List Tok), Ext e X (rulesM e F g l) (rulesM e' F g (l ++ X))
  | 0, l => Ext.errE (by omega)
  | g + 1, [] => (rulesM_nil _ _).ext
  | g + 1, t :: l => by
    rw [List.cons_append, rulesM_eq, rulesM_eq]
    exact (ruleM_ext F (t :: l)).bind (fun x l1 h1 => (rulesM_ext F g l1).bind (fun xs l2 h2 => Ext.pure _ _) fun xs => NilP.pure _) fun x => (rulesM_nil F g).bind fun xs => NilP.pure _

theorem progP_ext (F : Nat) (l : List Tok) : Ext e X (progP e F l) (progP e' F (l ++ X)) := by
  have n2 : ∀ (nm : List UInt8), NilP e (bindM (expB e [59] []) fun _ l2 => bindM (levelsM e F l2) fun lv l3 => bindM (rulesM e F F l3) fun rs l4 => (.ok ((⟨nm, lv, rs⟩ : GF), l4) : PR GF)) := fun nm =>
    (expB_nil _).bind fun _ => (levelsM_nil _).bind fun _ => (rulesM_nil _ _).bind fun _ => NilP.pure _
  unfold progP
  refine (expB_ext _ l).bind (fun _ l1 h1 => ?_) fun _ => NilP.err (Nat.le_refl _)
  rw [peek_ext (e := e) h1, tail_ext h1]
  split
  · exact (expB_ext _ _).bind (fun _ l2 h2 => (levelsM_ext F l2).bind (fun lv l3 h3 => (rulesM_ext F F l3).bind (fun rs l4 h4 => Ext.pure _ _) fun _ => NilP.pure _) fun _ => (rulesM_nil _ _).bind fun _ => NilP.pure _)
      fun _ => (levelsM_nil _).bind fun _ => (rulesM_nil _ _).bind fun _ => NilP.pure _
  · exact Ext.err

/-- A syntax error at a token stays, whatever follows. -/
theorem progM_ext (F : Nat) (l : List Tok) (k : Nat) (hk : k < e) (h : progM e F l = .error k) : progM e' F (l ++ X) = .error k := by
  rw [progM_eq] at h ⊢
  cases hp : progP e F l with
  | error k' =>
    rw [hp] at h
    simp only [Except.error.injEq] at h
    subst h
    rw [(progP_ext F l).1 _ hk hp]
  | ok p => rw [hp] at h; cases h
end Go.Av
