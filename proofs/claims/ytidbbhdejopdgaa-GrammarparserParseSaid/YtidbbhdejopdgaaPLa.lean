/- Part of the proof: PLa. No condition. -/
import Derived.Test.YtidbbhdejopdgaaC20
set_option linter.unusedVariables false
set_option linter.unusedSimpArgs false
namespace Go.Av
def bindM {α β : Type} (r : PR α) (F : α → List Tok → PR β) : PR β := match r with
  | .error k => .error k
  | .ok (x, l) => F x l
@[simp] theorem bindM_error {α β : Type} (k : Nat) (F : α → List Tok → PR β) : bindM (.error k) F = .error k := rfl
@[simp] theorem bindM_ok {α β : Type} (x : α) (l : List Tok) (F : α → List Tok → PR β) : bindM (.ok (x, l)) F = F x l := rfl
def expB (e : Nat) (x : List UInt8) (l : List Tok) : PR Unit := match expM e x l with
  | .error k => .error k
  | .ok r => .ok ((), r)

theorem consM_bind {α : Type} (x : α) (r : PR (List α)) : consM x r = bindM r fun xs l => .ok (x :: xs, l) := by
  cases r with
  | error k => rfl
  | ok p => rfl

theorem itemsM_eq (e f : Nat) (l : List Tok) : itemsM e (f + 1) l = if isNameT (peekT e l) || (peekT e l).text == [40] then bindM (itemM e f l) fun x l1 => bindM (itemsM e f l1) fun xs l2 => .ok (x :: xs, l2) else .ok ([], l) := by
  rw [itemsM]
  split
  · cases itemM e f l with
    | error k => rfl
    | ok p => obtain ⟨p1, p2⟩ := p; simp [consM_bind]
  · rfl
theorem itemM_eq (e f : Nat) (l : List Tok) : itemM e (f + 1) l = bindM (primM e f l) fun x l1 => .ok (sufM x l1) := by
  rw [itemM]
  cases primM e f l with
  | error k => rfl
  | ok p => rfl
theorem primM_eq (e f : Nat) (l : List Tok) : primM e (f + 1) l = if isNameT (peekT e l) then .ok (.mk 1 (peekT e l).text [], l.tail) else
    bindM (expB e [40] l) fun _ l0 => bindM (itemsM e f l0) fun xs l1 => bindM (altsM e f l1) fun ys l2 => bindM (expB e [41] l2) fun _ l3 => .ok (mkSeq 3 (mkSeq 2 xs :: ys), l3) := by
  rw [primM]
  split
  · rfl
  · unfold expB
    cases expM e [40] l with
    | error k => rfl
    | ok l0 =>
      simp only [bindM_ok]
      cases itemsM e f l0 with
      | error k => rfl
      | ok p =>
        obtain ⟨p1, p2⟩ := p
        simp only [bindM_ok]
        cases altsM e f p2 with
        | error k => rfl
        | ok q =>
          obtain ⟨q1, q2⟩ := q
          simp only [bindM_ok]
          cases expM e [41] q2 with
          | error k => rfl
          | ok l3 => rfl
theorem altsM_eq (e f : Nat) (l : List Tok) : altsM e (f + 1) l = if (peekT e l).text == [124] then bindM (itemsM e f l.tail) fun xs l1 => bindM (altsM e f l1) fun ys l2 => .ok (mkSeq 2 xs :: ys, l2) else .ok ([], l) := by
  rw [altsM]
  split
  · cases itemsM e f l.tail with
    | error k => rfl
    | ok p => obtain ⟨p1, p2⟩ := p; simp [consM_bind]
  · rfl
theorem altM_eq (e f : Nat) (l : List Tok) : altM e f l = bindM (itemsM e f l) fun xs l1 => if (peekT e l1).text == kwPrice then
      if (peekT e l1.tail).num < 0 then .error (peekT e l1.tail).at_ else .ok (⟨mkSeq 2 xs, (peekT e l1.tail).num⟩, l1.tail.tail)
    else .ok (⟨mkSeq 2 xs, 0⟩, l1) := by
  rw [altM]
  cases itemsM e f l with
  | error k => rfl
  | ok p => rfl
theorem moreM_eq (e f : Nat) (l : List Tok) : moreM e (f + 1) l = if (peekT e l).text == [124] then bindM (altM e f l.tail) fun x l1 => bindM (moreM e f l1) fun xs l2 => .ok (x :: xs, l2) else .ok ([], l) := by
  rw [moreM]
  split
  · cases altM e f l.tail with
    | error k => rfl
    | ok p => obtain ⟨p1, p2⟩ := p; simp [consM_bind]
  · rfl
theorem ruleM_eq (e f : Nat) (l : List Tok) : ruleM e f l = if isNameT (peekT e l) then
    bindM (expB e [61] l.tail) fun _ l0 => bindM (altM e f l0) fun a l1 => bindM (moreM e f l1) fun bs l2 => bindM (expB e [59] l2) fun _ l3 => .ok (⟨(peekT e l).text, a :: bs⟩, l3)
  else .error (peekT e l).at_ := by
  rw [ruleM]
  split
  · unfold expB
    cases expM e [61] l.tail with
    | error k => rfl
    | ok l0 =>
      simp only [bindM_ok]
      cases altM e f l0 with
      | error k => rfl
      | ok p =>
        obtain ⟨p1, p2⟩ := p
        simp only [bindM_ok]
        cases moreM e f p2 with
        | error k => rfl
        | ok q =>
          obtain ⟨q1, q2⟩ := q
          simp only [bindM_ok]
          cases expM e [59] q2 with
          | error k => rfl
          | ok l3 => rfl
  · rfl
theorem levelM_eq (e : Nat) (a : Int) (l : List Tok) : levelM e a l = if isNameT (peekT e l.tail) then
    bindM (expB e [59] (namesM e l.tail.tail).2) fun _ r => .ok (⟨a, (peekT e l.tail).text :: (namesM e l.tail.tail).1⟩, r) else .error (peekT e l.tail).at_ := by
  rw [levelM]
  split
  · unfold expB
    cases expM e [59] (namesM e l.tail.tail).2 with
    | error k => rfl
    | ok l0 => rfl
  · rfl
theorem levelsM_eq (e f : Nat) (l : List Tok) : levelsM e (f + 1) l = match assocOf (peekT e l).text with
    | none => .ok ([], l)
    | some a => bindM (levelM e a l) fun x l1 => bindM (levelsM e f l1) fun xs l2 => .ok (x :: xs, l2) := by
  rw [levelsM]
  cases assocOf (peekT e l).text with
  | none => rfl
  | some a =>
    simp only []
    cases levelM e a l with
    | error k => rfl
    | ok p => obtain ⟨p1, p2⟩ := p; simp [consM_bind]
theorem rulesM_eq (e F g : Nat) (t : Tok) (l : List Tok) : rulesM e F (g + 1) (t :: l) = bindM (ruleM e F (t :: l)) fun x l1 => bindM (rulesM e F g l1) fun xs l2 => .ok (x :: xs, l2) := by
  rw [rulesM]
  cases ruleM e F (t :: l) with
  | error k => rfl
  | ok p => obtain ⟨p1, p2⟩ := p; simp [consM_bind]
def progP (e F : Nat) (l : List Tok) : PR GF :=
  bindM (expB e kwStart l) fun _ l1 => if isNameT (peekT e l1) then
    bindM (expB e [59] l1.tail) fun _ l2 => bindM (levelsM e F l2) fun lv l3 => bindM (rulesM e F F l3) fun rs l4 => .ok (⟨(peekT e l1).text, lv, rs⟩, l4)
    else .error (peekT e l1).at_
theorem progM_eq (e F : Nat) (l : List Tok) : progM e F l = match progP e F l with
  | .error k => .error k
  | .ok (x, _) => .ok x := by
  unfold progM progP expB
  cases expM e kwStart l with
  | error k => rfl
  | ok l1 =>
    simp only [bindM_ok]
    split
    · cases expM e [59] l1.tail with
      | error k => rfl
      | ok l2 =>
        simp only [bindM_ok]
        cases levelsM e F l2 with
        | error k => rfl
        | ok p =>
          obtain ⟨p1, p2⟩ := p
          simp only [bindM_ok]
          cases rulesM e F F p2 with
          | error k => rfl
          | ok q => rfl
    · rfl
end Go.Av

namespace Go.Av
/-! ### Text behind: what was decided stays decided -/
def NilP {α : Type} (e : Nat) (r : PR α) : Prop := (∀ k, r = .error k → e ≤ k) ∧ ∀ x l, r = .ok (x, l) → l = []
def Ext {α : Type} (e : Nat) (X : List Tok) (r r' : PR α) : Prop := (∀ k, k < e → r = .error k → r' = .error k) ∧ ∀ x l, l ≠ [] → r = .ok (x, l) → r' = .ok (x, l ++ X)

theorem NilP.bind {α β : Type} {e : Nat} {r : PR α} {F : α → List Tok → PR β} (h : NilP e r) (hF : ∀ x, NilP e (F x [])) : NilP e (bindM r F) := by
  cases r with
  | error k => exact ⟨fun k' hk => h.1 k' (by simpa using hk), fun x l hx => by simp at hx⟩
  | ok p =>
    obtain ⟨x, l⟩ := p
    have := h.2 x l rfl
    subst this
    exact hF x
theorem NilP.pure {α : Type} {e : Nat} (x : α) : NilP e (.ok (x, []) : PR α) := ⟨fun k hk => (by cases hk), fun y l hy => by injection hy with hy; injection hy with _ h; exact h.symm⟩
theorem NilP.err {α : Type} {e k : Nat} (h : e ≤ k) : NilP e (.error k : PR α) := ⟨fun k' hk => by injection hk with hk; omega, fun y l hy => by cases hy⟩
theorem NilP.ext {α : Type} {e : Nat} {X : List Tok} {r r' : PR α} (h : NilP e r) : Ext e X r r' := ⟨fun k hk hr => by have := h.1 k hr; omega, fun x l hl hr => absurd (h.2 x l hr) hl⟩

theorem Ext.bind {α β : Type} {e : Nat} {X : List Tok} {r r' : PR α} {F F' : α → List Tok → PR β} (h : Ext e X r r') (hF : ∀ x l, l ≠ [] → Ext e X (F x l) (F' x (l ++ X))) (hn : ∀ x, NilP e (F x [])) : Ext e X (bindM r F) (bindM r' F') := by
  cases r with
  | error k => exact ⟨fun k' hk hr => by rw [h.1 k' hk (by simpa using hr)]; rfl, fun x l hl hr => by simp at hr⟩
  | ok p =>
    obtain ⟨x, l⟩ := p
    by_cases hl : l = []
    · subst hl
      exact (hn x).ext
    · rw [h.2 x l hl rfl]
      exact hF x l hl
theorem Ext.pure {α : Type} {e : Nat} {X : List Tok} (x : α) (l : List Tok) : Ext e X (.ok (x, l) : PR α) (.ok (x, l ++ X)) := ⟨fun k _ hk => (by cases hk), fun y l' _ hy => by injection hy with hy; injection hy with h1 h2; subst h1 h2; rfl⟩
theorem Ext.err {α : Type} {e k : Nat} {X : List Tok} : Ext e X (.error k : PR α) (.error k) := ⟨fun k' _ hk => hk, fun y l hl hy => by cases hy⟩
theorem Ext.errE {α : Type} {e k : Nat} {X : List Tok} {r : PR α} (h : e ≤ k) : Ext e X (.error k : PR α) r := (NilP.err h).ext

variable {e e' : Nat} {X : List Tok}
theorem expB_nil (x : List UInt8) : NilP e (expB e x []) := NilP.err (Nat.le_refl _)
theorem expB_ext (x : List UInt8) (l : List Tok) : Ext e X (expB e x l) (expB e' x (l ++ X)) := by
  cases l with
  | nil => exact (expB_nil x).ext
  | cons t r =>
    simp only [expB, expM, List.cons_append]
    cases t.text == x
    · exact Ext.err
    · exact Ext.pure _ _

theorem sufM_nil (x : GE) : sufM x [] = (x, []) := rfl
theorem sufM_ext : ∀ (l : List Tok) (x : GE), (sufM x l).2 ≠ [] → sufM x (l ++ X) = ((sufM x l).1, (sufM x l).2 ++ X)
  | [], x, h => by simp [sufM] at h
  | t :: r, x, h => by
    simp only [sufM, List.cons_append] at h ⊢
    split
    · rename_i h1; rw [if_pos h1] at h; exact sufM_ext r _ h
    · rename_i h1
      rw [if_neg h1] at h
      split
      · rename_i h2; rw [if_pos h2] at h; exact sufM_ext r _ h
      · rename_i h2
        rw [if_neg h2] at h
        split
        · rename_i h3; rw [if_pos h3] at h; exact sufM_ext r _ h
        · simp

theorem sufB_ext (l : List Tok) (x : GE) : Ext e X (.ok (sufM x l) : PR GE) (.ok (sufM x (l ++ X))) := by
  refine ⟨fun k _ hk => (by cases hk), fun y l' hl hy => ?_⟩
  injection hy with hy
  rw [sufM_ext l x (by rw [hy]; exact hl), hy]

theorem namesM_ext : ∀ (l : List Tok), (namesM e l).2 ≠ [] → namesM e' (l ++ X) = ((namesM e l).1, (namesM e l).2 ++ X)
  | [], h => by simp [namesM] at h
  | t :: r, h => by
    simp only [namesM, List.cons_append] at h ⊢
    split
    · rename_i h1
      rw [if_pos h1] at h
      rw [namesM_ext r h]
    · simp

theorem itemsM_nil (f : Nat) : NilP e (itemsM e f []) := by
  cases f with
  | zero => exact NilP.err (by omega)
  | succ f => rw [itemsM_eq]; exact NilP.pure _
theorem altsM_nil (f : Nat) : NilP e (altsM e f []) := by
  cases f with
  | zero => exact NilP.err (by omega)
  | succ f => rw [altsM_eq]; exact NilP.pure _
theorem altM_nil (f : Nat) : NilP e (altM e f []) := by
  rw [altM_eq]
  exact (itemsM_nil f).bind fun x => NilP.pure _
theorem moreM_nil (f : Nat) : NilP e (moreM e f []) := by
  cases f with
  | zero => exact NilP.err (by omega)
  | succ f => rw [moreM_eq]; exact NilP.pure _
theorem levelsM_nil (f : Nat) : NilP e (levelsM e f []) := by
  cases f with
  | zero => exact NilP.err (by omega)
  | succ f => rw [levelsM_eq]; exact NilP.pure _
theorem rulesM_nil (F g : Nat) : NilP e (rulesM e F g []) := by
  cases g with
  | zero => exact NilP.err (by omega)
  | succ g => rw [rulesM]; exact NilP.pure _

theorem peek_ext {l : List Tok} (h : l ≠ []) : peekT e' (l ++ X) = peekT e l := by
  cases l with
  | nil => exact absurd rfl h
  | cons t r => rfl
theorem tail_ext {l : List Tok} (h : l ≠ []) : (l ++ X).tail = l.tail ++ X := by
  cases l with
  | nil => exact absurd rfl h
  | cons t r => rfl

theorem readM_ext : ∀ (f : Nat), (∀ l, Ext e X (itemsM e f l) (itemsM e' f (l ++ X))) ∧ (∀ l, Ext e X (itemM e f l) (itemM e' f (l ++ X))) ∧
    (∀ l, Ext e X (primM e f l) (primM e' f (l ++ X))) ∧ (∀ l, Ext e X (altsM e f l) (altsM e' f (l ++ X)))
  | 0 => ⟨fun l => Ext.errE (by omega), fun l => Ext.errE (by omega), fun l => Ext.errE (by omega), fun l => Ext.errE (by omega)⟩
  | f + 1 => by
    obtain ⟨i1, i2, i3, i4⟩ := readM_ext f
    refine ⟨fun l => ?_, fun l => ?_, fun l => ?_, fun l => ?_⟩
    · by_cases hl : l = []
      · subst hl; exact (itemsM_nil _).ext
      · rw [itemsM_eq, itemsM_eq, peek_ext (e := e) hl]
        split
        · exact (i2 l).bind (fun x l1 h1 => (i1 l1).bind (fun xs l2 h2 => Ext.pure _ _) fun xs => NilP.pure _) fun x => (itemsM_nil f).bind fun xs => NilP.pure _
        · exact Ext.pure _ _
    · rw [itemM_eq, itemM_eq]
      exact (i3 l).bind (fun x l1 h1 => sufB_ext l1 x) fun x => NilP.pure _
    · by_cases hl : l = []
      · subst hl
        rw [primM_eq, if_neg (by simp [isNameT])]
        refine NilP.ext ?_
        exact (expB_nil _).bind fun _ => (itemsM_nil f).bind fun _ => (altsM_nil f).bind fun _ => (expB_nil _).bind fun _ => NilP.pure _
      · rw [primM_eq, primM_eq, peek_ext (e := e) hl, tail_ext hl]
        split
        · exact Ext.pure _ _
        · exact (expB_ext _ l).bind (fun _ l0 h0 => (i1 l0).bind (fun xs l1 h1 => (i4 l1).bind (fun ys l2 h2 => (expB_ext _ l2).bind (fun _ l3 h3 => Ext.pure _ _) fun _ => NilP.pure _)
            fun ys => (expB_nil _).bind fun _ => NilP.pure _) fun xs => (altsM_nil f).bind fun _ => (expB_nil _).bind fun _ => NilP.pure _)
            fun _ => (itemsM_nil f).bind fun _ => (altsM_nil f).bind fun _ => (expB_nil _).bind fun _ => NilP.pure _
    · by_cases hl : l = []
      · subst hl; exact (altsM_nil _).ext
      · rw [altsM_eq, altsM_eq, peek_ext (e := e) hl, tail_ext hl]
        split
        · exact (i1 _).bind (fun x l1 h1 => (i4 l1).bind (fun xs l2 h2 => Ext.pure _ _) fun xs => NilP.pure _) fun x => (altsM_nil f).bind fun xs => NilP.pure _
        · exact Ext.pure _ _

theorem altM_ext (f : Nat) (l : List Tok) : Ext e X (altM e f l) (altM e' f (l ++ X)) := by
  rw [altM_eq, altM_eq]
  refine ((readM_ext f).1 l).bind (fun xs l1 h1 => ?_) fun xs => NilP.pure _
  rw [peek_ext (e := e) h1, tail_ext h1]
  split
  · by_cases h2 : l1.tail = []
    · rw [h2]
      exact Ext.errE (Nat.le_refl _)
    · rw [peek_ext (e := e) h2, tail_ext h2]
      split
      · exact Ext.err
      · exact Ext.pure _ _
  · exact Ext.pure _ _

theorem moreM_ext : ∀ (f : Nat) (l : List Tok), Ext e X (moreM e f l) (moreM e' f (l ++ X))
  | 0, l => Ext.errE (by omega)
  | f + 1, l => by
    by_cases hl : l = []
    · subst hl; exact (moreM_nil _).ext
    · rw [moreM_eq, moreM_eq, peek_ext (e := e) hl, tail_ext hl]
      split
      · exact (altM_ext f _).bind (fun x l1 h1 => (moreM_ext f l1).bind (fun xs l2 h2 => Ext.pure _ _) fun xs => NilP.pure _) fun x => (moreM_nil f).bind fun xs => NilP.pure _
      · exact Ext.pure _ _

theorem ruleM_ext (f : Nat) (l : List Tok) : Ext e X (ruleM e f l) (ruleM e' f (l ++ X)) := by
  by_cases hl : l = []
  · subst hl
    rw [ruleM_eq]
    exact Ext.errE (Nat.le_refl _)
  · rw [ruleM_eq, ruleM_eq, peek_ext (e := e) hl, tail_ext hl]
    split
    · exact (expB_ext _ _).bind (fun _ l0 h0 => (altM_ext f l0).bind (fun a l1 h1 => (moreM_ext f l1).bind (fun bs l2 h2 => (expB_ext _ l2).bind (fun _ l3 h3 => Ext.pure _ _) fun _ => NilP.pure _)
        fun ys => (expB_nil _).bind fun _ => NilP.pure _) fun xs => (moreM_nil f).bind fun _ => (expB_nil _).bind fun _ => NilP.pure _)
        fun _ => (altM_nil f).bind fun _ => (moreM_nil f).bind fun _ => (expB_nil _).bind fun _ => NilP.pure _
    · exact Ext.err

theorem levelM_cons (e : Nat) (a : Int) (t : Tok) (l : List Tok) : levelM e a (t :: l) = if isNameT (peekT e l) then
    bindM (expB e [59] (namesM e l.tail).2) fun _ r => .ok (⟨a, (peekT e l).text :: (namesM e l.tail).1⟩, r) else .error (peekT e l).at_ := levelM_eq e a (t :: l)

theorem levelM_ext (a : Int) (t : Tok) (l : List Tok) : Ext e X (levelM e a (t :: l)) (levelM e' a ((t :: l) ++ X)) := by
  rw [List.cons_append, levelM_cons, levelM_cons]
  by_cases hl : l = []
  · subst hl
    exact Ext.errE (Nat.le_refl _)
  · rw [peek_ext (e := e) hl, tail_ext hl]
    split
    · by_cases h2 : (namesM e l.tail).2 = []
      · rw [h2]
        exact ((expB_nil _).bind fun _ => NilP.pure _).ext
      · rw [namesM_ext (e := e) _ h2]
        exact (expB_ext _ _).bind (fun _ r h => Ext.pure _ _) fun _ => NilP.pure _
    · exact Ext.err

theorem levelsM_ext : ∀ (f : Nat) (l : List Tok), Ext e X (levelsM e f l) (levelsM e' f (l ++ X))
  | 0, l => Ext.errE (by omega)
  | f + 1, [] => (levelsM_nil _).ext
  | f + 1, t :: l => by
    have hl : t :: l ≠ [] := by simp
    rw [levelsM_eq, levelsM_eq, peek_ext (e := e) hl]
    cases assocOf (peekT e (t :: l)).text with
    | none => exact Ext.pure _ _
    | some a => exact (levelM_ext a t l).bind (fun x l1 h1 => (levelsM_ext f l1).bind (fun xs l2 h2 => Ext.pure _ _) fun xs => NilP.pure _) fun x => (levelsM_nil f).bind fun xs => NilP.pure _

theorem rulesM_ext (F : Nat) : ∀ (g : Nat) (l : List Tok), Ext e X (rulesM e F g l) (rulesM e' F g (l ++ X))
  | 0, l => Ext.errE (by omega)
  | g + 1, [] => (rulesM_nil _ _).ext
  | g + 1, t :: l => by
    rw [List.cons_append, rulesM_eq, rulesM_eq]
    exact (ruleM_ext F (t :: l)).bind (fun x l1 h1 => (rulesM_ext F g l1).bind (fun xs l2 h2 => Ext.pure _ _) fun xs => NilP.pure _) fun x => (rulesM_nil F g).bind fun xs => NilP.pure _

theorem progP_ext (F : Nat) (l : List Tok) : Ext e X (progP e F l) (progP e' F (l ++ X)) := by
  have n2 : ∀ (nm : List UInt8), NilP e (bindM (expB e [59] []) fun _ l2 => bindM (levelsM e F l2) fun lv l3 => bindM (rulesM e F F l3) fun rs l4 => (.ok ((⟨nm, lv, rs⟩ : GF), l4) : PR GF)) := fun nm =>
    (expB_nil _).bind fun _ => (levelsM_nil _).bind fun _ => (rulesM_nil _ _).bind fun _ => NilP.pure _
  unfold progP
  refine (expB_ext _ l).bind (fun _ l1 h1 => ?_) fun _ => NilP.err (Nat.le_refl _)
  rw [peek_ext (e := e) h1, tail_ext h1]
  split
  · exact (expB_ext _ _).bind (fun _ l2 h2 => (levelsM_ext F l2).bind (fun lv l3 h3 => (rulesM_ext F F l3).bind (fun rs l4 h4 => Ext.pure _ _) fun _ => NilP.pure _) fun _ => (rulesM_nil _ _).bind fun _ => NilP.pure _)
      fun _ => (levelsM_nil _).bind fun _ => (rulesM_nil _ _).bind fun _ => NilP.pure _
  · exact Ext.err

/-- A syntax error at a token stays, whatever follows. -/
theorem progM_ext (F : Nat) (l : List Tok) (k : Nat) (hk : k < e) (h : progM e F l = .error k) : progM e' F (l ++ X) = .error k := by
  rw [progM_eq] at h ⊢
  cases hp : progP e F l with
  | error k' =>
    rw [hp] at h
    simp only [Except.error.injEq] at h
    subst h
    rw [(progP_ext F l).1 _ hk hp]
  | ok p => rw [hp] at h; cases h
end Go.Av

namespace Go.Av
/-! ### Errors lie in the text -/
def AtL (S : Nat → Prop) (l : List Tok) : Prop := ∀ t ∈ l, S t.at_
def Bd {α : Type} (S : Nat → Prop) (n : Nat) (r : PR α) : Prop := (∀ k, r = .error k → S k) ∧ ∀ x l, r = .ok (x, l) → AtL S l ∧ l.length ≤ n

theorem Bd.bind {α β : Type} {S : Nat → Prop} {n m : Nat} {r : PR α} {F : α → List Tok → PR β} (h : Bd S n r) (hF : ∀ x l, AtL S l → l.length ≤ n → Bd S m (F x l)) : Bd S m (bindM r F) := by
  cases r with
  | error k => exact ⟨fun k' hk => h.1 k' (by simpa using hk), fun x l hx => by simp at hx⟩
  | ok p =>
    obtain ⟨x, l⟩ := p
    exact hF x l (h.2 x l rfl).1 (h.2 x l rfl).2
theorem Bd.ok {α : Type} {S : Nat → Prop} {n : Nat} (x : α) {l : List Tok} (h : AtL S l) (hn : l.length ≤ n) : Bd S n (.ok (x, l) : PR α) := ⟨fun k hk => (by cases hk), fun y l' hy => by injection hy with hy; injection hy with _ h2; subst h2; exact ⟨h, hn⟩⟩
theorem Bd.err {α : Type} {S : Nat → Prop} {n k : Nat} (h : S k) : Bd S n (.error k : PR α) := ⟨fun k' hk => by injection hk with hk; rw [← hk]; exact h, fun y l hy => by cases hy⟩
theorem Bd.mono {α : Type} {S : Nat → Prop} {n m : Nat} {r : PR α} (h : Bd S n r) (hm : n ≤ m) : Bd S m r := ⟨h.1, fun x l hx => ⟨(h.2 x l hx).1, Nat.le_trans (h.2 x l hx).2 hm⟩⟩

theorem AtL.tail {S : Nat → Prop} {l : List Tok} (h : AtL S l) : AtL S l.tail := fun t ht => h t (List.mem_of_mem_tail ht)
theorem AtL.peek {S : Nat → Prop} {e : Nat} (hS : S e) {l : List Tok} (h : AtL S l) : S (peekT e l).at_ := by
  cases l with
  | nil => exact hS
  | cons t r => exact h t (by simp)

variable {e : Nat} {S : Nat → Prop} (hS : S e)
include hS
theorem expB_bd (x : List UInt8) {l : List Tok} (h : AtL S l) : Bd S (l.length - 1) (expB e x l) := by
  cases l with
  | nil => exact Bd.err hS
  | cons t r =>
    simp only [expB, expM]
    cases t.text == x
    · exact Bd.err (h t (by simp))
    · exact Bd.ok _ h.tail (by simp)

omit hS in
theorem sufM_bd : ∀ (l : List Tok) (x : GE), AtL S l → AtL S (sufM x l).2
  | [], x, h => h
  | t :: r, x, h => by
    simp only [sufM]
    split
    · exact sufM_bd r _ h.tail
    · split
      · exact sufM_bd r _ h.tail
      · split
        · exact sufM_bd r _ h.tail
        · exact h

omit hS in
theorem namesM_bd : ∀ (l : List Tok), AtL S l → AtL S (namesM e l).2
  | [], h => h
  | t :: r, h => by
    simp only [namesM]
    split
    · exact namesM_bd r h.tail
    · exact h

theorem readM_bd : ∀ (f : Nat) (l : List Tok), AtL S l → (3 * l.length + 3 ≤ f → Bd S l.length (itemsM e f l)) ∧ (3 * l.length + 2 ≤ f → Bd S (l.length - 1) (itemM e f l)) ∧
    (3 * l.length + 1 ≤ f → Bd S (l.length - 1) (primM e f l)) ∧ (3 * l.length + 2 ≤ f → Bd S l.length (altsM e f l))
  | 0, l, h => ⟨fun h => by omega, fun h => by omega, fun h => by omega, fun h => by omega⟩
  | f + 1, l, h => by
    have ih := fun l (h : AtL S l) => readM_bd f l h
    refine ⟨fun hf => ?_, fun hf => ?_, fun hf => ?_, fun hf => ?_⟩
    · rw [itemsM_eq]
      cases l with
      | nil => exact Bd.ok _ h (by simp)
      | cons t r =>
        simp only [List.length_cons] at hf ⊢
        split
        · refine ((ih (t :: r) h).2.1 (by simp; omega)).bind fun x l1 h1 n1 => ?_
          simp at n1
          exact (((ih l1 h1).1 (by omega)).bind fun xs l2 h2 n2 => Bd.ok _ h2 n2).mono (by omega)
        · exact Bd.ok _ h (by simp)
    · rw [itemM_eq]
      exact ((ih l h).2.2.1 (by omega)).bind fun x l1 h1 n1 => Bd.ok _ (sufM_bd l1 x h1) (Nat.le_trans (sufM_len l1 x) n1)
    · rw [primM_eq]
      split
      · exact Bd.ok _ h.tail (by simp)
      · cases l with
        | nil => exact Bd.err hS
        | cons t r =>
          simp only [List.length_cons] at hf ⊢
          refine (expB_bd hS _ h).bind fun _ l0 h0 n0 => ?_
          simp at n0
          refine ((ih l0 h0).1 (by omega)).bind fun xs l1 h1 n1 => ?_
          refine ((ih l1 h1).2.2.2 (by omega)).bind fun ys l2 h2 n2 => ?_
          exact (expB_bd hS _ h2).bind fun _ l3 h3 n3 => Bd.ok _ h3 (by omega)
    · rw [altsM_eq]
      cases l with
      | nil => exact Bd.ok _ h (by simp)
      | cons t r =>
        simp only [List.length_cons] at hf ⊢
        split
        · refine ((ih r h.tail).1 (by omega)).bind fun x l1 h1 n1 => ?_
          exact (((ih l1 h1).2.2.2 (by omega)).bind fun xs l2 h2 n2 => Bd.ok _ h2 (by omega))
        · exact Bd.ok _ h (by simp)

theorem altM_bd {f : Nat} {l : List Tok} (h : AtL S l) (hf : 3 * l.length + 3 ≤ f) : Bd S l.length (altM e f l) := by
  rw [altM_eq]
  refine ((readM_bd hS f l h).1 hf).bind fun xs l1 h1 n1 => ?_
  split
  · split
    · exact Bd.err (AtL.peek hS h1.tail)
    · exact Bd.ok _ h1.tail.tail (by simp; omega)
  · exact Bd.ok _ h1 n1

theorem moreM_bd : ∀ (f : Nat) (l : List Tok), AtL S l → 3 * l.length + 1 ≤ f → Bd S l.length (moreM e f l)
  | 0, l, h, hf => by omega
  | f + 1, l, h, hf => by
    rw [moreM_eq]
    cases l with
    | nil => exact Bd.ok _ h (by simp)
    | cons t r =>
      simp only [List.length_cons] at hf ⊢
      split
      · refine (altM_bd hS (f := f) (l := r) h.tail (by omega)).bind fun x l1 h1 n1 => ?_
        exact (moreM_bd f l1 h1 (by omega)).bind fun xs l2 h2 n2 => Bd.ok _ h2 (by omega)
      · exact Bd.ok _ h (by simp)

theorem ruleM_bd {f : Nat} {l : List Tok} (h : AtL S l) (hf : 3 * l.length + 3 ≤ f) : Bd S (l.length - 1) (ruleM e f l) := by
  rw [ruleM_eq]
  cases l with
  | nil => exact Bd.err hS
  | cons t r =>
    simp only [List.length_cons] at hf ⊢
    split
    · refine (expB_bd hS _ h.tail).bind fun _ l0 h0 n0 => ?_
      simp at n0
      refine (altM_bd hS h0 (by omega)).bind fun a l1 h1 n1 => ?_
      refine (moreM_bd hS f l1 h1 (by omega)).bind fun bs l2 h2 n2 => ?_
      exact (expB_bd hS _ h2).bind fun _ l3 h3 n3 => Bd.ok _ h3 (by omega)
    · exact Bd.err (AtL.peek hS h)

theorem levelM_bd (a : Int) {t : Tok} {l : List Tok} (h : AtL S (t :: l)) : Bd S l.length (levelM e a (t :: l)) := by
  rw [levelM_cons]
  split
  · have hl := namesM_len e l.tail
    refine (expB_bd hS _ (namesM_bd _ h.tail.tail)).bind fun _ r h1 n1 => Bd.ok _ h1 ?_
    simp at hl
    simp only [List.tail_cons] at n1
    omega
  · exact Bd.err (AtL.peek hS h.tail)

theorem levelsM_bd : ∀ (f : Nat) (l : List Tok), AtL S l → l.length < f → Bd S l.length (levelsM e f l)
  | 0, l, h, hf => by omega
  | f + 1, [], h, hf => by rw [levelsM_eq]; exact Bd.ok _ h (by simp)
  | f + 1, t :: l, h, hf => by
    simp only [List.length_cons] at hf ⊢
    rw [levelsM_eq]
    split
    · exact Bd.ok _ h (by simp)
    · exact (levelM_bd hS _ h).bind fun x l1 h1 n1 => (levelsM_bd f l1 h1 (by omega)).bind fun xs l2 h2 n2 => Bd.ok _ h2 (by omega)

theorem rulesM_bd (F : Nat) : ∀ (g : Nat) (l : List Tok), AtL S l → l.length < g → 3 * l.length + 3 ≤ F → Bd S l.length (rulesM e F g l)
  | 0, l, h, hf, hF => by omega
  | g + 1, [], h, hf, hF => by rw [rulesM]; exact Bd.ok _ h (by simp)
  | g + 1, t :: l, h, hf, hF => by
    simp only [List.length_cons] at hf hF ⊢
    rw [rulesM_eq]
    exact (ruleM_bd hS (l := t :: l) h (by simp; omega)).bind fun x l1 h1 n1 => (rulesM_bd F g l1 h1 (by simp at n1; omega) (by simp at n1; omega)).bind fun xs l2 h2 n2 => Bd.ok _ h2 (by simp at n1; omega)

theorem progP_bd (F : Nat) (l : List Tok) (h : AtL S l) (hF : 3 * l.length + 3 ≤ F) : Bd S l.length (progP e F l) := by
  unfold progP
  refine (expB_bd hS _ h).bind fun _ l1 h1 n1 => ?_
  split
  · refine (expB_bd hS _ h1.tail).bind fun _ l2 h2 n2 => ?_
    simp at n2
    refine (levelsM_bd hS F l2 h2 (by omega)).bind fun lv l3 h3 n3 => ?_
    exact (rulesM_bd hS F F l3 h3 (by omega) (by omega)).bind fun rs l4 h4 n4 => Bd.ok _ h4 (by omega)
  · exact Bd.err (AtL.peek hS h1)

theorem progM_bd {F : Nat} {l : List Tok} {k : Nat} (h : AtL S l) (hF : 3 * l.length + 3 ≤ F) (hp : progM e F l = .error k) : S k := by
  rw [progM_eq] at hp
  cases hq : progP e F l with
  | error k' =>
    rw [hq] at hp
    simp only [Except.error.injEq] at hp
    subst hp
    exact (progP_bd hS F l h hF).1 _ hq
  | ok p => rw [hq] at hp; cases hp
end Go.Av

namespace Go.Av
/-! ### The tokens of a text's beginning, and of a text with more behind it -/
theorem tw_take {p : UInt8 → Bool} : ∀ (l : List UInt8) (n : Nat), (l.takeWhile p).length ≤ n → (l.take n).takeWhile p = l.takeWhile p
  | [], n, h => by simp
  | c :: r, n, h => by
    cases n with
    | zero =>
      have : List.takeWhile p (c :: r) = [] := List.eq_nil_of_length_eq_zero (by omega)
      rw [this]; rfl
    | succ n =>
      simp only [List.take_succ_cons, List.takeWhile_cons] at h ⊢
      split
      · rename_i hp
        rw [if_pos hp] at h
        rw [tw_take r n (by simpa using h)]
      · rfl

theorem tw_app {p : UInt8 → Bool} {b : UInt8} (hb : p b = false) : ∀ (l m : List UInt8), (l ++ b :: m).takeWhile p = l.takeWhile p
  | [], m => by simp [hb]
  | c :: r, m => by
    simp only [List.cons_append, List.takeWhile_cons]
    split
    · rw [tw_app hb r m]
    · rfl

theorem tw_app_lt {p : UInt8 → Bool} : ∀ (l m : List UInt8), (l.takeWhile p).length < l.length → (l ++ m).takeWhile p = l.takeWhile p
  | [], m, h => by simp at h
  | c :: r, m, h => by
    simp only [List.cons_append, List.takeWhile_cons] at h ⊢
    split
    · rename_i hp
      rw [if_pos hp] at h
      rw [tw_app_lt r m (by simpa using h)]
    · rfl

theorem lexStep_le (k : Nat) (c : UInt8) (r : List UInt8) : (lexStep k c (c :: r)).2 ≤ (c :: r).length := by
  unfold lexStep
  split
  · simp
  · split
    · exact tw_len _
    · split
      · exact tw_len _
      · split
        · exact tw_len _
        · simp

theorem lexStep_take (k : Nat) (c : UInt8) (l : List UInt8) (n : Nat) (h : (lexStep k c l).2 ≤ n) : lexStep k c (l.take n) = lexStep k c l := by
  unfold lexStep at h ⊢
  split
  · rfl
  · rename_i h1
    rw [if_neg h1] at h
    split
    · rename_i h2
      rw [if_pos h2] at h
      rw [tw_take _ _ h]
    · rename_i h2
      rw [if_neg h2] at h
      split
      · rename_i h3
        rw [if_pos h3] at h
        rw [tw_take _ _ h]
      · rename_i h3
        rw [if_neg h3] at h
        split
        · rename_i h4
          rw [if_pos h4] at h
          rw [tw_take _ _ h]
        · rfl

theorem lexStep_at {k : Nat} {c : UInt8} {l : List UInt8} {t : Tok} (h : (lexStep k c l).1 = some t) : t.at_ = k := by
  unfold lexStep at h
  split at h
  · cases h
  · split at h
    · cases h
    · split at h
      · injection h with h; subst h; rfl
      · split at h
        · injection h with h; subst h; rfl
        · injection h with h; subst h; rfl

theorem lexL_at : ∀ (f k : Nat) (r : List UInt8) (t : Tok), t ∈ lexL f k r → k ≤ t.at_ ∧ t.at_ < k + r.length
  | 0, k, r, t, h => by simp [lexL] at h
  | f + 1, k, [], t, h => by simp [lexL] at h
  | f + 1, k, c :: r, t, h => by
    simp only [lexL, List.mem_append, Option.mem_toList] at h
    rcases h with h | h
    · have := lexStep_at (by simpa using h)
      simp; omega
    · have h1 := lexL_at f _ _ t h
      have h2 := lexStep_le k c r
      rw [List.length_drop] at h1
      simp only [List.length_cons] at h1 h2 ⊢
      omega

/-- At a token the text may be cut. -/
theorem lexL_cut : ∀ (f k : Nat) (r : List UInt8) (t : Tok), r.length < f → t ∈ lexL f k r → lexL f k r = lexL f k (r.take (t.at_ - k)) ++ lexL f t.at_ (r.drop (t.at_ - k))
  | 0, k, r, t, hf, h => by omega
  | f + 1, k, [], t, hf, h => by simp [lexL] at h
  | f + 1, k, c :: r, t, hf, h => by
    have h0 := h
    simp only [lexL, List.mem_append, Option.mem_toList] at h
    have h2 := lexStep_le k c r
    have h3 := lexStep_pos k c r
    rcases h with h | h
    · have h1 := lexStep_at (by simpa using h)
      rw [h1]
      simp [lexL]
    · have h1 := lexL_at f _ _ t h
      have hdl : ((c :: r).drop (lexStep k c (c :: r)).2).length < f := by
        rw [List.length_drop]; simp only [List.length_cons] at hf h2 ⊢; omega
      have ih := lexL_cut f _ _ t hdl h
      obtain ⟨n, hn⟩ : ∃ n, t.at_ = k + (lexStep k c (c :: r)).2 + n := ⟨t.at_ - (k + (lexStep k c (c :: r)).2), by omega⟩
      generalize hst : lexStep k c (c :: r) = st at *
      obtain ⟨o, m⟩ := st
      simp only at *
      have e1 : t.at_ - k = m + n := by omega
      have e2 : t.at_ - (k + m) = n := by omega
      rw [e2] at ih
      rw [e1]
      have hm : m + n = (m + n - 1) + 1 := by omega
      have ht : (c :: r).take (m + n) = c :: r.take (m + n - 1) := by rw [hm]; rfl
      have hs : lexStep k c (c :: r.take (m + n - 1)) = (o, m) := by
        rw [← ht, lexStep_take _ _ _ _ (by rw [hst]; simp only; omega), hst]
      have e3 : (c :: r.take (m + n - 1)).drop m = ((c :: r).drop m).take n := by
        rw [← ht, List.take_drop]
      have e4 : (c :: r).drop (m + n) = ((c :: r).drop m).drop n := by rw [List.drop_drop]
      rw [ht]
      have lhs : lexL (f + 1) k (c :: r) = o.toList ++ lexL f (k + m) ((c :: r).drop m) := by rw [lexL, hst]
      have mid : lexL (f + 1) k (c :: r.take (m + n - 1)) = o.toList ++ lexL f (k + m) (((c :: r).drop m).take n) := by rw [lexL, hs, e3]
      rw [lhs, mid, ih, List.append_assoc, e4]
      congr 2
      refine lexL_fuel _ _ _ _ ?_ ?_
      · rw [List.length_drop]; omega
      · rw [List.length_drop]; omega

theorem lex_cut {s : List UInt8} {t : Tok} (h : t ∈ lex s) : ∃ X, lex s = lex (s.take t.at_) ++ X := by
  have h1 := lexL_cut _ _ _ t (by omega) h
  rw [Nat.sub_zero] at h1
  refine ⟨lexL (s.length + 1) t.at_ (s.drop t.at_), h1.trans ?_⟩
  congr 1
  refine lexL_fuel _ _ _ _ ?_ ?_
  · rw [List.length_take]; omega
  · omega

/-- Text behind a space. -/
theorem lexL_more (m : List UInt8) : ∀ (f f' k : Nat) (r : List UInt8), r.length < f → (r ++ 32 :: m).length < f' → ∃ X, lexL f' k (r ++ 32 :: m) = lexL f k r ++ X
  | 0, f', k, r, hf, hf' => by omega
  | f + 1, 0, k, r, hf, hf' => by omega
  | f + 1, f' + 1, k, [], hf, hf' => ⟨lexL (f' + 1) k ([] ++ 32 :: m), by rw [show lexL (f + 1) k [] = [] from rfl, List.nil_append, List.nil_append]⟩
  | f + 1, f' + 1, k, c :: r, hf, hf' => by
    have h2 := lexStep_le k c r
    have h3 := lexStep_pos k c r
    by_cases hs : lexStep k c ((c :: r) ++ 32 :: m) = lexStep k c (c :: r)
    · simp only [List.cons_append, lexL] at hs ⊢
      rw [hs]
      obtain ⟨X, hX⟩ := lexL_more m f f' (k + (lexStep k c (c :: r)).2) ((c :: r).drop (lexStep k c (c :: r)).2) (by rw [List.length_drop]; simp only [List.length_cons] at *; omega) (by
        simp only [List.length_append, List.length_drop, List.length_cons] at *; omega)
      refine ⟨X, ?_⟩
      rw [List.append_assoc, ← hX, ← List.drop_append_of_le_length h2, List.cons_append]
    · have h35 : lexStep k c (c :: r) = (none, (c :: r).length) := by
        unfold lexStep at hs ⊢
        split
        · rename_i h1; rw [if_pos h1, if_pos h1] at hs; exact absurd rfl hs
        · rename_i h1
          rw [if_neg h1, if_neg h1] at hs
          split
          · rename_i h4
            rw [if_pos h4, if_pos h4] at hs
            by_cases hl : ((c :: r).takeWhile (· != 10)).length < (c :: r).length
            · rw [tw_app_lt _ _ hl] at hs
              exact absurd rfl hs
            · have := tw_len (p := (· != 10)) (c :: r)
              rw [show ((c :: r).takeWhile (· != 10)).length = (c :: r).length from by omega]
          · rename_i h4
            rw [if_neg h4, if_neg h4] at hs
            split
            · rename_i h5
              rw [if_pos h5, if_pos h5, tw_app (by decide)] at hs
              exact absurd rfl hs
            · rename_i h5
              rw [if_neg h5, if_neg h5] at hs
              split
              · rename_i h6
                rw [if_pos h6, if_pos h6, tw_app (by decide)] at hs
                exact absurd rfl hs
              · rename_i h6
                rw [if_neg h6, if_neg h6] at hs
                exact absurd rfl hs
      have : lexL (f + 1) k (c :: r) = [] := by
        rw [lexL, h35]
        simp only [Option.toList_none, List.nil_append, List.drop_length]
        cases f <;> rfl
      exact ⟨_, by rw [this, List.nil_append]⟩

theorem lex_more (s m : List UInt8) : ∃ X, lex (s ++ 32 :: m) = lex s ++ X := lexL_more m _ _ 0 s (by omega) (by omega)
end Go.Av
