/- Part of the proof: PL7. No condition. -/
import Derived.Test.YtidbbhdejopdgaaPL6
import Derived.Test.YtidbbhdejopdgaaPLa
set_option linter.unusedVariables false
set_option linter.unusedSimpArgs false
namespace Go.Av
/-- The same but for positions. -/
def Sm {α : Type} : PR α → PR α → Prop
  | .ok (x, l), .ok (x', l') => x = x' ∧ KL l l'
  | .error _, .error _ => True
  | _, _ => False

theorem Sm.bind {α β : Type} {r r' : PR α} {F F' : α → List Tok → PR β} (h : Sm r r') (hF : ∀ x l l', KL l l' → Sm (F x l) (F' x l')) : Sm (bindM r F) (bindM r' F') := by
  cases r with
  | error k =>
    cases r' with
    | error k' => exact trivial
    | ok p' => exact h.elim
  | ok p =>
    obtain ⟨x, l⟩ := p
    cases r' with
    | error k' => exact h.elim
    | ok p' =>
      obtain ⟨x', l'⟩ := p'
      obtain ⟨rfl, hl⟩ := h
      exact hF _ _ _ hl
theorem Sm.ok {α : Type} (x : α) {l l' : List Tok} (h : KL l l') : Sm (.ok (x, l) : PR α) (.ok (x, l')) := ⟨rfl, h⟩
theorem Sm.err {α : Type} {k k' : Nat} : Sm (.error k : PR α) (.error k') := trivial

variable {e e' : Nat}
theorem KL.peek {l l' : List Tok} (h : KL l l') : Key (peekT e l) (peekT e' l') := by
  cases h with
  | nil => exact ⟨rfl, rfl, rfl⟩
  | cons h _ => exact h
theorem KL.tail {l l' : List Tok} (h : KL l l') : KL l.tail l'.tail := by
  cases h with
  | nil => exact .nil
  | cons _ h => exact h
theorem Key.isName {t t' : Tok} (h : Key t t') : isNameT t' = isNameT t := by
  obtain ⟨h1, h2, h3⟩ := h
  simp only [isNameT, h1, h2]

theorem expB_sm (x : List UInt8) {l l' : List Tok} (h : KL l l') : Sm (expB e x l) (expB e' x l') := by
  cases h with
  | nil => exact trivial
  | cons h hl =>
    simp only [expB, expM, ← h.1]
    generalize (_ == x) = b
    cases b
    · exact trivial
    · exact ⟨rfl, hl⟩

theorem sufM_sm : ∀ {l l' : List Tok} (h : KL l l') (x : GE), (sufM x l).1 = (sufM x l').1 ∧ KL (sufM x l).2 (sufM x l').2
  | _, _, .nil, x => ⟨rfl, .nil⟩
  | _, _, .cons (t := t) (t' := t') h hl, x => by
    simp only [sufM, ← h.1]
    split
    · exact sufM_sm hl _
    · split
      · exact sufM_sm hl _
      · split
        · exact sufM_sm hl _
        · exact ⟨rfl, .cons h hl⟩

theorem namesM_sm : ∀ {l l' : List Tok} (h : KL l l'), (namesM e l).1 = (namesM e' l').1 ∧ KL (namesM e l).2 (namesM e' l').2
  | _, _, .nil => ⟨rfl, .nil⟩
  | _, _, .cons (t := t) (t' := t') h hl => by
    simp only [namesM, h.isName]
    split
    · obtain ⟨a, b⟩ := namesM_sm hl
      exact ⟨by simp only [a, h.1], b⟩
    · exact ⟨rfl, .cons h hl⟩

theorem readM_sm : ∀ (f : Nat) {l l' : List Tok}, KL l l' → Sm (itemsM e f l) (itemsM e' f l') ∧ Sm (itemM e f l) (itemM e' f l') ∧ Sm (primM e f l) (primM e' f l') ∧ Sm (altsM e f l) (altsM e' f l')
  | 0, l, l', h => ⟨trivial, trivial, trivial, trivial⟩
  | f + 1, l, l', h => by
    have ih := fun {l l' : List Tok} (h : KL l l') => readM_sm f h
    have hp := h.peek (e := e) (e' := e')
    refine ⟨?_, ?_, ?_, ?_⟩
    · rw [itemsM_eq, itemsM_eq, hp.isName, ← hp.1]
      split
      · exact (ih h).2.1.bind fun x l1 l1' h1 => (ih h1).1.bind fun xs l2 l2' h2 => Sm.ok _ h2
      · exact Sm.ok _ h
    · rw [itemM_eq, itemM_eq]
      refine (ih h).2.2.1.bind fun x l1 l1' h1 => ?_
      obtain ⟨a, b⟩ := sufM_sm h1 x
      exact ⟨a, b⟩
    · rw [primM_eq, primM_eq, hp.isName, ← hp.1]
      split
      · exact Sm.ok _ h.tail
      · exact (expB_sm _ h).bind fun _ l0 l0' h0 => (ih h0).1.bind fun xs l1 l1' h1 => (ih h1).2.2.2.bind fun ys l2 l2' h2 => (expB_sm _ h2).bind fun _ l3 l3' h3 => Sm.ok _ h3
    · rw [altsM_eq, altsM_eq, ← hp.1]
      split
      · exact (ih h.tail).1.bind fun x l1 l1' h1 => (ih h1).2.2.2.bind fun xs l2 l2' h2 => Sm.ok _ h2
      · exact Sm.ok _ h

theorem altM_sm (f : Nat) {l l' : List Tok} (h : KL l l') : Sm (altM e f l) (altM e' f l') := by
  rw [altM_eq, altM_eq]
  refine (readM_sm f h).1.bind fun xs l1 l1' h1 => ?_
  have hp := h1.peek (e := e) (e' := e')
  have hp2 := h1.tail.peek (e := e) (e' := e')
  rw [← hp.1, ← hp2.2.2]
  split
  · split
    · exact trivial
    · exact Sm.ok _ h1.tail.tail
  · exact Sm.ok _ h1

theorem moreM_sm : ∀ (f : Nat) {l l' : List Tok}, KL l l' → Sm (moreM e f l) (moreM e' f l')
  | 0, l, l', h => trivial
  | f + 1, l, l', h => by
    have hp := h.peek (e := e) (e' := e')
    rw [moreM_eq, moreM_eq, ← hp.1]
    split
    · exact (altM_sm f h.tail).bind fun x l1 l1' h1 => (moreM_sm f h1).bind fun xs l2 l2' h2 => Sm.ok _ h2
    · exact Sm.ok _ h

theorem ruleM_sm (f : Nat) {l l' : List Tok} (h : KL l l') : Sm (ruleM e f l) (ruleM e' f l') := by
  have hp := h.peek (e := e) (e' := e')
  rw [ruleM_eq, ruleM_eq, hp.isName, ← hp.1]
  split
  · exact (expB_sm _ h.tail).bind fun _ l0 l0' h0 => (altM_sm f h0).bind fun a l1 l1' h1 => (moreM_sm f h1).bind fun bs l2 l2' h2 => (expB_sm _ h2).bind fun _ l3 l3' h3 => Sm.ok _ h3
  · exact trivial

theorem levelM_sm (a : Int) {l l' : List Tok} (h : KL l l') : Sm (levelM e a l) (levelM e' a l') := by
  have hp := h.tail.peek (e := e) (e' := e')
  obtain ⟨n1, n2⟩ := namesM_sm (e := e) (e' := e') h.tail.tail
  rw [levelM_eq, levelM_eq, hp.isName, ← hp.1, ← n1]
  split
  · exact (expB_sm _ n2).bind fun _ r r' hr => Sm.ok _ hr
  · exact trivial

theorem levelsM_sm : ∀ (f : Nat) {l l' : List Tok}, KL l l' → Sm (levelsM e f l) (levelsM e' f l')
  | 0, l, l', h => trivial
  | f + 1, l, l', h => by
    have hp := h.peek (e := e) (e' := e')
    rw [levelsM_eq, levelsM_eq, ← hp.1]
    cases assocOf (peekT e l).text with
    | none => exact Sm.ok _ h
    | some a => exact (levelM_sm a h).bind fun x l1 l1' h1 => (levelsM_sm f h1).bind fun xs l2 l2' h2 => Sm.ok _ h2

theorem rulesM_sm (F : Nat) : ∀ (g : Nat) {l l' : List Tok}, KL l l' → Sm (rulesM e F g l) (rulesM e' F g l')
  | 0, l, l', h => trivial
  | g + 1, _, _, .nil => Sm.ok _ .nil
  | g + 1, _, _, .cons h hl => by
    rw [rulesM_eq, rulesM_eq]
    exact (ruleM_sm F (.cons h hl)).bind fun x l1 l1' h1 => (rulesM_sm F g h1).bind fun xs l2 l2' h2 => Sm.ok _ h2

theorem progP_sm (F : Nat) {l l' : List Tok} (h : KL l l') : Sm (progP e F l) (progP e' F l') := by
  unfold progP
  refine (expB_sm _ h).bind fun _ l1 l1' h1 => ?_
  have hp := h1.peek (e := e) (e' := e')
  rw [hp.isName, ← hp.1]
  split
  · exact (expB_sm _ h1.tail).bind fun _ l2 l2' h2 => (levelsM_sm F h2).bind fun lv l3 l3' h3 => (rulesM_sm F F h3).bind fun rs l4 l4' h4 => Sm.ok _ h4
  · exact trivial

theorem parseM_key {s t : List UInt8} (h : (lex s).map Tok.text = (lex t).map Tok.text) : (parseM s).1 = (parseM t).1 ∧ (parseM s).2.2 = (parseM t).2.2 := by
  have hk : KL (lex s) (lex t) := KL.of_text (fun x hx => (lexL_good _ _ _ x hx).2.1) (fun x hx => (lexL_good _ _ _ x hx).2.1) h
  have hs := progP_sm (e := s.length) (e' := t.length) 3000003 hk
  unfold parseM
  rw [progM_eq, progM_eq]
  cases h1 : progP s.length 3000003 (lex s) with
  | error k =>
    rw [h1] at hs
    cases h2 : progP t.length 3000003 (lex t) with
    | error k' => exact ⟨rfl, rfl⟩
    | ok p => rw [h2] at hs; exact hs.elim
  | ok p =>
    obtain ⟨x, l⟩ := p
    rw [h1] at hs
    cases h2 : progP t.length 3000003 (lex t) with
    | error k' => rw [h2] at hs; exact hs.elim
    | ok p' =>
      obtain ⟨x', l'⟩ := p'
      rw [h2] at hs
      obtain ⟨rfl, _⟩ := hs
      exact ⟨rfl, rfl⟩

theorem law_space {s : List UInt8} {s0 : List UInt8} {ps : List (List UInt8 × List UInt8)} (h0 : s0 ∈ seps) (hp : ∀ p ∈ ps, p.2 ∈ seps) (ht : ps.map (·.1) = (lex s).map Tok.text) :
    (parseM s).1 = (parseM (s0 ++ ps.flatMap fun p => p.1 ++ p.2)).1 ∧ (parseM s).2.2 = (parseM (s0 ++ ps.flatMap fun p => p.1 ++ p.2)).2.2 := by
  refine parseM_key ?_
  rw [lexK_lex (s0 ++ _), lexK_sep h0, lexK_join ps _ fun p hp' => ⟨?_, hp p hp'⟩, ht]
  have : p.1 ∈ (lex s).map Tok.text := by rw [← ht]; exact List.mem_map_of_mem hp'
  obtain ⟨t, ht', he⟩ := List.mem_map.1 this
  rw [← he]
  exact (lexL_good _ _ _ t ht').1
end Go.Av
