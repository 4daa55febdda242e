/- Part of the proof: C6. No condition. -/
import Derived.Test.YtidbbhdejopdgaaC5
set_option linter.unusedVariables false
set_option linter.unusedSimpArgs false
namespace Go.Av

/-- An expression of a grammar file. -/
inductive GE where
  | mk (kind : Int) (name : List UInt8) (kids : List GE)
  deriving Inhabited

mutual
def GE.av : GE → AV
  | .mk k n l => .struct [i64 k, .str n, .list 3 (GE.avs l)]
def GE.avs : List GE → List AV
  | [] => []
  | e :: l => e.av :: GE.avs l
end
theorem GE.avs_eq : ∀ l : List GE, GE.avs l = l.map GE.av
  | [] => rfl
  | e :: l => by rw [GE.avs, GE.avs_eq l]; rfl
theorem GE.av_mk (k : Int) (n : List UInt8) (l : List GE) : (GE.mk k n l).av = .struct [i64 k, .str n, .list 3 (l.map GE.av)] := by
  rw [GE.av, GE.avs_eq]
@[simp] theorem GE.av_size (x : GE) : x.av.size = 3 := by cases x; rw [GE.av_mk]; rfl
@[simp] theorem GE.av_agg (x : GE) : x.av.isAgg = true := by cases x; rw [GE.av_mk]; rfl
@[simp] theorem GE.av_sto (x : GE) : x.av.sto = true := by cases x; rw [GE.av_mk]; rfl
@[simp] theorem GE.av_undef (x : GE) : x.av ≠ .undef := by cases x; rw [GE.av_mk]; simp

abbrev PR (α : Type) := Except Nat (α × List Tok)

def mkSeq (k : Int) : List GE → GE
  | [x] => x
  | l => .mk k [] l

def sufM (x : GE) : List Tok → GE × List Tok
  | [] => (x, [])
  | t :: r => if t.text == [42] then sufM (.mk 5 [] [x]) r else if t.text == [43] then sufM (.mk 6 [] [x]) r else if t.text == [63] then sufM (.mk 4 [] [x]) r else (x, t :: r)

def expM (e : Nat) (x : List UInt8) : List Tok → Except Nat (List Tok)
  | [] => .error e
  | t :: r => if t.text == x then .ok r else .error t.at_

def consM {α : Type} (x : α) : PR (List α) → PR (List α)
  | .ok (xs, l) => .ok (x :: xs, l)
  | .error k => .error k

def mapM' {α β : Type} (f : α → β) : PR α → PR β
  | .ok (x, l) => .ok (f x, l)
  | .error k => .error k

mutual
/-- The items of a sequence. -/
def itemsM (e : Nat) : Nat → List Tok → PR (List GE)
  | 0, _ => .error (e + 1)
  | f + 1, l => if isNameT (peekT e l) || (peekT e l).text == [40] then
      match itemM e f l with
      | .error k => .error k
      | .ok (x, l1) => consM x (itemsM e f l1)
    else .ok ([], l)
def itemM (e : Nat) : Nat → List Tok → PR GE
  | 0, _ => .error (e + 1)
  | f + 1, l => match primM e f l with
    | .error k => .error k
    | .ok (x, l1) => .ok (sufM x l1)
def primM (e : Nat) : Nat → List Tok → PR GE
  | 0, _ => .error (e + 1)
  | f + 1, l => if isNameT (peekT e l) then .ok (.mk 1 (peekT e l).text [], l.tail) else
    match expM e [40] l with
    | .error k => .error k
    | .ok l0 => match itemsM e f l0 with
      | .error k => .error k
      | .ok (xs, l1) => match altsM e f l1 with
        | .error k => .error k
        | .ok (ys, l2) => match expM e [41] l2 with
          | .error k => .error k
          | .ok l3 => .ok (mkSeq 3 (mkSeq 2 xs :: ys), l3)
def altsM (e : Nat) : Nat → List Tok → PR (List GE)
  | 0, _ => .error (e + 1)
  | f + 1, l => if (peekT e l).text == [124] then
      match itemsM e f l.tail with
      | .error k => .error k
      | .ok (xs, l1) => consM (mkSeq 2 xs) (altsM e f l1)
    else .ok ([], l)
end

theorem sufM_len : ∀ (l : List Tok) (x : GE), (sufM x l).2.length ≤ l.length
  | [], x => by simp [sufM]
  | t :: r, x => by
    simp only [sufM]
    have h := fun y => sufM_len r y
    split
    · exact Nat.le_succ_of_le (h _)
    · split
      · exact Nat.le_succ_of_le (h _)
      · split
        · exact Nat.le_succ_of_le (h _)
        · simp

theorem expM_ok {e : Nat} {x : List UInt8} {l l' : List Tok} (h : expM e x l = .ok l') : ∃ t, l = t :: l' ∧ t.text = x := by
  cases l with
  | nil => simp [expM] at h
  | cons t r =>
    simp only [expM] at h
    split at h
    · rename_i hx
      injection h with h
      subst h
      exact ⟨t, rfl, by simpa using hx⟩
    · cases h

theorem consM_ok {α : Type} {x : α} {r : PR (List α)} {y : List α} {l : List Tok} (h : consM x r = .ok (y, l)) : ∃ xs, r = .ok (xs, l) ∧ y = x :: xs := by
  unfold consM at h
  split at h
  · injection h with h
    injection h with h1 h2
    subst h1 h2
    exact ⟨_, rfl, rfl⟩
  · cases h

theorem isNameT_cons {e : Nat} {l : List Tok} (h : isNameT (peekT e l) = true) : ∃ t r, l = t :: r ∧ isNameT t = true := by
  cases l with
  | nil => simp [isNameT] at h
  | cons t r => exact ⟨t, r, rfl, h⟩

/-- Each reads on, and none reads beyond the end. -/
theorem readM_len (e : Nat) : ∀ (f : Nat) (l : List Tok),
    (∀ x l1, itemsM e f l = .ok (x, l1) → l1.length ≤ l.length) ∧ (∀ x l1, itemM e f l = .ok (x, l1) → l1.length < l.length) ∧
    (∀ x l1, primM e f l = .ok (x, l1) → l1.length < l.length) ∧ (∀ x l1, altsM e f l = .ok (x, l1) → l1.length ≤ l.length)
  | 0, l => by simp [itemsM, itemM, primM, altsM]
  | f + 1, l => by
    have ih := readM_len e f
    refine ⟨fun x l1 h => ?_, fun x l1 h => ?_, fun x l1 h => ?_, fun x l1 h => ?_⟩
    · simp only [itemsM] at h
      split at h
      · split at h
        · cases h
        · rename_i y l2 hy
          obtain ⟨xs, h1, _⟩ := consM_ok h
          have := (ih l).2.1 _ _ hy
          have := (ih l2).1 _ _ h1
          omega
      · injection h with h
        injection h with h1 h2
        subst h2; omega
    · simp only [itemM] at h
      split at h
      · cases h
      · rename_i y l2 hy
        injection h with h
        have := (ih l).2.2.1 _ _ hy
        have := sufM_len l2 y
        rw [h] at this
        simp only at this
        omega
    · simp only [primM] at h
      split at h
      · rename_i hn
        obtain ⟨t, r, rfl, _⟩ := isNameT_cons hn
        injection h with h
        injection h with h1 h2
        subst h2; simp
      · split at h
        · cases h
        · rename_i l0 h0
          obtain ⟨t, rfl, _⟩ := expM_ok h0
          split at h
          · cases h
          · rename_i xs l2 hi
            have h1 := (ih l0).1 _ _ hi
            split at h
            · cases h
            · rename_i ys l3 ha
              have h2 := (ih l2).2.2.2 _ _ ha
              split at h
              · cases h
              · rename_i l4 h4
                obtain ⟨t', rfl, _⟩ := expM_ok h4
                injection h with h
                injection h with e1 e2
                subst e2
                simp at h2 ⊢
                omega
    · simp only [altsM] at h
      split at h
      · split at h
        · cases h
        · rename_i xs l2 hi
          obtain ⟨ys, h1, _⟩ := consM_ok h
          have := (ih l.tail).1 _ _ hi
          have := (ih l2).2.2.2 _ _ h1
          simp at *
          omega
      · injection h with h
        injection h with h1 h2
        subst h2; omega
end Go.Av
