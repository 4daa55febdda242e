/- Part of the proof: PL1. No condition. -/
import Derived.Test.YtidbbhdejopdgaaC20
set_option linter.unusedVariables false
set_option linter.unusedSimpArgs false
namespace Go.Av
def bindM {α β : Type} (r : PR α) (F : α → List Tok → PR β) : PR β := match r with
  | .error k => .error k
  | .ok (x, l) => F x l
@[simp] theorem bindM_error {α β : Type} (k : Nat) (F : α → List Tok → PR β) : bindM (.error k) F = .error k := rfl
@[simp] theorem bindM_ok {α β : Type} (x : α) (l : List Tok) (F : α → List Tok → PR β) : bindM (.ok (x, l)) F = F x l := rfl
def expB (e : Nat) (x : List UInt8) (l : List Tok) : PR Unit := match expM e x l with
  | .error k => .error k
  | .ok r => .ok ((), r)

theorem consM_bind {α : Type} (x : α) (r : PR (List α)) : consM x r = bindM r fun xs l => .ok (x :: xs, l) := by
  cases r with
  | error k => rfl
  | ok p => rfl

theorem itemsM_eq (e f : Nat) (l : List Tok) : itemsM e (f + 1) l = if isNameT (peekT e l) || (peekT e l).text == [40] then bindM (itemM e f l) fun x l1 => bindM (itemsM e f l1) fun xs l2 => .ok (x :: xs, l2) else .ok ([], l) := by
  rw [itemsM]
  split
  · cases itemM e f l with
    | error k => rfl
    | ok p => obtain ⟨p1, p2⟩ := p; simp [consM_bind]
  · rfl
theorem itemM_eq (e f : Nat) (l : List Tok) : itemM e (f + 1) l = bindM (primM e f l) fun x l1 => .ok (sufM x l1) := by
  rw [itemM]
  cases primM e f l with
  | error k => rfl
  | ok p => rfl
theorem primM_eq (e f : Nat) (l : List Tok) : primM e (f + 1) l = if isNameT (peekT e l) then .ok (.mk 1 (peekT e l).text [], l.tail) else
    bindM (expB e [40] l) fun _ l0 => bindM (itemsM e f l0) fun xs l1 => bindM (altsM e f l1) fun ys l2 => bindM (expB e [41] l2) fun _ l3 => .ok (mkSeq 3 (mkSeq 2 xs :: ys), l3) := by
  rw [primM]
  split
  · rfl
  · unfold expB
    cases expM e [40] l with
    | error k => rfl
    | ok l0 =>
      simp only [bindM_ok]
      cases itemsM e f l0 with
      | error k => rfl
      | ok p =>
        obtain ⟨p1, p2⟩ := p
        simp only [bindM_ok]
        cases altsM e f p2 with
        | error k => rfl
        | ok q =>
          obtain ⟨q1, q2⟩ := q
          simp only [bindM_ok]
          cases expM e [41] q2 with
          | error k => rfl
          | ok l3 => rfl
theorem altsM_eq (e f : Nat) (l : List Tok) : altsM e (f + 1) l = if (peekT e l).text == [124] then bindM (itemsM e f l.tail) fun xs l1 => bindM (altsM e f l1) fun ys l2 => .ok (mkSeq 2 xs :: ys, l2) else .ok ([], l) := by
  rw [altsM]
  split
  · cases itemsM e f l.tail with
    | error k => rfl
    | ok p => obtain ⟨p1, p2⟩ := p; simp [consM_bind]
  · rfl
theorem altM_eq (e f : Nat) (l : List Tok) : altM e f l = bindM (itemsM e f l) fun xs l1 => if (peekT e l1).text == kwPrice then
      if (peekT e l1.tail).num < 0 then .error (peekT e l1.tail).at_ else .ok (⟨mkSeq 2 xs, (peekT e l1.tail).num⟩, l1.tail.tail)
    else .ok (⟨mkSeq 2 xs, 0⟩, l1) := by
  rw [altM]
  cases itemsM e f l with
  | error k => rfl
  | ok p => rfl
theorem moreM_eq (e f : Nat) (l : List Tok) : moreM e (f + 1) l = if (peekT e l).text == [124] then bindM (altM e f l.tail) fun x l1 => bindM (moreM e f l1) fun xs l2 => .ok (x :: xs, l2) else .ok ([], l) := by
  rw [moreM]
  split
  · cases altM e f l.tail with
    | error k => rfl
    | ok p => obtain ⟨p1, p2⟩ := p; simp [consM_bind]
  · rfl
theorem ruleM_eq (e f : Nat) (l : List Tok) : ruleM e f l = if isNameT (peekT e l) then
    bindM (expB e [61] l.tail) fun _ l0 => bindM (altM e f l0) fun a l1 => bindM (moreM e f l1) fun bs l2 => bindM (expB e [59] l2) fun _ l3 => .ok (⟨(peekT e l).text, a :: bs⟩, l3)
  else .error (peekT e l).at_ := by
  rw [ruleM]
  split
  · unfold expB
    cases expM e [61] l.tail with
    | error k => rfl
    | ok l0 =>
      simp only [bindM_ok]
      cases altM e f l0 with
      | error k => rfl
      | ok p =>
        obtain ⟨p1, p2⟩ := p
        simp only [bindM_ok]
        cases moreM e f p2 with
        | error k => rfl
        | ok q =>
          obtain ⟨q1, q2⟩ := q
          simp only [bindM_ok]
          cases expM e [59] q2 with
          | error k => rfl
          | ok l3 => rfl
  · rfl
theorem levelM_eq (e : Nat) (a : Int) (l : List Tok) : levelM e a l = if isNameT (peekT e l.tail) then
    bindM (expB e [59] (namesM e l.tail.tail).2) fun _ r => .ok (⟨a, (peekT e l.tail).text :: (namesM e l.tail.tail).1⟩, r) else .error (peekT e l.tail).at_ := by
  rw [levelM]
  split
  · unfold expB
    cases expM e [59] (namesM e l.tail.tail).2 with
    | error k => rfl
    | ok l0 => rfl
  · rfl
theorem levelsM_eq (e f : Nat) (l : List Tok) : levelsM e (f + 1) l = match assocOf (peekT e l).text with
    | none => .ok ([], l)
    | some a => bindM (levelM e a l) fun x l1 => bindM (levelsM e f l1) fun xs l2 => .ok (x :: xs, l2) := by
  rw [levelsM]
  cases assocOf (peekT e l).text with
  | none => rfl
  | some a =>
    simp only []
    cases levelM e a l with
    | error k => rfl
    | ok p => obtain ⟨p1, p2⟩ := p; simp [consM_bind]
theorem rulesM_eq (e F g : Nat) (t : Tok) (l : List Tok) : rulesM e F (g + 1) (t :: l) = bindM (ruleM e F (t :: l)) fun x l1 => bindM (rulesM e F g l1) fun xs l2 => .ok (x :: xs, l2) := by
  rw [rulesM]
  cases ruleM e F (t :: l) with
  | error k => rfl
  | ok p => obtain ⟨p1, p2⟩ := p; simp [consM_bind]
def progP (e F : Nat) (l : List Tok) : PR GF :=
  bindM (expB e kwStart l) fun _ l1 => if isNameT (peekT e l1) then
    bindM (expB e [59] l1.tail) fun _ l2 => bindM (levelsM e F l2) fun lv l3 => bindM (rulesM e F F l3) fun rs l4 => .ok (⟨(peekT e l1).text, lv, rs⟩, l4)
    else .error (peekT e l1).at_
theorem progM_eq (e F : Nat) (l : List Tok) : progM e F l = match progP e F l with
  | .error k => .error k
  | .ok (x, _) => .ok x := by
  unfold progM progP expB
  cases expM e kwStart l with
  | error k => rfl
  | ok l1 =>
    simp only [bindM_ok]
    split
    · cases expM e [59] l1.tail with
      | error k => rfl
      | ok l2 =>
        simp only [bindM_ok]
        cases levelsM e F l2 with
        | error k => rfl
        | ok p =>
          obtain ⟨p1, p2⟩ := p
          simp only [bindM_ok]
          cases rulesM e F F p2 with
          | error k => rfl
          | ok q => rfl
    · rfl
end Go.Av
