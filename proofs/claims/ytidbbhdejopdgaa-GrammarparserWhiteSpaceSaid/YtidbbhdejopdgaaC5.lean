/- Part of the proof: C5. No condition. -/
import Derived.Test.YtidbbhdejopdgaaC4
set_option linter.unusedVariables false
set_option linter.unusedSimpArgs false
namespace Go.Av

theorem ne_of_some_none {H : AHeap} {a b : Nat} {o : AObj} (ha : H a = some o) (hb : H b = none) : a ≠ b := by
  rintro rfl; rw [ha] at hb; cases hb

def kwStart : List UInt8 := [115, 116, 97, 114, 116]
def kwLeft : List UInt8 := [108, 101, 102, 116]
def kwRight : List UInt8 := [114, 105, 103, 104, 116]
def kwNone : List UInt8 := [110, 111, 110, 101]
def kwPrice : List UInt8 := [112, 114, 105, 99, 101]
def reserved (s : List UInt8) : Bool := s == kwStart || s == kwLeft || s == kwRight || s == kwNone || s == kwPrice

theorem gp_reserved (s : List UInt8) (H : AHeap) : Pure grammarparser_reserved_id [.str s] H (.bool (reserved s)) := by
  refine grammarparser_reserved_enter rfl ?_
  unfold reserved kwStart kwLeft kwRight kwNone kwPrice
  cases h1 : s == [115, 116, 97, 114, 116] <;> cases h2 : s == [108, 101, 102, 116] <;> cases h3 : s == [114, 105, 103, 104, 116] <;> cases h4 : s == [110, 111, 110, 101] <;> cases h5 : s == [112, 114, 105, 99, 101] <;>
    simp [grammarparser_reserved_rs, h1, h2, h3, h4, h5, -beq_iff_eq, -beq_eq_false_iff_ne]

/-- The reader: the tokens that are left, and the text's length. -/
def rdr (l : List Tok) (e : Nat) : AV := .struct [.list 4 (l.map Tok.av), i64 e]
def peekT (e : Nat) : List Tok → Tok
  | [] => ⟨e, [], false, -1⟩
  | t :: _ => t

@[simp] theorem peekT_nil (e : Nat) : peekT e [] = ⟨e, [], false, -1⟩ := rfl
@[simp] theorem peekT_cons (e : Nat) (t : Tok) (l : List Tok) : peekT e (t :: l) = t := rfl

theorem gp_peek {bp e : Nat} {l : List Tok} {H : AHeap} (hb : H bp = some (.box (rdr l e))) : Pure grammarparser_reader_peek_id [.ptr bp 0 []] H (peekT e l).av := by
  refine grammarparser_reader_peek_enter rfl ?_
  simp [grammarparser_reader_peek_rs, allocQ]
  intro b hbn
  have n1 := ne_of_some_none hb hbn
  cases l with
  | nil =>
    simp [AHeap.set_ne, n1, hb, rdr]
    exact ⟨.refl _, .set hbn⟩
  | cons t l =>
    simp [AHeap.set_ne, n1, hb, rdr]
    intro _
    exact .set hbn

theorem gp_next {bp e : Nat} {t : Tok} {l : List Tok} {H : AHeap} {post : ARes → AHeap → Prop} (hb : H bp = some (.box (rdr (t :: l) e))) (hK : post (.ret t.av) (H.set bp (.box (rdr l e)))) :
    ACalls PP grammarparser_reader_next_id [.ptr bp 0 []] H post := by
  refine grammarparser_reader_next_enter rfl ?_
  simp [grammarparser_reader_next_rs, allocQ]
  intro b hbn
  have n1 := ne_of_some_none hb hbn
  refine (gp_peek (bp := bp) (e := e) (l := t :: l) (by rw [AHeap.set_ne _ _ n1]; exact hb)).use ?_
  simp [allocQ]
  intro b2 hb2
  have n2 : bp ≠ b2 := ne_of_some_none (by rw [AHeap.set_ne _ _ n1]; exact hb) hb2
  have n3 : b2 ≠ b := by rintro rfl; simp at hb2
  simp [AHeap.set_ne, n1, n2, n3, n3.symm, n1.symm, n2.symm, hb, rdr]
  refine ⟨by omega, _, .refl _, _, ?_, hK⟩
  refine .of_sub fun x o hx => ?_
  grind [AHeap.set, rdr]

/-- A syntax error at k. -/
def synErr (k : Nat) : Value := .iface 50 (.int .i64 (k : Int))

theorem gp_fail {bp e : Nat} {l : List Tok} {H : AHeap} {post : ARes → AHeap → Prop} (hb : H bp = some (.box (rdr l e))) (hK : post (.pan (synErr (peekT e l).at_)) H) :
    ACalls PP grammarparser_reader_fail_id [.ptr bp 0 []] H post := by
  refine grammarparser_reader_fail_enter rfl ?_
  simp [grammarparser_reader_fail_rs]
  refine (gp_peek hb).use ?_
  simp [Tok.av]
  exact ⟨H, .refl _, hK⟩

theorem gp_expect {bp e : Nat} {l : List Tok} {H : AHeap} {post : ARes → AHeap → Prop} (x : List UInt8) (hx : x ≠ []) (hb : H bp = some (.box (rdr l e)))
    (hok : ∀ t r, l = t :: r → t.text = x → post (.ret (.tuple [])) (H.set bp (.box (rdr r e)))) (hno : (peekT e l).text ≠ x → post (.pan (synErr (peekT e l).at_)) H) :
    ACalls PP grammarparser_reader_expect_id [.ptr bp 0 [], .str x] H post := by
  refine grammarparser_reader_expect_enter rfl ?_
  simp [grammarparser_reader_expect_rs]
  refine (gp_peek hb).use ?_
  by_cases h : (peekT e l).text = x
  · cases l with
    | nil => simp at h; exact absurd h hx
    | cons t r =>
      simp [Tok.av] at h ⊢
      simp [h]
      refine gp_next hb ?_
      simp
      exact ⟨_, .refl _, _, .refl _, hok t r rfl h⟩
  · simp [Tok.av, h]
    refine gp_fail hb ?_
    simp
    exact ⟨H, .refl _, hno h⟩

def isNameT (t : Tok) : Bool := t.word && !reserved t.text

theorem gp_isName {bp e : Nat} {l : List Tok} {H : AHeap} (hb : H bp = some (.box (rdr l e))) : Pure grammarparser_reader_isName_id [.ptr bp 0 []] H (.bool (isNameT (peekT e l))) := by
  refine grammarparser_reader_isName_enter rfl ?_
  simp [grammarparser_reader_isName_rs]
  refine (gp_peek hb).use ?_
  simp [allocQ]
  intro b hbn
  generalize peekT e l = t
  cases hw : t.word
  · simp [Tok.av, hw, isNameT]
    exact .set hbn
  · simp [Tok.av, hw, isNameT]
    refine (gp_reserved t.text _).use ?_
    simp
    exact .set hbn

theorem gp_name {bp e : Nat} {l : List Tok} {H : AHeap} {post : ARes → AHeap → Prop} (hb : H bp = some (.box (rdr l e)))
    (hok : ∀ t r, l = t :: r → isNameT t = true → post (.ret (.str t.text)) (H.set bp (.box (rdr r e)))) (hno : isNameT (peekT e l) = false → post (.pan (synErr (peekT e l).at_)) H) :
    ACalls PP grammarparser_reader_name_id [.ptr bp 0 []] H post := by
  refine grammarparser_reader_name_enter rfl ?_
  simp [grammarparser_reader_name_rs]
  refine (gp_peek hb).use ?_
  simp [allocQ]
  intro b hbn
  have n1 := ne_of_some_none hb hbn
  have fin : isNameT (peekT e l) = true → ∀ o, aw PP grammarparser_reader_name_c8 (retK [.tmp 2] post) [(0, .ptr bp 0 [])] (H.set b o) := by
    intro hn o
    cases l with
    | nil => simp [isNameT] at hn
    | cons t r =>
      simp
      refine gp_next (by rw [AHeap.set_ne _ _ n1]; exact hb) ?_
      simp [Tok.av]
      refine ⟨_, .refl _, _, ?_, hok t r rfl hn⟩
      refine .of_sub fun x o hx => ?_
      grind [AHeap.set]
  have bad : isNameT (peekT e l) = false → ∀ o, ACalls PP grammarparser_reader_fail_id [.ptr bp 0 []] (H.set b o) (fun r H' => r = .pan (synErr (peekT e l).at_) ∧ H' = H.set b o) := by
    intro hn o
    exact gp_fail (by rw [AHeap.set_ne _ _ n1]; exact hb) ⟨rfl, rfl⟩
  have cok : ∀ (o : AObj) (K : AV → AHeap → Prop) (Kp : Value → AHeap → Prop), isNameT (peekT e l) = false → Kp (synErr (peekT e l).at_) (H.set b o) → ACalls PP grammarparser_reader_fail_id [.ptr bp 0 []] (H.set b o) (callK K Kp) := by
    intro o K Kp hn hk
    exact (bad hn o).mono fun r H' hr => by obtain ⟨rfl, rfl⟩ := hr; exact hk
  cases hw : (peekT e l).word
  · have hn : isNameT (peekT e l) = false := by simp [isNameT, hw]
    simp [Tok.av, hw]
    refine cok _ _ _ hn ?_
    simp
    exact ⟨H, .set hbn, hno hn⟩
  · simp [Tok.av, hw]
    refine (gp_reserved _ _).use ?_
    cases hr : reserved (peekT e l).text
    · have hn : isNameT (peekT e l) = true := by simp [isNameT, hw, hr]
      simp [-grammarparser_reader_name_c8_eq]
      exact fin hn _
    · have hn : isNameT (peekT e l) = false := by simp [isNameT, hw, hr]
      simp
      refine cok _ _ _ hn ?_
      simp
      exact ⟨H, .set hbn, hno hn⟩
end Go.Av
