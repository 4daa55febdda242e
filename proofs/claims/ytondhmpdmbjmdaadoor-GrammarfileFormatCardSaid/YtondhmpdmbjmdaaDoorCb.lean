/- Part of the proof: Cb. No condition. -/
import Derived.Test.YtondhmpdmbjmdaaDoorCa
set_option linter.unusedVariables false
set_option linter.unusedSimpArgs false
namespace Go.Av

structure LexSt where
  v : AV
  H : AHeap
  at_ : Nat
  done : List Tok

theorem blank_cases (c : UInt8) : isBlank c = true ∨ (isBlank c = false ∧ ¬ (c.toNat : Int) = 32 ∧ ¬ (c.toNat : Int) = 9 ∧ ¬ (c.toNat : Int) = 13 ∧ ¬ (c.toNat : Int) = 10) := by
  cases h : isBlank c
  · refine .inr ⟨rfl, ?_⟩
    have := mt (isBlank_iff c).2 (by simp [h])
    omega
  · exact .inl rfl

theorem take_drop_span {p : UInt8 → Bool} {s : List UInt8} {x : Nat} : (s.take (spanEnd p s x)).drop x = (s.drop x).takeWhile p := by
  unfold spanEnd
  rw [List.drop_take, Nat.add_sub_cancel_left, take_tw]

def lexI (s : List UInt8) (H0 : AHeap) (x : LexSt) : Prop := Grows H0 100 4 (x.done.map Tok.av) x.v x.H ∧ x.at_ ≤ s.length ∧ x.done.length ≤ x.at_ ∧ x.done ++ lexL (s.length - x.at_ + 1) x.at_ (s.drop x.at_) = lex s
def lexE (s : List UInt8) (x : LexSt) : Env := [(0, .str s), (3, x.v), (4, i64 x.at_)]

theorem gp_lex (s : List UInt8) (hs : s.length ≤ 1000000) (H0 : AHeap) : Pure gP_lex_id [.str s] H0 (.list 4 ((lex s).map Tok.av)) := by
  refine gP_lex_enter rfl ?_
  simp [gP_lex_rs]
  refine aw_loopK (lexI s H0) (lexE s) (fun x => x.H) (fun x => s.length - x.at_) ⟨.nils, H0, 0, []⟩ ⟨Grows.nil H0 _ _, by simp, by simp, by simp [lex]⟩ rfl rfl ?_
  rintro ⟨v, H, x, done⟩ ⟨hg, hx, hn, he⟩
  simp only at hg hx he hn
  by_cases h : x < s.length
  · have hr := lex_round h
    have hsp : ∀ p, spanEnd p s x = x + ((s.drop x).takeWhile p).length := fun p => rfl
    have htl : ∀ p : UInt8 → Bool, ((s.drop x).takeWhile p).length ≤ s.length - x := fun p => by have := tw_len (p := p) (s.drop x); simpa using this
    generalize hK : (blockK 0 (seqK PP gP_lex_c47 (retK [ARV.tmp 2] fun r H' => r = ARes.ret (AV.list 4 (List.map Tok.av (lex s))) ∧ H' = H0))) = KK
    simp [h, allocQ, lexE]
    intro _ b hb
    rw [wrap64 (by omega) (by omega), show (x : Int) + 1 = ((x + 1 : Nat) : Int) from by omega]
    have hb0 := hg.base hb
    generalize hc : s[x] = c at *
    have hp := lexStep_pos x c (s.drop (x + 1))
    have hd : s.drop x = c :: s.drop (x + 1) := by rw [← hc]; exact List.drop_eq_getElem_cons h
    rw [← hd] at hp
    have step : ∀ {env : Env} {H' : AHeap}, (lexStep x c (s.drop x)).1 = none → env = [(0, .str s), (3, v), (4, i64 (x + (lexStep x c (s.drop x)).2 : Nat))] → HLe H H' →
        x + (lexStep x c (s.drop x)).2 ≤ s.length →
        loopK (lexI s H0) (lexE s) (fun x => x.H) (fun x => s.length - x.at_) (s.length - x) KK .norm env H' := by
      intro env H' h1 h2 h3 h5
      refine loopK_next ⟨v, H, x + (lexStep x c (s.drop x)).2, done⟩ ⟨hg, h5, by simp only; omega, ?_⟩ (by simp only; omega) (h2 ▸ EnvLe.refl _) h3
      simp only
      rw [← he, hr, h1]
      rfl
    have tail : ∀ (e : Nat) (w : Bool) (num : Int) (ex : Env), (ex = [] ∨ ex = [(49, .bool false)]) → lexStep x c (s.drop x) = (some ⟨x, (s.take e).drop x, w, num⟩, e - x) → x + 1 ≤ e → e ≤ s.length →
        aw PP gP_lex_c37 (blockK 1 (loopK (lexI s H0) (lexE s) (fun x => x.H) (fun x => s.length - x.at_) (s.length - x) KK)) ([(0, .str s), (3, v), (4, i64 x), (5, .ptr b 0 []), (6, i64 e)] ++ ex) (H.set b (.box (.struct [i64 x, .str [], .bool w, i64 num]))) := by
      intro e w num ex hex hst he1 he2
      have run : ∀ env, env = [(0, .str s), (3, v), (6, i64 e)] → appQ (H.set b (.box (.struct [i64 x, .str ((s.take e).drop x), .bool w, i64 num]))) (opK PP [⟨some 3, none, .mov (.t 69)⟩] (regK (seqK PP gP_lex_c35 (blockK 1 (loopK (lexI s H0) (lexE s) (fun x => x.H) (fun x => s.length - x.at_) (s.length - x) KK))) [5, 66, 67, 68, 69]) (panK (seqK PP gP_lex_c35 (blockK 1 (loopK (lexI s H0) (lexE s) (fun x => x.H) (fun x => s.length - x.at_) (s.length - x) KK)))) [(0, .str s), (3, v), (5, .ptr b 0 []), (6, i64 e), (66, v), (67, .struct [i64 x, .str ((s.take e).drop x), .bool w, i64 num]), (68, .list 4 [.struct [i64 x, .str ((s.take e).drop x), .bool w, i64 num]])] (some 69)) 100 4 40 v [.struct [i64 x, .str ((s.take e).drop x), .bool w, i64 num]] := by
        intro env _
        refine (hg.add (o := .box (.struct [i64 x, .str ((s.take e).drop x), .bool w, i64 num])) hb).app (by simp; omega) fun v' H' hg' => ?_
        obtain ⟨H3, hg3, hle⟩ := hg'.drop hb0
        simp
        refine loopK_next ⟨v', H3, e, done ++ [⟨x, (s.take e).drop x, w, num⟩]⟩ ⟨?_, he2, by simp; omega, ?_⟩ (by simp only; omega) (EnvLe.refl _) hle
        · simpa [Tok.av] using hg3
        · simp only [List.append_assoc]
          rw [← he, hr, hst]
          simp only
          rw [show x + (e - x) = e from by omega]
          rfl
      rcases hex with rfl | rfl <;>
      · simp
        refine ⟨by omega, ?_⟩
        exact run _ rfl
    rcases blank_cases c with hbl | ⟨hbl, n1, n2, n3, n4⟩
    · have hst : lexStep x c (s.drop x) = (none, 1) := by simp [lexStep, hbl]
      have : (c.toNat : Int) = 32 ∨ (¬ (c.toNat : Int) = 32 ∧ (c.toNat : Int) = 9) ∨ (¬ (c.toNat : Int) = 32 ∧ ¬ (c.toNat : Int) = 9 ∧ (c.toNat : Int) = 13) ∨ (¬ (c.toNat : Int) = 32 ∧ ¬ (c.toNat : Int) = 9 ∧ ¬ (c.toNat : Int) = 13 ∧ (c.toNat : Int) = 10) := by
        have := (isBlank_iff c).1 hbl
        omega
      rcases this with e | ⟨e1, e⟩ | ⟨e1, e2, e⟩ | ⟨e1, e2, e3, e⟩ <;>
      · simp [*]
        rw [wrap64 (by omega) (by omega)]
        exact step (by rw [hst]) (by rw [hst]; simp) (.set hb) (by rw [hst]; simp; omega)
    · simp [n1, n2, n3, n4]
      by_cases n5 : (c.toNat : Int) = 35
      · have hc35 : (c == 35) = true := by rw [u8_eq]; simpa using n5
        have hst : lexStep x c (s.drop x) = (none, ((s.drop x).takeWhile (· != 10)).length) := by
          simp only [lexStep, hbl, hc35]; rfl
        simp [n5]
        refine (gp_span _ _ (fun b H => gp_lex_1 b H) s x hx _).use ?_
        simp [hsp]
        exact step (by rw [hst]) (by rw [hst]; simp) (.set hb) (by rw [hst]; have := htl (· != 10); omega)
      · have hc35 : (c == 35) = false := by rw [u8_eq]; simpa using n5
        simp [n5]
        refine (gp_letter c _).use ?_
        cases hlt : isLetter c
        · simp
          refine (gp_digit c _).use ?_
          cases hdg : isDigit c
          · have hst : lexStep x c (s.drop x) = (some ⟨x, [c], false, -1⟩, 1) := by
              simp only [lexStep, hbl, hc35, hlt, hdg]; rfl
            simp [-gP_lex_c37_eq]
            simpa [-gP_lex_c37_eq] using tail (x + 1) false (-1) _ (.inr rfl) (by rw [hst, List.drop_take, hd]; simp) (by omega) (by omega)
          · have hst : lexStep x c (s.drop x) = (some ⟨x, (s.drop x).takeWhile isDigit, false, numVal ((s.drop x).takeWhile isDigit)⟩, ((s.drop x).takeWhile isDigit).length) := by
              simp only [lexStep, hbl, hc35, hlt, hdg]; rfl
            rw [hst] at hp
            simp
            refine (gp_span _ _ (fun b H => gp_digit b H) s x hx _).use ?_
            simp
            have h1 := hsp isDigit
            have h2 := htl isDigit
            refine ⟨by omega, ?_⟩
            refine (gp_value _ (fun c hc => ?_) _).use ?_
            · rw [take_drop_span] at hc
              exact List.all_eq_true.1 List.all_takeWhile c hc
            · simp [-gP_lex_c37_eq, take_drop_span]
              exact tail (spanEnd isDigit s x) false _ [] (.inl rfl) (by rw [hst, take_drop_span, h1, Nat.add_sub_cancel_left]) (by omega) (by omega)
        · have hst : lexStep x c (s.drop x) = (some ⟨x, (s.drop x).takeWhile inWord, true, -1⟩, ((s.drop x).takeWhile inWord).length) := by
            simp only [lexStep, hbl, hc35, hlt]; rfl
          rw [hst] at hp
          simp
          refine (gp_span _ _ (fun b H => gp_lex_2 b H) s x hx _).use ?_
          simp [-gP_lex_c37_eq]
          have h1 := hsp inWord
          have h2 := htl inWord
          exact tail (spanEnd inWord s x) true (-1) [] (.inl rfl) (by rw [hst, take_drop_span, h1]; simp) (by omega) (by omega)
  · simp [h, lexE]
    intro _
    rw [List.drop_eq_nil_of_le (by omega)] at he
    have hd : done = lex s := by
      rw [← he]
      simp [lexL]
    subst hd
    refine ⟨?_, hg.sub, hg.HLe⟩
    rcases hg with ⟨rfl, _⟩ | ⟨_, _, rfl, _⟩ <;> rfl
end Go.Av

namespace Go.Av

theorem ne_of_some_none {H : AHeap} {a b : Nat} {o : AObj} (ha : H a = some o) (hb : H b = none) : a ≠ b := by
  rintro rfl; rw [ha] at hb; cases hb

def kwStart : List UInt8 := [115, 116, 97, 114, 116]
def kwLeft : List UInt8 := [108, 101, 102, 116]
def kwRight : List UInt8 := [114, 105, 103, 104, 116]
def kwNone : List UInt8 := [110, 111, 110, 101]
def kwPrice : List UInt8 := [112, 114, 105, 99, 101]
def reserved (s : List UInt8) : Bool := s == kwStart || s == kwLeft || s == kwRight || s == kwNone || s == kwPrice

theorem gp_reserved (s : List UInt8) (H : AHeap) : Pure gP_reserved_id [.str s] H (.bool (reserved s)) := by
  refine gP_reserved_enter rfl ?_
  unfold reserved kwStart kwLeft kwRight kwNone kwPrice
  cases h1 : s == [115, 116, 97, 114, 116] <;> cases h2 : s == [108, 101, 102, 116] <;> cases h3 : s == [114, 105, 103, 104, 116] <;> cases h4 : s == [110, 111, 110, 101] <;> cases h5 : s == [112, 114, 105, 99, 101] <;>
    simp [gP_reserved_rs, h1, h2, h3, h4, h5, -beq_iff_eq, -beq_eq_false_iff_ne]

/-- The reader: the tokens that are left, and the text's length. -/
def rdr (l : List Tok) (e : Nat) : AV := .struct [.list 4 (l.map Tok.av), i64 e]
def peekT (e : Nat) : List Tok → Tok
  | [] => ⟨e, [], false, -1⟩
  | t :: _ => t

@[simp] theorem peekT_nil (e : Nat) : peekT e [] = ⟨e, [], false, -1⟩ := rfl
@[simp] theorem peekT_cons (e : Nat) (t : Tok) (l : List Tok) : peekT e (t :: l) = t := rfl

theorem gp_peek {bp e : Nat} {l : List Tok} {H : AHeap} (hb : H bp = some (.box (rdr l e))) : Pure gR_peek_id [.ptr bp 0 []] H (peekT e l).av := by
  refine gR_peek_enter rfl ?_
  simp [gR_peek_rs, allocQ]
  intro b hbn
  have n1 := ne_of_some_none hb hbn
  cases l with
  | nil =>
    simp [AHeap.set_ne, n1, hb, rdr]
    exact ⟨.refl _, .set hbn⟩
  | cons t l =>
    simp [AHeap.set_ne, n1, hb, rdr]
    intro _
    exact .set hbn

theorem gp_next {bp e : Nat} {t : Tok} {l : List Tok} {H : AHeap} {post : ARes → AHeap → Prop} (hb : H bp = some (.box (rdr (t :: l) e))) (hK : post (.ret t.av) (H.set bp (.box (rdr l e)))) :
    ACalls PP gR_next_id [.ptr bp 0 []] H post := by
  refine gR_next_enter rfl ?_
  simp [gR_next_rs, allocQ]
  intro b hbn
  have n1 := ne_of_some_none hb hbn
  refine (gp_peek (bp := bp) (e := e) (l := t :: l) (by rw [AHeap.set_ne _ _ n1]; exact hb)).use ?_
  simp [allocQ]
  intro b2 hb2
  have n2 : bp ≠ b2 := ne_of_some_none (by rw [AHeap.set_ne _ _ n1]; exact hb) hb2
  have n3 : b2 ≠ b := by rintro rfl; simp at hb2
  simp [AHeap.set_ne, n1, n2, n3, n3.symm, n1.symm, n2.symm, hb, rdr]
  refine ⟨by omega, _, .refl _, _, ?_, hK⟩
  refine .of_sub fun x o hx => ?_
  grind [AHeap.set, rdr]

/-- A syntax error at k. -/
def synErr (k : Nat) : Value := .iface 80 (.int .i64 (k : Int))

theorem gp_fail {bp e : Nat} {l : List Tok} {H : AHeap} {post : ARes → AHeap → Prop} (hb : H bp = some (.box (rdr l e))) (hK : post (.pan (synErr (peekT e l).at_)) H) :
    ACalls PP gR_fail_id [.ptr bp 0 []] H post := by
  refine gR_fail_enter rfl ?_
  simp [gR_fail_rs]
  refine (gp_peek hb).use ?_
  simp [Tok.av]
  exact ⟨H, .refl _, hK⟩

theorem gp_expect {bp e : Nat} {l : List Tok} {H : AHeap} {post : ARes → AHeap → Prop} (x : List UInt8) (hx : x ≠ []) (hb : H bp = some (.box (rdr l e)))
    (hok : ∀ t r, l = t :: r → t.text = x → post (.ret (.tuple [])) (H.set bp (.box (rdr r e)))) (hno : (peekT e l).text ≠ x → post (.pan (synErr (peekT e l).at_)) H) :
    ACalls PP gR_expect_id [.ptr bp 0 [], .str x] H post := by
  refine gR_expect_enter rfl ?_
  simp [gR_expect_rs]
  refine (gp_peek hb).use ?_
  by_cases h : (peekT e l).text = x
  · cases l with
    | nil => simp at h; exact absurd h hx
    | cons t r =>
      simp [Tok.av] at h ⊢
      simp [h]
      refine gp_next hb ?_
      simp
      exact ⟨_, .refl _, _, .refl _, hok t r rfl h⟩
  · simp [Tok.av, h]
    refine gp_fail hb ?_
    simp
    exact ⟨H, .refl _, hno h⟩

def isNameT (t : Tok) : Bool := t.word && !reserved t.text

theorem gp_isName {bp e : Nat} {l : List Tok} {H : AHeap} (hb : H bp = some (.box (rdr l e))) : Pure gR_isName_id [.ptr bp 0 []] H (.bool (isNameT (peekT e l))) := by
  refine gR_isName_enter rfl ?_
  simp [gR_isName_rs]
  refine (gp_peek hb).use ?_
  simp [allocQ]
  intro b hbn
  generalize peekT e l = t
  cases hw : t.word
  · simp [Tok.av, hw, isNameT]
    exact .set hbn
  · simp [Tok.av, hw, isNameT]
    refine (gp_reserved t.text _).use ?_
    simp
    exact .set hbn

theorem gp_name {bp e : Nat} {l : List Tok} {H : AHeap} {post : ARes → AHeap → Prop} (hb : H bp = some (.box (rdr l e)))
    (hok : ∀ t r, l = t :: r → isNameT t = true → post (.ret (.str t.text)) (H.set bp (.box (rdr r e)))) (hno : isNameT (peekT e l) = false → post (.pan (synErr (peekT e l).at_)) H) :
    ACalls PP gR_name_id [.ptr bp 0 []] H post := by
  refine gR_name_enter rfl ?_
  simp [gR_name_rs]
  refine (gp_peek hb).use ?_
  simp [allocQ]
  intro b hbn
  have n1 := ne_of_some_none hb hbn
  have fin : isNameT (peekT e l) = true → ∀ o, aw PP gR_name_c8 (retK [.tmp 2] post) [(0, .ptr bp 0 [])] (H.set b o) := by
    intro hn o
    cases l with
    | nil => simp [isNameT] at hn
    | cons t r =>
      simp
      refine gp_next (by rw [AHeap.set_ne _ _ n1]; exact hb) ?_
      simp [Tok.av]
      refine ⟨_, .refl _, _, ?_, hok t r rfl hn⟩
      refine .of_sub fun x o hx => ?_
      grind [AHeap.set]
  have bad : isNameT (peekT e l) = false → ∀ o, ACalls PP gR_fail_id [.ptr bp 0 []] (H.set b o) (fun r H' => r = .pan (synErr (peekT e l).at_) ∧ H' = H.set b o) := by
    intro hn o
    exact gp_fail (by rw [AHeap.set_ne _ _ n1]; exact hb) ⟨rfl, rfl⟩
  have cok : ∀ (o : AObj) (K : AV → AHeap → Prop) (Kp : Value → AHeap → Prop), isNameT (peekT e l) = false → Kp (synErr (peekT e l).at_) (H.set b o) → ACalls PP gR_fail_id [.ptr bp 0 []] (H.set b o) (callK K Kp) := by
    intro o K Kp hn hk
    exact (bad hn o).mono fun r H' hr => by obtain ⟨rfl, rfl⟩ := hr; exact hk
  cases hw : (peekT e l).word
  · have hn : isNameT (peekT e l) = false := by simp [isNameT, hw]
    simp [Tok.av, hw]
    refine cok _ _ _ hn ?_
    simp
    exact ⟨H, .set hbn, hno hn⟩
  · simp [Tok.av, hw]
    refine (gp_reserved _ _).use ?_
    cases hr : reserved (peekT e l).text
    · have hn : isNameT (peekT e l) = true := by simp [isNameT, hw, hr]
      simp [-gR_name_c8_eq]
      exact fin hn _
    · have hn : isNameT (peekT e l) = false := by simp [isNameT, hw, hr]
      simp
      refine cok _ _ _ hn ?_
      simp
      exact ⟨H, .set hbn, hno hn⟩
end Go.Av

namespace Go.Av

/-- An expression of a grammar file. -/
inductive GE where
  | mk (kind : Int) (name : List UInt8) (kids : List GE)
  deriving Inhabited

mutual
def GE.av : GE → AV
  | .mk k n l => .struct [i64 k, .str n, .list 3 (GE.avs l)]
def GE.avs : List GE → List AV
  | [] => []
  | e :: l => e.av :: GE.avs l
end
theorem GE.avs_eq : ∀ l : List GE, GE.avs l = l.map GE.av
  | [] => rfl
  | e :: l => by rw [GE.avs, GE.avs_eq l]; rfl
theorem GE.av_mk (k : Int) (n : List UInt8) (l : List GE) : (GE.mk k n l).av = .struct [i64 k, .str n, .list 3 (l.map GE.av)] := by
  rw [GE.av, GE.avs_eq]
@[simp] theorem GE.av_size (x : GE) : x.av.size = 3 := by cases x; rw [GE.av_mk]; rfl
@[simp] theorem GE.av_agg (x : GE) : x.av.isAgg = true := by cases x; rw [GE.av_mk]; rfl
@[simp] theorem GE.av_sto (x : GE) : x.av.sto = true := by cases x; rw [GE.av_mk]; rfl
@[simp] theorem GE.av_undef (x : GE) : x.av ≠ .undef := by cases x; rw [GE.av_mk]; simp

abbrev PR (α : Type) := Except Nat (α × List Tok)

def mkSeq (k : Int) : List GE → GE
  | [x] => x
  | l => .mk k [] l

def sufM (x : GE) : List Tok → GE × List Tok
  | [] => (x, [])
  | t :: r => if t.text == [42] then sufM (.mk 5 [] [x]) r else if t.text == [43] then sufM (.mk 6 [] [x]) r else if t.text == [63] then sufM (.mk 4 [] [x]) r else (x, t :: r)

def expM (e : Nat) (x : List UInt8) : List Tok → Except Nat (List Tok)
  | [] => .error e
  | t :: r => if t.text == x then .ok r else .error t.at_

def consM {α : Type} (x : α) : PR (List α) → PR (List α)
  | .ok (xs, l) => .ok (x :: xs, l)
  | .error k => .error k

def mapM' {α β : Type} (f : α → β) : PR α → PR β
  | .ok (x, l) => .ok (f x, l)
  | .error k => .error k

mutual
/-- The items of a sequence. -/
def itemsM (e : Nat) : Nat → List Tok → PR (List GE)
  | 0, _ => .error (e + 1)
  | f + 1, l => if isNameT (peekT e l) || (peekT e l).text == [40] then
      match itemM e f l with
      | .error k => .error k
      | .ok (x, l1) => consM x (itemsM e f l1)
    else .ok ([], l)
def itemM (e : Nat) : Nat → List Tok → PR GE
  | 0, _ => .error (e + 1)
  | f + 1, l => match primM e f l with
    | .error k => .error k
    | .ok (x, l1) => .ok (sufM x l1)
def primM (e : Nat) : Nat → List Tok → PR GE
  | 0, _ => .error (e + 1)
  | f + 1, l => if isNameT (peekT e l) then .ok (.mk 1 (peekT e l).text [], l.tail) else
    match expM e [40] l with
    | .error k => .error k
    | .ok l0 => match itemsM e f l0 with
      | .error k => .error k
      | .ok (xs, l1) => match altsM e f l1 with
        | .error k => .error k
        | .ok (ys, l2) => match expM e [41] l2 with
          | .error k => .error k
          | .ok l3 => .ok (mkSeq 3 (mkSeq 2 xs :: ys), l3)
def altsM (e : Nat) : Nat → List Tok → PR (List GE)
  | 0, _ => .error (e + 1)
  | f + 1, l => if (peekT e l).text == [124] then
      match itemsM e f l.tail with
      | .error k => .error k
      | .ok (xs, l1) => consM (mkSeq 2 xs) (altsM e f l1)
    else .ok ([], l)
end

theorem sufM_len : ∀ (l : List Tok) (x : GE), (sufM x l).2.length ≤ l.length
  | [], x => by simp [sufM]
  | t :: r, x => by
    simp only [sufM]
    have h := fun y => sufM_len r y
    split
    · exact Nat.le_succ_of_le (h _)
    · split
      · exact Nat.le_succ_of_le (h _)
      · split
        · exact Nat.le_succ_of_le (h _)
        · simp

theorem expM_ok {e : Nat} {x : List UInt8} {l l' : List Tok} (h : expM e x l = .ok l') : ∃ t, l = t :: l' ∧ t.text = x := by
  cases l with
  | nil => simp [expM] at h
  | cons t r =>
    simp only [expM] at h
    split at h
    · rename_i hx
      injection h with h
      subst h
      exact ⟨t, rfl, by simpa using hx⟩
    · cases h

theorem consM_ok {α : Type} {x : α} {r : PR (List α)} {y : List α} {l : List Tok} (h : consM x r = .ok (y, l)) : ∃ xs, r = .ok (xs, l) ∧ y = x :: xs := by
  unfold consM at h
  split at h
  · injection h with h
    injection h with h1 h2
    subst h1 h2
    exact ⟨_, rfl, rfl⟩
  · cases h

theorem isNameT_cons {e : Nat} {l : List Tok} (h : isNameT (peekT e l) = true) : ∃ t r, l = t :: r ∧ isNameT t = true := by
  cases l with
  | nil => simp [isNameT] at h
  | cons t r => exact ⟨t, r, rfl, h⟩

/-- Each reads on, and none reads beyond the end. -/
theorem readM_len (e : Nat) : ∀ (f : Nat) (l : List Tok),
    (∀ x l1, itemsM e f l = .ok (x, l1) → l1.length ≤ l.length) ∧ (∀ x l1, itemM e f l = .ok (x, l1) → l1.length < l.length) ∧
    (∀ x l1, primM e f l = .ok (x, l1) → l1.length < l.length) ∧ (∀ x l1, altsM e f l = .ok (x, l1) → l1.length ≤ l.length)
  | 0, l => by simp [itemsM, itemM, primM, altsM]
  | f + 1, l => by
    have ih := readM_len e f
    refine ⟨fun x l1 h => ?_, fun x l1 h => ?_, fun x l1 h => ?_, fun x l1 h => ?_⟩
    · simp only [itemsM] at h
      split at h
      · split at h
        · cases h
        · rename_i y l2 hy
          obtain ⟨xs, h1, _⟩ := consM_ok h
          have := (ih l).2.1 _ _ hy
          have := (ih l2).1 _ _ h1
          omega
      · injection h with h
        injection h with h1 h2
        subst h2; omega
    · simp only [itemM] at h
      split at h
      · cases h
      · rename_i y l2 hy
        injection h with h
        have := (ih l).2.2.1 _ _ hy
        have := sufM_len l2 y
        rw [h] at this
        simp only at this
        omega
    · simp only [primM] at h
      split at h
      · rename_i hn
        obtain ⟨t, r, rfl, _⟩ := isNameT_cons hn
        injection h with h
        injection h with h1 h2
        subst h2; simp
      · split at h
        · cases h
        · rename_i l0 h0
          obtain ⟨t, rfl, _⟩ := expM_ok h0
          split at h
          · cases h
          · rename_i xs l2 hi
            have h1 := (ih l0).1 _ _ hi
            split at h
            · cases h
            · rename_i ys l3 ha
              have h2 := (ih l2).2.2.2 _ _ ha
              split at h
              · cases h
              · rename_i l4 h4
                obtain ⟨t', rfl, _⟩ := expM_ok h4
                injection h with h
                injection h with e1 e2
                subst e2
                simp at h2 ⊢
                omega
    · simp only [altsM] at h
      split at h
      · split at h
        · cases h
        · rename_i xs l2 hi
          obtain ⟨ys, h1, _⟩ := consM_ok h
          have := (ih l.tail).1 _ _ hi
          have := (ih l2).2.2.2 _ _ h1
          simp at *
          omega
      · injection h with h
        injection h with h1 h2
        subst h2; omega
end Go.Av
