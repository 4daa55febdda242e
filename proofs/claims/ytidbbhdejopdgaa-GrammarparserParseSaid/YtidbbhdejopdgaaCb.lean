/- Part of the proof: Cb. No condition. -/
import Derived.Test.YtidbbhdejopdgaaCa
import Derived.Test.YtidbbhdejopdgaaFns19
set_option linter.unusedVariables false
set_option linter.unusedSimpArgs false
namespace Go.Av

theorem Grows.add {H0 H : AHeap} {e : TypeId} {sz : Nat} {l : List AV} {v : AV} {b : Nat} {o : AObj} (h : Grows H0 e sz l v H) (hb : H b = none) : Grows (H0.set b o) e sz l v (H.set b o) := by
  rcases h with ⟨rfl, rfl, rfl⟩ | ⟨b', hb0, rfl, rfl⟩
  · exact .inl ⟨rfl, rfl, rfl⟩
  · have : b ≠ b' := by rintro rfl; rw [AHeap.set_same] at hb; cases hb
    exact .inr ⟨b', by rw [AHeap.set_ne _ _ (Ne.symm this)]; exact hb0, rfl, set_comm_heap (Ne.symm this)⟩

theorem Grows.base {H0 H : AHeap} {e : TypeId} {sz : Nat} {l : List AV} {v : AV} {b : Nat} (h : Grows H0 e sz l v H) (hb : H b = none) : H0 b = none := by
  rcases h with ⟨rfl, rfl, rfl⟩ | ⟨b', hb0, rfl, rfl⟩
  · exact hb
  · by_cases e : b = b'
    · subst e; exact hb0
    · rwa [AHeap.set_ne _ _ e] at hb

theorem Grows.drop {H0 H : AHeap} {e : TypeId} {sz : Nat} {l : List AV} {v : AV} {b : Nat} {o : AObj} (h : Grows (H0.set b o) e sz l v H) (hb : H0 b = none) : ∃ H3, Grows H0 e sz l v H3 ∧ HLe H3 H := by
  rcases h with ⟨rfl, rfl, rfl⟩ | ⟨b', hb0, rfl, rfl⟩
  · exact ⟨H0, .inl ⟨rfl, rfl, rfl⟩, .set hb⟩
  · have : b' ≠ b := by rintro rfl; rw [AHeap.set_same] at hb0; cases hb0
    rw [AHeap.set_ne _ _ this] at hb0
    refine ⟨H0.set b' (.row l.length sz e), .inr ⟨b', hb0, rfl, rfl⟩, ?_⟩
    rw [set_comm_heap (Ne.symm this)]
    exact .set (by rw [AHeap.set_ne _ _ (Ne.symm this)]; exact hb)

theorem Grows.HLe {H0 H : AHeap} {e : TypeId} {sz : Nat} {l : List AV} {v : AV} (h : Grows H0 e sz l v H) : HLe H0 H := by
  rcases h with ⟨rfl, rfl, rfl⟩ | ⟨b', hb0, rfl, rfl⟩
  · exact .refl _
  · exact .set hb0

structure Tok where
  at_ : Nat
  text : List UInt8
  word : Bool
  num : Int
  deriving DecidableEq, Inhabited

def Tok.av (t : Tok) : AV := .struct [i64 t.at_, .str t.text, .bool t.word, i64 t.num]
@[simp] theorem Tok.av_size (t : Tok) : t.av.size = 4 := rfl
@[simp] theorem Tok.av_agg (t : Tok) : t.av.isAgg = true := rfl
@[simp] theorem Tok.av_sto (t : Tok) : t.av.sto = true := rfl

def lexStep (k : Nat) (c : UInt8) (l : List UInt8) : Option Tok × Nat :=
  if isBlank c then (none, 1)
  else if c == 35 then (none, (l.takeWhile (· != 10)).length)
  else if isLetter c then (some ⟨k, l.takeWhile inWord, true, -1⟩, (l.takeWhile inWord).length)
  else if isDigit c then (some ⟨k, l.takeWhile isDigit, false, numVal (l.takeWhile isDigit)⟩, (l.takeWhile isDigit).length)
  else (some ⟨k, [c], false, -1⟩, 1)

def lexL : Nat → Nat → List UInt8 → List Tok
  | 0, _, _ => []
  | _ + 1, _, [] => []
  | f + 1, k, c :: r => (lexStep k c (c :: r)).1.toList ++ lexL f (k + (lexStep k c (c :: r)).2) ((c :: r).drop (lexStep k c (c :: r)).2)

def lex (s : List UInt8) : List Tok := lexL (s.length + 1) 0 s

theorem lexStep_pos (k : Nat) (c : UInt8) (r : List UInt8) : 1 ≤ (lexStep k c (c :: r)).2 := by
  unfold lexStep
  split
  · simp
  · split
    · rename_i h
      have : c = 35 := by simpa using h
      subst this
      simp [List.takeWhile_cons]
    · split
      · rename_i h
        simp [List.takeWhile_cons, inWord, h]
      · split
        · rename_i h
          simp [List.takeWhile_cons, h]
        · simp

theorem lexL_fuel : ∀ (f g k : Nat) (r : List UInt8), r.length < f → r.length < g → lexL f k r = lexL g k r
  | 0, _, _, _, h, _ => by omega
  | _, 0, _, _, _, h => by omega
  | f + 1, g + 1, k, [], h1, h2 => rfl
  | f + 1, g + 1, k, c :: r, h1, h2 => by
    have := lexStep_pos k c r
    simp only [lexL]
    rw [lexL_fuel f g _ _ (by simp at *; omega) (by simp at *; omega)]

theorem take_tw {p : UInt8 → Bool} (l : List UInt8) : l.take (l.takeWhile p).length = l.takeWhile p := by
  have := List.takeWhile_prefix (l := l) p
  exact (List.prefix_iff_eq_take.1 this).symm

theorem tw_len {p : UInt8 → Bool} (l : List UInt8) : (l.takeWhile p).length ≤ l.length := (List.takeWhile_prefix p).length_le

theorem lex_round {s : List UInt8} {x : Nat} (h : x < s.length) : lexL (s.length - x + 1) x (s.drop x) =
    (lexStep x s[x] (s.drop x)).1.toList ++ lexL (s.length - (x + (lexStep x s[x] (s.drop x)).2) + 1) (x + (lexStep x s[x] (s.drop x)).2) (s.drop (x + (lexStep x s[x] (s.drop x)).2)) := by
  have hd : s.drop x = s[x] :: s.drop (x + 1) := List.drop_eq_getElem_cons h
  have hp := lexStep_pos x s[x] (s.drop (x + 1))
  rw [← hd] at hp
  conv => lhs; rw [hd]; simp only [lexL]; rw [← hd]
  rw [List.drop_drop]
  congr 1
  exact lexL_fuel _ _ _ _ (by simp; omega) (by simp)
end Go.Av

namespace Go.Av

structure LexSt where
  v : AV
  H : AHeap
  at_ : Nat
  done : List Tok

theorem blank_cases (c : UInt8) : isBlank c = true ∨ (isBlank c = false ∧ ¬ (c.toNat : Int) = 32 ∧ ¬ (c.toNat : Int) = 9 ∧ ¬ (c.toNat : Int) = 13 ∧ ¬ (c.toNat : Int) = 10) := by
  cases h : isBlank c
  · refine .inr ⟨rfl, ?_⟩
    have := mt (isBlank_iff c).2 (by simp [h])
    omega
  · exact .inl rfl

theorem take_drop_span {p : UInt8 → Bool} {s : List UInt8} {x : Nat} : (s.take (spanEnd p s x)).drop x = (s.drop x).takeWhile p := by
  unfold spanEnd
  rw [List.drop_take, Nat.add_sub_cancel_left, take_tw]

def lexI (s : List UInt8) (H0 : AHeap) (x : LexSt) : Prop := Grows H0 79 4 (x.done.map Tok.av) x.v x.H ∧ x.at_ ≤ s.length ∧ x.done.length ≤ x.at_ ∧ x.done ++ lexL (s.length - x.at_ + 1) x.at_ (s.drop x.at_) = lex s
def lexE (s : List UInt8) (x : LexSt) : Env := [(0, .str s), (3, x.v), (4, i64 x.at_)]

theorem gp_lex (s : List UInt8) (hs : s.length ≤ 1000000) (H0 : AHeap) : Pure grammarparser_lex_id [.str s] H0 (.list 4 ((lex s).map Tok.av)) := by
  refine grammarparser_lex_enter rfl ?_
  simp [grammarparser_lex_rs]
  refine aw_loopK (lexI s H0) (lexE s) (fun x => x.H) (fun x => s.length - x.at_) ⟨.nils, H0, 0, []⟩ ⟨Grows.nil H0 _ _, by simp, by simp, by simp [lex]⟩ rfl rfl ?_
  rintro ⟨v, H, x, done⟩ ⟨hg, hx, hn, he⟩
  simp only at hg hx he hn
  by_cases h : x < s.length
  · have hr := lex_round h
    have hsp : ∀ p, spanEnd p s x = x + ((s.drop x).takeWhile p).length := fun p => rfl
    have htl : ∀ p : UInt8 → Bool, ((s.drop x).takeWhile p).length ≤ s.length - x := fun p => by have := tw_len (p := p) (s.drop x); simpa using this
    generalize hK : (blockK 0 (seqK PP grammarparser_lex_c47 (retK [ARV.tmp 2] fun r H' => r = ARes.ret (AV.list 4 (List.map Tok.av (lex s))) ∧ H' = H0))) = KK
    simp [h, allocQ, lexE]
    intro _ b hb
    rw [wrap64 (by omega) (by omega), show (x : Int) + 1 = ((x + 1 : Nat) : Int) from by omega]
    have hb0 := hg.base hb
    generalize hc : s[x] = c at *
    have hp := lexStep_pos x c (s.drop (x + 1))
    have hd : s.drop x = c :: s.drop (x + 1) := by rw [← hc]; exact List.drop_eq_getElem_cons h
    rw [← hd] at hp
    have step : ∀ {env : Env} {H' : AHeap}, (lexStep x c (s.drop x)).1 = none → env = [(0, .str s), (3, v), (4, i64 (x + (lexStep x c (s.drop x)).2 : Nat))] → HLe H H' →
        x + (lexStep x c (s.drop x)).2 ≤ s.length →
        loopK (lexI s H0) (lexE s) (fun x => x.H) (fun x => s.length - x.at_) (s.length - x) KK .norm env H' := by
      intro env H' h1 h2 h3 h5
      refine loopK_next ⟨v, H, x + (lexStep x c (s.drop x)).2, done⟩ ⟨hg, h5, by simp only; omega, ?_⟩ (by simp only; omega) (h2 ▸ EnvLe.refl _) h3
      simp only
      rw [← he, hr, h1]
      rfl
    have tail : ∀ (e : Nat) (w : Bool) (num : Int) (ex : Env), (ex = [] ∨ ex = [(49, .bool false)]) → lexStep x c (s.drop x) = (some ⟨x, (s.take e).drop x, w, num⟩, e - x) → x + 1 ≤ e → e ≤ s.length →
        aw PP grammarparser_lex_c37 (blockK 1 (loopK (lexI s H0) (lexE s) (fun x => x.H) (fun x => s.length - x.at_) (s.length - x) KK)) ([(0, .str s), (3, v), (4, i64 x), (5, .ptr b 0 []), (6, i64 e)] ++ ex) (H.set b (.box (.struct [i64 x, .str [], .bool w, i64 num]))) := by
      intro e w num ex hex hst he1 he2
      have run : ∀ env, env = [(0, .str s), (3, v), (6, i64 e)] → appQ (H.set b (.box (.struct [i64 x, .str ((s.take e).drop x), .bool w, i64 num]))) (opK PP [⟨some 3, none, .mov (.t 69)⟩] (regK (seqK PP grammarparser_lex_c35 (blockK 1 (loopK (lexI s H0) (lexE s) (fun x => x.H) (fun x => s.length - x.at_) (s.length - x) KK))) [5, 66, 67, 68, 69]) (panK (seqK PP grammarparser_lex_c35 (blockK 1 (loopK (lexI s H0) (lexE s) (fun x => x.H) (fun x => s.length - x.at_) (s.length - x) KK)))) [(0, .str s), (3, v), (5, .ptr b 0 []), (6, i64 e), (66, v), (67, .struct [i64 x, .str ((s.take e).drop x), .bool w, i64 num]), (68, .list 4 [.struct [i64 x, .str ((s.take e).drop x), .bool w, i64 num]])] (some 69)) 79 4 40 v [.struct [i64 x, .str ((s.take e).drop x), .bool w, i64 num]] := by
        intro env _
        refine (hg.add (o := .box (.struct [i64 x, .str ((s.take e).drop x), .bool w, i64 num])) hb).app (by simp; omega) fun v' H' hg' => ?_
        obtain ⟨H3, hg3, hle⟩ := hg'.drop hb0
        simp
        refine loopK_next ⟨v', H3, e, done ++ [⟨x, (s.take e).drop x, w, num⟩]⟩ ⟨?_, he2, by simp; omega, ?_⟩ (by simp only; omega) (EnvLe.refl _) hle
        · simpa [Tok.av] using hg3
        · simp only [List.append_assoc]
          rw [← he, hr, hst]
          simp only
          rw [show x + (e - x) = e from by omega]
          rfl
      rcases hex with rfl | rfl <;>
      · simp
        refine ⟨by omega, ?_⟩
        exact run _ rfl
    rcases blank_cases c with hbl | ⟨hbl, n1, n2, n3, n4⟩
    · have hst : lexStep x c (s.drop x) = (none, 1) := by simp [lexStep, hbl]
      have : (c.toNat : Int) = 32 ∨ (¬ (c.toNat : Int) = 32 ∧ (c.toNat : Int) = 9) ∨ (¬ (c.toNat : Int) = 32 ∧ ¬ (c.toNat : Int) = 9 ∧ (c.toNat : Int) = 13) ∨ (¬ (c.toNat : Int) = 32 ∧ ¬ (c.toNat : Int) = 9 ∧ ¬ (c.toNat : Int) = 13 ∧ (c.toNat : Int) = 10) := by
        have := (isBlank_iff c).1 hbl
        omega
      rcases this with e | ⟨e1, e⟩ | ⟨e1, e2, e⟩ | ⟨e1, e2, e3, e⟩ <;>
      · simp [*]
        rw [wrap64 (by omega) (by omega)]
        exact step (by rw [hst]) (by rw [hst]; simp) (.set hb) (by rw [hst]; simp; omega)
    · simp [n1, n2, n3, n4]
      by_cases n5 : (c.toNat : Int) = 35
      · have hc35 : (c == 35) = true := by rw [u8_eq]; simpa using n5
        have hst : lexStep x c (s.drop x) = (none, ((s.drop x).takeWhile (· != 10)).length) := by
          simp only [lexStep, hbl, hc35]; rfl
        simp [n5]
        refine (gp_span _ _ (fun b H => gp_lex_1 b H) s x hx _).use ?_
        simp [hsp]
        exact step (by rw [hst]) (by rw [hst]; simp) (.set hb) (by rw [hst]; have := htl (· != 10); omega)
      · have hc35 : (c == 35) = false := by rw [u8_eq]; simpa using n5
        simp [n5]
        refine (gp_letter c _).use ?_
        cases hlt : isLetter c
        · simp
          refine (gp_digit c _).use ?_
          cases hdg : isDigit c
          · have hst : lexStep x c (s.drop x) = (some ⟨x, [c], false, -1⟩, 1) := by
              simp only [lexStep, hbl, hc35, hlt, hdg]; rfl
            simp [-grammarparser_lex_c37_eq]
            simpa [-grammarparser_lex_c37_eq] using tail (x + 1) false (-1) _ (.inr rfl) (by rw [hst, List.drop_take, hd]; simp) (by omega) (by omega)
          · have hst : lexStep x c (s.drop x) = (some ⟨x, (s.drop x).takeWhile isDigit, false, numVal ((s.drop x).takeWhile isDigit)⟩, ((s.drop x).takeWhile isDigit).length) := by
              simp only [lexStep, hbl, hc35, hlt, hdg]; rfl
            rw [hst] at hp
            simp
            refine (gp_span _ _ (fun b H => gp_digit b H) s x hx _).use ?_
            simp
            have h1 := hsp isDigit
            have h2 := htl isDigit
            refine ⟨by omega, ?_⟩
            refine (gp_value _ (fun c hc => ?_) _).use ?_
            · rw [take_drop_span] at hc
              exact List.all_eq_true.1 List.all_takeWhile c hc
            · simp [-grammarparser_lex_c37_eq, take_drop_span]
              exact tail (spanEnd isDigit s x) false _ [] (.inl rfl) (by rw [hst, take_drop_span, h1, Nat.add_sub_cancel_left]) (by omega) (by omega)
        · have hst : lexStep x c (s.drop x) = (some ⟨x, (s.drop x).takeWhile inWord, true, -1⟩, ((s.drop x).takeWhile inWord).length) := by
            simp only [lexStep, hbl, hc35, hlt]; rfl
          rw [hst] at hp
          simp
          refine (gp_span _ _ (fun b H => gp_lex_2 b H) s x hx _).use ?_
          simp [-grammarparser_lex_c37_eq]
          have h1 := hsp inWord
          have h2 := htl inWord
          exact tail (spanEnd inWord s x) true (-1) [] (.inl rfl) (by rw [hst, take_drop_span, h1]; simp) (by omega) (by omega)
  · simp [h, lexE]
    intro _
    rw [List.drop_eq_nil_of_le (by omega)] at he
    have hd : done = lex s := by
      rw [← he]
      simp [lexL]
    subst hd
    refine ⟨?_, hg.sub, hg.HLe⟩
    rcases hg with ⟨rfl, _⟩ | ⟨_, _, rfl, _⟩ <;> rfl
end Go.Av

namespace Go.Av

theorem ne_of_some_none {H : AHeap} {a b : Nat} {o : AObj} (ha : H a = some o) (hb : H b = none) : a ≠ b := by
  rintro rfl; rw [ha] at hb; cases hb

def kwStart : List UInt8 := [115, 116, 97, 114, 116]
def kwLeft : List UInt8 := [108, 101, 102, 116]
def kwRight : List UInt8 := [114, 105, 103, 104, 116]
def kwNone : List UInt8 := [110, 111, 110, 101]
def kwPrice : List UInt8 := [112, 114, 105, 99, 101]
def reserved (s : List UInt8) : Bool := s == kwStart || s == kwLeft || s == kwRight || s == kwNone || s == kwPrice

theorem gp_reserved (s : List UInt8) (H : AHeap) : Pure grammarparser_reserved_id [.str s] H (.bool (reserved s)) := by
  refine grammarparser_reserved_enter rfl ?_
  unfold reserved kwStart kwLeft kwRight kwNone kwPrice
  cases h1 : s == [115, 116, 97, 114, 116] <;> cases h2 : s == [108, 101, 102, 116] <;> cases h3 : s == [114, 105, 103, 104, 116] <;> cases h4 : s == [110, 111, 110, 101] <;> cases h5 : s == [112, 114, 105, 99, 101] <;>
    simp [grammarparser_reserved_rs, h1, h2, h3, h4, h5, -beq_iff_eq, -beq_eq_false_iff_ne]

/-- The reader: the tokens that are left, and the text's length. -/
def rdr (l : List Tok) (e : Nat) : AV := .struct [.list 4 (l.map Tok.av), i64 e]
def peekT (e : Nat) : List Tok → Tok
  | [] => ⟨e, [], false, -1⟩
  | t :: _ => t

@[simp] theorem peekT_nil (e : Nat) : peekT e [] = ⟨e, [], false, -1⟩ := rfl
@[simp] theorem peekT_cons (e : Nat) (t : Tok) (l : List Tok) : peekT e (t :: l) = t := rfl

theorem gp_peek {bp e : Nat} {l : List Tok} {H : AHeap} (hb : H bp = some (.box (rdr l e))) : Pure grammarparser_reader_peek_id [.ptr bp 0 []] H (peekT e l).av := by
  refine grammarparser_reader_peek_enter rfl ?_
  simp [grammarparser_reader_peek_rs, allocQ]
  intro b hbn
  have n1 := ne_of_some_none hb hbn
  cases l with
  | nil =>
    simp [AHeap.set_ne, n1, hb, rdr]
    exact ⟨.refl _, .set hbn⟩
  | cons t l =>
    simp [AHeap.set_ne, n1, hb, rdr]
    intro _
    exact .set hbn

theorem gp_next {bp e : Nat} {t : Tok} {l : List Tok} {H : AHeap} {post : ARes → AHeap → Prop} (hb : H bp = some (.box (rdr (t :: l) e))) (hK : post (.ret t.av) (H.set bp (.box (rdr l e)))) :
    ACalls PP grammarparser_reader_next_id [.ptr bp 0 []] H post := by
  refine grammarparser_reader_next_enter rfl ?_
  simp [grammarparser_reader_next_rs, allocQ]
  intro b hbn
  have n1 := ne_of_some_none hb hbn
  refine (gp_peek (bp := bp) (e := e) (l := t :: l) (by rw [AHeap.set_ne _ _ n1]; exact hb)).use ?_
  simp [allocQ]
  intro b2 hb2
  have n2 : bp ≠ b2 := ne_of_some_none (by rw [AHeap.set_ne _ _ n1]; exact hb) hb2
  have n3 : b2 ≠ b := by rintro rfl; simp at hb2
  simp [AHeap.set_ne, n1, n2, n3, n3.symm, n1.symm, n2.symm, hb, rdr]
  refine ⟨by omega, _, .refl _, _, ?_, hK⟩
  refine .of_sub fun x o hx => ?_
  grind [AHeap.set, rdr]

/-- A syntax error at k. -/
def synErr (k : Nat) : Value := .iface 50 (.int .i64 (k : Int))

theorem gp_fail {bp e : Nat} {l : List Tok} {H : AHeap} {post : ARes → AHeap → Prop} (hb : H bp = some (.box (rdr l e))) (hK : post (.pan (synErr (peekT e l).at_)) H) :
    ACalls PP grammarparser_reader_fail_id [.ptr bp 0 []] H post := by
  refine grammarparser_reader_fail_enter rfl ?_
  simp [grammarparser_reader_fail_rs]
  refine (gp_peek hb).use ?_
  simp [Tok.av]
  exact ⟨H, .refl _, hK⟩

theorem gp_expect {bp e : Nat} {l : List Tok} {H : AHeap} {post : ARes → AHeap → Prop} (x : List UInt8) (hx : x ≠ []) (hb : H bp = some (.box (rdr l e)))
    (hok : ∀ t r, l = t :: r → t.text = x → post (.ret (.tuple [])) (H.set bp (.box (rdr r e)))) (hno : (peekT e l).text ≠ x → post (.pan (synErr (peekT e l).at_)) H) :
    ACalls PP grammarparser_reader_expect_id [.ptr bp 0 [], .str x] H post := by
  refine grammarparser_reader_expect_enter rfl ?_
  simp [grammarparser_reader_expect_rs]
  refine (gp_peek hb).use ?_
  by_cases h : (peekT e l).text = x
  · cases l with
    | nil => simp at h; exact absurd h hx
    | cons t r =>
      simp [Tok.av] at h ⊢
      simp [h]
      refine gp_next hb ?_
      simp
      exact ⟨_, .refl _, _, .refl _, hok t r rfl h⟩
  · simp [Tok.av, h]
    refine gp_fail hb ?_
    simp
    exact ⟨H, .refl _, hno h⟩

def isNameT (t : Tok) : Bool := t.word && !reserved t.text

theorem gp_isName {bp e : Nat} {l : List Tok} {H : AHeap} (hb : H bp = some (.box (rdr l e))) : Pure grammarparser_reader_isName_id [.ptr bp 0 []] H (.bool (isNameT (peekT e l))) := by
  refine grammarparser_reader_isName_enter rfl ?_
  simp [grammarparser_reader_isName_rs]
  refine (gp_peek hb).use ?_
  simp [allocQ]
  intro b hbn
  generalize peekT e l = t
  cases hw : t.word
  · simp [Tok.av, hw, isNameT]
    exact .set hbn
  · simp [Tok.av, hw, isNameT]
    refine (gp_reserved t.text _).use ?_
    simp
    exact .set hbn

theorem gp_name {bp e : Nat} {l : List Tok} {H : AHeap} {post : ARes → AHeap → Prop} (hb : H bp = some (.box (rdr l e)))
    (hok : ∀ t r, l = t :: r → isNameT t = true → post (.ret (.str t.text)) (H.set bp (.box (rdr r e)))) (hno : isNameT (peekT e l) = false → post (.pan (synErr (peekT e l).at_)) H) :
    ACalls PP grammarparser_reader_name_id [.ptr bp 0 []] H post := by
  refine grammarparser_reader_name_enter rfl ?_
  simp [grammarparser_reader_name_rs]
  refine (gp_peek hb).use ?_
  simp [allocQ]
  intro b hbn
  have n1 := ne_of_some_none hb hbn
  have fin : isNameT (peekT e l) = true → ∀ o, aw PP grammarparser_reader_name_c8 (retK [.tmp 2] post) [(0, .ptr bp 0 [])] (H.set b o) := by
    intro hn o
    cases l with
    | nil => simp [isNameT] at hn
    | cons t r =>
      simp
      refine gp_next (by rw [AHeap.set_ne _ _ n1]; exact hb) ?_
      simp [Tok.av]
      refine ⟨_, .refl _, _, ?_, hok t r rfl hn⟩
      refine .of_sub fun x o hx => ?_
      grind [AHeap.set]
  have bad : isNameT (peekT e l) = false → ∀ o, ACalls PP grammarparser_reader_fail_id [.ptr bp 0 []] (H.set b o) (fun r H' => r = .pan (synErr (peekT e l).at_) ∧ H' = H.set b o) := by
    intro hn o
    exact gp_fail (by rw [AHeap.set_ne _ _ n1]; exact hb) ⟨rfl, rfl⟩
  have cok : ∀ (o : AObj) (K : AV → AHeap → Prop) (Kp : Value → AHeap → Prop), isNameT (peekT e l) = false → Kp (synErr (peekT e l).at_) (H.set b o) → ACalls PP grammarparser_reader_fail_id [.ptr bp 0 []] (H.set b o) (callK K Kp) := by
    intro o K Kp hn hk
    exact (bad hn o).mono fun r H' hr => by obtain ⟨rfl, rfl⟩ := hr; exact hk
  cases hw : (peekT e l).word
  · have hn : isNameT (peekT e l) = false := by simp [isNameT, hw]
    simp [Tok.av, hw]
    refine cok _ _ _ hn ?_
    simp
    exact ⟨H, .set hbn, hno hn⟩
  · simp [Tok.av, hw]
    refine (gp_reserved _ _).use ?_
    cases hr : reserved (peekT e l).text
    · have hn : isNameT (peekT e l) = true := by simp [isNameT, hw, hr]
      simp [-grammarparser_reader_name_c8_eq]
      exact fin hn _
    · have hn : isNameT (peekT e l) = false := by simp [isNameT, hw, hr]
      simp
      refine cok _ _ _ hn ?_
      simp
      exact ⟨H, .set hbn, hno hn⟩
end Go.Av
