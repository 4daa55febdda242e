/- Part of the proof: C13. No condition. -/
import Derived.Test.YtidbbhdejopdgaaC12
set_option linter.unusedVariables false
set_option linter.unusedSimpArgs false
namespace Go.Av

def assocOf (x : List UInt8) : Option Int := if x == kwLeft then some 1 else if x == kwRight then some 2 else if x == kwNone then some 3 else none
def levelsM (e : Nat) : Nat → List Tok → PR (List GL)
  | 0, _ => .error (e + 1)
  | f + 1, l => match assocOf (peekT e l).text with
    | none => .ok ([], l)
    | some a => match levelM e a l with
      | .error k => .error k
      | .ok (x, l1) => consM x (levelsM e f l1)

theorem namesM_len (e : Nat) : ∀ (l : List Tok), (namesM e l).2.length ≤ l.length
  | [] => by simp [namesM]
  | t :: r => by
    simp only [namesM]
    split
    · have := namesM_len e r
      simp; omega
    · simp

theorem levelM_len {e : Nat} {a : Int} {t : Tok} {l l' : List Tok} {x : GL} (h : levelM e a (t :: l) = .ok (x, l')) : l'.length < l.length := by
  by_cases hn : isNameT (peekT e l) = true
  · obtain ⟨t1, r, rfl, _⟩ := isNameT_cons hn
    simp only [levelM, List.tail_cons, hn, if_true] at h
    split at h
    · cases h
    · rename_i r' hr
      obtain ⟨t2, e2, _⟩ := expM_ok hr
      injection h with h
      injection h with q1 q2
      subst q2
      have := namesM_len e r
      rw [e2] at this
      simp at *; omega
  · have hn' : isNameT (peekT e l) = false := by simpa using hn
    simp only [levelM, List.tail_cons, hn', Bool.false_eq_true, if_false] at h
    cases h

theorem levelsM_len (e : Nat) : ∀ (f : Nat) (l l' : List Tok) (x : List GL), levelsM e f l = .ok (x, l') → l'.length ≤ l.length
  | 0, l, l', x, h => by simp [levelsM] at h
  | f + 1, l, l', x, h => by
    simp only [levelsM] at h
    split at h
    · injection h with h
      injection h with h1 h2
      subst h2; omega
    · rename_i a ha
      cases l with
      | nil => simp [assocOf, kwLeft, kwRight, kwNone] at ha
      | cons t r =>
        split at h
        · cases h
        · rename_i y l1 hy
          obtain ⟨xs, h1, _⟩ := consM_ok h
          have := levelM_len hy
          have := levelsM_len e f _ _ _ h1
          simp; omega

structure LsSt where
  v : AV
  H : AHeap
  l : List Tok
  done : List GL
  g : Nat

def lsI (H : AHeap) (bp e f : Nat) (l : List Tok) (x : LsSt) : Prop :=
  Grows (H.set bp (.box (rdr x.l e))) 64 2 (x.done.map GL.av) x.v x.H ∧ x.done.length + x.l.length ≤ l.length ∧ x.l.length < x.g ∧ levelsM e f l = prepM x.done (levelsM e x.g x.l)
def lsE (bp : Nat) (x : LsSt) : Env := [(0, .ptr bp 0 []), (3, x.v)]

theorem gp_levels {bp e f : Nat} {l : List Tok} {H : AHeap} {post : ARes → AHeap → Prop} (hb : H bp = some (.box (rdr l e))) (hl : l.length ≤ 1000000) (hf : l.length < f)
    (hp : PRpost bp e H (fun x => .list 2 (x.map GL.av)) post (levelsM e f l)) : ACalls PP grammarparser_reader_levels_id [.ptr bp 0 []] H post := by
  refine grammarparser_reader_levels_enter rfl ?_
  simp [grammarparser_reader_levels_rs]
  refine aw_loopK (lsI H bp e f l) (lsE bp) (fun x => x.H) (fun x => x.l.length) ⟨.nils, H, l, [], f⟩ ⟨by rw [set_self hb]; exact Grows.nil _ _ _, by simp, hf, (prepM_nil _).symm⟩ rfl rfl ?_
  rintro ⟨v, Hs, l', done, g⟩ ⟨hg, hnn, hgf, he⟩
  simp only at hg hnn hgf he
  obtain ⟨g, rfl⟩ : ∃ g', g = g' + 1 := ⟨g - 1, by omega⟩
  have hbs := hg.get (AHeap.set_same _ _ _)
  simp only [lsE]
  have lv : ∀ (a : Int) (K : AV → AHeap → Prop) (Kp : Value → AHeap → Prop), assocOf (peekT e l').text = some a →
      (∀ x l1, x.av.size = 2 → l1.length < l'.length → lsI H bp e f l ⟨v, Hs.set bp (.box (rdr l1 e)), l1, done, g⟩ ∨ True →
        Grows (H.set bp (.box (rdr l1 e))) 64 2 (done.map GL.av) v (Hs.set bp (.box (rdr l1 e))) → levelsM e f l = prepM (done ++ [x]) (levelsM e g l1) → K x.av (Hs.set bp (.box (rdr l1 e)))) →
      (∀ k l1, HLe (H.set bp (.box (rdr l1 e))) (Hs.set bp (.box (rdr l1 e))) → post (.pan (synErr k)) (H.set bp (.box (rdr l1 e))) → Kp (synErr k) (Hs.set bp (.box (rdr l1 e)))) →
      ACalls PP grammarparser_reader_level_id [.ptr bp 0 [], i64 a] Hs (callK K Kp) := by
    intro a K Kp ha hK hKp
    simp only [levelsM, ha] at he
    cases l' with
    | nil => simp [assocOf, kwLeft, kwRight, kwNone] at ha
    | cons t r =>
      refine gp_level a hbs (by simp at hnn; omega) ?_
      have hset : ∀ l1, Grows (H.set bp (.box (rdr l1 e))) 64 2 (done.map GL.av) v (Hs.set bp (.box (rdr l1 e))) := by
        intro l1
        have := hg.set (o := .box (rdr l1 e)) (AHeap.set_same _ _ _)
        rwa [AHeap.set_set] at this
      cases hlv : levelM e a (t :: r) with
      | error k =>
        rw [hlv] at he
        simp only [prepM] at he
        rw [he] at hp
        intro l1
        exact hKp k l1 (hset l1).HLe (hp l1)
      | ok p =>
        obtain ⟨x, l1⟩ := p
        rw [hlv] at he
        simp only [prepM_cons] at he
        have := levelM_len hlv
        exact hK x l1 rfl (by simp; omega) (.inr trivial) (hset l1) he
  cases h1 : (peekT e l').text == kwLeft
  · cases h2 : (peekT e l').text == kwRight
    · cases h3 : (peekT e l').text == kwNone
      · have hno : assocOf (peekT e l').text = none := by simp [assocOf, h1, h2, h3]
        simp only [levelsM, hno, prepM, List.append_nil] at he
        rw [he] at hp
        simp only [PRpost] at hp
        simp
        refine (gp_peek hbs).use ?_
        simp [kwLeft, kwRight, kwNone] at h1 h2 h3
        simp [Tok.av, h1, h2, h3, hg.size]
        exact ⟨_, hg.sub, _, hg.HLe, hp⟩
      · have ha : assocOf (peekT e l').text = some 3 := by simp [assocOf, h1, h2, h3]
        simp
        refine (gp_peek hbs).use ?_
        simp [kwLeft, kwRight, kwNone] at h1 h2 h3
        simp [Tok.av, h1, h2, h3, hg.size]
        refine lv 3 _ _ ha (fun x l1 _ hlt _ hg1 he1 => ?_) fun k l1 hle hpk => ?_
        · simp
          refine hg1.app (by simp; omega) fun v' H' hg' => ?_
          simp
          exact loopK_same ⟨v', H', l1, done ++ [x], g⟩ ⟨by simpa using hg', by simp; omega, by simp only; omega, he1⟩ hlt rfl rfl
        · simp
          exact ⟨_, hle, hpk⟩
    · have ha : assocOf (peekT e l').text = some 2 := by simp [assocOf, h1, h2]
      simp
      refine (gp_peek hbs).use ?_
      simp [kwLeft, kwRight] at h1 h2
      simp [Tok.av, h1, h2, hg.size]
      refine lv 2 _ _ ha (fun x l1 _ hlt _ hg1 he1 => ?_) fun k l1 hle hpk => ?_
      · simp
        refine hg1.app (by simp; omega) fun v' H' hg' => ?_
        simp
        exact loopK_same ⟨v', H', l1, done ++ [x], g⟩ ⟨by simpa using hg', by simp; omega, by simp only; omega, he1⟩ hlt rfl rfl
      · simp
        exact ⟨_, hle, hpk⟩
  · have ha : assocOf (peekT e l').text = some 1 := by simp [assocOf, h1]
    simp
    refine (gp_peek hbs).use ?_
    simp [kwLeft] at h1
    simp [Tok.av, h1, hg.size]
    refine lv 1 _ _ ha (fun x l1 _ hlt _ hg1 he1 => ?_) fun k l1 hle hpk => ?_
    · simp
      refine hg1.app (by simp; omega) fun v' H' hg' => ?_
      simp
      exact loopK_same ⟨v', H', l1, done ++ [x], g⟩ ⟨by simpa using hg', by simp; omega, by simp only; omega, he1⟩ hlt rfl rfl
    · simp
      exact ⟨_, hle, hpk⟩
end Go.Av
