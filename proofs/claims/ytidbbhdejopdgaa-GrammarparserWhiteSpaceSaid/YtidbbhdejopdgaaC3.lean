/- Part of the proof: C3. No condition. -/
import Derived.Test.YtidbbhdejopdgaaC2
import Derived.Test.YtidbbhdejopdgaaFns19
set_option linter.unusedVariables false
set_option linter.unusedSimpArgs false
namespace Go.Av

theorem Grows.add {H0 H : AHeap} {e : TypeId} {sz : Nat} {l : List AV} {v : AV} {b : Nat} {o : AObj} (h : Grows H0 e sz l v H) (hb : H b = none) : Grows (H0.set b o) e sz l v (H.set b o) := by
  rcases h with ⟨rfl, rfl, rfl⟩ | ⟨b', hb0, rfl, rfl⟩
  · exact .inl ⟨rfl, rfl, rfl⟩
  · have : b ≠ b' := by rintro rfl; rw [AHeap.set_same] at hb; cases hb
    exact .inr ⟨b', by rw [AHeap.set_ne _ _ (Ne.symm this)]; exact hb0, rfl, set_comm_heap (Ne.symm this)⟩

theorem Grows.base {H0 H : AHeap} {e : TypeId} {sz : Nat} {l : List AV} {v : AV} {b : Nat} (h : Grows H0 e sz l v H) (hb : H b = none) : H0 b = none := by
  rcases h with ⟨rfl, rfl, rfl⟩ | ⟨b', hb0, rfl, rfl⟩
  · exact hb
  · by_cases e : b = b'
    · subst e; exact hb0
    · rwa [AHeap.set_ne _ _ e] at hb

theorem Grows.drop {H0 H : AHeap} {e : TypeId} {sz : Nat} {l : List AV} {v : AV} {b : Nat} {o : AObj} (h : Grows (H0.set b o) e sz l v H) (hb : H0 b = none) : ∃ H3, Grows H0 e sz l v H3 ∧ HLe H3 H := by
  rcases h with ⟨rfl, rfl, rfl⟩ | ⟨b', hb0, rfl, rfl⟩
  · exact ⟨H0, .inl ⟨rfl, rfl, rfl⟩, .set hb⟩
  · have : b' ≠ b := by rintro rfl; rw [AHeap.set_same] at hb0; cases hb0
    rw [AHeap.set_ne _ _ this] at hb0
    refine ⟨H0.set b' (.row l.length sz e), .inr ⟨b', hb0, rfl, rfl⟩, ?_⟩
    rw [set_comm_heap (Ne.symm this)]
    exact .set (by rw [AHeap.set_ne _ _ (Ne.symm this)]; exact hb)

theorem Grows.HLe {H0 H : AHeap} {e : TypeId} {sz : Nat} {l : List AV} {v : AV} (h : Grows H0 e sz l v H) : HLe H0 H := by
  rcases h with ⟨rfl, rfl, rfl⟩ | ⟨b', hb0, rfl, rfl⟩
  · exact .refl _
  · exact .set hb0

structure Tok where
  at_ : Nat
  text : List UInt8
  word : Bool
  num : Int
  deriving DecidableEq, Inhabited

def Tok.av (t : Tok) : AV := .struct [i64 t.at_, .str t.text, .bool t.word, i64 t.num]
@[simp] theorem Tok.av_size (t : Tok) : t.av.size = 4 := rfl
@[simp] theorem Tok.av_agg (t : Tok) : t.av.isAgg = true := rfl
@[simp] theorem Tok.av_sto (t : Tok) : t.av.sto = true := rfl

def lexStep (k : Nat) (c : UInt8) (l : List UInt8) : Option Tok × Nat :=
  if isBlank c then (none, 1)
  else if c == 35 then (none, (l.takeWhile (· != 10)).length)
  else if isLetter c then (some ⟨k, l.takeWhile inWord, true, -1⟩, (l.takeWhile inWord).length)
  else if isDigit c then (some ⟨k, l.takeWhile isDigit, false, numVal (l.takeWhile isDigit)⟩, (l.takeWhile isDigit).length)
  else (some ⟨k, [c], false, -1⟩, 1)

def lexL : Nat → Nat → List UInt8 → List Tok
  | 0, _, _ => []
  | _ + 1, _, [] => []
  | f + 1, k, c :: r => (lexStep k c (c :: r)).1.toList ++ lexL f (k + (lexStep k c (c :: r)).2) ((c :: r).drop (lexStep k c (c :: r)).2)

def lex (s : List UInt8) : List Tok := lexL (s.length + 1) 0 s

theorem lexStep_pos (k : Nat) (c : UInt8) (r : List UInt8) : 1 ≤ (lexStep k c (c :: r)).2 := by
  unfold lexStep
  split
  · simp
  · split
    · rename_i h
      have : c = 35 := by simpa using h
      subst this
      simp [List.takeWhile_cons]
    · split
      · rename_i h
        simp [List.takeWhile_cons, inWord, h]
      · split
        · rename_i h
          simp [List.takeWhile_cons, h]
        · simp

theorem lexL_fuel : ∀ (f g k : Nat) (r : List UInt8), r.length < f → r.length < g → lexL f k r = lexL g k r
  | 0, _, _, _, h, _ => by omega
  | _, 0, _, _, _, h => by omega
  | f + 1, g + 1, k, [], h1, h2 => rfl
  | f + 1, g + 1, k, c :: r, h1, h2 => by
    have := lexStep_pos k c r
    simp only [lexL]
    rw [lexL_fuel f g _ _ (by simp at *; omega) (by simp at *; omega)]

theorem take_tw {p : UInt8 → Bool} (l : List UInt8) : l.take (l.takeWhile p).length = l.takeWhile p := by
  have := List.takeWhile_prefix (l := l) p
  exact (List.prefix_iff_eq_take.1 this).symm

theorem tw_len {p : UInt8 → Bool} (l : List UInt8) : (l.takeWhile p).length ≤ l.length := (List.takeWhile_prefix p).length_le

theorem lex_round {s : List UInt8} {x : Nat} (h : x < s.length) : lexL (s.length - x + 1) x (s.drop x) =
    (lexStep x s[x] (s.drop x)).1.toList ++ lexL (s.length - (x + (lexStep x s[x] (s.drop x)).2) + 1) (x + (lexStep x s[x] (s.drop x)).2) (s.drop (x + (lexStep x s[x] (s.drop x)).2)) := by
  have hd : s.drop x = s[x] :: s.drop (x + 1) := List.drop_eq_getElem_cons h
  have hp := lexStep_pos x s[x] (s.drop (x + 1))
  rw [← hd] at hp
  conv => lhs; rw [hd]; simp only [lexL]; rw [← hd]
  rw [List.drop_drop]
  congr 1
  exact lexL_fuel _ _ _ _ (by simp; omega) (by simp)
end Go.Av
