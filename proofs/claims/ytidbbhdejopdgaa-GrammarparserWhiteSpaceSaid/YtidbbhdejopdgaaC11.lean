/- Part of the proof: C11. No condition. -/
import Derived.Test.YtidbbhdejopdgaaC10
set_option linter.unusedVariables false
set_option linter.unusedSimpArgs false
namespace Go.Av
structure GA where
  body : GE
  price : Int
  deriving Inhabited
def GA.av (x : GA) : AV := .struct [x.body.av, i64 x.price]
@[simp] theorem GA.av_size (x : GA) : x.av.size = 4 := by simp [GA.av]
@[simp] theorem GA.av_agg (x : GA) : x.av.isAgg = true := rfl
@[simp] theorem GA.av_sto (x : GA) : x.av.sto = true := rfl
@[simp] theorem GL.av_size (x : GL) : x.av.size = 2 := rfl
@[simp] theorem GL.av_agg (x : GL) : x.av.isAgg = true := rfl
@[simp] theorem GL.av_sto (x : GL) : x.av.sto = true := rfl

def altM (e f : Nat) (l : List Tok) : PR GA := match itemsM e f l with
  | .error k => .error k
  | .ok (xs, l1) => if (peekT e l1).text == kwPrice then
      if (peekT e l1.tail).num < 0 then .error (peekT e l1.tail).at_ else .ok (⟨mkSeq 2 xs, (peekT e l1.tail).num⟩, l1.tail.tail)
    else .ok (⟨mkSeq 2 xs, 0⟩, l1)

theorem altM_len {e f : Nat} {l l' : List Tok} {x : GA} (h : altM e f l = .ok (x, l')) : l'.length ≤ l.length := by
  unfold altM at h
  split at h
  · cases h
  · rename_i xs l1 hi
    have := (readM_len e f l).1 _ _ hi
    split at h
    · split at h
      · cases h
      · injection h with h
        injection h with h1 h2
        subst h2
        simp; omega
    · injection h with h
      injection h with h1 h2
      subst h2; exact this

theorem gp_alternative {bp e f : Nat} {l : List Tok} {H : AHeap} {post : ARes → AHeap → Prop} (hb : H bp = some (.box (rdr l e))) (hl : l.length ≤ 1000000) (hf : 3 * l.length + 3 ≤ f)
    (hp : PRpost bp e H GA.av post (altM e f l)) : ACalls PP grammarparser_reader_alternative_id [.ptr bp 0 []] H post := by
  refine grammarparser_reader_alternative_enter rfl ?_
  simp [grammarparser_reader_alternative_rs, allocQ]
  intro b2 hb2
  have ne := ne_of_some_none hb hb2
  generalize hz : AV.struct [AV.struct [AV.int IntKind.i64 0, AV.str [], AV.nils], AV.int IntKind.i64 0] = z
  have hzs : z.size = 4 := by rw [← hz]; rfl
  rw [show H.set b2 (.box z) = Bs H bp b2 e z l from Bs_start hb]
  refine (readS e f bp l _ _ (Bs_bp ne) hl).1 hf ?_
  unfold altM at hp
  cases hi : itemsM e f l with
  | error k =>
    rw [hi] at hp
    simp only [mapM', PRpost]
    intro l''
    simp
    rw [Bs_set ne]
    exact ⟨_, Bs_le ne hb2, hp l''⟩
  | ok p =>
    obtain ⟨xs, l1⟩ := p
    rw [hi] at hp
    have hlen := (readM_len e f l).1 _ _ hi
    simp only [mapM', PRpost] at hp ⊢
    rw [Bs_set ne]
    generalize mkSeq 2 xs = x0 at hp ⊢
    simp [allocQ]
    intro b3 hb3
    obtain ⟨n1, n2, n3⟩ := Bs_none hb3 ne
    have hx : ∀ (y : AV) (l : List Tok), (Bs H bp b2 e z l).set b3 (.box y) = B3 H bp b2 b3 e z y l := fun _ _ => rfl
    rw [hx]
    refine ⟨hzs, ?_⟩
    refine (gp_peek (B3_bp ne n1.symm)).use ?_
    have fin : ∀ (n : Int) (l' : List Tok) (env : Env), (env = [(2, .ptr b2 0 []), (3, .ptr b3 0 [])] ∨ ∃ c, env = [(0, .ptr bp 0 []), (2, .ptr b2 0 []), (3, .ptr b3 0 []), (10, .bool c)]) → PRpost bp e H GA.av post (.ok (⟨x0, n⟩, l')) →
        aw PP grammarparser_reader_alternative_c14 (retK [.cell 2 true 4] post) env (B3 H bp b2 b3 e z (.struct [x0.av, i64 n]) l') := by
      intro n l' env he hpp
      rcases he with rfl | ⟨c, rfl⟩ <;>
      · simp [B3_b5, B3_b4 n2.symm, hzs]
        refine ⟨_, .refl _, _, ?_, hpp⟩
        rw [B3_set4 n2.symm]
        exact B3_le ne hb2 n1 n2 n3
    cases hc : (peekT e l1).text == [112, 114, 105, 99, 101]
    · have hc' : ((peekT e l1).text == kwPrice) = false := hc
      simp only [hc', Bool.false_eq_true, if_false] at hp
      simp at hc
      simp [Tok.av, hc, -grammarparser_reader_alternative_c14_eq]
      exact fin 0 l1 _ (.inr ⟨_, rfl⟩) hp
    · have hc' : ((peekT e l1).text == kwPrice) = true := hc
      cases l1 with
      | nil => simp at hc
      | cons t r =>
        simp only [hc', if_true, List.tail_cons] at hp
        simp at hc
        simp [Tok.av, hc, -grammarparser_reader_alternative_c14_eq]
        refine gp_next (B3_bp ne n1.symm) ?_
        rw [B3_set ne n1.symm]
        simp [-grammarparser_reader_alternative_c14_eq]
        refine (gp_peek (B3_bp ne n1.symm)).use ?_
        by_cases hneg : (peekT e r).num < 0
        · simp only [hneg, if_true] at hp
          simp [Tok.av, hneg, -grammarparser_reader_alternative_c14_eq]
          refine ⟨?_, fun h => by omega⟩
          refine gp_fail (B3_bp ne n1.symm) ?_
          simp
          exact ⟨_, B3_le ne hb2 n1 n2 n3, hp r⟩
        · simp only [hneg, if_false] at hp
          cases r with
          | nil => simp at hneg
          | cons t2 r2 =>
            simp at hneg hp
            simp [Tok.av, hneg, -grammarparser_reader_alternative_c14_eq]
            refine ⟨fun h => by omega, ?_⟩
            refine gp_next (B3_bp ne n1.symm) ?_
            rw [B3_set ne n1.symm]
            simp [Tok.av, B3_b5, -grammarparser_reader_alternative_c14_eq]
            rw [B3_set5]
            exact fin _ r2 _ (.inl rfl) hp
end Go.Av
