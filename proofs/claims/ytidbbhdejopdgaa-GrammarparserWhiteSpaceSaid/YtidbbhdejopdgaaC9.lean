/- Part of the proof: C9. No condition. -/
import Derived.Test.YtidbbhdejopdgaaC8
set_option linter.unusedVariables false
set_option linter.unusedSimpArgs false
namespace Go.Av

theorem gp_expM {bp e : Nat} {l : List Tok} {H : AHeap} {post : ARes → AHeap → Prop} (x : List UInt8) (hx : x ≠ []) (hb : H bp = some (.box (rdr l e)))
    (hp : match expM e x l with | .ok r => post (.ret (.tuple [])) (H.set bp (.box (rdr r e))) | .error k => post (.pan (synErr k)) H) : ACalls PP grammarparser_reader_expect_id [.ptr bp 0 [], .str x] H post := by
  refine gp_expect x hx hb (fun t r hl ht => ?_) fun hn => ?_
  · subst hl
    simpa [expM, ht] using hp
  · cases l with
    | nil => simpa [expM] using hp
    | cons t r =>
      simp at hn
      simpa [expM, hn] using hp

theorem Grows.lit {H0 : AHeap} {e : TypeId} {sz b : Nat} {x : AV} (hb : H0 b = none) : Grows H0 e sz [x] (.own sz [x] b) (H0.set b (.row 1 sz e)) := .inr ⟨b, hb, rfl, rfl⟩

def PrimInv (H : AHeap) (bp b2 e f : Nat) (l1 : List Tok) (x0 : GE) (n : Nat) (x : SeqSt) : Prop :=
  Grows (Bs H bp b2 e zGE x.l) 47 3 ((x0 :: x.done).map GE.av) x.v x.H ∧ x.done.length + x.l.length ≤ n ∧ 3 * x.l.length + 1 ≤ x.g ∧ x.g ≤ f ∧ altsM e f l1 = prepM x.done (altsM e x.g x.l)
def PrimE (bp b2 : Nat) (x : SeqSt) : Env := [(0, .ptr bp 0 []), (2, .ptr b2 0 []), (3, x.v)]

theorem prim_call {e f : Nat} (ih : ∀ g, g < f → ReadS e g) {bp : Nat} {l : List Tok} {H : AHeap} {post : ARes → AHeap → Prop} (hb : H bp = some (.box (rdr l e))) (hl : l.length ≤ 1000000) (hf : 3 * l.length + 1 ≤ f)
    (hp : PRpost bp e H GE.av post (primM e f l)) : ACalls PP grammarparser_reader_primary_id [.ptr bp 0 []] H post := by
  obtain ⟨f, rfl⟩ : ∃ f', f = f' + 1 := ⟨f - 1, by omega⟩
  refine grammarparser_reader_primary_enter rfl ?_
  simp [grammarparser_reader_primary_rs, allocQ]
  intro b2 hb2
  have ne := ne_of_some_none hb hb2
  rw [show H.set b2 (.box (.struct [.int .i64 0, .str [], .nils])) = Bs H bp b2 e zGE l from Bs_start hb]
  refine (gp_isName (Bs_bp ne)).use ?_
  simp only [primM] at hp
  cases hn : isNameT (peekT e l)
  · rw [hn] at hp
    simp only [Bool.false_eq_true, if_false] at hp
    simp [-grammarparser_reader_primary_c29_eq]
    refine gp_expM _ (by simp) (Bs_bp ne) ?_
    cases h0 : expM e [40] l with
    | error k =>
      rw [h0] at hp
      simp
      refine ⟨_, ?_, hp l⟩
      exact Bs_le ne hb2
    | ok l0 =>
      rw [h0] at hp
      obtain ⟨t0, hl0, _⟩ := expM_ok h0
      subst hl0
      simp only [List.length_cons] at hf hl
      simp only at hp ⊢
      rw [Bs_set ne]
      simp
      refine (ih f (by omega) bp l0 _ _ (Bs_bp ne) (by omega)).1 (by omega) ?_
      cases hi : itemsM e f l0 with
      | error k =>
        rw [hi] at hp
        simp only [mapM', PRpost]
        intro l''
        simp
        rw [Bs_set ne]
        exact ⟨_, Bs_le ne hb2, hp l''⟩
      | ok p =>
        obtain ⟨xs, l1⟩ := p
        rw [hi] at hp
        have hlen := (readM_len e f l0).1 _ _ hi
        simp only [mapM', PRpost] at hp ⊢
        rw [Bs_set ne]
        generalize mkSeq 2 xs = x0 at hp ⊢
        simp
        intro b3 hb3
        refine aw_loopK (PrimInv H bp b2 e f l1 x0 l0.length) (PrimE bp b2) (fun x => x.H) (fun x => x.l.length) ⟨.own 3 [x0.av] b3, (Bs H bp b2 e zGE l1).set b3 (.row 1 3 47), l1, [], f⟩
          ⟨Grows.lit hb3, by simp only [List.length_nil]; simp; omega, by simp only; omega, Nat.le_refl _, (prepM_nil _).symm⟩ rfl rfl ?_
        rintro ⟨v, Hs, l', done, g⟩ ⟨hg, hnn, hgf, hgl, he⟩
        simp only at hg hnn hgf hgl he
        obtain ⟨g, rfl⟩ : ∃ g', g = g' + 1 := ⟨g - 1, by omega⟩
        have hbs := hg.get (Bs_bp ne)
        simp only [PrimE]
        simp
        refine (gp_peek hbs).use ?_
        cases hc : (peekT e l').text == [124]
        · -- the end
          simp only [altsM, hc, Bool.false_eq_true, if_false, prepM, List.append_nil] at he
          rw [he] at hp
          simp only at hp
          simp at hc
          simp [Tok.av, hc, -grammarparser_reader_primary_c26_eq]
          refine gp_expM _ (by simp) hbs ?_
          cases h4 : expM e [41] l' with
          | error k =>
            rw [h4] at hp
            simp
            refine ⟨_, ?_, hp l'⟩
            exact (Bs_le ne hb2).trans hg.HLe
          | ok l3 =>
            rw [h4] at hp
            simp only [PRpost] at hp ⊢
            have hg1 := hg.set (o := .box (rdr l3 e)) (Bs_bp ne)
            rw [Bs_set ne] at hg1
            generalize hHs1 : Hs.set bp (.box (rdr l3 e)) = Hs1 at *
            have hb2s := hg1.get (Bs_b2)
            obtain ⟨s0, hal, hs0⟩ := hg1.asList
            have hle : ∀ y, HLe (H.set bp (.box (rdr l3 e))) (Hs1.set b2 (.box y)) := by
              intro y
              have := hg1.set (o := .box y) Bs_b2
              rw [Bs_set2] at this
              exact (Bs_le ne hb2).trans this.HLe
            simp [hal]
            intro _
            cases done with
            | nil =>
              simp at hs0
              subst hs0
              simp [hb2s, zGE]
              exact ⟨_, .refl _, _, hle _, hp⟩
            | cons y r =>
              simp [hb2s, zGE, hg1.size]
              refine ⟨fun h => by omega, fun _ => ?_⟩
              exact ⟨_, sub_kids hg1.sub, _, hle _, hp⟩
        · cases l' with
          | nil => simp at hc
          | cons t r =>
            simp only [altsM, hc, if_true, List.tail_cons] at he
            simp only [List.length_cons] at hnn hgf
            simp at hc
            simp [Tok.av, hc]
            refine gp_next hbs ?_
            simp
            have hg1 := hg.set (o := .box (rdr r e)) (Bs_bp ne)
            rw [Bs_set ne] at hg1
            refine (ih g (by omega) bp r _ _ (AHeap.set_same _ _ _) (by omega)).1 (by omega) ?_
            cases hi2 : itemsM e g r with
            | error k =>
              rw [hi2] at he
              simp only [prepM] at he
              rw [he] at hp
              intro l''
              simp
              refine ⟨_, ?_, hp l''⟩
              have hg2 := hg.set (o := .box (rdr l'' e)) (Bs_bp ne)
              rw [Bs_set ne] at hg2
              exact (Bs_le ne hb2).trans hg2.HLe
            | ok p =>
              obtain ⟨ys, l2⟩ := p
              rw [hi2] at he
              have hlen2 := (readM_len e g r).1 _ _ hi2
              simp only [mapM', PRpost]
              have hg2 := hg.set (o := .box (rdr l2 e)) (Bs_bp ne)
              rw [Bs_set ne] at hg2
              rw [AHeap.set_set]
              simp
              refine hg2.app (by simp; omega) fun v' H' hg' => ?_
              simp
              refine loopK_same ⟨v', H', l2, done ++ [mkSeq 2 ys], g⟩ ⟨by simpa using hg', by simp; omega, by simp only; omega, by simp only; omega, ?_⟩ (by simp only; omega) rfl rfl
              rw [he]
              simp only [prepM_cons]
  · rw [hn] at hp
    obtain ⟨t, r, rfl, ht⟩ := isNameT_cons hn
    simp
    refine gp_name (Bs_bp ne) (fun t' r' he _ => ?_) fun h => ?_
    · injection he with e1 e2
      subst e1 e2
      rw [Bs_set ne]
      simp [Bs_b2, zGE]
      simp only [if_true, List.tail_cons, peekT_cons, PRpost] at hp
      refine ⟨_, ?_, _, ?_, hp⟩
      · rw [GE.av_mk]
        refine .struct rfl (fun j x y hx hy => ?_) (fun x hx => ?_)
        · match j with
          | 0 => simp at hx hy; subst hx hy; exact .refl _
          | 1 => simp at hx hy; subst hx hy; exact .refl _
          | 2 => simp at hx hy; subst hx hy; exact .nils _
          | j + 3 => simp at hx
        · simp at hx
          rcases hx with rfl | rfl | rfl <;> simp
      · rw [Bs_set2]
        exact Bs_le ne hb2
    · rw [hn] at h; cases h

theorem readS (e : Nat) : ∀ f, ReadS e f := by
  intro f
  induction f using Nat.strongRecOn with
  | ind f ih =>
    intro bp l H post hb hl
    exact ⟨fun h hp => seq_call ih hb hl h hp, fun h hp => item_call ih hb hl h hp, fun h hp => prim_call ih hb hl h hp⟩
end Go.Av
