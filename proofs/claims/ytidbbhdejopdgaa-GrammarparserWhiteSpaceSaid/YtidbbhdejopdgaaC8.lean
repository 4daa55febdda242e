/- Part of the proof: C8. No condition. -/
import Derived.Test.YtidbbhdejopdgaaC7
set_option linter.unusedVariables false
set_option linter.unusedSimpArgs false
namespace Go.Av

theorem sub_kid1 (k : Int) (n : List UInt8) (x : GE) : (.struct [i64 k, .str n, .list 3 [x.av]]) = (GE.mk k n [x]).av := by
  rw [GE.av_mk]; rfl

theorem item_call {e f : Nat} (ih : ∀ g, g < f → ReadS e g) {bp : Nat} {l : List Tok} {H : AHeap} {post : ARes → AHeap → Prop} (hb : H bp = some (.box (rdr l e))) (hl : l.length ≤ 1000000) (hf : 3 * l.length + 2 ≤ f)
    (hp : PRpost bp e H GE.av post (itemM e f l)) : ACalls PP grammarparser_reader_item_id [.ptr bp 0 []] H post := by
  obtain ⟨f, rfl⟩ : ∃ f', f = f' + 1 := ⟨f - 1, by omega⟩
  refine grammarparser_reader_item_enter rfl ?_
  simp [grammarparser_reader_item_rs, allocQ]
  intro b2 hb2
  have ne := ne_of_some_none hb hb2
  rw [show H.set b2 (.box (.struct [.int .i64 0, .str [], .nils])) = Bs H bp b2 e zGE l from Bs_start hb]
  refine (ih f (by omega) bp l _ _ (Bs_bp ne) hl).2.2 (by omega) ?_
  simp only [itemM] at hp
  cases hi : primM e f l with
  | error k =>
    rw [hi] at hp
    intro l''
    simp
    rw [Bs_set ne]
    exact ⟨_, Bs_le ne hb2, hp l''⟩
  | ok p =>
    obtain ⟨x0, l1⟩ := p
    rw [hi] at hp
    have hlen := (readM_len e f l).2.2.1 _ _ hi
    simp only [PRpost] at hp ⊢
    rw [Bs_set ne]
    simp [allocQ]
    intro b3 hb3
    have n1 := ne_of_some_none (Bs_bp (z := zGE) (H := H) (l := l1) (e := e) ne) hb3
    have n2 := ne_of_some_none (Bs_b2 (z := zGE) (H := H) (l := l1) (e := e) (bp := bp)) hb3
    have hb3' : H b3 = none := by simpa [Bs, AHeap.set_ne, n1.symm, n2.symm] using hb3
    have hset : ∀ (y : AV) (l' r : List Tok), ((Bs H bp b2 e zGE l').set b3 (.box y)).set bp (.box (rdr r e)) = (Bs H bp b2 e zGE r).set b3 (.box y) := by
      intro y l' r
      rw [set_comm_heap (Ne.symm n1), Bs_set ne]
    refine aw_loopK (fun s : GE × List Tok => sufM s.1 s.2 = sufM x0 l1) (fun s => [(0, .ptr bp 0 []), (2, .ptr b2 0 []), (3, .ptr b3 0 [])]) (fun s => (Bs H bp b2 e zGE s.2).set b3 (.box s.1.av)) (fun s => s.2.length) (x0, l1) rfl rfl rfl ?_
    rintro ⟨x, l'⟩ he
    simp only at he
    simp
    have hbp : ((Bs H bp b2 e zGE l').set b3 (.box x.av)) bp = some (.box (rdr l' e)) := by rw [AHeap.set_ne _ _ n1]; exact Bs_bp ne
    refine (gp_peek hbp).use ?_
    have hb2' : ((Bs H bp b2 e zGE l').set b3 (.box x.av)) b2 = some (.box zGE) := by rw [AHeap.set_ne _ _ n2]; exact Bs_b2
    -- a suffix
    have suf : ∀ (k : Int) (t : Tok) (r : List Tok), l' = t :: r → sufM x l' = sufM (.mk k [] [x]) r → aw PP grammarparser_reader_item_c22 (blockK 1 (loopK (fun s : GE × List Tok => sufM s.1 s.2 = sufM x0 l1) (fun s => [(0, .ptr bp 0 []), (2, .ptr b2 0 []), (3, .ptr b3 0 [])]) (fun s => (Bs H bp b2 e zGE s.2).set b3 (.box s.1.av)) (fun s => s.2.length) l'.length
        (blockK 0 (retK [.cell 2 true 3] post)))) [(0, .ptr bp 0 []), (2, .ptr b2 0 []), (3, .ptr b3 0 []), (4, i64 k)] ((Bs H bp b2 e zGE l').set b3 (.box x.av)) := by
      intro k t r hl' hs
      subst hl'
      simp
      refine gp_next hbp ?_
      rw [hset]
      simp
      refine loopK_same (GE.mk k [] [x], r) (by simp only; rw [← hs]; exact he) (by simp) rfl ?_
      simp only [← sub_kid1]
    cases hk1 : (peekT e l').text == [42]
    · cases hk2 : (peekT e l').text == [43]
      · cases hk3 : (peekT e l').text == [63]
        · have hfin : sufM x l' = (x, l') := by
            cases l' with
            | nil => rfl
            | cons t r => simp at hk1 hk2 hk3; simp [sufM, hk1, hk2, hk3]
          rw [← he, hfin] at hp
          simp at hk1 hk2 hk3
          simp [Tok.av, hk1, hk2, hk3, hb2']
          refine ⟨rfl, ?_⟩
          refine ⟨_, .refl _, _, ?_, hp⟩
          rw [set_comm_heap (Ne.symm n2), Bs_set2]
          exact (Bs_le ne hb2).trans (.set (by simp [Bs, AHeap.set_ne, n1.symm, n2.symm, hb3']))
        · cases l' with
          | nil => simp at hk3
          | cons t r =>
            have := suf 4 t r rfl (by simp at hk1 hk2 hk3; simp [sufM, hk1, hk2, hk3])
            simp at hk1 hk2 hk3
            simp [Tok.av, hk1, hk2, hk3, -grammarparser_reader_item_c22_eq]
            exact this
      · cases l' with
        | nil => simp at hk2
        | cons t r =>
          have := suf 6 t r rfl (by simp at hk1 hk2; simp [sufM, hk1, hk2])
          simp at hk1 hk2
          simp [Tok.av, hk1, hk2, -grammarparser_reader_item_c22_eq]
          exact this
    · cases l' with
      | nil => simp at hk1
      | cons t r =>
        have := suf 5 t r rfl (by simp at hk1; simp [sufM, hk1])
        simp at hk1
        simp [Tok.av, hk1, -grammarparser_reader_item_c22_eq]
        exact this
end Go.Av
