/- Part of the proof: C7. No condition. -/
import Derived.Test.YtidbbhdejopdgaaC6
set_option linter.unusedVariables false
set_option linter.unusedSimpArgs false
namespace Go.Av

theorem Grows.get {H0 H : AHeap} {e : TypeId} {sz : Nat} {l : List AV} {v : AV} {b : Nat} {o : AObj} (h : Grows H0 e sz l v H) (hb : H0 b = some o) : H b = some o := by
  rcases h with ⟨rfl, rfl, rfl⟩ | ⟨b', hb0, rfl, rfl⟩
  · exact hb
  · rw [AHeap.set_ne _ _ (ne_of_some_none hb hb0)]; exact hb

theorem Grows.set {H0 H : AHeap} {e : TypeId} {sz : Nat} {l : List AV} {v : AV} {b : Nat} {o o' : AObj} (h : Grows H0 e sz l v H) (hb : H0 b = some o') : Grows (H0.set b o) e sz l v (H.set b o) := by
  rcases h with ⟨rfl, rfl, rfl⟩ | ⟨b', hb0, rfl, rfl⟩
  · exact .inl ⟨rfl, rfl, rfl⟩
  · have := ne_of_some_none hb hb0
    exact .inr ⟨b', by rw [AHeap.set_ne _ _ (Ne.symm this)]; exact hb0, rfl, set_comm_heap (Ne.symm this)⟩

theorem Grows.size {H0 H : AHeap} {e : TypeId} {sz : Nat} {l : List AV} {v : AV} (h : Grows H0 e sz l v H) : v.size = 1 ∧ v.sto = true ∧ v.isAgg = false := by
  rcases h with ⟨rfl, _⟩ | ⟨b', _, rfl, _⟩
  · exact ⟨rfl, rfl, rfl⟩
  · exact ⟨rfl, rfl, rfl⟩

theorem set_self {H : AHeap} {b : Nat} {o : AObj} (h : H b = some o) : H.set b o = H := by
  funext x
  simp only [AHeap.set]
  split
  · rename_i e; rw [e, h]
  · rfl

/-- What a reading function's caller must show. -/
def PRpost {α : Type} (bp e : Nat) (H : AHeap) (av : α → AV) (post : ARes → AHeap → Prop) : PR α → Prop
  | .ok (a, l) => post (.ret (av a)) (H.set bp (.box (rdr l e)))
  | .error k => ∀ l, post (.pan (synErr k)) (H.set bp (.box (rdr l e)))

/-- The heap H, where the reader's state is l, and a variable of one's own. -/
def Bs (H : AHeap) (bp b2 e : Nat) (z : AV) (l : List Tok) : AHeap := (H.set bp (.box (rdr l e))).set b2 (.box z)
section
variable {H : AHeap} {bp b2 e : Nat} {z z' : AV} {l l' : List Tok}
theorem Bs_bp (h : bp ≠ b2) : Bs H bp b2 e z l bp = some (.box (rdr l e)) := by simp [Bs, AHeap.set_ne, h]
theorem Bs_b2 : Bs H bp b2 e z l b2 = some (.box z) := by simp [Bs]
theorem Bs_set (h : bp ≠ b2) : (Bs H bp b2 e z l).set bp (.box (rdr l' e)) = Bs H bp b2 e z l' := by
  unfold Bs
  rw [set_comm_heap (Ne.symm h), AHeap.set_set]
theorem Bs_set2 : (Bs H bp b2 e z l).set b2 (.box z') = Bs H bp b2 e z' l := by
  unfold Bs
  rw [AHeap.set_set]
theorem Bs_le (h : bp ≠ b2) (hn : H b2 = none) : HLe (H.set bp (.box (rdr l e))) (Bs H bp b2 e z l) := .set (by rw [AHeap.set_ne _ _ (Ne.symm h)]; exact hn)
theorem Bs_start (h : H bp = some (.box (rdr l e))) : H.set b2 (.box z) = Bs H bp b2 e z l := by
  unfold Bs
  rw [set_self h]
end

def prepM {α : Type} (ys : List α) : PR (List α) → PR (List α)
  | .ok (xs, l) => .ok (ys ++ xs, l)
  | .error k => .error k
theorem prepM_cons {α : Type} (ys : List α) (x : α) (r : PR (List α)) : prepM ys (consM x r) = prepM (ys ++ [x]) r := by
  cases r with
  | error k => rfl
  | ok p => simp [prepM, consM]
theorem prepM_nil {α : Type} (r : PR (List α)) : prepM [] r = r := by
  cases r with
  | error k => rfl
  | ok p => rfl

def ReadS (e f : Nat) : Prop := ∀ (bp : Nat) (l : List Tok) (H : AHeap) (post : ARes → AHeap → Prop), H bp = some (.box (rdr l e)) → l.length ≤ 1000000 →
  (3 * l.length + 3 ≤ f → PRpost bp e H GE.av post (mapM' (mkSeq 2) (itemsM e f l)) → ACalls PP grammarparser_reader_sequence_id [.ptr bp 0 []] H post) ∧
  (3 * l.length + 2 ≤ f → PRpost bp e H GE.av post (itemM e f l) → ACalls PP grammarparser_reader_item_id [.ptr bp 0 []] H post) ∧
  (3 * l.length + 1 ≤ f → PRpost bp e H GE.av post (primM e f l) → ACalls PP grammarparser_reader_primary_id [.ptr bp 0 []] H post)

structure SeqSt where
  v : AV
  H : AHeap
  l : List Tok
  done : List GE
  g : Nat

def zGE : AV := .struct [.int .i64 0, .str [], .nils]

theorem sub_kids {k : Int} {n : List UInt8} {v : AV} {l : List GE} (h : Sub v (.list 3 (l.map GE.av))) : Sub (.struct [i64 k, .str n, v]) (GE.mk k n l).av := by
  rw [GE.av_mk]
  refine .struct rfl (fun j x y hx hy => ?_) (fun x hx => ?_)
  · match j with
    | 0 => simp at hx hy; subst hx hy; exact .refl _
    | 1 => simp at hx hy; subst hx hy; exact .refl _
    | 2 => simp at hx hy; subst hx hy; exact h
    | j + 3 => simp at hx
  · simp at hx
    rcases hx with rfl | rfl | rfl <;> simp

theorem seq_call {e f : Nat} (ih : ∀ g, g < f → ReadS e g) {bp : Nat} {l : List Tok} {H : AHeap} {post : ARes → AHeap → Prop} (hb : H bp = some (.box (rdr l e))) (hl : l.length ≤ 1000000) (hf : 3 * l.length + 3 ≤ f)
    (hp : PRpost bp e H GE.av post (mapM' (mkSeq 2) (itemsM e f l))) : ACalls PP grammarparser_reader_sequence_id [.ptr bp 0 []] H post := by
  refine grammarparser_reader_sequence_enter rfl ?_
  simp [grammarparser_reader_sequence_rs, allocQ]
  intro b2 hb2
  have ne := ne_of_some_none hb hb2
  rw [Bs_start hb]
  refine aw_loopK (fun x : SeqSt => Grows (Bs H bp b2 e zGE x.l) 47 3 (x.done.map GE.av) x.v x.H ∧ x.done.length + x.l.length ≤ l.length ∧ 3 * x.l.length + 3 ≤ x.g ∧ x.g ≤ f ∧ itemsM e f l = prepM x.done (itemsM e x.g x.l))
    (fun x => [(0, .ptr bp 0 []), (2, .ptr b2 0 []), (3, x.v)]) (fun x => x.H) (fun x => x.l.length) ⟨.nils, Bs H bp b2 e zGE l, l, [], f⟩ ⟨Grows.nil _ _ _, by simp, hf, Nat.le_refl _, (prepM_nil _).symm⟩ rfl rfl ?_
  rintro ⟨v, Hs, l', done, g⟩ ⟨hg, hn, hgf, hgl, he⟩
  simp only at hg hn hgf hgl he
  obtain ⟨g, rfl⟩ : ∃ g', g = g' + 1 := ⟨g - 1, by omega⟩
  have hbs := hg.get (Bs_bp ne)
  simp
  refine (gp_isName hbs).use ?_
  -- the round of one item
  have round : (isNameT (peekT e l') || (peekT e l').text == [40]) = true → ∀ env, env = [(0, .ptr bp 0 []), (2, .ptr b2 0 []), (3, v), (11, .bool true)] →
      aw PP grammarparser_reader_sequence_c6 (loopK (fun x : SeqSt => Grows (Bs H bp b2 e zGE x.l) 47 3 (x.done.map GE.av) x.v x.H ∧ x.done.length + x.l.length ≤ l.length ∧ 3 * x.l.length + 3 ≤ x.g ∧ x.g ≤ f ∧ itemsM e f l = prepM x.done (itemsM e x.g x.l))
        (fun x => [(0, .ptr bp 0 []), (2, .ptr b2 0 []), (3, x.v)]) (fun x => x.H) (fun x => x.l.length) l'.length (blockK 0 (seqK PP grammarparser_reader_sequence_c17 (retK [.cell 2 true 3] post)))) env Hs := by
    intro hc env henv
    subst henv
    simp
    simp only [itemsM, hc, if_true] at he
    refine ((ih g (by omega) bp l' Hs _ hbs (by omega)).2.1 (by omega)) ?_
    cases hi : itemM e g l' with
    | error k =>
      rw [hi] at he
      intro l''
      simp
      rw [he] at hp
      refine ⟨H.set bp (.box (rdr l'' e)), ?_, hp l''⟩
      refine (Bs_le (z := zGE) ne hb2).trans ?_
      rw [← Bs_set (l := l') ne]
      exact (hg.set (Bs_bp ne)).HLe
    | ok p =>
      obtain ⟨x, l1⟩ := p
      rw [hi] at he
      have hlen := (readM_len e g l').2.1 _ _ hi
      simp only [PRpost]
      have hg1 := hg.set (o := .box (rdr l1 e)) (Bs_bp ne)
      rw [Bs_set ne] at hg1
      simp
      refine hg1.app (by simp; omega) fun v' H' hg' => ?_
      simp
      refine loopK_same ⟨v', H', l1, done ++ [x], g⟩ ⟨by simpa using hg', by simp; omega, by simp only; omega, by simp only; omega, ?_⟩ hlen rfl rfl
      rw [he, prepM_cons]
  have stop : (isNameT (peekT e l') || (peekT e l').text == [40]) = false → ∀ env, env = [(0, .ptr bp 0 []), (2, .ptr b2 0 []), (3, v), (11, .bool false)] →
      aw PP grammarparser_reader_sequence_c17 (retK [.cell 2 true 3] post) env Hs := by
    intro hc env henv
    subst henv
    simp only [itemsM, hc, Bool.false_eq_true, if_false, prepM, List.append_nil] at he
    rw [he] at hp
    simp only [mapM', PRpost] at hp
    have hb2s := hg.get (Bs_b2)
    obtain ⟨s0, hal, hs0⟩ := hg.asList
    have hle : ∀ y, HLe (H.set bp (.box (rdr l' e))) (Hs.set b2 (.box y)) := by
      intro y
      have := hg.set (o := .box y) Bs_b2
      rw [Bs_set2] at this
      exact (Bs_le ne hb2).trans this.HLe
    simp [hal, zGE]
    intro _
    have hlm : ((done.map GE.av).length : Int) = done.length := by simp
    match done, hal, hp, hs0 with
    | [x], hal, hp, hs0 =>
      simp at hs0
      subst hs0
      simp [hal, hb2s, zGE]
      exact ⟨_, .refl _, _, hle _, hp⟩
    | [], hal, hp, hs0 =>
      simp [hal, hb2s, zGE, hg.size]
      exact ⟨_, sub_kids hg.sub, _, hle _, hp⟩
    | x :: y :: r, hal, hp, hs0 =>
      have : ((r.length : Int) + 1 + 1 == 1) = false := by rw [beq_eq_false_iff_ne]; omega
      simp only [List.map_cons] at hal
      simp [hal, hb2s, zGE, hg.size]
      refine ⟨fun h => by omega, fun _ => ?_⟩
      exact ⟨_, sub_kids hg.sub, _, hle _, hp⟩
  cases hc1 : isNameT (peekT e l')
  · simp
    refine (gp_peek hbs).use ?_
    cases hc2 : (peekT e l').text == [40]
    · have := stop (by simp [hc1, hc2]) _ rfl
      simp at hc2
      simp [Tok.av, hc2, -grammarparser_reader_sequence_c17_eq]
      exact this
    · have := round (by simp [hc1, hc2]) _ rfl
      simp at hc2
      simp [Tok.av, hc2, -grammarparser_reader_sequence_c6_eq]
      exact this
  · have := round (by simp [hc1]) _ rfl
    simp [-grammarparser_reader_sequence_c6_eq]
    exact this
end Go.Av
