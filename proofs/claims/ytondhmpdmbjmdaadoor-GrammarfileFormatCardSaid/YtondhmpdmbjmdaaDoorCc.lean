/- Part of the proof: Cc. No condition. -/
import Derived.Test.YtondhmpdmbjmdaaDoorCb
set_option linter.unusedVariables false
set_option linter.unusedSimpArgs false
namespace Go.Av

theorem Grows.get {H0 H : AHeap} {e : TypeId} {sz : Nat} {l : List AV} {v : AV} {b : Nat} {o : AObj} (h : Grows H0 e sz l v H) (hb : H0 b = some o) : H b = some o := by
  rcases h with ⟨rfl, rfl, rfl⟩ | ⟨b', hb0, rfl, rfl⟩
  · exact hb
  · rw [AHeap.set_ne _ _ (ne_of_some_none hb hb0)]; exact hb

theorem Grows.set {H0 H : AHeap} {e : TypeId} {sz : Nat} {l : List AV} {v : AV} {b : Nat} {o o' : AObj} (h : Grows H0 e sz l v H) (hb : H0 b = some o') : Grows (H0.set b o) e sz l v (H.set b o) := by
  rcases h with ⟨rfl, rfl, rfl⟩ | ⟨b', hb0, rfl, rfl⟩
  · exact .inl ⟨rfl, rfl, rfl⟩
  · have := ne_of_some_none hb hb0
    exact .inr ⟨b', by rw [AHeap.set_ne _ _ (Ne.symm this)]; exact hb0, rfl, set_comm_heap (Ne.symm this)⟩

theorem Grows.size {H0 H : AHeap} {e : TypeId} {sz : Nat} {l : List AV} {v : AV} (h : Grows H0 e sz l v H) : v.size = 1 ∧ v.sto = true ∧ v.isAgg = false := by
  rcases h with ⟨rfl, _⟩ | ⟨b', _, rfl, _⟩
  · exact ⟨rfl, rfl, rfl⟩
  · exact ⟨rfl, rfl, rfl⟩

theorem set_self {H : AHeap} {b : Nat} {o : AObj} (h : H b = some o) : H.set b o = H := by
  funext x
  simp only [AHeap.set]
  split
  · rename_i e; rw [e, h]
  · rfl

/-- What a reading function's caller must show. -/
def PRpost {α : Type} (bp e : Nat) (H : AHeap) (av : α → AV) (post : ARes → AHeap → Prop) : PR α → Prop
  | .ok (a, l) => post (.ret (av a)) (H.set bp (.box (rdr l e)))
  | .error k => ∀ l, post (.pan (synErr k)) (H.set bp (.box (rdr l e)))

/-- The heap H, where the reader's state is l, and a variable of one's own. -/
def Bs (H : AHeap) (bp b2 e : Nat) (z : AV) (l : List Tok) : AHeap := (H.set bp (.box (rdr l e))).set b2 (.box z)
section
variable {H : AHeap} {bp b2 e : Nat} {z z' : AV} {l l' : List Tok}
theorem Bs_bp (h : bp ≠ b2) : Bs H bp b2 e z l bp = some (.box (rdr l e)) := by simp [Bs, AHeap.set_ne, h]
theorem Bs_b2 : Bs H bp b2 e z l b2 = some (.box z) := by simp [Bs]
theorem Bs_set (h : bp ≠ b2) : (Bs H bp b2 e z l).set bp (.box (rdr l' e)) = Bs H bp b2 e z l' := by
  unfold Bs
  rw [set_comm_heap (Ne.symm h), AHeap.set_set]
theorem Bs_set2 : (Bs H bp b2 e z l).set b2 (.box z') = Bs H bp b2 e z' l := by
  unfold Bs
  rw [AHeap.set_set]
theorem Bs_le (h : bp ≠ b2) (hn : H b2 = none) : HLe (H.set bp (.box (rdr l e))) (Bs H bp b2 e z l) := .set (by rw [AHeap.set_ne _ _ (Ne.symm h)]; exact hn)
theorem Bs_start (h : H bp = some (.box (rdr l e))) : H.set b2 (.box z) = Bs H bp b2 e z l := by
  unfold Bs
  rw [set_self h]
end

def prepM {α : Type} (ys : List α) : PR (List α) → PR (List α)
  | .ok (xs, l) => .ok (ys ++ xs, l)
  | .error k => .error k
theorem prepM_cons {α : Type} (ys : List α) (x : α) (r : PR (List α)) : prepM ys (consM x r) = prepM (ys ++ [x]) r := by
  cases r with
  | error k => rfl
  | ok p => simp [prepM, consM]
theorem prepM_nil {α : Type} (r : PR (List α)) : prepM [] r = r := by
  cases r with
  | error k => rfl
  | ok p => rfl

def ReadS (e f : Nat) : Prop := ∀ (bp : Nat) (l : List Tok) (H : AHeap) (post : ARes → AHeap → Prop), H bp = some (.box (rdr l e)) → l.length ≤ 1000000 →
  (3 * l.length + 3 ≤ f → PRpost bp e H GE.av post (mapM' (mkSeq 2) (itemsM e f l)) → ACalls PP gR_sequence_id [.ptr bp 0 []] H post) ∧
  (3 * l.length + 2 ≤ f → PRpost bp e H GE.av post (itemM e f l) → ACalls PP gR_item_id [.ptr bp 0 []] H post) ∧
  (3 * l.length + 1 ≤ f → PRpost bp e H GE.av post (primM e f l) → ACalls PP gR_primary_id [.ptr bp 0 []] H post)

structure SeqSt where
  v : AV
  H : AHeap
  l : List Tok
  done : List GE
  g : Nat

def zGE : AV := .struct [.int .i64 0, .str [], .nils]

theorem sub_kids {k : Int} {n : List UInt8} {v : AV} {l : List GE} (h : Sub v (.list 3 (l.map GE.av))) : Sub (.struct [i64 k, .str n, v]) (GE.mk k n l).av := by
  rw [GE.av_mk]
  refine .struct rfl (fun j x y hx hy => ?_) (fun x hx => ?_)
  · match j with
    | 0 => simp at hx hy; subst hx hy; exact .refl _
    | 1 => simp at hx hy; subst hx hy; exact .refl _
    | 2 => simp at hx hy; subst hx hy; exact h
    | j + 3 => simp at hx
  · simp at hx
    rcases hx with rfl | rfl | rfl <;> simp

theorem seq_call {e f : Nat} (ih : ∀ g, g < f → ReadS e g) {bp : Nat} {l : List Tok} {H : AHeap} {post : ARes → AHeap → Prop} (hb : H bp = some (.box (rdr l e))) (hl : l.length ≤ 1000000) (hf : 3 * l.length + 3 ≤ f)
    (hp : PRpost bp e H GE.av post (mapM' (mkSeq 2) (itemsM e f l))) : ACalls PP gR_sequence_id [.ptr bp 0 []] H post := by
  refine gR_sequence_enter rfl ?_
  simp [gR_sequence_rs, allocQ]
  intro b2 hb2
  have ne := ne_of_some_none hb hb2
  rw [Bs_start hb]
  refine aw_loopK (fun x : SeqSt => Grows (Bs H bp b2 e zGE x.l) 33 3 (x.done.map GE.av) x.v x.H ∧ x.done.length + x.l.length ≤ l.length ∧ 3 * x.l.length + 3 ≤ x.g ∧ x.g ≤ f ∧ itemsM e f l = prepM x.done (itemsM e x.g x.l))
    (fun x => [(0, .ptr bp 0 []), (2, .ptr b2 0 []), (3, x.v)]) (fun x => x.H) (fun x => x.l.length) ⟨.nils, Bs H bp b2 e zGE l, l, [], f⟩ ⟨Grows.nil _ _ _, by simp, hf, Nat.le_refl _, (prepM_nil _).symm⟩ rfl rfl ?_
  rintro ⟨v, Hs, l', done, g⟩ ⟨hg, hn, hgf, hgl, he⟩
  simp only at hg hn hgf hgl he
  obtain ⟨g, rfl⟩ : ∃ g', g = g' + 1 := ⟨g - 1, by omega⟩
  have hbs := hg.get (Bs_bp ne)
  simp
  refine (gp_isName hbs).use ?_
  -- the round of one item
  have round : (isNameT (peekT e l') || (peekT e l').text == [40]) = true → ∀ env, env = [(0, .ptr bp 0 []), (2, .ptr b2 0 []), (3, v), (11, .bool true)] →
      aw PP gR_sequence_c6 (loopK (fun x : SeqSt => Grows (Bs H bp b2 e zGE x.l) 33 3 (x.done.map GE.av) x.v x.H ∧ x.done.length + x.l.length ≤ l.length ∧ 3 * x.l.length + 3 ≤ x.g ∧ x.g ≤ f ∧ itemsM e f l = prepM x.done (itemsM e x.g x.l))
        (fun x => [(0, .ptr bp 0 []), (2, .ptr b2 0 []), (3, x.v)]) (fun x => x.H) (fun x => x.l.length) l'.length (blockK 0 (seqK PP gR_sequence_c17 (retK [.cell 2 true 3] post)))) env Hs := by
    intro hc env henv
    subst henv
    simp
    simp only [itemsM, hc, if_true] at he
    refine ((ih g (by omega) bp l' Hs _ hbs (by omega)).2.1 (by omega)) ?_
    cases hi : itemM e g l' with
    | error k =>
      rw [hi] at he
      intro l''
      simp
      rw [he] at hp
      refine ⟨H.set bp (.box (rdr l'' e)), ?_, hp l''⟩
      refine (Bs_le (z := zGE) ne hb2).trans ?_
      rw [← Bs_set (l := l') ne]
      exact (hg.set (Bs_bp ne)).HLe
    | ok p =>
      obtain ⟨x, l1⟩ := p
      rw [hi] at he
      have hlen := (readM_len e g l').2.1 _ _ hi
      simp only [PRpost]
      have hg1 := hg.set (o := .box (rdr l1 e)) (Bs_bp ne)
      rw [Bs_set ne] at hg1
      simp
      refine hg1.app (by simp; omega) fun v' H' hg' => ?_
      simp
      refine loopK_same ⟨v', H', l1, done ++ [x], g⟩ ⟨by simpa using hg', by simp; omega, by simp only; omega, by simp only; omega, ?_⟩ hlen rfl rfl
      rw [he, prepM_cons]
  have stop : (isNameT (peekT e l') || (peekT e l').text == [40]) = false → ∀ env, env = [(0, .ptr bp 0 []), (2, .ptr b2 0 []), (3, v), (11, .bool false)] →
      aw PP gR_sequence_c17 (retK [.cell 2 true 3] post) env Hs := by
    intro hc env henv
    subst henv
    simp only [itemsM, hc, Bool.false_eq_true, if_false, prepM, List.append_nil] at he
    rw [he] at hp
    simp only [mapM', PRpost] at hp
    have hb2s := hg.get (Bs_b2)
    obtain ⟨s0, hal, hs0⟩ := hg.asList
    have hle : ∀ y, HLe (H.set bp (.box (rdr l' e))) (Hs.set b2 (.box y)) := by
      intro y
      have := hg.set (o := .box y) Bs_b2
      rw [Bs_set2] at this
      exact (Bs_le ne hb2).trans this.HLe
    simp [hal, zGE]
    intro _
    have hlm : ((done.map GE.av).length : Int) = done.length := by simp
    match done, hal, hp, hs0 with
    | [x], hal, hp, hs0 =>
      simp at hs0
      subst hs0
      simp [hal, hb2s, zGE]
      exact ⟨_, .refl _, _, hle _, hp⟩
    | [], hal, hp, hs0 =>
      simp [hal, hb2s, zGE, hg.size]
      exact ⟨_, sub_kids hg.sub, _, hle _, hp⟩
    | x :: y :: r, hal, hp, hs0 =>
      have : ((r.length : Int) + 1 + 1 == 1) = false := by rw [beq_eq_false_iff_ne]; omega
      simp only [List.map_cons] at hal
      simp [hal, hb2s, zGE, hg.size]
      refine ⟨fun h => by omega, fun _ => ?_⟩
      exact ⟨_, sub_kids hg.sub, _, hle _, hp⟩
  cases hc1 : isNameT (peekT e l')
  · simp
    refine (gp_peek hbs).use ?_
    cases hc2 : (peekT e l').text == [40]
    · have := stop (by simp [hc1, hc2]) _ rfl
      simp at hc2
      simp [Tok.av, hc2, -gR_sequence_c17_eq]
      exact this
    · have := round (by simp [hc1, hc2]) _ rfl
      simp at hc2
      simp [Tok.av, hc2, -gR_sequence_c6_eq]
      exact this
  · have := round (by simp [hc1]) _ rfl
    simp [-gR_sequence_c6_eq]
    exact this
end Go.Av

namespace Go.Av

theorem sub_kid1 (k : Int) (n : List UInt8) (x : GE) : (.struct [i64 k, .str n, .list 3 [x.av]]) = (GE.mk k n [x]).av := by
  rw [GE.av_mk]; rfl

theorem item_call {e f : Nat} (ih : ∀ g, g < f → ReadS e g) {bp : Nat} {l : List Tok} {H : AHeap} {post : ARes → AHeap → Prop} (hb : H bp = some (.box (rdr l e))) (hl : l.length ≤ 1000000) (hf : 3 * l.length + 2 ≤ f)
    (hp : PRpost bp e H GE.av post (itemM e f l)) : ACalls PP gR_item_id [.ptr bp 0 []] H post := by
  obtain ⟨f, rfl⟩ : ∃ f', f = f' + 1 := ⟨f - 1, by omega⟩
  refine gR_item_enter rfl ?_
  simp [gR_item_rs, allocQ]
  intro b2 hb2
  have ne := ne_of_some_none hb hb2
  rw [show H.set b2 (.box (.struct [.int .i64 0, .str [], .nils])) = Bs H bp b2 e zGE l from Bs_start hb]
  refine (ih f (by omega) bp l _ _ (Bs_bp ne) hl).2.2 (by omega) ?_
  simp only [itemM] at hp
  cases hi : primM e f l with
  | error k =>
    rw [hi] at hp
    intro l''
    simp
    rw [Bs_set ne]
    exact ⟨_, Bs_le ne hb2, hp l''⟩
  | ok p =>
    obtain ⟨x0, l1⟩ := p
    rw [hi] at hp
    have hlen := (readM_len e f l).2.2.1 _ _ hi
    simp only [PRpost] at hp ⊢
    rw [Bs_set ne]
    simp [allocQ]
    intro b3 hb3
    have n1 := ne_of_some_none (Bs_bp (z := zGE) (H := H) (l := l1) (e := e) ne) hb3
    have n2 := ne_of_some_none (Bs_b2 (z := zGE) (H := H) (l := l1) (e := e) (bp := bp)) hb3
    have hb3' : H b3 = none := by simpa [Bs, AHeap.set_ne, n1.symm, n2.symm] using hb3
    have hset : ∀ (y : AV) (l' r : List Tok), ((Bs H bp b2 e zGE l').set b3 (.box y)).set bp (.box (rdr r e)) = (Bs H bp b2 e zGE r).set b3 (.box y) := by
      intro y l' r
      rw [set_comm_heap (Ne.symm n1), Bs_set ne]
    refine aw_loopK (fun s : GE × List Tok => sufM s.1 s.2 = sufM x0 l1) (fun s => [(0, .ptr bp 0 []), (2, .ptr b2 0 []), (3, .ptr b3 0 [])]) (fun s => (Bs H bp b2 e zGE s.2).set b3 (.box s.1.av)) (fun s => s.2.length) (x0, l1) rfl rfl rfl ?_
    rintro ⟨x, l'⟩ he
    simp only at he
    simp
    have hbp : ((Bs H bp b2 e zGE l').set b3 (.box x.av)) bp = some (.box (rdr l' e)) := by rw [AHeap.set_ne _ _ n1]; exact Bs_bp ne
    refine (gp_peek hbp).use ?_
    have hb2' : ((Bs H bp b2 e zGE l').set b3 (.box x.av)) b2 = some (.box zGE) := by rw [AHeap.set_ne _ _ n2]; exact Bs_b2
    -- a suffix
    have suf : ∀ (k : Int) (t : Tok) (r : List Tok), l' = t :: r → sufM x l' = sufM (.mk k [] [x]) r → aw PP gR_item_c22 (blockK 1 (loopK (fun s : GE × List Tok => sufM s.1 s.2 = sufM x0 l1) (fun s => [(0, .ptr bp 0 []), (2, .ptr b2 0 []), (3, .ptr b3 0 [])]) (fun s => (Bs H bp b2 e zGE s.2).set b3 (.box s.1.av)) (fun s => s.2.length) l'.length
        (blockK 0 (retK [.cell 2 true 3] post)))) [(0, .ptr bp 0 []), (2, .ptr b2 0 []), (3, .ptr b3 0 []), (4, i64 k)] ((Bs H bp b2 e zGE l').set b3 (.box x.av)) := by
      intro k t r hl' hs
      subst hl'
      simp
      refine gp_next hbp ?_
      rw [hset]
      simp
      refine loopK_same (GE.mk k [] [x], r) (by simp only; rw [← hs]; exact he) (by simp) rfl ?_
      simp only [← sub_kid1]
    cases hk1 : (peekT e l').text == [42]
    · cases hk2 : (peekT e l').text == [43]
      · cases hk3 : (peekT e l').text == [63]
        · have hfin : sufM x l' = (x, l') := by
            cases l' with
            | nil => rfl
            | cons t r => simp at hk1 hk2 hk3; simp [sufM, hk1, hk2, hk3]
          rw [← he, hfin] at hp
          simp at hk1 hk2 hk3
          simp [Tok.av, hk1, hk2, hk3, hb2']
          refine ⟨rfl, ?_⟩
          refine ⟨_, .refl _, _, ?_, hp⟩
          rw [set_comm_heap (Ne.symm n2), Bs_set2]
          exact (Bs_le ne hb2).trans (.set (by simp [Bs, AHeap.set_ne, n1.symm, n2.symm, hb3']))
        · cases l' with
          | nil => simp at hk3
          | cons t r =>
            have := suf 4 t r rfl (by simp at hk1 hk2 hk3; simp [sufM, hk1, hk2, hk3])
            simp at hk1 hk2 hk3
            simp [Tok.av, hk1, hk2, hk3, -gR_item_c22_eq]
            exact this
      · cases l' with
        | nil => simp at hk2
        | cons t r =>
          have := suf 6 t r rfl (by simp at hk1 hk2; simp [sufM, hk1, hk2])
          simp at hk1 hk2
          simp [Tok.av, hk1, hk2, -gR_item_c22_eq]
          exact this
    · cases l' with
      | nil => simp at hk1
      | cons t r =>
        have := suf 5 t r rfl (by simp at hk1; simp [sufM, hk1])
        simp at hk1
        simp [Tok.av, hk1, -gR_item_c22_eq]
        exact this
end Go.Av

namespace Go.Av

theorem gp_expM {bp e : Nat} {l : List Tok} {H : AHeap} {post : ARes → AHeap → Prop} (x : List UInt8) (hx : x ≠ []) (hb : H bp = some (.box (rdr l e)))
    (hp : match expM e x l with | .ok r => post (.ret (.tuple [])) (H.set bp (.box (rdr r e))) | .error k => post (.pan (synErr k)) H) : ACalls PP gR_expect_id [.ptr bp 0 [], .str x] H post := by
  refine gp_expect x hx hb (fun t r hl ht => ?_) fun hn => ?_
  · subst hl
    simpa [expM, ht] using hp
  · cases l with
    | nil => simpa [expM] using hp
    | cons t r =>
      simp at hn
      simpa [expM, hn] using hp

theorem Grows.lit {H0 : AHeap} {e : TypeId} {sz b : Nat} {x : AV} (hb : H0 b = none) : Grows H0 e sz [x] (.own sz [x] b) (H0.set b (.row 1 sz e)) := .inr ⟨b, hb, rfl, rfl⟩

def PrimInv (H : AHeap) (bp b2 e f : Nat) (l1 : List Tok) (x0 : GE) (n : Nat) (x : SeqSt) : Prop :=
  Grows (Bs H bp b2 e zGE x.l) 33 3 ((x0 :: x.done).map GE.av) x.v x.H ∧ x.done.length + x.l.length ≤ n ∧ 3 * x.l.length + 1 ≤ x.g ∧ x.g ≤ f ∧ altsM e f l1 = prepM x.done (altsM e x.g x.l)
def PrimE (bp b2 : Nat) (x : SeqSt) : Env := [(0, .ptr bp 0 []), (2, .ptr b2 0 []), (3, x.v)]

theorem prim_call {e f : Nat} (ih : ∀ g, g < f → ReadS e g) {bp : Nat} {l : List Tok} {H : AHeap} {post : ARes → AHeap → Prop} (hb : H bp = some (.box (rdr l e))) (hl : l.length ≤ 1000000) (hf : 3 * l.length + 1 ≤ f)
    (hp : PRpost bp e H GE.av post (primM e f l)) : ACalls PP gR_primary_id [.ptr bp 0 []] H post := by
  obtain ⟨f, rfl⟩ : ∃ f', f = f' + 1 := ⟨f - 1, by omega⟩
  refine gR_primary_enter rfl ?_
  simp [gR_primary_rs, allocQ]
  intro b2 hb2
  have ne := ne_of_some_none hb hb2
  rw [show H.set b2 (.box (.struct [.int .i64 0, .str [], .nils])) = Bs H bp b2 e zGE l from Bs_start hb]
  refine (gp_isName (Bs_bp ne)).use ?_
  simp only [primM] at hp
  cases hn : isNameT (peekT e l)
  · rw [hn] at hp
    simp only [Bool.false_eq_true, if_false] at hp
    simp [-gR_primary_c29_eq]
    refine gp_expM _ (by simp) (Bs_bp ne) ?_
    cases h0 : expM e [40] l with
    | error k =>
      rw [h0] at hp
      simp
      refine ⟨_, ?_, hp l⟩
      exact Bs_le ne hb2
    | ok l0 =>
      rw [h0] at hp
      obtain ⟨t0, hl0, _⟩ := expM_ok h0
      subst hl0
      simp only [List.length_cons] at hf hl
      simp only at hp ⊢
      rw [Bs_set ne]
      simp
      refine (ih f (by omega) bp l0 _ _ (Bs_bp ne) (by omega)).1 (by omega) ?_
      cases hi : itemsM e f l0 with
      | error k =>
        rw [hi] at hp
        simp only [mapM', PRpost]
        intro l''
        simp
        rw [Bs_set ne]
        exact ⟨_, Bs_le ne hb2, hp l''⟩
      | ok p =>
        obtain ⟨xs, l1⟩ := p
        rw [hi] at hp
        have hlen := (readM_len e f l0).1 _ _ hi
        simp only [mapM', PRpost] at hp ⊢
        rw [Bs_set ne]
        generalize mkSeq 2 xs = x0 at hp ⊢
        simp
        intro b3 hb3
        refine aw_loopK (PrimInv H bp b2 e f l1 x0 l0.length) (PrimE bp b2) (fun x => x.H) (fun x => x.l.length) ⟨.own 3 [x0.av] b3, (Bs H bp b2 e zGE l1).set b3 (.row 1 3 33), l1, [], f⟩
          ⟨Grows.lit hb3, by simp only [List.length_nil]; simp; omega, by simp only; omega, Nat.le_refl _, (prepM_nil _).symm⟩ rfl rfl ?_
        rintro ⟨v, Hs, l', done, g⟩ ⟨hg, hnn, hgf, hgl, he⟩
        simp only at hg hnn hgf hgl he
        obtain ⟨g, rfl⟩ : ∃ g', g = g' + 1 := ⟨g - 1, by omega⟩
        have hbs := hg.get (Bs_bp ne)
        simp only [PrimE]
        simp
        refine (gp_peek hbs).use ?_
        cases hc : (peekT e l').text == [124]
        · -- the end
          simp only [altsM, hc, Bool.false_eq_true, if_false, prepM, List.append_nil] at he
          rw [he] at hp
          simp only at hp
          simp at hc
          simp [Tok.av, hc, -gR_primary_c26_eq]
          refine gp_expM _ (by simp) hbs ?_
          cases h4 : expM e [41] l' with
          | error k =>
            rw [h4] at hp
            simp
            refine ⟨_, ?_, hp l'⟩
            exact (Bs_le ne hb2).trans hg.HLe
          | ok l3 =>
            rw [h4] at hp
            simp only [PRpost] at hp ⊢
            have hg1 := hg.set (o := .box (rdr l3 e)) (Bs_bp ne)
            rw [Bs_set ne] at hg1
            generalize hHs1 : Hs.set bp (.box (rdr l3 e)) = Hs1 at *
            have hb2s := hg1.get (Bs_b2)
            obtain ⟨s0, hal, hs0⟩ := hg1.asList
            have hle : ∀ y, HLe (H.set bp (.box (rdr l3 e))) (Hs1.set b2 (.box y)) := by
              intro y
              have := hg1.set (o := .box y) Bs_b2
              rw [Bs_set2] at this
              exact (Bs_le ne hb2).trans this.HLe
            simp [hal]
            intro _
            cases done with
            | nil =>
              simp at hs0
              subst hs0
              simp [hb2s, zGE]
              exact ⟨_, .refl _, _, hle _, hp⟩
            | cons y r =>
              simp [hb2s, zGE, hg1.size]
              refine ⟨fun h => by omega, fun _ => ?_⟩
              exact ⟨_, sub_kids hg1.sub, _, hle _, hp⟩
        · cases l' with
          | nil => simp at hc
          | cons t r =>
            simp only [altsM, hc, if_true, List.tail_cons] at he
            simp only [List.length_cons] at hnn hgf
            simp at hc
            simp [Tok.av, hc]
            refine gp_next hbs ?_
            simp
            have hg1 := hg.set (o := .box (rdr r e)) (Bs_bp ne)
            rw [Bs_set ne] at hg1
            refine (ih g (by omega) bp r _ _ (AHeap.set_same _ _ _) (by omega)).1 (by omega) ?_
            cases hi2 : itemsM e g r with
            | error k =>
              rw [hi2] at he
              simp only [prepM] at he
              rw [he] at hp
              intro l''
              simp
              refine ⟨_, ?_, hp l''⟩
              have hg2 := hg.set (o := .box (rdr l'' e)) (Bs_bp ne)
              rw [Bs_set ne] at hg2
              exact (Bs_le ne hb2).trans hg2.HLe
            | ok p =>
              obtain ⟨ys, l2⟩ := p
              rw [hi2] at he
              have hlen2 := (readM_len e g r).1 _ _ hi2
              simp only [mapM', PRpost]
              have hg2 := hg.set (o := .box (rdr l2 e)) (Bs_bp ne)
              rw [Bs_set ne] at hg2
              rw [AHeap.set_set]
              simp
              refine hg2.app (by simp; omega) fun v' H' hg' => ?_
              simp
              refine loopK_same ⟨v', H', l2, done ++ [mkSeq 2 ys], g⟩ ⟨by simpa using hg', by simp; omega, by simp only; omega, by simp only; omega, ?_⟩ (by simp only; omega) rfl rfl
              rw [he]
              simp only [prepM_cons]
  · rw [hn] at hp
    obtain ⟨t, r, rfl, ht⟩ := isNameT_cons hn
    simp
    refine gp_name (Bs_bp ne) (fun t' r' he _ => ?_) fun h => ?_
    · injection he with e1 e2
      subst e1 e2
      rw [Bs_set ne]
      simp [Bs_b2, zGE]
      simp only [if_true, List.tail_cons, peekT_cons, PRpost] at hp
      refine ⟨_, ?_, _, ?_, hp⟩
      · rw [GE.av_mk]
        refine .struct rfl (fun j x y hx hy => ?_) (fun x hx => ?_)
        · match j with
          | 0 => simp at hx hy; subst hx hy; exact .refl _
          | 1 => simp at hx hy; subst hx hy; exact .refl _
          | 2 => simp at hx hy; subst hx hy; exact .nils _
          | j + 3 => simp at hx
        · simp at hx
          rcases hx with rfl | rfl | rfl <;> simp
      · rw [Bs_set2]
        exact Bs_le ne hb2
    · rw [hn] at h; cases h

theorem readS (e : Nat) : ∀ f, ReadS e f := by
  intro f
  induction f using Nat.strongRecOn with
  | ind f ih =>
    intro bp l H post hb hl
    exact ⟨fun h hp => seq_call ih hb hl h hp, fun h hp => item_call ih hb hl h hp, fun h hp => prim_call ih hb hl h hp⟩
end Go.Av
