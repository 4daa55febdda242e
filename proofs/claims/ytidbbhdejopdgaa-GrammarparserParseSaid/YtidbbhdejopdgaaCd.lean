/- Part of the proof: Cd. No condition. -/
import Derived.Test.YtidbbhdejopdgaaCc
import Derived.Test.YtidbbhdejopdgaaAvF
set_option linter.unusedVariables false
set_option linter.unusedSimpArgs false
namespace Go.Av

theorem gp_expM {bp e : Nat} {l : List Tok} {H : AHeap} {post : ARes → AHeap → Prop} (x : List UInt8) (hx : x ≠ []) (hb : H bp = some (.box (rdr l e)))
    (hp : match expM e x l with | .ok r => post (.ret (.tuple [])) (H.set bp (.box (rdr r e))) | .error k => post (.pan (synErr k)) H) : ACalls PP grammarparser_reader_expect_id [.ptr bp 0 [], .str x] H post := by
  refine gp_expect x hx hb (fun t r hl ht => ?_) fun hn => ?_
  · subst hl
    simpa [expM, ht] using hp
  · cases l with
    | nil => simpa [expM] using hp
    | cons t r =>
      simp at hn
      simpa [expM, hn] using hp

theorem Grows.lit {H0 : AHeap} {e : TypeId} {sz b : Nat} {x : AV} (hb : H0 b = none) : Grows H0 e sz [x] (.own sz [x] b) (H0.set b (.row 1 sz e)) := .inr ⟨b, hb, rfl, rfl⟩

def PrimInv (H : AHeap) (bp b2 e f : Nat) (l1 : List Tok) (x0 : GE) (n : Nat) (x : SeqSt) : Prop :=
  Grows (Bs H bp b2 e zGE x.l) 47 3 ((x0 :: x.done).map GE.av) x.v x.H ∧ x.done.length + x.l.length ≤ n ∧ 3 * x.l.length + 1 ≤ x.g ∧ x.g ≤ f ∧ altsM e f l1 = prepM x.done (altsM e x.g x.l)
def PrimE (bp b2 : Nat) (x : SeqSt) : Env := [(0, .ptr bp 0 []), (2, .ptr b2 0 []), (3, x.v)]

theorem prim_call {e f : Nat} (ih : ∀ g, g < f → ReadS e g) {bp : Nat} {l : List Tok} {H : AHeap} {post : ARes → AHeap → Prop} (hb : H bp = some (.box (rdr l e))) (hl : l.length ≤ 1000000) (hf : 3 * l.length + 1 ≤ f)
    (hp : PRpost bp e H GE.av post (primM e f l)) : ACalls PP grammarparser_reader_primary_id [.ptr bp 0 []] H post := by
  obtain ⟨f, rfl⟩ : ∃ f', f = f' + 1 := ⟨f - 1, by omega⟩
  refine grammarparser_reader_primary_enter rfl ?_
  simp [grammarparser_reader_primary_rs, allocQ]
  intro b2 hb2
  have ne := ne_of_some_none hb hb2
  rw [show H.set b2 (.box (.struct [.int .i64 0, .str [], .nils])) = Bs H bp b2 e zGE l from Bs_start hb]
  refine (gp_isName (Bs_bp ne)).use ?_
  simp only [primM] at hp
  cases hn : isNameT (peekT e l)
  · rw [hn] at hp
    simp only [Bool.false_eq_true, if_false] at hp
    simp [-grammarparser_reader_primary_c29_eq]
    refine gp_expM _ (by simp) (Bs_bp ne) ?_
    cases h0 : expM e [40] l with
    | error k =>
      rw [h0] at hp
      simp
      refine ⟨_, ?_, hp l⟩
      exact Bs_le ne hb2
    | ok l0 =>
      rw [h0] at hp
      obtain ⟨t0, hl0, _⟩ := expM_ok h0
      subst hl0
      simp only [List.length_cons] at hf hl
      simp only at hp ⊢
      rw [Bs_set ne]
      simp
      refine (ih f (by omega) bp l0 _ _ (Bs_bp ne) (by omega)).1 (by omega) ?_
      cases hi : itemsM e f l0 with
      | error k =>
        rw [hi] at hp
        simp only [mapM', PRpost]
        intro l''
        simp
        rw [Bs_set ne]
        exact ⟨_, Bs_le ne hb2, hp l''⟩
      | ok p =>
        obtain ⟨xs, l1⟩ := p
        rw [hi] at hp
        have hlen := (readM_len e f l0).1 _ _ hi
        simp only [mapM', PRpost] at hp ⊢
        rw [Bs_set ne]
        generalize mkSeq 2 xs = x0 at hp ⊢
        simp
        intro b3 hb3
        refine aw_loopK (PrimInv H bp b2 e f l1 x0 l0.length) (PrimE bp b2) (fun x => x.H) (fun x => x.l.length) ⟨.own 3 [x0.av] b3, (Bs H bp b2 e zGE l1).set b3 (.row 1 3 47), l1, [], f⟩
          ⟨Grows.lit hb3, by simp only [List.length_nil]; simp; omega, by simp only; omega, Nat.le_refl _, (prepM_nil _).symm⟩ rfl rfl ?_
        rintro ⟨v, Hs, l', done, g⟩ ⟨hg, hnn, hgf, hgl, he⟩
        simp only at hg hnn hgf hgl he
        obtain ⟨g, rfl⟩ : ∃ g', g = g' + 1 := ⟨g - 1, by omega⟩
        have hbs := hg.get (Bs_bp ne)
        simp only [PrimE]
        simp
        refine (gp_peek hbs).use ?_
        cases hc : (peekT e l').text == [124]
        · -- the end
          simp only [altsM, hc, Bool.false_eq_true, if_false, prepM, List.append_nil] at he
          rw [he] at hp
          simp only at hp
          simp at hc
          simp [Tok.av, hc, -grammarparser_reader_primary_c26_eq]
          refine gp_expM _ (by simp) hbs ?_
          cases h4 : expM e [41] l' with
          | error k =>
            rw [h4] at hp
            simp
            refine ⟨_, ?_, hp l'⟩
            exact (Bs_le ne hb2).trans hg.HLe
          | ok l3 =>
            rw [h4] at hp
            simp only [PRpost] at hp ⊢
            have hg1 := hg.set (o := .box (rdr l3 e)) (Bs_bp ne)
            rw [Bs_set ne] at hg1
            generalize hHs1 : Hs.set bp (.box (rdr l3 e)) = Hs1 at *
            have hb2s := hg1.get (Bs_b2)
            obtain ⟨s0, hal, hs0⟩ := hg1.asList
            have hle : ∀ y, HLe (H.set bp (.box (rdr l3 e))) (Hs1.set b2 (.box y)) := by
              intro y
              have := hg1.set (o := .box y) Bs_b2
              rw [Bs_set2] at this
              exact (Bs_le ne hb2).trans this.HLe
            simp [hal]
            intro _
            cases done with
            | nil =>
              simp at hs0
              subst hs0
              simp [hb2s, zGE]
              exact ⟨_, .refl _, _, hle _, hp⟩
            | cons y r =>
              simp [hb2s, zGE, hg1.size]
              refine ⟨fun h => by omega, fun _ => ?_⟩
              exact ⟨_, sub_kids hg1.sub, _, hle _, hp⟩
        · cases l' with
          | nil => simp at hc
          | cons t r =>
            simp only [altsM, hc, if_true, List.tail_cons] at he
            simp only [List.length_cons] at hnn hgf
            simp at hc
            simp [Tok.av, hc]
            refine gp_next hbs ?_
            simp
            have hg1 := hg.set (o := .box (rdr r e)) (Bs_bp ne)
            rw [Bs_set ne] at hg1
            refine (ih g (by omega) bp r _ _ (AHeap.set_same _ _ _) (by omega)).1 (by omega) ?_
            cases hi2 : itemsM e g r with
            | error k =>
              rw [hi2] at he
              simp only [prepM] at he
              rw [he] at hp
              intro l''
              simp
              refine ⟨_, ?_, hp l''⟩
              have hg2 := hg.set (o := .box (rdr l'' e)) (Bs_bp ne)
              rw [Bs_set ne] at hg2
              exact (Bs_le ne hb2).trans hg2.HLe
            | ok p =>
              obtain ⟨ys, l2⟩ := p
              rw [hi2] at he
              have hlen2 := (readM_len e g r).1 _ _ hi2
              simp only [mapM', PRpost]
              have hg2 := hg.set (o := .box (rdr l2 e)) (Bs_bp ne)
              rw [Bs_set ne] at hg2
              rw [AHeap.set_set]
              simp
              refine hg2.app (by simp; omega) fun v' H' hg' => ?_
              simp
              refine loopK_same ⟨v', H', l2, done ++ [mkSeq 2 ys], g⟩ ⟨by simpa using hg', by simp; omega, by simp only; omega, by simp only; omega, ?_⟩ (by simp only; omega) rfl rfl
              rw [he]
              simp only [prepM_cons]
  · rw [hn] at hp
    obtain ⟨t, r, rfl, ht⟩ := isNameT_cons hn
    simp
    refine gp_name (Bs_bp ne) (fun t' r' he _ => ?_) fun h => ?_
    · injection he with e1 e2
      subst e1 e2
      rw [Bs_set ne]
      simp [Bs_b2, zGE]
      simp only [if_true, List.tail_cons, peekT_cons, PRpost] at hp
      refine ⟨_, ?_, _, ?_, hp⟩
      · rw [GE.av_mk]
        refine .struct rfl (fun j x y hx hy => ?_) (fun x hx => ?_)
        · match j with
          | 0 => simp at hx hy; subst hx hy; exact .refl _
          | 1 => simp at hx hy; subst hx hy; exact .refl _
          | 2 => simp at hx hy; subst hx hy; exact .nils _
          | j + 3 => simp at hx
        · simp at hx
          rcases hx with rfl | rfl | rfl <;> simp
      · rw [Bs_set2]
        exact Bs_le ne hb2
    · rw [hn] at h; cases h

theorem readS (e : Nat) : ∀ f, ReadS e f := by
  intro f
  induction f using Nat.strongRecOn with
  | ind f ih =>
    intro bp l H post hb hl
    exact ⟨fun h hp => seq_call ih hb hl h hp, fun h hp => item_call ih hb hl h hp, fun h hp => prim_call ih hb hl h hp⟩
end Go.Av

namespace Go.Av
structure GL where
  assoc : Int
  tokens : List (List UInt8)
  deriving Inhabited, DecidableEq
def GL.av (x : GL) : AV := .struct [i64 x.assoc, .list 1 (x.tokens.map AV.str)]

/-- Names, as many as there are. -/
def namesM (e : Nat) : List Tok → List (List UInt8) × List Tok
  | [] => ([], [])
  | t :: r => if isNameT t then let p := namesM e r; (t.text :: p.1, p.2) else ([], t :: r)

def levelM (e : Nat) (assoc : Int) (l : List Tok) : PR GL :=
  if isNameT (peekT e l.tail) then
    match expM e [59] (namesM e l.tail.tail).2 with
    | .error k => .error k
    | .ok r => .ok (⟨assoc, (peekT e l.tail).text :: (namesM e l.tail.tail).1⟩, r)
  else .error (peekT e l.tail).at_

/-- As 'Bs', with a second variable. -/
def B3 (H : AHeap) (bp b4 b5 e : Nat) (z y : AV) (l : List Tok) : AHeap := (Bs H bp b4 e z l).set b5 (.box y)
section
variable {H : AHeap} {bp b4 b5 e : Nat} {z z' y y' : AV} {l l' : List Tok}
theorem B3_bp (h : bp ≠ b4) (h5 : bp ≠ b5) : B3 H bp b4 b5 e z y l bp = some (.box (rdr l e)) := by
  unfold B3
  rw [AHeap.set_ne _ _ h5]; exact Bs_bp h
theorem B3_b4 (h : b4 ≠ b5) : B3 H bp b4 b5 e z y l b4 = some (.box z) := by
  unfold B3
  rw [AHeap.set_ne _ _ h]; exact Bs_b2
theorem B3_b5 : B3 H bp b4 b5 e z y l b5 = some (.box y) := by simp [B3]
theorem B3_set (h : bp ≠ b4) (h5 : bp ≠ b5) : (B3 H bp b4 b5 e z y l).set bp (.box (rdr l' e)) = B3 H bp b4 b5 e z y l' := by
  unfold B3
  rw [set_comm_heap (Ne.symm h5), Bs_set h]
theorem B3_set5 : (B3 H bp b4 b5 e z y l).set b5 (.box y') = B3 H bp b4 b5 e z y' l := by
  unfold B3
  rw [AHeap.set_set]
theorem B3_set4 (h : b4 ≠ b5) : (B3 H bp b4 b5 e z y l).set b4 (.box z') = B3 H bp b4 b5 e z' y l := by
  unfold B3
  rw [set_comm_heap (Ne.symm h), Bs_set2]
theorem Bs_none {b : Nat} (h : Bs H bp b4 e z l b = none) : bp ≠ b4 → b ≠ bp ∧ b ≠ b4 ∧ H b = none := by
  intro hne
  have h1 : bp ≠ b := ne_of_some_none (Bs_bp hne) h
  have h2 : b4 ≠ b := ne_of_some_none Bs_b2 h
  refine ⟨h1.symm, h2.symm, ?_⟩
  simpa [Bs, AHeap.set_ne, h1.symm, h2.symm] using h
theorem B3_le (h : bp ≠ b4) (hn : H b4 = none) (h1 : b5 ≠ bp) (h2 : b5 ≠ b4) (h5 : H b5 = none) : HLe (H.set bp (.box (rdr l e))) (B3 H bp b4 b5 e z y l) :=
  (Bs_le (z := z) h hn).trans (.set (by simp [Bs, AHeap.set_ne, h1, h2, h5]))
end

structure LvSt where
  v : AV
  H : AHeap
  l : List Tok
  done : List (List UInt8)

theorem strs_mem {x : AV} {l : List (List UInt8)} (h : x ∈ l.map AV.str) : x ≠ .undef := by
  obtain ⟨s, _, rfl⟩ := List.mem_map.1 h
  simp

theorem gp_level {bp e : Nat} {t : Tok} {l : List Tok} {H : AHeap} {post : ARes → AHeap → Prop} (assoc : Int) (hb : H bp = some (.box (rdr (t :: l) e))) (hl : l.length ≤ 1000000)
    (hp : PRpost bp e H GL.av post (levelM e assoc (t :: l))) : ACalls PP grammarparser_reader_level_id [.ptr bp 0 [], i64 assoc] H post := by
  refine grammarparser_reader_level_enter rfl ?_
  simp [grammarparser_reader_level_rs, allocQ]
  intro b4 hb4
  have ne := ne_of_some_none hb hb4
  generalize hz : AV.struct [AV.int IntKind.i64 0, AV.nils] = z
  have hzs : z.size = 2 := by rw [← hz]; rfl
  rw [show H.set b4 (.box z) = Bs H bp b4 e z (t :: l) from Bs_start hb]
  refine gp_next (Bs_bp ne) ?_
  rw [Bs_set ne]
  simp
  simp only [levelM, List.tail_cons] at hp
  refine gp_name (Bs_bp ne) (fun t1 r he hn => ?_) fun h => ?_
  · subst he
    rw [Bs_set ne]
    simp [allocQ]
    simp only [peekT_cons, hn, if_true, List.tail_cons] at hp
    intro b hb0 b5 hb5
    have hg0 := Grows.lit (e := 9) (sz := 1) (x := .str t1.text) hb0
    have hb5' := hg0.base hb5
    obtain ⟨n1, n2, n3⟩ := Bs_none hb5' ne
    have hg0 := hg0.add (o := .box (.struct [i64 assoc, .own 1 [.str t1.text] b])) hb5
    refine aw_loopK (fun x : LvSt => Grows (B3 H bp b4 b5 e z (.struct [i64 assoc, x.v]) x.l) 9 1 ((t1.text :: x.done).map AV.str) x.v x.H ∧ x.done.length + x.l.length ≤ r.length ∧
        x.done ++ (namesM e x.l).1 = (namesM e r).1 ∧ (namesM e x.l).2 = (namesM e r).2) (fun x => [(0, .ptr bp 0 []), (4, .ptr b4 0 []), (5, .ptr b5 0 [])]) (fun x => x.H) (fun x => x.l.length)
      ⟨.own 1 [.str t1.text] b, _, r, []⟩ ⟨hg0, by simp, rfl, rfl⟩ rfl rfl ?_
    rintro ⟨v, Hs, l', done⟩ ⟨hg, hnn, he1, he2⟩
    simp only at hg hnn he1 he2
    have hbs := hg.get (B3_bp ne n1.symm)
    have hb5s := hg.get B3_b5
    simp
    refine (gp_isName hbs).use ?_
    cases hc : isNameT (peekT e l')
    · have hstop : namesM e l' = ([], l') := by
        cases l' with
        | nil => rfl
        | cons t2 r2 => simp at hc; simp [namesM, hc]
      rw [hstop] at he1 he2
      simp only [List.append_nil] at he1 he2
      rw [← he1, ← he2] at hp
      simp
      refine gp_expM _ (by simp) hbs ?_
      cases h4 : expM e [59] l' with
      | error k =>
        rw [h4] at hp
        simp
        refine ⟨_, ?_, hp l'⟩
        exact (B3_le ne hb4 n1 n2 n3).trans hg.HLe
      | ok l3 =>
        rw [h4] at hp
        simp only [PRpost] at hp ⊢
        have hg1 := hg.set (o := .box (rdr l3 e)) (B3_bp ne n1.symm)
        rw [B3_set ne n1.symm] at hg1
        have q5 := hg1.get B3_b5
        have q4 := hg1.get (B3_b4 n2.symm)
        simp [q5, q4, hg.size, hzs]
        refine ⟨_, ?_, _, ?_, hp⟩
        · refine .struct rfl (fun j x y hx hy => ?_) (fun x hx => ?_)
          · match j with
            | 0 => simp at hx hy; subst hx hy; exact .refl _
            | 1 => simp at hx hy; subst hx hy; exact hg.sub
            | j + 2 => simp at hx
          · simp at hx
            rcases hx with rfl | rfl <;> simp
        · have := hg1.set (o := .box (.struct [i64 assoc, v])) (B3_b4 n2.symm)
          rw [B3_set4 n2.symm] at this
          exact (B3_le ne hb4 n1 n2 n3).trans this.HLe
    · obtain ⟨t2, r2, rfl, ht2⟩ := isNameT_cons hc
      simp only [namesM, ht2, if_true] at he1 he2
      simp
      refine grammarparser_reader_level_c6_lexF [b5] ?_
      simp [hb5s, hg.size]
      refine gp_name hbs (fun t' r' he _ => ?_) fun h => ?_
      · injection he with e1 e2
        subst e1 e2
        have hg1 := hg.set (o := .box (rdr r2 e)) (B3_bp ne n1.symm)
        rw [B3_set ne n1.symm] at hg1
        have ha : Agree [b5] Hs (Hs.set bp (.box (rdr r2 e))) := by
          intro x hx
          simp at hx
          subst hx
          rw [AHeap.set_ne _ _ n1]
        simp [ha]
        have hd : done.length ≤ 1000000 := by simp only [List.length_cons] at hl; omega
        refine hg1.app (by simp; omega) fun v' H' hg' => ?_
        have q5 := hg'.get B3_b5
        simp [q5, hg.size, hg'.size]
        refine loopK_same ⟨v', H'.set b5 (.box (.struct [i64 assoc, v'])), r2, done ++ [t2.text]⟩ ⟨?_, by simp at *; omega, ?_, he2⟩ (by simp) rfl rfl
        · have := hg'.set (o := .box (.struct [i64 assoc, v'])) B3_b5
          rw [B3_set5] at this
          simpa using this
        · rw [← he1]; simp
      · rw [hc] at h; cases h
  · simp only [h, Bool.false_eq_true, if_false, PRpost] at hp
    simp
    exact ⟨_, Bs_le ne hb4, hp l⟩
end Go.Av

namespace Go.Av
structure GA where
  body : GE
  price : Int
  deriving Inhabited
def GA.av (x : GA) : AV := .struct [x.body.av, i64 x.price]
@[simp] theorem GA.av_size (x : GA) : x.av.size = 4 := by simp [GA.av]
@[simp] theorem GA.av_agg (x : GA) : x.av.isAgg = true := rfl
@[simp] theorem GA.av_sto (x : GA) : x.av.sto = true := rfl
@[simp] theorem GL.av_size (x : GL) : x.av.size = 2 := rfl
@[simp] theorem GL.av_agg (x : GL) : x.av.isAgg = true := rfl
@[simp] theorem GL.av_sto (x : GL) : x.av.sto = true := rfl

def altM (e f : Nat) (l : List Tok) : PR GA := match itemsM e f l with
  | .error k => .error k
  | .ok (xs, l1) => if (peekT e l1).text == kwPrice then
      if (peekT e l1.tail).num < 0 then .error (peekT e l1.tail).at_ else .ok (⟨mkSeq 2 xs, (peekT e l1.tail).num⟩, l1.tail.tail)
    else .ok (⟨mkSeq 2 xs, 0⟩, l1)

theorem altM_len {e f : Nat} {l l' : List Tok} {x : GA} (h : altM e f l = .ok (x, l')) : l'.length ≤ l.length := by
  unfold altM at h
  split at h
  · cases h
  · rename_i xs l1 hi
    have := (readM_len e f l).1 _ _ hi
    split at h
    · split at h
      · cases h
      · injection h with h
        injection h with h1 h2
        subst h2
        simp; omega
    · injection h with h
      injection h with h1 h2
      subst h2; exact this

theorem gp_alternative {bp e f : Nat} {l : List Tok} {H : AHeap} {post : ARes → AHeap → Prop} (hb : H bp = some (.box (rdr l e))) (hl : l.length ≤ 1000000) (hf : 3 * l.length + 3 ≤ f)
    (hp : PRpost bp e H GA.av post (altM e f l)) : ACalls PP grammarparser_reader_alternative_id [.ptr bp 0 []] H post := by
  refine grammarparser_reader_alternative_enter rfl ?_
  simp [grammarparser_reader_alternative_rs, allocQ]
  intro b2 hb2
  have ne := ne_of_some_none hb hb2
  generalize hz : AV.struct [AV.struct [AV.int IntKind.i64 0, AV.str [], AV.nils], AV.int IntKind.i64 0] = z
  have hzs : z.size = 4 := by rw [← hz]; rfl
  rw [show H.set b2 (.box z) = Bs H bp b2 e z l from Bs_start hb]
  refine (readS e f bp l _ _ (Bs_bp ne) hl).1 hf ?_
  unfold altM at hp
  cases hi : itemsM e f l with
  | error k =>
    rw [hi] at hp
    simp only [mapM', PRpost]
    intro l''
    simp
    rw [Bs_set ne]
    exact ⟨_, Bs_le ne hb2, hp l''⟩
  | ok p =>
    obtain ⟨xs, l1⟩ := p
    rw [hi] at hp
    have hlen := (readM_len e f l).1 _ _ hi
    simp only [mapM', PRpost] at hp ⊢
    rw [Bs_set ne]
    generalize mkSeq 2 xs = x0 at hp ⊢
    simp [allocQ]
    intro b3 hb3
    obtain ⟨n1, n2, n3⟩ := Bs_none hb3 ne
    have hx : ∀ (y : AV) (l : List Tok), (Bs H bp b2 e z l).set b3 (.box y) = B3 H bp b2 b3 e z y l := fun _ _ => rfl
    rw [hx]
    refine ⟨hzs, ?_⟩
    refine (gp_peek (B3_bp ne n1.symm)).use ?_
    have fin : ∀ (n : Int) (l' : List Tok) (env : Env), (env = [(2, .ptr b2 0 []), (3, .ptr b3 0 [])] ∨ ∃ c, env = [(0, .ptr bp 0 []), (2, .ptr b2 0 []), (3, .ptr b3 0 []), (10, .bool c)]) → PRpost bp e H GA.av post (.ok (⟨x0, n⟩, l')) →
        aw PP grammarparser_reader_alternative_c14 (retK [.cell 2 true 4] post) env (B3 H bp b2 b3 e z (.struct [x0.av, i64 n]) l') := by
      intro n l' env he hpp
      rcases he with rfl | ⟨c, rfl⟩ <;>
      · simp [B3_b5, B3_b4 n2.symm, hzs]
        refine ⟨_, .refl _, _, ?_, hpp⟩
        rw [B3_set4 n2.symm]
        exact B3_le ne hb2 n1 n2 n3
    cases hc : (peekT e l1).text == [112, 114, 105, 99, 101]
    · have hc' : ((peekT e l1).text == kwPrice) = false := hc
      simp only [hc', Bool.false_eq_true, if_false] at hp
      simp at hc
      simp [Tok.av, hc, -grammarparser_reader_alternative_c14_eq]
      exact fin 0 l1 _ (.inr ⟨_, rfl⟩) hp
    · have hc' : ((peekT e l1).text == kwPrice) = true := hc
      cases l1 with
      | nil => simp at hc
      | cons t r =>
        simp only [hc', if_true, List.tail_cons] at hp
        simp at hc
        simp [Tok.av, hc, -grammarparser_reader_alternative_c14_eq]
        refine gp_next (B3_bp ne n1.symm) ?_
        rw [B3_set ne n1.symm]
        simp [-grammarparser_reader_alternative_c14_eq]
        refine (gp_peek (B3_bp ne n1.symm)).use ?_
        by_cases hneg : (peekT e r).num < 0
        · simp only [hneg, if_true] at hp
          simp [Tok.av, hneg, -grammarparser_reader_alternative_c14_eq]
          refine ⟨?_, fun h => by omega⟩
          refine gp_fail (B3_bp ne n1.symm) ?_
          simp
          exact ⟨_, B3_le ne hb2 n1 n2 n3, hp r⟩
        · simp only [hneg, if_false] at hp
          cases r with
          | nil => simp at hneg
          | cons t2 r2 =>
            simp at hneg hp
            simp [Tok.av, hneg, -grammarparser_reader_alternative_c14_eq]
            refine ⟨fun h => by omega, ?_⟩
            refine gp_next (B3_bp ne n1.symm) ?_
            rw [B3_set ne n1.symm]
            simp [Tok.av, B3_b5, -grammarparser_reader_alternative_c14_eq]
            rw [B3_set5]
            exact fin _ r2 _ (.inl rfl) hp
end Go.Av
