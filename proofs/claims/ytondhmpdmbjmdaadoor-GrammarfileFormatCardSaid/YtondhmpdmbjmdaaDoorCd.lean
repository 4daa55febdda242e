/- Part of the proof: Cd. No condition. -/
import Derived.Test.YtondhmpdmbjmdaaDoorCc
import Derived.Test.YtondhmpdmbjmdaaDoorAvF
set_option linter.unusedVariables false
set_option linter.unusedSimpArgs false
namespace Go.Av
structure GL where
  assoc : Int
  tokens : List (List UInt8)
  deriving Inhabited, DecidableEq
def GL.av (x : GL) : AV := .struct [i64 x.assoc, .list 1 (x.tokens.map AV.str)]

/-- Names, as many as there are. -/
def namesM (e : Nat) : List Tok → List (List UInt8) × List Tok
  | [] => ([], [])
  | t :: r => if isNameT t then let p := namesM e r; (t.text :: p.1, p.2) else ([], t :: r)

def levelM (e : Nat) (assoc : Int) (l : List Tok) : PR GL :=
  if isNameT (peekT e l.tail) then
    match expM e [59] (namesM e l.tail.tail).2 with
    | .error k => .error k
    | .ok r => .ok (⟨assoc, (peekT e l.tail).text :: (namesM e l.tail.tail).1⟩, r)
  else .error (peekT e l.tail).at_

/-- As 'Bs', with a second variable. -/
def B3 (H : AHeap) (bp b4 b5 e : Nat) (z y : AV) (l : List Tok) : AHeap := (Bs H bp b4 e z l).set b5 (.box y)
section
variable {H : AHeap} {bp b4 b5 e : Nat} {z z' y y' : AV} {l l' : List Tok}
theorem B3_bp (h : bp ≠ b4) (h5 : bp ≠ b5) : B3 H bp b4 b5 e z y l bp = some (.box (rdr l e)) := by
  unfold B3
  rw [AHeap.set_ne _ _ h5]; exact Bs_bp h
theorem B3_b4 (h : b4 ≠ b5) : B3 H bp b4 b5 e z y l b4 = some (.box z) := by
  unfold B3
  rw [AHeap.set_ne _ _ h]; exact Bs_b2
theorem B3_b5 : B3 H bp b4 b5 e z y l b5 = some (.box y) := by simp [B3]
theorem B3_set (h : bp ≠ b4) (h5 : bp ≠ b5) : (B3 H bp b4 b5 e z y l).set bp (.box (rdr l' e)) = B3 H bp b4 b5 e z y l' := by
  unfold B3
  rw [set_comm_heap (Ne.symm h5), Bs_set h]
theorem B3_set5 : (B3 H bp b4 b5 e z y l).set b5 (.box y') = B3 H bp b4 b5 e z y' l := by
  unfold B3
  rw [AHeap.set_set]
theorem B3_set4 (h : b4 ≠ b5) : (B3 H bp b4 b5 e z y l).set b4 (.box z') = B3 H bp b4 b5 e z' y l := by
  unfold B3
  rw [set_comm_heap (Ne.symm h), Bs_set2]
theorem Bs_none {b : Nat} (h : Bs H bp b4 e z l b = none) : bp ≠ b4 → b ≠ bp ∧ b ≠ b4 ∧ H b = none := by
  intro hne
  have h1 : bp ≠ b := ne_of_some_none (Bs_bp hne) h
  have h2 : b4 ≠ b := ne_of_some_none Bs_b2 h
  refine ⟨h1.symm, h2.symm, ?_⟩
  simpa [Bs, AHeap.set_ne, h1.symm, h2.symm] using h
theorem B3_le (h : bp ≠ b4) (hn : H b4 = none) (h1 : b5 ≠ bp) (h2 : b5 ≠ b4) (h5 : H b5 = none) : HLe (H.set bp (.box (rdr l e))) (B3 H bp b4 b5 e z y l) :=
  (Bs_le (z := z) h hn).trans (.set (by simp [Bs, AHeap.set_ne, h1, h2, h5]))
end

structure LvSt where
  v : AV
  H : AHeap
  l : List Tok
  done : List (List UInt8)

theorem strs_mem {x : AV} {l : List (List UInt8)} (h : x ∈ l.map AV.str) : x ≠ .undef := by
  obtain ⟨s, _, rfl⟩ := List.mem_map.1 h
  simp

theorem gp_level {bp e : Nat} {t : Tok} {l : List Tok} {H : AHeap} {post : ARes → AHeap → Prop} (assoc : Int) (hb : H bp = some (.box (rdr (t :: l) e))) (hl : l.length ≤ 1000000)
    (hp : PRpost bp e H GL.av post (levelM e assoc (t :: l))) : ACalls PP gR_level_id [.ptr bp 0 [], i64 assoc] H post := by
  refine gR_level_enter rfl ?_
  simp [gR_level_rs, allocQ]
  intro b4 hb4
  have ne := ne_of_some_none hb hb4
  generalize hz : AV.struct [AV.int IntKind.i64 0, AV.nils] = z
  have hzs : z.size = 2 := by rw [← hz]; rfl
  rw [show H.set b4 (.box z) = Bs H bp b4 e z (t :: l) from Bs_start hb]
  refine gp_next (Bs_bp ne) ?_
  rw [Bs_set ne]
  simp
  simp only [levelM, List.tail_cons] at hp
  refine gp_name (Bs_bp ne) (fun t1 r he hn => ?_) fun h => ?_
  · subst he
    rw [Bs_set ne]
    simp [allocQ]
    simp only [peekT_cons, hn, if_true, List.tail_cons] at hp
    intro b hb0 b5 hb5
    have hg0 := Grows.lit (e := 9) (sz := 1) (x := .str t1.text) hb0
    have hb5' := hg0.base hb5
    obtain ⟨n1, n2, n3⟩ := Bs_none hb5' ne
    have hg0 := hg0.add (o := .box (.struct [i64 assoc, .own 1 [.str t1.text] b])) hb5
    refine aw_loopK (fun x : LvSt => Grows (B3 H bp b4 b5 e z (.struct [i64 assoc, x.v]) x.l) 9 1 ((t1.text :: x.done).map AV.str) x.v x.H ∧ x.done.length + x.l.length ≤ r.length ∧
        x.done ++ (namesM e x.l).1 = (namesM e r).1 ∧ (namesM e x.l).2 = (namesM e r).2) (fun x => [(0, .ptr bp 0 []), (4, .ptr b4 0 []), (5, .ptr b5 0 [])]) (fun x => x.H) (fun x => x.l.length)
      ⟨.own 1 [.str t1.text] b, _, r, []⟩ ⟨hg0, by simp, rfl, rfl⟩ rfl rfl ?_
    rintro ⟨v, Hs, l', done⟩ ⟨hg, hnn, he1, he2⟩
    simp only at hg hnn he1 he2
    have hbs := hg.get (B3_bp ne n1.symm)
    have hb5s := hg.get B3_b5
    simp
    refine (gp_isName hbs).use ?_
    cases hc : isNameT (peekT e l')
    · have hstop : namesM e l' = ([], l') := by
        cases l' with
        | nil => rfl
        | cons t2 r2 => simp at hc; simp [namesM, hc]
      rw [hstop] at he1 he2
      simp only [List.append_nil] at he1 he2
      rw [← he1, ← he2] at hp
      simp
      refine gp_expM _ (by simp) hbs ?_
      cases h4 : expM e [59] l' with
      | error k =>
        rw [h4] at hp
        simp
        refine ⟨_, ?_, hp l'⟩
        exact (B3_le ne hb4 n1 n2 n3).trans hg.HLe
      | ok l3 =>
        rw [h4] at hp
        simp only [PRpost] at hp ⊢
        have hg1 := hg.set (o := .box (rdr l3 e)) (B3_bp ne n1.symm)
        rw [B3_set ne n1.symm] at hg1
        have q5 := hg1.get B3_b5
        have q4 := hg1.get (B3_b4 n2.symm)
        simp [q5, q4, hg.size, hzs]
        refine ⟨_, ?_, _, ?_, hp⟩
        · refine .struct rfl (fun j x y hx hy => ?_) (fun x hx => ?_)
          · match j with
            | 0 => simp at hx hy; subst hx hy; exact .refl _
            | 1 => simp at hx hy; subst hx hy; exact hg.sub
            | j + 2 => simp at hx
          · simp at hx
            rcases hx with rfl | rfl <;> simp
        · have := hg1.set (o := .box (.struct [i64 assoc, v])) (B3_b4 n2.symm)
          rw [B3_set4 n2.symm] at this
          exact (B3_le ne hb4 n1 n2 n3).trans this.HLe
    · obtain ⟨t2, r2, rfl, ht2⟩ := isNameT_cons hc
      simp only [namesM, ht2, if_true] at he1 he2
      simp
      refine gR_level_c6_lexF [b5] ?_
      simp [hb5s, hg.size]
      refine gp_name hbs (fun t' r' he _ => ?_) fun h => ?_
      · injection he with e1 e2
        subst e1 e2
        have hg1 := hg.set (o := .box (rdr r2 e)) (B3_bp ne n1.symm)
        rw [B3_set ne n1.symm] at hg1
        have ha : Agree [b5] Hs (Hs.set bp (.box (rdr r2 e))) := by
          intro x hx
          simp at hx
          subst hx
          rw [AHeap.set_ne _ _ n1]
        simp [ha]
        have hd : done.length ≤ 1000000 := by simp only [List.length_cons] at hl; omega
        refine hg1.app (by simp; omega) fun v' H' hg' => ?_
        have q5 := hg'.get B3_b5
        simp [q5, hg.size, hg'.size]
        refine loopK_same ⟨v', H'.set b5 (.box (.struct [i64 assoc, v'])), r2, done ++ [t2.text]⟩ ⟨?_, by simp at *; omega, ?_, he2⟩ (by simp) rfl rfl
        · have := hg'.set (o := .box (.struct [i64 assoc, v'])) B3_b5
          rw [B3_set5] at this
          simpa using this
        · rw [← he1]; simp
      · rw [hc] at h; cases h
  · simp only [h, Bool.false_eq_true, if_false, PRpost] at hp
    simp
    exact ⟨_, Bs_le ne hb4, hp l⟩
end Go.Av

namespace Go.Av
structure GA where
  body : GE
  price : Int
  deriving Inhabited
def GA.av (x : GA) : AV := .struct [x.body.av, i64 x.price]
@[simp] theorem GA.av_size (x : GA) : x.av.size = 4 := by simp [GA.av]
@[simp] theorem GA.av_agg (x : GA) : x.av.isAgg = true := rfl
@[simp] theorem GA.av_sto (x : GA) : x.av.sto = true := rfl
@[simp] theorem GL.av_size (x : GL) : x.av.size = 2 := rfl
@[simp] theorem GL.av_agg (x : GL) : x.av.isAgg = true := rfl
@[simp] theorem GL.av_sto (x : GL) : x.av.sto = true := rfl

def altM (e f : Nat) (l : List Tok) : PR GA := match itemsM e f l with
  | .error k => .error k
  | .ok (xs, l1) => if (peekT e l1).text == kwPrice then
      if (peekT e l1.tail).num < 0 then .error (peekT e l1.tail).at_ else .ok (⟨mkSeq 2 xs, (peekT e l1.tail).num⟩, l1.tail.tail)
    else .ok (⟨mkSeq 2 xs, 0⟩, l1)

theorem altM_len {e f : Nat} {l l' : List Tok} {x : GA} (h : altM e f l = .ok (x, l')) : l'.length ≤ l.length := by
  unfold altM at h
  split at h
  · cases h
  · rename_i xs l1 hi
    have := (readM_len e f l).1 _ _ hi
    split at h
    · split at h
      · cases h
      · injection h with h
        injection h with h1 h2
        subst h2
        simp; omega
    · injection h with h
      injection h with h1 h2
      subst h2; exact this

theorem gp_alternative {bp e f : Nat} {l : List Tok} {H : AHeap} {post : ARes → AHeap → Prop} (hb : H bp = some (.box (rdr l e))) (hl : l.length ≤ 1000000) (hf : 3 * l.length + 3 ≤ f)
    (hp : PRpost bp e H GA.av post (altM e f l)) : ACalls PP gR_al_id [.ptr bp 0 []] H post := by
  refine gR_al_enter rfl ?_
  simp [gR_al_rs, allocQ]
  intro b2 hb2
  have ne := ne_of_some_none hb hb2
  generalize hz : AV.struct [AV.struct [AV.int IntKind.i64 0, AV.str [], AV.nils], AV.int IntKind.i64 0] = z
  have hzs : z.size = 4 := by rw [← hz]; rfl
  rw [show H.set b2 (.box z) = Bs H bp b2 e z l from Bs_start hb]
  refine (readS e f bp l _ _ (Bs_bp ne) hl).1 hf ?_
  unfold altM at hp
  cases hi : itemsM e f l with
  | error k =>
    rw [hi] at hp
    simp only [mapM', PRpost]
    intro l''
    simp
    rw [Bs_set ne]
    exact ⟨_, Bs_le ne hb2, hp l''⟩
  | ok p =>
    obtain ⟨xs, l1⟩ := p
    rw [hi] at hp
    have hlen := (readM_len e f l).1 _ _ hi
    simp only [mapM', PRpost] at hp ⊢
    rw [Bs_set ne]
    generalize mkSeq 2 xs = x0 at hp ⊢
    simp [allocQ]
    intro b3 hb3
    obtain ⟨n1, n2, n3⟩ := Bs_none hb3 ne
    have hx : ∀ (y : AV) (l : List Tok), (Bs H bp b2 e z l).set b3 (.box y) = B3 H bp b2 b3 e z y l := fun _ _ => rfl
    rw [hx]
    refine ⟨hzs, ?_⟩
    refine (gp_peek (B3_bp ne n1.symm)).use ?_
    have fin : ∀ (n : Int) (l' : List Tok) (env : Env), (env = [(2, .ptr b2 0 []), (3, .ptr b3 0 [])] ∨ ∃ c, env = [(0, .ptr bp 0 []), (2, .ptr b2 0 []), (3, .ptr b3 0 []), (10, .bool c)]) → PRpost bp e H GA.av post (.ok (⟨x0, n⟩, l')) →
        aw PP gR_al_c14 (retK [.cell 2 true 4] post) env (B3 H bp b2 b3 e z (.struct [x0.av, i64 n]) l') := by
      intro n l' env he hpp
      rcases he with rfl | ⟨c, rfl⟩ <;>
      · simp [B3_b5, B3_b4 n2.symm, hzs]
        refine ⟨_, .refl _, _, ?_, hpp⟩
        rw [B3_set4 n2.symm]
        exact B3_le ne hb2 n1 n2 n3
    cases hc : (peekT e l1).text == [112, 114, 105, 99, 101]
    · have hc' : ((peekT e l1).text == kwPrice) = false := hc
      simp only [hc', Bool.false_eq_true, if_false] at hp
      simp at hc
      simp [Tok.av, hc, -gR_al_c14_eq]
      exact fin 0 l1 _ (.inr ⟨_, rfl⟩) hp
    · have hc' : ((peekT e l1).text == kwPrice) = true := hc
      cases l1 with
      | nil => simp at hc
      | cons t r =>
        simp only [hc', if_true, List.tail_cons] at hp
        simp at hc
        simp [Tok.av, hc, -gR_al_c14_eq]
        refine gp_next (B3_bp ne n1.symm) ?_
        rw [B3_set ne n1.symm]
        simp [-gR_al_c14_eq]
        refine (gp_peek (B3_bp ne n1.symm)).use ?_
        by_cases hneg : (peekT e r).num < 0
        · simp only [hneg, if_true] at hp
          simp [Tok.av, hneg, -gR_al_c14_eq]
          refine ⟨?_, fun h => by omega⟩
          refine gp_fail (B3_bp ne n1.symm) ?_
          simp
          exact ⟨_, B3_le ne hb2 n1 n2 n3, hp r⟩
        · simp only [hneg, if_false] at hp
          cases r with
          | nil => simp at hneg
          | cons t2 r2 =>
            simp at hneg hp
            simp [Tok.av, hneg, -gR_al_c14_eq]
            refine ⟨fun h => by omega, ?_⟩
            refine gp_next (B3_bp ne n1.symm) ?_
            rw [B3_set ne n1.symm]
            simp [Tok.av, B3_b5, -gR_al_c14_eq]
            rw [B3_set5]
            exact fin _ r2 _ (.inl rfl) hp
end Go.Av

namespace Go.Av
structure GR where
  name : List UInt8
  alts : List GA
  deriving Inhabited
def GR.av (x : GR) : AV := .struct [.str x.name, .list 4 (x.alts.map GA.av)]
@[simp] theorem GR.av_size (x : GR) : x.av.size = 2 := rfl
@[simp] theorem GR.av_agg (x : GR) : x.av.isAgg = true := rfl
@[simp] theorem GR.av_sto (x : GR) : x.av.sto = true := rfl

def moreM (e : Nat) : Nat → List Tok → PR (List GA)
  | 0, _ => .error (e + 1)
  | f + 1, l => if (peekT e l).text == [124] then
      match altM e f l.tail with
      | .error k => .error k
      | .ok (x, l1) => consM x (moreM e f l1)
    else .ok ([], l)

def ruleM (e f : Nat) (l : List Tok) : PR GR :=
  if isNameT (peekT e l) then
    match expM e [61] l.tail with
    | .error k => .error k
    | .ok l0 => match altM e f l0 with
      | .error k => .error k
      | .ok (a, l1) => match moreM e f l1 with
        | .error k => .error k
        | .ok (bs, l2) => match expM e [59] l2 with
          | .error k => .error k
          | .ok l3 => .ok (⟨(peekT e l).text, a :: bs⟩, l3)
  else .error (peekT e l).at_

theorem moreM_len (e : Nat) : ∀ (f : Nat) (l l' : List Tok) (x : List GA), moreM e f l = .ok (x, l') → l'.length ≤ l.length
  | 0, l, l', x, h => by simp [moreM] at h
  | f + 1, l, l', x, h => by
    simp only [moreM] at h
    split at h
    · split at h
      · cases h
      · rename_i y l1 hy
        obtain ⟨xs, h1, _⟩ := consM_ok h
        have := altM_len hy
        have := moreM_len e f _ _ _ h1
        simp at *; omega
    · injection h with h
      injection h with h1 h2
      subst h2; omega

theorem ruleM_len {e f : Nat} {l l' : List Tok} {x : GR} (h : ruleM e f l = .ok (x, l')) : l'.length < l.length := by
  unfold ruleM at h
  split at h
  · rename_i hn
    obtain ⟨t, r, rfl, _⟩ := isNameT_cons hn
    split at h
    · cases h
    · rename_i l0 h0
      obtain ⟨t0, e0, _⟩ := expM_ok h0
      split at h
      · cases h
      · rename_i a l1 h1
        have := altM_len h1
        split at h
        · cases h
        · rename_i bs l2 h2
          have := moreM_len e f _ _ _ h2
          split at h
          · cases h
          · rename_i l3 h3
            obtain ⟨t3, e3, _⟩ := expM_ok h3
            injection h with h
            injection h with q1 q2
            subst q2
            simp only [List.tail_cons] at e0
            subst e0 e3
            simp at *; omega
  · cases h

structure RlSt where
  v : AV
  H : AHeap
  l : List Tok
  done : List GA
  g : Nat

def rlI (H : AHeap) (bp b2 b3 e f : Nat) (z : AV) (nm : List UInt8) (l1 : List Tok) (a0 : GA) (n : Nat) (x : RlSt) : Prop :=
  Grows (B3 H bp b2 b3 e z (.struct [.str nm, x.v]) x.l) 38 4 ((a0 :: x.done).map GA.av) x.v x.H ∧ x.done.length + x.l.length ≤ n ∧ 3 * x.l.length + 1 ≤ x.g ∧ x.g ≤ f ∧ moreM e f l1 = prepM x.done (moreM e x.g x.l)
def rlE (bp b2 b3 : Nat) (x : RlSt) : Env := [(0, .ptr bp 0 []), (2, .ptr b2 0 []), (3, .ptr b3 0 [])]

theorem gp_rule {bp e f : Nat} {l : List Tok} {H : AHeap} {post : ARes → AHeap → Prop} (hb : H bp = some (.box (rdr l e))) (hl : l.length ≤ 1000000) (hf : 3 * l.length + 3 ≤ f)
    (hp : PRpost bp e H GR.av post (ruleM e f l)) : ACalls PP gR_rule_id [.ptr bp 0 []] H post := by
  refine gR_rule_enter rfl ?_
  simp [gR_rule_rs, allocQ]
  intro b2 hb2
  have ne := ne_of_some_none hb hb2
  generalize hz : AV.struct [AV.str [], AV.nils] = z
  have hzs : z.size = 2 := by rw [← hz]; rfl
  rw [show H.set b2 (.box z) = Bs H bp b2 e z l from Bs_start hb]
  unfold ruleM at hp
  refine gp_name (Bs_bp ne) (fun t r he hn => ?_) fun h => ?_
  · subst he
    rw [Bs_set ne]
    simp only [peekT_cons, hn, if_true, List.tail_cons] at hp
    simp only [List.length_cons] at hl hf
    simp [allocQ]
    intro b3 hb3
    obtain ⟨n1, n2, n3⟩ := Bs_none hb3 ne
    have hx : ∀ (y : AV) (l : List Tok), (Bs H bp b2 e z l).set b3 (.box y) = B3 H bp b2 b3 e z y l := fun _ _ => rfl
    rw [hx]
    refine ⟨hzs, ?_⟩
    refine gp_expM _ (by simp) (B3_bp ne n1.symm) ?_
    cases h0 : expM e [61] r with
    | error k =>
      rw [h0] at hp
      simp
      exact ⟨_, B3_le ne hb2 n1 n2 n3, hp r⟩
    | ok l0 =>
      obtain ⟨t0, e0, _⟩ := expM_ok h0
      subst e0
      simp only [List.length_cons] at hl hf
      rw [h0] at hp
      simp only at hp ⊢
      rw [B3_set ne n1.symm]
      simp
      intro b hb0
      have nb : bp ≠ b := ne_of_some_none (B3_bp (e := e) (l := l0) ne n1.symm) hb0
      have nb3 : b3 ≠ b := ne_of_some_none (B3_b5 (e := e) (l := l0) (z := z)) hb0
      have hg0 : Grows (B3 H bp b2 b3 e z (.struct [.str t.text, .nils]) l0) 38 4 [] (.own 4 [] b) ((B3 H bp b2 b3 e z (.struct [.str t.text, .nils]) l0).set b (.row 0 4 38)) := .inr ⟨b, hb0, rfl, rfl⟩
      refine gp_alternative (f := f) (hg0.get (B3_bp ne n1.symm)) (by omega) (by omega) ?_
      cases ha : altM e f l0 with
      | error k =>
        rw [ha] at hp
        intro l''
        simp
        refine ⟨_, ?_, hp l''⟩
        have := hg0.set (o := .box (rdr l'' e)) (B3_bp ne n1.symm)
        rw [B3_set ne n1.symm] at this
        exact (B3_le ne hb2 n1 n2 n3).trans this.HLe
      | ok p =>
        obtain ⟨a, l1⟩ := p
        have hlen := altM_len ha
        rw [ha] at hp
        simp only [PRpost] at hp ⊢
        have hg1 := hg0.set (o := .box (rdr l1 e)) (B3_bp ne n1.symm)
        rw [B3_set ne n1.symm] at hg1
        simp
        refine hg1.app (by simp) fun v' H' hg' => ?_
        have q3 := hg'.get (B3_b5)
        simp [q3, hg'.size]
        have hg2 := hg'.set (o := .box (.struct [.str t.text, v'])) B3_b5
        rw [B3_set5] at hg2
        refine aw_loopK (rlI H bp b2 b3 e f z t.text l1 a l1.length) (rlE bp b2 b3) (fun x => x.H) (fun x => x.l.length) ⟨v', H'.set b3 (.box (.struct [.str t.text, v'])), l1, [], f⟩
          ⟨by simpa using hg2, by simp, by simp only; omega, Nat.le_refl _, (prepM_nil _).symm⟩ rfl rfl ?_
        rintro ⟨v, Hs, l', done, g⟩ ⟨hg, hnn, hgf, hgl, he⟩
        simp only at hg hnn hgf hgl he
        obtain ⟨g, rfl⟩ : ∃ g', g = g' + 1 := ⟨g - 1, by omega⟩
        have hbs := hg.get (B3_bp ne n1.symm)
        have q3' := hg.get (B3_b5)
        have q2' := hg.get (B3_b4 n2.symm)
        simp only [rlE]
        simp
        refine (gp_peek hbs).use ?_
        cases hc : (peekT e l').text == [124]
        · simp only [moreM, hc, Bool.false_eq_true, if_false, prepM, List.append_nil] at he
          rw [he] at hp
          simp only at hp
          simp at hc
          simp [Tok.av, hc]
          refine gp_expM _ (by simp) hbs ?_
          cases h4 : expM e [59] l' with
          | error k =>
            rw [h4] at hp
            simp
            refine ⟨_, ?_, hp l'⟩
            exact (B3_le ne hb2 n1 n2 n3).trans hg.HLe
          | ok l3 =>
            rw [h4] at hp
            simp only [PRpost] at hp ⊢
            have hg1 := hg.set (o := .box (rdr l3 e)) (B3_bp ne n1.symm)
            rw [B3_set ne n1.symm] at hg1
            have q5 := hg1.get B3_b5
            have q4 := hg1.get (B3_b4 n2.symm)
            simp [q5, q4, hg.size, hzs]
            refine ⟨_, ?_, _, ?_, hp⟩
            · refine .struct rfl (fun j x y hx hy => ?_) (fun x hx => ?_)
              · match j with
                | 0 => simp at hx hy; subst hx hy; exact .refl _
                | 1 => simp at hx hy; subst hx hy; exact hg.sub
                | j + 2 => simp at hx
              · simp at hx
                rcases hx with rfl | rfl <;> simp
            · have := hg1.set (o := .box (.struct [.str t.text, v])) (B3_b4 n2.symm)
              rw [B3_set4 n2.symm] at this
              exact (B3_le ne hb2 n1 n2 n3).trans this.HLe
        · cases l' with
          | nil => simp at hc
          | cons t2 r2 =>
            simp only [moreM, hc, if_true, List.tail_cons] at he
            simp only [List.length_cons] at hnn hgf
            simp at hc
            simp [Tok.av, hc]
            refine gp_next hbs ?_
            have hg1 := hg.set (o := .box (rdr r2 e)) (B3_bp ne n1.symm)
            rw [B3_set ne n1.symm] at hg1
            generalize hHs1 : Hs.set bp (.box (rdr r2 e)) = Hs1 at *
            have q5 := hg1.get B3_b5
            simp
            refine gR_rule_c8_lexF [b3] ?_
            simp [q5, hg.size]
            refine gp_alternative (f := g) (hg1.get (B3_bp ne n1.symm)) (by omega) (by omega) ?_
            cases ha2 : altM e g r2 with
            | error k =>
              rw [ha2] at he
              simp only [prepM] at he
              rw [he] at hp
              intro l''
              simp
              refine ⟨_, ?_, hp l''⟩
              have hg2 := hg1.set (o := .box (rdr l'' e)) (B3_bp ne n1.symm)
              rw [B3_set ne n1.symm] at hg2
              exact (B3_le ne hb2 n1 n2 n3).trans hg2.HLe
            | ok p =>
              obtain ⟨y, l2⟩ := p
              have hlen2 := altM_len ha2
              rw [ha2] at he
              simp only [PRpost]
              have hg2 := hg1.set (o := .box (rdr l2 e)) (B3_bp ne n1.symm)
              rw [B3_set ne n1.symm] at hg2
              have hag : Agree [b3] Hs1 (Hs1.set bp (.box (rdr l2 e))) := by
                intro x hx
                simp at hx
                subst hx
                rw [AHeap.set_ne _ _ n1]
              simp [hag]
              refine hg2.app (by simp; omega) fun v' H' hg' => ?_
              have q6 := hg'.get B3_b5
              simp [q6, hg.size, hg'.size]
              refine loopK_same ⟨v', H'.set b3 (.box (.struct [.str t.text, v'])), l2, done ++ [y], g⟩ ⟨?_, by simp; omega, by simp only; omega, by simp only; omega, ?_⟩ (by simp only [List.length_cons]; omega) rfl rfl
              · have := hg'.set (o := .box (.struct [.str t.text, v'])) B3_b5
                rw [B3_set5] at this
                simpa using this
              · rw [he]
                simp only [prepM_cons]
  · simp only [h, Bool.false_eq_true, if_false, PRpost] at hp
    simp
    exact ⟨_, Bs_le ne hb2, hp l⟩
end Go.Av

namespace Go.Av

def assocOf (x : List UInt8) : Option Int := if x == kwLeft then some 1 else if x == kwRight then some 2 else if x == kwNone then some 3 else none
def levelsM (e : Nat) : Nat → List Tok → PR (List GL)
  | 0, _ => .error (e + 1)
  | f + 1, l => match assocOf (peekT e l).text with
    | none => .ok ([], l)
    | some a => match levelM e a l with
      | .error k => .error k
      | .ok (x, l1) => consM x (levelsM e f l1)

theorem namesM_len (e : Nat) : ∀ (l : List Tok), (namesM e l).2.length ≤ l.length
  | [] => by simp [namesM]
  | t :: r => by
    simp only [namesM]
    split
    · have := namesM_len e r
      simp; omega
    · simp

theorem levelM_len {e : Nat} {a : Int} {t : Tok} {l l' : List Tok} {x : GL} (h : levelM e a (t :: l) = .ok (x, l')) : l'.length < l.length := by
  by_cases hn : isNameT (peekT e l) = true
  · obtain ⟨t1, r, rfl, _⟩ := isNameT_cons hn
    simp only [levelM, List.tail_cons, hn, if_true] at h
    split at h
    · cases h
    · rename_i r' hr
      obtain ⟨t2, e2, _⟩ := expM_ok hr
      injection h with h
      injection h with q1 q2
      subst q2
      have := namesM_len e r
      rw [e2] at this
      simp at *; omega
  · have hn' : isNameT (peekT e l) = false := by simpa using hn
    simp only [levelM, List.tail_cons, hn', Bool.false_eq_true, if_false] at h
    cases h

theorem levelsM_len (e : Nat) : ∀ (f : Nat) (l l' : List Tok) (x : List GL), levelsM e f l = .ok (x, l') → l'.length ≤ l.length
  | 0, l, l', x, h => by simp [levelsM] at h
  | f + 1, l, l', x, h => by
    simp only [levelsM] at h
    split at h
    · injection h with h
      injection h with h1 h2
      subst h2; omega
    · rename_i a ha
      cases l with
      | nil => simp [assocOf, kwLeft, kwRight, kwNone] at ha
      | cons t r =>
        split at h
        · cases h
        · rename_i y l1 hy
          obtain ⟨xs, h1, _⟩ := consM_ok h
          have := levelM_len hy
          have := levelsM_len e f _ _ _ h1
          simp; omega

structure LsSt where
  v : AV
  H : AHeap
  l : List Tok
  done : List GL
  g : Nat

def lsI (H : AHeap) (bp e f : Nat) (l : List Tok) (x : LsSt) : Prop :=
  Grows (H.set bp (.box (rdr x.l e))) 51 2 (x.done.map GL.av) x.v x.H ∧ x.done.length + x.l.length ≤ l.length ∧ x.l.length < x.g ∧ levelsM e f l = prepM x.done (levelsM e x.g x.l)
def lsE (bp : Nat) (x : LsSt) : Env := [(0, .ptr bp 0 []), (3, x.v)]

theorem gp_levels {bp e f : Nat} {l : List Tok} {H : AHeap} {post : ARes → AHeap → Prop} (hb : H bp = some (.box (rdr l e))) (hl : l.length ≤ 1000000) (hf : l.length < f)
    (hp : PRpost bp e H (fun x => .list 2 (x.map GL.av)) post (levelsM e f l)) : ACalls PP gR_levels_id [.ptr bp 0 []] H post := by
  refine gR_levels_enter rfl ?_
  simp [gR_levels_rs]
  refine aw_loopK (lsI H bp e f l) (lsE bp) (fun x => x.H) (fun x => x.l.length) ⟨.nils, H, l, [], f⟩ ⟨by rw [set_self hb]; exact Grows.nil _ _ _, by simp, hf, (prepM_nil _).symm⟩ rfl rfl ?_
  rintro ⟨v, Hs, l', done, g⟩ ⟨hg, hnn, hgf, he⟩
  simp only at hg hnn hgf he
  obtain ⟨g, rfl⟩ : ∃ g', g = g' + 1 := ⟨g - 1, by omega⟩
  have hbs := hg.get (AHeap.set_same _ _ _)
  simp only [lsE]
  have lv : ∀ (a : Int) (K : AV → AHeap → Prop) (Kp : Value → AHeap → Prop), assocOf (peekT e l').text = some a →
      (∀ x l1, x.av.size = 2 → l1.length < l'.length → lsI H bp e f l ⟨v, Hs.set bp (.box (rdr l1 e)), l1, done, g⟩ ∨ True →
        Grows (H.set bp (.box (rdr l1 e))) 51 2 (done.map GL.av) v (Hs.set bp (.box (rdr l1 e))) → levelsM e f l = prepM (done ++ [x]) (levelsM e g l1) → K x.av (Hs.set bp (.box (rdr l1 e)))) →
      (∀ k l1, HLe (H.set bp (.box (rdr l1 e))) (Hs.set bp (.box (rdr l1 e))) → post (.pan (synErr k)) (H.set bp (.box (rdr l1 e))) → Kp (synErr k) (Hs.set bp (.box (rdr l1 e)))) →
      ACalls PP gR_level_id [.ptr bp 0 [], i64 a] Hs (callK K Kp) := by
    intro a K Kp ha hK hKp
    simp only [levelsM, ha] at he
    cases l' with
    | nil => simp [assocOf, kwLeft, kwRight, kwNone] at ha
    | cons t r =>
      refine gp_level a hbs (by simp at hnn; omega) ?_
      have hset : ∀ l1, Grows (H.set bp (.box (rdr l1 e))) 51 2 (done.map GL.av) v (Hs.set bp (.box (rdr l1 e))) := by
        intro l1
        have := hg.set (o := .box (rdr l1 e)) (AHeap.set_same _ _ _)
        rwa [AHeap.set_set] at this
      cases hlv : levelM e a (t :: r) with
      | error k =>
        rw [hlv] at he
        simp only [prepM] at he
        rw [he] at hp
        intro l1
        exact hKp k l1 (hset l1).HLe (hp l1)
      | ok p =>
        obtain ⟨x, l1⟩ := p
        rw [hlv] at he
        simp only [prepM_cons] at he
        have := levelM_len hlv
        exact hK x l1 rfl (by simp; omega) (.inr trivial) (hset l1) he
  cases h1 : (peekT e l').text == kwLeft
  · cases h2 : (peekT e l').text == kwRight
    · cases h3 : (peekT e l').text == kwNone
      · have hno : assocOf (peekT e l').text = none := by simp [assocOf, h1, h2, h3]
        simp only [levelsM, hno, prepM, List.append_nil] at he
        rw [he] at hp
        simp only [PRpost] at hp
        simp
        refine (gp_peek hbs).use ?_
        simp [kwLeft, kwRight, kwNone] at h1 h2 h3
        simp [Tok.av, h1, h2, h3, hg.size]
        exact ⟨_, hg.sub, _, hg.HLe, hp⟩
      · have ha : assocOf (peekT e l').text = some 3 := by simp [assocOf, h1, h2, h3]
        simp
        refine (gp_peek hbs).use ?_
        simp [kwLeft, kwRight, kwNone] at h1 h2 h3
        simp [Tok.av, h1, h2, h3, hg.size]
        refine lv 3 _ _ ha (fun x l1 _ hlt _ hg1 he1 => ?_) fun k l1 hle hpk => ?_
        · simp
          refine hg1.app (by simp; omega) fun v' H' hg' => ?_
          simp
          exact loopK_same ⟨v', H', l1, done ++ [x], g⟩ ⟨by simpa using hg', by simp; omega, by simp only; omega, he1⟩ hlt rfl rfl
        · simp
          exact ⟨_, hle, hpk⟩
    · have ha : assocOf (peekT e l').text = some 2 := by simp [assocOf, h1, h2]
      simp
      refine (gp_peek hbs).use ?_
      simp [kwLeft, kwRight] at h1 h2
      simp [Tok.av, h1, h2, hg.size]
      refine lv 2 _ _ ha (fun x l1 _ hlt _ hg1 he1 => ?_) fun k l1 hle hpk => ?_
      · simp
        refine hg1.app (by simp; omega) fun v' H' hg' => ?_
        simp
        exact loopK_same ⟨v', H', l1, done ++ [x], g⟩ ⟨by simpa using hg', by simp; omega, by simp only; omega, he1⟩ hlt rfl rfl
      · simp
        exact ⟨_, hle, hpk⟩
  · have ha : assocOf (peekT e l').text = some 1 := by simp [assocOf, h1]
    simp
    refine (gp_peek hbs).use ?_
    simp [kwLeft] at h1
    simp [Tok.av, h1, hg.size]
    refine lv 1 _ _ ha (fun x l1 _ hlt _ hg1 he1 => ?_) fun k l1 hle hpk => ?_
    · simp
      refine hg1.app (by simp; omega) fun v' H' hg' => ?_
      simp
      exact loopK_same ⟨v', H', l1, done ++ [x], g⟩ ⟨by simpa using hg', by simp; omega, by simp only; omega, he1⟩ hlt rfl rfl
    · simp
      exact ⟨_, hle, hpk⟩
end Go.Av
