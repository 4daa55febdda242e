/- Part of the proof: Dc. No condition. -/
import Derived.Test.YtidbbhdejopdgaaDb
set_option linter.unusedVariables false
set_option linter.unusedSimpArgs false
namespace Go.Av
/-- As 'BB', with a third variable. -/
def BBB (H : AHeap) (bp b2 b3 : Nat) (x z y : AV) : AHeap := (BB H bp b2 x z).set b3 (.box y)
section
variable {H : AHeap} {bp b2 b3 : Nat} {x x' z z' y y' : AV}
theorem BBB_bp (h : bp ≠ b2) (h3 : bp ≠ b3) : BBB H bp b2 b3 x z y bp = some (.box x) := by
  unfold BBB; rw [AHeap.set_ne _ _ h3]; exact BB_bp h
theorem BBB_b2 (h : b2 ≠ b3) : BBB H bp b2 b3 x z y b2 = some (.box z) := by
  unfold BBB; rw [AHeap.set_ne _ _ h]; exact BB_b2
theorem BBB_b3 : BBB H bp b2 b3 x z y b3 = some (.box y) := by unfold BBB; rw [AHeap.set_same]
theorem BBB_set (h : bp ≠ b2) (h3 : bp ≠ b3) : (BBB H bp b2 b3 x z y).set bp (.box x') = BBB H bp b2 b3 x' z y := by
  unfold BBB; rw [set_comm_heap (Ne.symm h3), BB_set h]
theorem BBB_set2 (h : b2 ≠ b3) : (BBB H bp b2 b3 x z y).set b2 (.box z') = BBB H bp b2 b3 x z' y := by
  unfold BBB; rw [set_comm_heap (Ne.symm h), BB_set2]
theorem BBB_set3 : (BBB H bp b2 b3 x z y).set b3 (.box y') = BBB H bp b2 b3 x z y' := by
  unfold BBB; rw [AHeap.set_set]
theorem BB_none {b : Nat} (h : BB H bp b2 x z b = none) : bp ≠ b2 → b ≠ bp ∧ b ≠ b2 ∧ H b = none := by
  intro hn
  have h1 : b ≠ bp := by rintro rfl; rw [BB_bp hn] at h; cases h
  have h2 : b ≠ b2 := by rintro rfl; rw [BB_b2] at h; cases h
  refine ⟨h1, h2, ?_⟩
  unfold BB at h
  rwa [AHeap.set_ne _ _ h2, AHeap.set_ne _ _ h1] at h
theorem BBB_le (h : bp ≠ b2) (hn : H b2 = none) (h1 : b3 ≠ bp) (h2 : b3 ≠ b2) (h3 : H b3 = none) : HLe (H.set bp (.box x)) (BBB H bp b2 b3 x z y) :=
  (BB_le h hn).trans (.set (by unfold BB; rw [AHeap.set_ne _ _ h2, AHeap.set_ne _ _ h1]; exact h3))
end

structure ItSt where
  x : GE
  l : List Tok
  bad : Bool
def itI (s : List UInt8) (f : Nat) (bad0 : Bool) (l0 : List Tok) (x : ItSt) : Prop :=
  Suf s x.l ∧ if x.bad then RRes s bad0 l0 (itemM s.length (f + 1) l0) x.x x.l true else bad0 = false ∧ itemM s.length (f + 1) l0 = .ok (sufM x.x x.l)

set_option maxHeartbeats 1000000 in
theorem r17_item {s : List UInt8} (hs : s.length ≤ 1000000) {f : Nat} (ih : ∀ g, g < f → RReads s g) {bp : Nat} {l : List Tok} {bad : Bool} {H : AHeap} {post : ARes → AHeap → Prop} (hb : H bp = some (.box (rp s l bad))) (hl : Suf s l) (hf : 3 * l.length + 2 ≤ f)
    (hp : ∀ x l' bad', RRes s bad l (itemM s.length f l) x l' bad' → post (.ret (GE.av x)) (H.set bp (.box (rp s l' bad')))) : ACalls PP ref17_parser_item_id [.ptr bp 0 []] H post := by
  have hll := suf_len hl
  obtain ⟨f, rfl⟩ : ∃ f', f = f' + 1 := ⟨f - 1, by omega⟩
  refine ref17_parser_item_enter rfl ?_
  simp [ref17_parser_item_rs, allocQ, -ref17_parser_item_c30_eq]
  intro b2 hb2
  have ne := ne_of_some_none hb hb2
  rw [BB_start hb]
  refine (ih f (by omega) bp l bad _ _ (BB_bp ne) hl).2.2 (by omega) fun x0 l1 b1 hr => ?_
  rw [BB_set ne]
  simp [allocQ, -ref17_parser_item_c30_eq]
  intro b3 hb3
  obtain ⟨n1, n2, n3⟩ := BB_none hb3 ne
  have hfin : ∀ y z' l' bd, HLe (H.set bp (.box (rp s l' bd))) (BBB H bp b2 b3 (rp s l' bd) z' y) := fun y z' l' bd => BBB_le ne hb2 n1 n2 n3
  show aw PP ref17_parser_item_c30 _ _ (BBB H bp b2 b3 (rp s l1 b1) zGE x0.av)
  simp [-ref17_parser_item_c29_eq]
  refine aw_loopK (itI s f bad l) (fun _ => [(0, .ptr bp 0 []), (2, .ptr b2 0 []), (3, .ptr b3 0 [])]) (fun x => BBB H bp b2 b3 (rp s x.l x.bad) zGE x.x.av) (fun x => x.l.length) ⟨x0, l1, b1⟩ ?_ rfl rfl ?_
  · obtain ⟨hs1, hr⟩ := hr
    refine ⟨hs1, ?_⟩
    rw [itemM_eq]
    cases bad with
    | true => obtain ⟨rfl, rfl⟩ := hr; exact ⟨hs1, rfl, rfl⟩
    | false =>
      rcases hr with ⟨rfl, hr⟩ | ⟨rfl, hr⟩
      · simp [hr]
      · simp only [if_true, hr]
        exact ⟨hs1, .inr ⟨rfl, rfl⟩⟩
  have zs : zGE.size = 3 := rfl
  rintro ⟨x, l', bd⟩ ⟨hsuf, hi⟩
  simp only at hsuf hi
  have hbs := BBB_bp (H := H) (x := rp s l' bd) (z := zGE) (y := x.av) ne n1.symm
  have hbs' : (BBB H bp b2 b3 (rp s l' bd) zGE x.av) bp = some (.box (.struct [.str s, i64 (peekT s.length l').at_, i64 (peekT s.length l').text.length, .bool bd])) := hbs
  cases bd with
  | true =>
    simp at hi
    simp [hbs', BBB_b3, BBB_b2 (Ne.symm n2), zs, BBB_set2 (Ne.symm n2)]
    have hp := hp _ _ _ hi
    exact ⟨_, .refl _, _, hfin _ _ _ _, hp⟩
  | false =>
    simp at hi
    obtain ⟨rfl, hi⟩ := hi
    simp [hbs', -ref17_parser_item_c20_eq]
    refine (r17_text hbs hs hsuf).use ?_
    have stop : sufM x l' = (x, l') → ∃ v' H', Sub x.av v' ∧ HLe H' (BBB H bp b2 b3 (rp s l' false) x.av x.av) ∧ post (.ret v') H' := by
      intro hq
      rw [hq] at hi
      exact ⟨_, _, .refl _, hfin _ _ _ _, hp x l' false ⟨hsuf, .inl ⟨rfl, hi⟩⟩⟩
    have step : ∀ (k : Int) (t : Tok) (r : List Tok), l' = t :: r → sufM x l' = sufM (.mk k [] [x]) r → loopK (itI s f false l) (fun _ => [(0, .ptr bp 0 []), (2, .ptr b2 0 []), (3, .ptr b3 0 [])]) (fun x => BBB H bp b2 b3 (rp s x.l x.bad) zGE x.x.av) (fun x => x.l.length) l'.length (blockK 0 (seqK PP ref17_parser_item_c29 (retK [.cell 2 true 3] post))) .norm
        [(0, .ptr bp 0 []), (2, .ptr b2 0 []), (3, .ptr b3 0 [])] (BBB H bp b2 b3 (rp s r false) zGE (.struct [i64 k, .str [], .list 3 [x.av]])) := by
      intro k t r e hq
      subst e
      rw [hq] at hi
      refine loopK_same ⟨.mk k [] [x], r, false⟩ ⟨suf_tail hsuf, ?_⟩ (by simp) rfl ?_
      · simp only [Bool.false_eq_true, if_false]; exact ⟨trivial, hi⟩
      · simp [GE.av_mk]
    cases l' with
    | nil =>
      obtain ⟨v', H', h1, h2, h3⟩ := stop rfl
      simp [BBB_b3, BBB_b2 (Ne.symm n2), zs, BBB_set2 (Ne.symm n2)]
      exact ⟨v', h1, H', h2, h3⟩
    | cons t r =>
      simp only [peekT_cons]
      by_cases c1 : t.text = [42]
      · simp [c1, BBB_b3, BBB_b2 (Ne.symm n2), zs, BBB_set3]
        refine r17_adv (BBB_bp ne n1.symm) hs hsuf ?_
        rw [BBB_set ne n1.symm]
        simp
        exact step 5 t r rfl (by simp [sufM, c1])
      · have b1 : (t.text == [42]) = false := by simpa using c1
        by_cases c2 : t.text = [43]
        · simp [c2, BBB_b3, BBB_b2 (Ne.symm n2), zs, BBB_set3]
          refine r17_adv (BBB_bp ne n1.symm) hs hsuf ?_
          rw [BBB_set ne n1.symm]
          simp
          exact step 6 t r rfl (by simp [sufM, c2])
        · have b2' : (t.text == [43]) = false := by simpa using c2
          by_cases c3 : t.text = [63]
          · simp [c3, BBB_b3, BBB_b2 (Ne.symm n2), zs, BBB_set3]
            refine r17_adv (BBB_bp ne n1.symm) hs hsuf ?_
            rw [BBB_set ne n1.symm]
            simp
            exact step 4 t r rfl (by simp [sufM, c3])
          · have b3' : (t.text == [63]) = false := by simpa using c3
            obtain ⟨v', H', h1, h2, h3⟩ := stop (by simp [sufM, c1, c2, c3])
            simp [b1, b2', b3', c1, c2, c3, BBB_b3, BBB_b2 (Ne.symm n2), zs, BBB_set2 (Ne.symm n2)]
            exact ⟨v', h1, H', h2, h3⟩
end Go.Av

namespace Go.Av
/-- A loop over alternatives: the first is read already. -/
def prI (s : List UInt8) (H : AHeap) (bp b2 f : Nat) (bad0 : Bool) (l0 : List Tok) (x0 : GE) (n : Nat) (x : RsSt GE) : Prop :=
  Grows (BB H bp b2 (rp s x.l x.bad) zGE) 47 3 ((x0 :: x.done).map GE.av) x.v x.H ∧ Suf s x.l ∧ (x.bad = false → x.done.length + x.l.length ≤ n ∧ 3 * x.l.length + 2 ≤ x.g ∧ x.g ≤ f) ∧
    LoopAt s bad0 l0 (altsM s.length f l0) (altsM s.length x.g x.l) x.l x.bad x.done

set_option maxHeartbeats 1000000 in
theorem r17_primary {s : List UInt8} (hs : s.length ≤ 1000000) {f : Nat} (ih : ∀ g, g < f → RReads s g) {bp : Nat} {l : List Tok} {bad : Bool} {H : AHeap} {post : ARes → AHeap → Prop} (hb : H bp = some (.box (rp s l bad))) (hl : Suf s l) (hf : 3 * l.length + 1 ≤ f)
    (hp : ∀ x l' bad', RRes s bad l (primM s.length f l) x l' bad' → post (.ret (GE.av x)) (H.set bp (.box (rp s l' bad')))) : ACalls PP ref17_parser_primary_id [.ptr bp 0 []] H post := by
  have hll := suf_len hl
  obtain ⟨f, rfl⟩ : ∃ f', f = f' + 1 := ⟨f - 1, by omega⟩
  refine ref17_parser_primary_enter rfl ?_
  simp [ref17_parser_primary_rs, allocQ, -ref17_parser_primary_c30_eq]
  intro b2 hb2
  have ne := ne_of_some_none hb hb2
  have zs : zGE.size = 3 := rfl
  rw [BB_start hb]
  refine (r17_is [40] (BB_bp ne) hs hl).use ?_
  show opK _ _ _ _ _ _ _ (BB H bp b2 (rp s l bad) zGE)
  cases hq : (!bad && (peekT s.length l).text == [40])
  · -- a name
    simp [-ref17_parser_primary_c30_eq]
    have hres : ∀ nm l' bd, RRes s bad l (primM s.length (f + 1) l) (.mk 1 nm []) l' bd → ∃ v' H', Sub (.struct [i64 1, .str nm, .nils]) v' ∧ HLe H' (BB H bp b2 (rp s l' bd) (.struct [i64 1, .str nm, .nils])) ∧ post (.ret v') H' := by
      intro nm l' bd hr
      refine ⟨_, _, sub_kids (k := 1) (n := nm) (l := []) (.nils 3), BB_le ne hb2, hp _ _ _ hr⟩
    refine r17_name (BB_bp ne) hs hl (fun hn => ?_) fun hn => ?_
    · rw [BB_set ne]
      have hb0 : bad = false := by cases bad; rfl; simp at hn
      subst hb0
      simp at hn
      obtain ⟨v', H', h1, h2, h3⟩ := hres (peekT s.length l).text l.tail false ⟨suf_tail hl, .inl ⟨rfl, by rw [primM_eq, if_pos hn]⟩⟩
      simp [BB_b2, zs, BB_set2]
      exact ⟨v', h1, H', h2, h3⟩
    · rw [BB_set ne]
      obtain ⟨v', H', h1, h2, h3⟩ := hres [] l true ⟨hl, by
        cases bad with
        | true => exact ⟨rfl, rfl⟩
        | false =>
          simp at hn hq
          refine .inr ⟨rfl, ?_⟩
          rw [primM_eq, if_neg (by simp [hn])]
          unfold expB
          cases l with
          | nil => rfl
          | cons t r =>
            simp at hq
            simp [expM, hq]⟩
      simp [BB_b2, zs, BB_set2]
      exact ⟨v', h1, H', h2, h3⟩
  · have hb0 : bad = false := by cases bad; rfl; simp at hq
    subst hb0
    simp at hq
    cases l with
    | nil => simp at hq
    | cons t r =>
      simp only [peekT_cons] at hq
      simp only [List.length_cons] at hf hll
      have hnn : isNameT t = false := by
        obtain ⟨_, ⟨c, x, hx, hw, _⟩⟩ := suf_good hl t (by simp)
        rw [hq] at hx
        injection hx with h1 h2
        subst h1
        rw [isNameT, hw]
        rfl
      have hprim : primM s.length (f + 1) (t :: r) = bindM (itemsM s.length f r) fun xs l1 => bindM (altsM s.length f l1) fun ys l2 => bindM (expB s.length [41] l2) fun _ l3 => .ok (mkSeq 3 (mkSeq 2 xs :: ys), l3) := by
        rw [primM_eq, if_neg (by simp [hnn])]
        simp [expB, expM, hq]
      have hsr : Suf s r := suf_tail hl
      simp [-ref17_parser_primary_c29_eq]
      refine r17_adv (BB_bp ne) hs hl ?_
      rw [BB_set ne]
      simp [-ref17_parser_primary_c28_eq]
      refine (ih f (by omega) bp r false _ _ (BB_bp ne) hsr).1 (by omega) fun x1 l1 b1 hr1 => ?_
      rw [BB_set ne]
      simp [-ref17_parser_primary_c27_eq]
      intro b hb0
      obtain ⟨hs1, hr1⟩ := hr1
      have hg0 : Grows (BB H bp b2 (rp s l1 b1) zGE) 47 3 [x1.av] (.own 3 [x1.av] b) ((BB H bp b2 (rp s l1 b1) zGE).set b (.row 1 3 47)) := .inr ⟨b, hb0, rfl, rfl⟩
      have hl1 : b1 = false → l1.length ≤ r.length := by
        intro hb1
        rcases hr1 with ⟨_, hr⟩ | ⟨h, _⟩
        · cases hi : itemsM s.length f r with
          | error k => rw [hi] at hr; cases hr
          | ok p =>
            obtain ⟨xs, l0⟩ := p
            rw [hi] at hr
            simp [mapM'] at hr
            have := (readM_len _ f r).1 _ _ hi
            rw [← hr.2]; exact this
        · rw [hb1] at h; cases h
      refine aw_loopK (prI s H bp b2 f b1 l1 x1 r.length) (rsE bp b2) (fun x => x.H) rsM ⟨.own 3 [x1.av] b, _, l1, b1, [], f⟩ ⟨hg0, hs1, fun h => ⟨by simpa using hl1 h, by have := hl1 h; simp only; omega, Nat.le_refl _⟩, ?_⟩ rfl rfl ?_
      · unfold LoopAt
        cases b1
        · exact (prepM_nil _).symm
        · exact ⟨rfl, rfl⟩
      rintro ⟨v, Hs, l', bd, done, g⟩ ⟨hg, hsuf, hn, he⟩
      simp only at hg hsuf hn he
      have hbs := hg.get (BB_bp ne)
      -- the end
      have fin : ∀ l'' bd'', RRes s false (t :: r) (primM s.length (f + 1) (t :: r)) (mkSeq 3 (x1 :: done)) l'' bd'' →
          aw PP ref17_parser_primary_c26 (retK [.cell 2 true 3] post) [(2, .ptr b2 0 []), (3, v)] (Hs.set bp (.box (rp s l'' bd''))) := by
        intro l'' bd'' hr
        have hp := hp _ _ _ hr
        have hg2 := hg.set (o := .box (rp s l'' bd'')) (BB_bp ne)
        rw [BB_set ne] at hg2
        have hb2s := hg2.get BB_b2
        obtain ⟨s0, hal, hs0⟩ := hg2.asList
        have hle : ∀ y, HLe (H.set bp (.box (rp s l'' bd''))) ((Hs.set bp (.box (rp s l'' bd''))).set b2 (.box y)) := by
          intro y
          have := hg2.set (o := .box y) BB_b2
          rw [BB_set2] at this
          exact (BB_le ne hb2).trans this.HLe
        have hsz := hg2.size
        have hsub := hg2.sub
        generalize Hs.set bp (.box (rp s l'' bd'')) = H5 at *
        cases done with
        | nil =>
          simp at hs0
          subst hs0
          simp [hal, hb2s, zs]
          exact fun _ => ⟨_, .refl _, _, hle _, hp⟩
        | cons y done =>
          have h1 : ¬ ((done.length : Int) + 1 + 1 = 1) := by omega
          have h1b : ((done.length : Int) + 1 + 1 == 1) = false := by rw [beq_eq_false_iff_ne]; omega
          simp only [List.map_cons] at hal
          simp [hal, hb2s, zs, hsz, h1, h1b]
          exact fun _ => ⟨_, sub_kids hsub, _, hle _, hp⟩
      -- the closing bracket
      have close : (∀ l'' bd'', (if !bd && (peekT s.length l').text == [41] then l'' = l'.tail ∧ bd'' = false else l'' = l' ∧ bd'' = true) → RRes s false (t :: r) (primM s.length (f + 1) (t :: r)) (mkSeq 3 (x1 :: done)) l'' bd'') →
          aw PP ref17_parser_primary_c27 (retK [.cell 2 true 3] post) [(0, .ptr bp 0 []), (2, .ptr b2 0 []), (3, v), (16, .bool false)] Hs := by
        intro hall
        simp [-ref17_parser_primary_c26_eq]
        refine r17_take [41] hbs hs hsuf ?_
        cases hc : (!bd && (peekT s.length l').text == [41])
        · simp [-ref17_parser_primary_c26_eq]
          exact fin l' true (hall l' true (by rw [hc]; exact ⟨rfl, rfl⟩))
        · simp [-ref17_parser_primary_c26_eq]
          have hbd : bd = false := by cases bd; rfl; simp at hc
          subst hbd
          exact fin l'.tail false (hall l'.tail false (by rw [hc]; exact ⟨rfl, rfl⟩))
      have items_ok : b1 = false → ∃ xs, itemsM s.length f r = .ok (xs, l1) ∧ x1 = mkSeq 2 xs := by
        intro hb1
        rcases hr1 with ⟨_, hr⟩ | ⟨h, _⟩
        · cases hi : itemsM s.length f r with
          | error k => rw [hi] at hr; cases hr
          | ok p =>
            obtain ⟨xs, l0⟩ := p
            rw [hi] at hr
            simp [mapM'] at hr
            exact ⟨xs, by rw [hr.2], hr.1.symm⟩
        · rw [hb1] at h; cases h
      have items_err : b1 = true → itemsM s.length f r = .error (peekT s.length l1).at_ := by
        intro hb1
        rcases hr1 with ⟨h, _⟩ | ⟨_, hr⟩
        · rw [hb1] at h; cases h
        · cases hi : itemsM s.length f r with
          | error k => rw [hi] at hr; simpa [mapM'] using hr
          | ok p => rw [hi] at hr; simp [mapM'] at hr
      cases bd with
      | true =>
        simp [rsE, -ref17_parser_primary_c27_eq]
        refine (r17_is [124] hbs hs hsuf).use ?_
        simp [-ref17_parser_primary_c27_eq]
        refine close fun l'' bd'' h => ?_
        simp at h
        obtain ⟨rfl, rfl⟩ := h
        refine ⟨hsuf, .inr ⟨rfl, ?_⟩⟩
        rw [hprim]
        cases b1 with
        | true =>
          simp [LoopAt] at he
          rw [items_err rfl, he]
          rfl
        | false =>
          simp [LoopAt] at he
          obtain ⟨xs, h1, h2⟩ := items_ok rfl
          rw [h1, bindM_ok, he]
          rfl
      | false =>
        have hb1 : b1 = false := by
          cases b1 with
          | false => rfl
          | true => simp [LoopAt] at he
        subst hb1
        obtain ⟨xs, hxs, hx1⟩ := items_ok rfl
        obtain ⟨m1, m2, m3⟩ := hn rfl
        obtain ⟨g, rfl⟩ : ∃ g', g = g' + 1 := ⟨g - 1, by omega⟩
        simp [LoopAt] at he
        rw [altsM_eq] at he
        have hrs : rsM ({ v := v, H := Hs, l := l', bad := false, done := done, g := g + 1 } : RsSt GE) = l'.length + 1 := rfl
        rw [hrs]
        simp [rsE, -ref17_parser_primary_c27_eq, -ref17_parser_primary_c13_eq]
        refine (r17_is [124] hbs hs hsuf).use ?_
        cases hc : (peekT s.length l').text == [124]
        · rw [if_neg (by simp [hc])] at he
          simp [-ref17_parser_primary_c27_eq, -ref17_parser_primary_c13_eq]
          refine close fun l'' bd'' h => ?_
          have hps : primM s.length (f + 1) (t :: r) = bindM (expB s.length [41] l') fun _ l3 => .ok (mkSeq 3 (x1 :: done), l3) := by
            rw [hprim, hxs, bindM_ok, he, ← hx1]
            simp [prepM]
          unfold RRes
          rw [hps]
          cases l' with
          | nil =>
            simp at h
            obtain ⟨rfl, rfl⟩ := h
            exact ⟨hsuf, .inr ⟨rfl, rfl⟩⟩
          | cons t2 r2 =>
            simp only [expB, expM]
            cases h41 : t2.text == [41]
            · simp [h41] at h
              obtain ⟨rfl, rfl⟩ := h
              exact ⟨hsuf, .inr ⟨rfl, by simp [h41]⟩⟩
            · simp [h41] at h
              obtain ⟨rfl, rfl⟩ := h
              exact ⟨suf_tail hsuf, .inl ⟨rfl, by simp [h41]⟩⟩
        · rw [if_pos (by simp [hc])] at he
          simp [-ref17_parser_primary_c27_eq, -ref17_parser_primary_c13_eq]
          cases l' with
          | nil => simp at hc
          | cons t2 r2 =>
            simp only [List.length_cons] at m1 m2
            simp only [List.tail_cons] at he
            simp
            refine r17_adv hbs hs hsuf ?_
            have hg2 := hg.set (o := .box (rp s r2 false)) (BB_bp ne)
            rw [BB_set ne] at hg2
            have hs2 : Suf s r2 := suf_tail hsuf
            simp
            refine (ih g (by omega) bp r2 false _ _ (hg2.get (BB_bp ne)) hs2).1 (by omega) fun x l3 b3 hr => ?_
            have hg3 := hg2.set (o := .box (rp s l3 b3)) (BB_bp ne)
            rw [BB_set ne, AHeap.set_set] at hg3
            obtain ⟨hs3, hr⟩ := hr
            simp
            refine hg3.app ?_ fun v' H' hg' => ?_
            · simp
              omega
            simp
            rcases hr with ⟨rfl, hr⟩ | ⟨rfl, hr⟩
            · cases hi : itemsM s.length g r2 with
              | error k => rw [hi] at hr; cases hr
              | ok p =>
                obtain ⟨ys, l0⟩ := p
                rw [hi] at hr he
                simp [mapM'] at hr
                obtain ⟨rfl, rfl⟩ := hr
                have hlen := (readM_len _ g r2).1 _ _ hi
                refine loopK_same ⟨v', H', l0, false, done ++ [mkSeq 2 ys], g⟩ ⟨by simpa using hg', hs3, fun _ => ⟨by simp; omega, by simp only; omega, by simp only; omega⟩, ?_⟩ (by simp [rsM]; omega) rfl rfl
                simp [LoopAt]
                rw [he, bindM_ok, ← consM_bind, prepM_cons]
            · have hi : itemsM s.length g r2 = .error (peekT s.length l3).at_ := by
                cases hi : itemsM s.length g r2 with
                | error k => rw [hi] at hr; simpa [mapM'] using hr
                | ok p => rw [hi] at hr; simp [mapM'] at hr
              rw [hi] at he
              refine loopK_same ⟨v', H', l3, true, done ++ [x], g⟩ ⟨by simpa using hg', hs3, fun h => (by cases h), ?_⟩ (by simp [rsM]) rfl rfl
              simp [LoopAt]
              rw [he]
              rfl

theorem rReads {s : List UInt8} (hs : s.length ≤ 1000000) : ∀ f, RReads s f := by
  intro f
  induction f using Nat.strongRecOn with
  | ind f ih =>
    intro bp l bad H post hb hl
    exact ⟨fun hf hp => r17_items hs ih hb hl hf hp, fun hf hp => r17_item hs ih hb hl hf hp, fun hf hp => r17_primary hs ih hb hl hf hp⟩
end Go.Av
