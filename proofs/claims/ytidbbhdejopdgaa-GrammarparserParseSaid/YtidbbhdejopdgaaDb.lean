/- Part of the proof: Db. No condition. -/
import Derived.Test.YtidbbhdejopdgaaDa
import Derived.Test.YtidbbhdejopdgaaPL6
set_option linter.unusedVariables false
set_option linter.unusedSimpArgs false
namespace Go.Av
theorem suf_good {s : List UInt8} {l : List Tok} (h : Suf s l) : ∀ t ∈ l, Good t.text ∧ TokOK t := by
  obtain ⟨k, _, rfl⟩ := h
  intro t ht
  exact ⟨(lexL_good _ _ _ t ht).1, (lexL_good _ _ _ t ht).2.1⟩

theorem good_digits {x : List UInt8} {c : UInt8} {r : List UInt8} (h : Good x) (hx : x = c :: r) (hd : isDigit c = true) : ∀ y ∈ x, isDigit y = true := by
  obtain ⟨c', r', e, _, _, h3⟩ := h
  rw [hx] at e
  injection e with e1 e2
  subst e1 e2
  have hl : isLetter c = false := by
    cases hl : isLetter c with
    | false => rfl
    | true => rw [letter_not_digit hl] at hd; cases hd
  rw [hl, hd] at h3
  simp at h3
  intro y hy
  rw [hx] at hy
  rcases List.mem_cons.1 hy with rfl | hy
  · exact hd
  · exact h3 y hy

section
variable {bp : Nat} {s : List UInt8} {l : List Tok} {bad : Bool} {H : AHeap} {post : ARes → AHeap → Prop}
theorem r17_number (hb : H bp = some (.box (rp s l bad))) (hs : s.length ≤ 1000000) (hl : Suf s l)
    (hok : bad = false → 0 ≤ (peekT s.length l).num → post (.ret (i64 (peekT s.length l).num)) (H.set bp (.box (rp s l.tail bad))))
    (hno : bad = true ∨ (peekT s.length l).num < 0 → post (.ret (i64 0)) (H.set bp (.box (rp s l true)))) : ACalls PP ref17_parser_number_id [.ptr bp 0 []] H post := by
  have hml := maxLen_eq
  refine ref17_parser_number_enter rfl ?_
  simp [ref17_parser_number_rs]
  refine (r17_text hb hs hl).use ?_
  cases bad
  · cases l with
    | nil =>
      simp [hb, rp, rpS]
      exact ⟨_, .refl _, _, .refl _, hno (.inr (by simp))⟩
    | cons t r =>
      obtain ⟨hgood, c, x, hx, hw, hn⟩ := suf_good hl t (by simp)
      simp only [peekT_cons, List.tail_cons] at hok hno ⊢
      have hbox : H bp = some (.box (.struct [.str s, i64 t.at_, i64 t.text.length, .bool false])) := hb
      simp [hbox, hx]
      refine (r17_digit c H).use ?_
      cases hd : isDigit c
      · rw [hd] at hn
        simp at hn
        simp [hbox]
        refine ⟨_, .refl _, _, .refl _, ?_⟩
        have := hno (.inr (by rw [hn]; decide))
        simpa [rp, rpS, hx] using this
      · rw [hd] at hn
        simp at hn
        have hdig := good_digits hgood hx hd
        have hnb := numVal_bound t.text hdig
        have hlen : t.text.length ≤ 1000000 := by have := (suf_cons hl).2.1; omega
        simp
        rw [← hx]
        generalize hst : t.text = st at *
        refine aw_loopK (fun x : Nat => x ≤ st.length) (fun x => [(0, .ptr bp 0 []), (3, .str st), (4, i64 (numVal (st.take x))), (5, i64 x)]) (fun _ => H) (fun x => st.length - x) 0 (by simp) rfl rfl ?_
        intro x hx
        by_cases h : x < st.length
        · have hc : st[x]? = some st[x] := List.getElem?_eq_getElem h
          have hd := (isDigit_iff st[x]).1 (hdig _ (List.getElem_mem h))
          have hb := numVal_bound (st.take x) fun c hc => hdig c (List.mem_of_mem_take hc)
          have ht : st.take (x + 1) = st.take x ++ [st[x]] := by rw [List.take_add_one, hc]; rfl
          have h' : ¬ st.length ≤ x := by omega
          simp [h, h', hc]
          intro _
          have e1 : IntKind.i64.wrap (10 * numVal (st.take x)) = 10 * numVal (st.take x) := wrap64 (by omega) (by omega)
          have e2 : IntKind.u8.wrap ((st[x].toNat : Int) - 48) = (st[x].toNat : Int) - 48 := wrap8 (by omega) (by omega)
          have e3 : IntKind.i64.wrap ((st[x].toNat : Int) - 48) = (st[x].toNat : Int) - 48 := wrap64 (by omega) (by omega)
          have e4 : IntKind.i64.wrap (10 * numVal (st.take x) + ((st[x].toNat : Int) - 48)) = 10 * numVal (st.take x) + ((st[x].toNat : Int) - 48) := wrap64 (by omega) (by omega)
          have e5 : IntKind.i64.wrap ((x : Int) + 1) = (x : Int) + 1 := wrap64 (by omega) (by omega)
          rw [e1, e2, e3, e4, e5]
          refine loopK_same (x + 1) (by omega) (by omega) ?_ rfl
          rw [ht, numVal_snoc]
          simp
          rw [Int.min_def]
          split <;> split <;> first | rfl | omega
        · have hxe : x = st.length := by omega
          subst hxe
          simp
          intro _
          refine r17_adv hb hs hl ?_
          simp
          have := hok trivial (by rw [hn]; exact hnb.1)
          rw [hn] at this
          exact ⟨_, .refl _, _, .refl _, this⟩
  · simp [hb, rp, rpS]
    exact ⟨_, .refl _, _, .refl _, hno (.inl rfl)⟩
end
end Go.Av

namespace Go.Av
/-- The heap H, where one variable holds x and another z. -/
def BB (H : AHeap) (bp b2 : Nat) (x z : AV) : AHeap := (H.set bp (.box x)).set b2 (.box z)
section
variable {H : AHeap} {bp b2 : Nat} {x x' z z' : AV}
theorem BB_bp (h : bp ≠ b2) : BB H bp b2 x z bp = some (.box x) := by simp [BB, AHeap.set_ne, h]
theorem BB_b2 : BB H bp b2 x z b2 = some (.box z) := by simp [BB]
theorem BB_set (h : bp ≠ b2) : (BB H bp b2 x z).set bp (.box x') = BB H bp b2 x' z := by
  unfold BB
  rw [set_comm_heap (Ne.symm h), AHeap.set_set]
theorem BB_set2 : (BB H bp b2 x z).set b2 (.box z') = BB H bp b2 x z' := by
  unfold BB
  rw [AHeap.set_set]
theorem BB_le (h : bp ≠ b2) (hn : H b2 = none) : HLe (H.set bp (.box x)) (BB H bp b2 x z) := .set (by rw [AHeap.set_ne _ _ (Ne.symm h)]; exact hn)
theorem BB_start (h : H bp = some (.box x)) : H.set b2 (.box z) = BB H bp b2 x z := by
  unfold BB
  rw [set_self h]
end

/-- How the reference's reading answers the program's. -/
def RRes {α : Type} (s : List UInt8) (bad : Bool) (l : List Tok) (r : PR α) (x : α) (l' : List Tok) (bad' : Bool) : Prop :=
  Suf s l' ∧ match bad with
    | true => bad' = true ∧ l' = l
    | false => (bad' = false ∧ r = .ok (x, l')) ∨ (bad' = true ∧ r = .error (peekT s.length l').at_)

theorem suf_len {s : List UInt8} {l : List Tok} (h : Suf s l) : l.length ≤ s.length := by
  obtain ⟨k, hk, rfl⟩ := h
  have := lexL_len (s.length - k + 1) k (s.drop k)
  rw [List.length_drop] at this
  unfold lexF
  omega

def RReads (s : List UInt8) (f : Nat) : Prop := ∀ (bp : Nat) (l : List Tok) (bad : Bool) (H : AHeap) (post : ARes → AHeap → Prop), H bp = some (.box (rp s l bad)) → Suf s l →
  (3 * l.length + 3 ≤ f → (∀ x l' bad', RRes s bad l (mapM' (mkSeq 2) (itemsM s.length f l)) x l' bad' → post (.ret (GE.av x)) (H.set bp (.box (rp s l' bad')))) → ACalls PP ref17_parser_items_id [.ptr bp 0 []] H post) ∧
  (3 * l.length + 2 ≤ f → (∀ x l' bad', RRes s bad l (itemM s.length f l) x l' bad' → post (.ret (GE.av x)) (H.set bp (.box (rp s l' bad')))) → ACalls PP ref17_parser_item_id [.ptr bp 0 []] H post) ∧
  (3 * l.length + 1 ≤ f → (∀ x l' bad', RRes s bad l (primM s.length f l) x l' bad' → post (.ret (GE.av x)) (H.set bp (.box (rp s l' bad')))) → ACalls PP ref17_parser_primary_id [.ptr bp 0 []] H post)

structure RsSt (α : Type) where
  v : AV
  H : AHeap
  l : List Tok
  bad : Bool
  done : List α
  g : Nat

/-- Where a loop of the reference stands against the program's reading. -/
def LoopAt {α : Type} (s : List UInt8) (bad0 : Bool) (l0 : List Tok) (whole : PR (List α)) (rest : PR (List α)) (l : List Tok) (bad : Bool) (done : List α) : Prop :=
  if bad0 then bad = true ∧ l = l0 else if bad then whole = .error (peekT s.length l).at_ else whole = prepM done rest

def rsI (s : List UInt8) (H : AHeap) (bp b2 f : Nat) (bad0 : Bool) (l0 : List Tok) (x : RsSt GE) : Prop :=
  Grows (BB H bp b2 (rp s x.l x.bad) zGE) 47 3 (x.done.map GE.av) x.v x.H ∧ Suf s x.l ∧ (x.bad = false → x.done.length + x.l.length ≤ l0.length ∧ 3 * x.l.length + 3 ≤ x.g ∧ x.g ≤ f) ∧
    LoopAt s bad0 l0 (itemsM s.length f l0) (itemsM s.length x.g x.l) x.l x.bad x.done
def rsE (bp b2 : Nat) (x : RsSt GE) : Env := [(0, .ptr bp 0 []), (2, .ptr b2 0 []), (3, x.v)]
def rsM {α : Type} (x : RsSt α) : Nat := if x.bad then 0 else x.l.length + 1

theorem r17_items {s : List UInt8} (hs : s.length ≤ 1000000) {f : Nat} (ih : ∀ g, g < f → RReads s g) {bp : Nat} {l : List Tok} {bad : Bool} {H : AHeap} {post : ARes → AHeap → Prop} (hb : H bp = some (.box (rp s l bad))) (hl : Suf s l) (hf : 3 * l.length + 3 ≤ f)
    (hp : ∀ x l' bad', RRes s bad l (mapM' (mkSeq 2) (itemsM s.length f l)) x l' bad' → post (.ret (GE.av x)) (H.set bp (.box (rp s l' bad')))) : ACalls PP ref17_parser_items_id [.ptr bp 0 []] H post := by
  have hll := suf_len hl
  refine ref17_parser_items_enter rfl ?_
  simp [ref17_parser_items_rs, allocQ, -ref17_parser_items_c17_eq]
  intro b2 hb2
  have ne := ne_of_some_none hb hb2
  rw [BB_start hb]
  refine aw_loopK (rsI s H bp b2 f bad l) (rsE bp b2) (fun x => x.H) rsM ⟨.nils, BB H bp b2 (rp s l bad) zGE, l, bad, [], f⟩ ⟨Grows.nil _ _ _, hl, fun _ => ⟨by simp, hf, Nat.le_refl _⟩, ?_⟩ rfl rfl ?_
  · unfold LoopAt
    cases bad
    · exact (prepM_nil _).symm
    · exact ⟨rfl, rfl⟩
  rintro ⟨v, Hs, l', bd, done, g⟩ ⟨hg, hsuf, hn, he⟩
  simp only at hg hsuf hn he
  have hbs := hg.get (BB_bp ne)
  -- the end
  have stop : RRes s bad l (mapM' (mkSeq 2) (itemsM s.length f l)) (mkSeq 2 done) l' bd →
      aw PP ref17_parser_items_c17 (retK [.cell 2 true 3] post) [(0, .ptr bp 0 []), (2, .ptr b2 0 []), (3, v), (16, .bool false)] Hs := by
    intro hr
    have hp := hp _ _ _ hr
    have hb2s := hg.get BB_b2
    obtain ⟨s0, hal, hs0⟩ := hg.asList
    have hle : ∀ y, HLe (H.set bp (.box (rp s l' bd))) (Hs.set b2 (.box y)) := by
      intro y
      have := hg.set (o := .box y) BB_b2
      rw [BB_set2] at this
      exact (BB_le ne hb2).trans this.HLe
    simp [hal, zGE]
    intro _
    match done, hal, hp, hs0, hg with
    | [x], hal, hp, hs0, hg =>
      simp at hs0
      subst hs0
      simp [hal, hb2s, zGE]
      exact ⟨_, .refl _, _, hle _, hp⟩
    | [], hal, hp, hs0, hg =>
      simp [hal, hb2s, zGE, hg.size]
      exact ⟨_, sub_kids hg.sub, _, hle _, hp⟩
    | x :: y :: r, hal, hp, hs0, hg =>
      have h1 : ((r.length : Int) + 1 + 1 == 1) = false := by rw [beq_eq_false_iff_ne]; omega
      simp only [List.map_cons] at hal
      simp [hal, hb2s, zGE, hg.size, h1]
      refine ⟨fun h => by omega, fun _ => ?_⟩
      exact ⟨_, sub_kids hg.sub, _, hle _, hp⟩
  have hbs' : Hs bp = some (.box (.struct [.str s, i64 (peekT s.length l').at_, i64 (peekT s.length l').text.length, .bool bd])) := hbs
  cases bd with
  | true =>
    simp [rsE, hbs', -ref17_parser_items_c17_eq]
    refine stop ⟨hsuf, ?_⟩
    unfold LoopAt at he
    cases bad with
    | true => simpa using he
    | false =>
      simp at he
      exact .inr ⟨rfl, by rw [he]; rfl⟩
  | false =>
    have hb0 : bad = false := by
      cases bad with
      | false => rfl
      | true => simp [LoopAt] at he
    subst hb0
    obtain ⟨n1, n2, n3⟩ := hn rfl
    obtain ⟨g, rfl⟩ : ∃ g', g = g' + 1 := ⟨g - 1, by omega⟩
    simp [LoopAt] at he
    rw [itemsM_eq] at he
    have round : (isNameT (peekT s.length l') || (peekT s.length l').text == [40]) = true →
        aw PP ref17_parser_items_c6 (loopK (rsI s H bp b2 f false l) (rsE bp b2) (fun x => x.H) rsM (l'.length + 1) (blockK 0 (seqK PP ref17_parser_items_c17 (retK [.cell 2 true 3] post)))) [(0, .ptr bp 0 []), (2, .ptr b2 0 []), (3, v), (16, .bool true)] Hs := by
      intro hc
      rw [if_pos hc] at he
      simp
      refine (ih g (by omega) bp l' false Hs _ hbs hsuf).2.1 (by omega) fun x l1 b1 hr => ?_
      have hg1 := hg.set (o := .box (rp s l1 b1)) (BB_bp ne)
      rw [BB_set ne] at hg1
      obtain ⟨hs1, hr⟩ := hr
      have hne : l' ≠ [] := by rintro rfl; simp [isNameT] at hc
      have hpos : 0 < l'.length := List.length_pos_iff.2 hne
      simp
      refine hg1.app (by simp; omega) fun v' H' hg' => ?_
      simp
      rcases hr with ⟨rfl, hr⟩ | ⟨rfl, hr⟩
      · have hlen := (readM_len _ g l').2.1 _ _ hr
        rw [hr] at he
        refine loopK_same ⟨v', H', l1, false, done ++ [x], g⟩ ⟨by simpa using hg', hs1, fun _ => ⟨by simp; omega, by simp only; omega, by simp only; omega⟩, ?_⟩ (by simp [rsM]; omega) rfl rfl
        simp [LoopAt]
        rw [he, bindM_ok, ← consM_bind, prepM_cons]
      · rw [hr] at he
        refine loopK_same ⟨v', H', l1, true, done ++ [x], g⟩ ⟨by simpa using hg', hs1, fun h => (by cases h), ?_⟩ (by simp [rsM]) rfl rfl
        simp [LoopAt]
        rw [he]
        rfl
    have stop' : (isNameT (peekT s.length l') || (peekT s.length l').text == [40]) = false → aw PP ref17_parser_items_c17 (retK [.cell 2 true 3] post) [(0, .ptr bp 0 []), (2, .ptr b2 0 []), (3, v), (16, .bool false)] Hs := by
      intro hc
      rw [if_neg (by simp only [hc]; decide)] at he
      refine stop ⟨hsuf, .inl ⟨rfl, ?_⟩⟩
      rw [he]
      simp [prepM, mapM']
    have hrs : rsM ({ v := v, H := Hs, l := l', bad := false, done := done, g := g + 1 } : RsSt GE) = l'.length + 1 := rfl
    rw [hrs]
    simp [rsE, hbs', -ref17_parser_items_c17_eq, -ref17_parser_items_c6_eq]
    refine (r17_isName hbs hs hsuf).use ?_
    cases h1 : isNameT (peekT s.length l')
    · simp [-ref17_parser_items_c17_eq, -ref17_parser_items_c6_eq]
      refine (r17_is [40] hbs hs hsuf).use ?_
      cases h2 : (peekT s.length l').text == [40]
      · simp [-ref17_parser_items_c17_eq, -ref17_parser_items_c6_eq]
        exact stop' (by simp only [h1, h2]; rfl)
      · simp [-ref17_parser_items_c17_eq, -ref17_parser_items_c6_eq]
        exact round (by simp only [h1, h2]; rfl)
    · simp [-ref17_parser_items_c17_eq, -ref17_parser_items_c6_eq]
      exact round (by simp only [h1]; rfl)
end Go.Av
