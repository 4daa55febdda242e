/- A file that was read from a short text is small. -/
import Derived.Test.YtondhmpdmbjmdaaDoorRT5
set_option linter.unusedVariables false
set_option linter.unusedSimpArgs false
namespace Go.Av

def szF (f : GF) : Nat := (f.levels.map fun x => 1 + x.tokens.length).sum + szR f.rules
theorem gfText_szF {f : GF} (hv : validM f = true) : (gfText f).length ≤ 40 + 1200 * szF f := by
  have V := validM_parts hv
  have h2 := levsText_len f.levels V.level
  have h3 := rulesText_len f.rules V.rule
  obtain ⟨_, _, _, _, _, _, h6⟩ := nameOK_parts V.start
  unfold gfText startText szF
  simp only [List.length_append, List.length_cons, List.length_nil]
  omega

theorem mkSeq_cnt (k : Int) (l : List GE) : cnt (mkSeq k l) ≤ 1 + cntL l := by
  match l with
  | [] => simp [mkSeq, cnt_mk, cntL_nil]
  | [x] => simp [mkSeq, cntL_cons, cntL_nil]
  | x :: y :: r => simp [mkSeq, cnt_mk]

theorem sufM_cnt : ∀ (l : List Tok) (x : GE), cnt (sufM x l).1 + 2 * (sufM x l).2.length ≤ cnt x + 2 * l.length
  | [], x => by simp [sufM]
  | t :: r, x => by
    simp only [sufM]
    have h := fun y => sufM_cnt r y
    have e : ∀ k, cnt (.mk k [] [x]) = 1 + cnt x := fun k => by rw [cnt_mk, cntL_cons, cntL_nil]; omega
    split
    · have := h (.mk 5 [] [x]); rw [e] at this; simp only [List.length_cons]; omega
    · split
      · have := h (.mk 6 [] [x]); rw [e] at this; simp only [List.length_cons]; omega
      · split
        · have := h (.mk 4 [] [x]); rw [e] at this; simp only [List.length_cons]; omega
        · simp

theorem readM_cnt (e : Nat) : ∀ (f : Nat) (l : List Tok),
    (∀ x l1, itemsM e f l = .ok (x, l1) → cntL x + 2 * l1.length ≤ 2 * l.length) ∧ (∀ x l1, itemM e f l = .ok (x, l1) → cnt x + 2 * l1.length ≤ 2 * l.length) ∧
    (∀ x l1, primM e f l = .ok (x, l1) → cnt x + 2 * l1.length ≤ 2 * l.length) ∧ (∀ x l1, altsM e f l = .ok (x, l1) → cntL x + 2 * l1.length ≤ 2 * l.length)
  | 0, l => by simp [itemsM, itemM, primM, altsM]
  | f + 1, l => by
    have ih := readM_cnt e f
    refine ⟨fun x l1 h => ?_, fun x l1 h => ?_, fun x l1 h => ?_, fun x l1 h => ?_⟩
    · simp only [itemsM] at h
      split at h
      · split at h
        · cases h
        · rename_i y l2 hy
          obtain ⟨xs, h1, rfl⟩ := consM_ok h
          have := (ih l).2.1 _ _ hy
          have := (ih l2).1 _ _ h1
          rw [cntL_cons]
          omega
      · injection h with h
        injection h with h1 h2
        subst h1 h2; rw [cntL_nil]; omega
    · simp only [itemM] at h
      split at h
      · cases h
      · rename_i y l2 hy
        injection h with h
        have := (ih l).2.2.1 _ _ hy
        have := sufM_cnt l2 y
        rw [h] at this
        simp only at this
        omega
    · simp only [primM] at h
      split at h
      · rename_i hn
        obtain ⟨t, r, rfl, _⟩ := isNameT_cons hn
        injection h with h
        injection h with h1 h2
        subst h1 h2
        rw [cnt_mk, cntL_nil]
        simp
        omega
      · split at h
        · cases h
        · rename_i l0 h0
          obtain ⟨t, rfl, _⟩ := expM_ok h0
          split at h
          · cases h
          · rename_i xs l2 hi
            have h1 := (ih l0).1 _ _ hi
            split at h
            · cases h
            · rename_i ys l3 ha
              have h2 := (ih l2).2.2.2 _ _ ha
              split at h
              · cases h
              · rename_i l4 h4
                obtain ⟨t', rfl, _⟩ := expM_ok h4
                injection h with h
                injection h with e1 e2
                subst e1 e2
                have c1 := mkSeq_cnt 3 (mkSeq 2 xs :: ys)
                have c2 := mkSeq_cnt 2 xs
                rw [cntL_cons] at c1
                simp only [List.length_cons] at h2 ⊢
                omega
    · simp only [altsM] at h
      split at h
      · rename_i ht
        split at h
        · cases h
        · rename_i xs l2 hi
          obtain ⟨ys, h1, rfl⟩ := consM_ok h
          have h2 := (ih l.tail).1 _ _ hi
          have h3 := (ih l2).2.2.2 _ _ h1
          have c2 := mkSeq_cnt 2 xs
          rw [cntL_cons]
          have hl : l.tail.length + 1 = l.length := by
            cases l with
            | nil => simp at ht
            | cons a l => simp
          omega
      · injection h with h
        injection h with h1 h2
        subst h1 h2; rw [cntL_nil]; omega

theorem altM_cnt {e f : Nat} {l l1 : List Tok} {x : GA} (h : altM e f l = .ok (x, l1)) : cnt x.body + 2 * l1.length ≤ 1 + 2 * l.length := by
  unfold altM at h
  split at h
  · cases h
  · rename_i xs l2 hi
    have h1 := (readM_cnt e f l).1 _ _ hi
    have c2 := mkSeq_cnt 2 xs
    split at h
    · split at h
      · cases h
      · injection h with h
        injection h with e1 e2
        subst e1 e2
        have : l2.tail.tail.length ≤ l2.length := by simp; omega
        simp only
        omega
    · injection h with h
      injection h with e1 e2
      subst e1 e2
      simp only
      omega

theorem szA_cons (x : GA) (l : List GA) : szA (x :: l) = 1 + cnt x.body + szA l := by simp [szA]
theorem szR_cons (x : GR) (l : List GR) : szR (x :: l) = 1 + szA x.alts + szR l := by simp [szR]

theorem moreM_cnt (e : Nat) : ∀ (f : Nat) (l l1 : List Tok) (x : List GA), moreM e f l = .ok (x, l1) → szA x + 2 * l1.length ≤ 2 * l.length
  | 0, l, l1, x, h => by simp [moreM] at h
  | f + 1, l, l1, x, h => by
    simp only [moreM] at h
    split at h
    · rename_i ht
      split at h
      · cases h
      · rename_i a l2 hi
        obtain ⟨ys, h1, rfl⟩ := consM_ok h
        have h2 := altM_cnt hi
        have h3 := moreM_cnt e f _ _ _ h1
        rw [szA_cons]
        have hl : l.tail.length + 1 = l.length := by
          cases l with
          | nil => simp at ht
          | cons a l => simp
        omega
    · injection h with h
      injection h with h1 h2
      subst h1 h2
      simp [szA]

theorem ruleM_cnt {e f : Nat} {l l1 : List Tok} {x : GR} (h : ruleM e f l = .ok (x, l1)) : 1 + szA x.alts + 2 * l1.length ≤ 2 * l.length := by
  unfold ruleM at h
  split at h
  · rename_i hn
    obtain ⟨t, r, rfl, _⟩ := isNameT_cons hn
    split at h
    · cases h
    · rename_i l0 h0
      obtain ⟨t1, e1, _⟩ := expM_ok h0
      simp only [List.tail_cons] at e1
      subst e1
      split at h
      · cases h
      · rename_i a l2 ha
        have h2 := altM_cnt ha
        split at h
        · cases h
        · rename_i bs l3 hb
          have h3 := moreM_cnt e f _ _ _ hb
          split at h
          · cases h
          · rename_i l4 h4
            obtain ⟨t2, rfl, _⟩ := expM_ok h4
            injection h with h
            injection h with e1 e2
            subst e1 e2
            rw [szA_cons]
            simp only [List.length_cons] at *
            omega
  · cases h

theorem rulesM_cnt (e F : Nat) : ∀ (g : Nat) (l l1 : List Tok) (x : List GR), rulesM e F g l = .ok (x, l1) → szR x + 2 * l1.length ≤ 2 * l.length
  | 0, l, l1, x, h => by simp [rulesM] at h
  | g + 1, [], l1, x, h => by
    simp only [rulesM] at h
    injection h with h
    injection h with h1 h2
    subst h1 h2
    simp [szR]
  | g + 1, t :: l, l1, x, h => by
    simp only [rulesM] at h
    split at h
    · cases h
    · rename_i r l2 hr
      obtain ⟨ys, h1, rfl⟩ := consM_ok h
      have h2 := ruleM_cnt hr
      have h3 := rulesM_cnt e F g _ _ _ h1
      rw [szR_cons]
      omega

theorem levelsM_cnt (e : Nat) : ∀ (f : Nat) (l l' : List Tok) (x : List GL), levelsM e f l = .ok (x, l') → (x.map fun y => 1 + y.tokens.length).sum + l'.length ≤ l.length
  | 0, l, l', x, h => by simp [levelsM] at h
  | f + 1, l, l', x, h => by
    simp only [levelsM] at h
    split at h
    · injection h with h
      injection h with h1 h2
      subst h1 h2; simp
    · rename_i a ha
      cases l with
      | nil => simp [assocOf, kwLeft, kwRight, kwNone] at ha
      | cons t r =>
        split at h
        · cases h
        · rename_i y l1 hy
          obtain ⟨xs, h1, e1⟩ := consM_ok h
          subst e1
          have := levelM_tok hy
          have := levelsM_cnt e f _ _ _ h1
          simp only [List.map_cons, List.sum_cons, List.length_cons] at *
          omega

theorem progM_cnt {e F : Nat} {l : List Tok} {f : GF} (h : progM e F l = .ok f) : szF f ≤ 2 * l.length := by
  unfold progM at h
  split at h
  · cases h
  · rename_i l1 h1
    obtain ⟨t1, rfl, _⟩ := expM_ok h1
    split at h
    · rename_i hn
      obtain ⟨t, r, rfl, _⟩ := isNameT_cons hn
      split at h
      · cases h
      · rename_i l2 h2
        obtain ⟨t2, e2, _⟩ := expM_ok h2
        simp only [List.tail_cons] at e2
        subst e2
        split at h
        · cases h
        · rename_i lv l3 h3
          split at h
          · cases h
          · rename_i rs l4 h4
            injection h with h
            subst h
            have k1 := levelsM_cnt _ _ _ _ _ h3
            have k2 := rulesM_cnt _ _ _ _ _ _ h4
            simp only [szF, List.length_cons]
            omega
    · cases h

/-- What a text that is read gives. -/
theorem parse_ok {s : List UInt8} (h : (parseM s).2.2 = 0) : validM (parseM s).1 = true ∧ szF (parseM s).1 ≤ 2 * s.length := by
  unfold parseM at h ⊢
  cases hp : progM s.length 3000003 (lex s) with
  | error k => rw [hp] at h; simp at h
  | ok f =>
    rw [hp] at h
    simp only at h ⊢
    have h2 := progM_cnt hp
    have h3 := lex_len s
    cases hv : validM f with
    | false => rw [hv] at h; simp at h
    | true => simp only [if_true]; exact ⟨hv, by omega⟩

theorem parse_again {s : List UInt8} (hs : s.length ≤ 300) (h : (parseM s).2.2 = 0) : (gfText (parseM s).1).length ≤ 1000000 ∧ parseM (gfText (parseM s).1) = ((parseM s).1, 0, 0) := by
  obtain ⟨h1, h2⟩ := parse_ok h
  have h3 := gfText_szF h1
  exact ⟨by omega, parse_format h1 (by omega)⟩
theorem szF_tokens (f : GF) : ∀ l ∈ f.levels, l.tokens.length ≤ szF f := by
  intro l hl
  have : ∀ (L : List GL) (x : GL), x ∈ L → x.tokens.length ≤ (L.map fun y => 1 + y.tokens.length).sum := by
    intro L
    induction L with
    | nil => intro x hx; cases hx
    | cons e L ih =>
      intro x hx
      simp only [List.map_cons, List.sum_cons]
      rcases List.mem_cons.1 hx with rfl | hx
      · omega
      · have := ih x hx; omega
  have := this _ _ hl
  unfold szF
  omega
theorem szF_flat (f : GF) : (f.levels.flatMap GL.tokens).length ≤ szF f := by
  have : ∀ (L : List GL), (L.flatMap GL.tokens).length ≤ (L.map fun y => 1 + y.tokens.length).sum := by
    intro L
    induction L with
    | nil => simp
    | cons e L ih => simp only [List.flatMap_cons, List.length_append, List.map_cons, List.sum_cons]; omega
  have := this f.levels
  unfold szF
  omega
end Go.Av
