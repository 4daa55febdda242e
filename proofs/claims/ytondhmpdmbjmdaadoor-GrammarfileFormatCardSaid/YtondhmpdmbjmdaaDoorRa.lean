/- The tokens of a text that is put together of pieces. -/
import Derived.Test.YtondhmpdmbjmdaaDoorPa
import Derived.Test.YtondhmpdmbjmdaaDoorFmt
set_option linter.unusedVariables false
set_option linter.unusedSimpArgs false
namespace Go.Av

/-- No byte of a word begins it. -/
def NW (r : List UInt8) : Prop := ∀ b t, r = b :: t → inWord b = false
theorem NW.nil : NW [] := fun _ _ h => by cases h
theorem NW.cons {b : UInt8} {r : List UInt8} (h : inWord b = false) : NW (b :: r) := fun _ _ e => by injection e with e; subst e; exact h

def Sym (p : List UInt8) : Prop := ∃ c, p = [c] ∧ isLetter c = false ∧ isDigit c = false
def isBl (p : List UInt8) : Bool := match p with
  | [b] => isBlank b
  | _ => false

/-- The pieces are blanks and tokens, and no token runs into what follows. -/
def Sepd : List (List UInt8) → List UInt8 → Prop
  | [], _ => True
  | p :: ps, r => (isBl p = true ∨ (Good p ∧ (Sym p ∨ NW (ps.flatten ++ r)))) ∧ Sepd ps r

theorem Sepd.app : ∀ {a b : List (List UInt8)} {r : List UInt8}, Sepd a (b.flatten ++ r) → Sepd b r → Sepd (a ++ b) r
  | [], b, r, _, h => h
  | p :: a, b, r, h1, h2 => by
    rw [List.cons_append]
    refine ⟨h1.1.imp id fun h => ⟨h.1, h.2.imp id fun h => ?_⟩, Sepd.app h1.2 h2⟩
    rw [List.flatten_append, List.append_assoc]
    exact h

theorem good_not_bl {p : List UInt8} (h : Good p) : isBl p = false := by
  obtain ⟨c, r, rfl, h1, _⟩ := h
  cases r with
  | nil => exact h1
  | cons a r => rfl

theorem inWord_digit {b : UInt8} (h : inWord b = false) : isDigit b = false := by
  simp only [inWord, Bool.or_eq_false_iff] at h
  exact h.1.2

theorem lexStep_good' {x : List UInt8} (hx : Good x) {rest : List UInt8} (hr : Sym x ∨ NW rest) (k : Nat) :
    ∃ c r, x = c :: r ∧ lexStep k c (x ++ rest) = (some (tokOf k x), x.length) := by
  have hw : NW rest → (rest = [] ∨ ∃ b r, rest = b :: r ∧ inWord b = false) := fun h => by
    cases rest with
    | nil => exact .inl rfl
    | cons b r => exact .inr ⟨b, r, rfl, h b r rfl⟩
  have hd : NW rest → (rest = [] ∨ ∃ b r, rest = b :: r ∧ isDigit b = false) := fun h => (hw h).imp id fun ⟨b, r, e, hb⟩ => ⟨b, r, e, inWord_digit hb⟩
  obtain ⟨c, r, rfl, h1, h2, h3⟩ := hx
  refine ⟨c, r, rfl, ?_⟩
  have h35 : (c == 35) = false := by simpa using h2
  rcases h3 with ⟨hl, ha⟩ | ⟨hl, hdg, ha⟩ | ⟨hl, hdg, rfl⟩
  · have hn : NW rest := by
      rcases hr with ⟨c', e, hl', _⟩ | h
      · injection e with e _
        subst e
        rw [hl] at hl'; cases hl'
      · exact h
    simp only [lexStep, h1, h35, hl, Bool.false_eq_true, if_false, if_true]
    rw [tw_all (c :: r) (by rw [List.all_cons, ha, show inWord c = true from by simp [inWord, hl]]; rfl) (hw hn)]
    simp [tokOf, hl, letter_not_digit hl]
  · have hn : NW rest := by
      rcases hr with ⟨c', e, _, hd'⟩ | h
      · injection e with e _
        subst e
        rw [hdg] at hd'; cases hd'
      · exact h
    simp only [lexStep, h1, h35, hl, hdg, Bool.false_eq_true, if_false, if_true]
    rw [tw_all (c :: r) (by rw [List.all_cons, ha, hdg]; rfl) (hd hn)]
    simp [tokOf, hl, hdg]
  · simp only [lexStep, h1, h35, hl, hdg, Bool.false_eq_true, if_false]
    simp [tokOf, hl, hdg]

theorem lexK_good' {x : List UInt8} (hx : Good x) {rest : List UInt8} (hr : Sym x ∨ NW rest) (k : Nat) :
    lexK k (x ++ rest) = tokOf k x :: lexK (k + x.length) rest := by
  obtain ⟨c, r, rfl, h⟩ := lexStep_good' hx hr k
  rw [List.cons_append] at h ⊢
  rw [lexK_cons, h]
  simp

theorem lexK_pieces : ∀ (ps : List (List UInt8)) (k : Nat), Sepd ps [] → (lexK k ps.flatten).map Tok.text = ps.filter fun p => !isBl p
  | [], k, _ => rfl
  | p :: ps, k, h => by
    obtain ⟨h1, h2⟩ := h
    rw [List.flatten_cons]
    rcases h1 with h1 | ⟨h1, h3⟩
    · obtain ⟨b, rfl, hb⟩ : ∃ b, p = [b] ∧ isBlank b = true := by
        match p, h1 with
        | [b], h1 => exact ⟨b, rfl, h1⟩
      rw [List.cons_append, List.nil_append, lexK_blank hb, lexK_pieces ps _ h2]
      simp [isBl, hb]
    · rw [List.append_nil] at h3
      rw [lexK_good' h1 h3, List.map_cons, lexK_pieces ps _ h2]
      simp [good_not_bl h1, tokOf]
end Go.Av

namespace Go.Av

abbrev Ts := List (List UInt8)
def enclP (b : Bool) (t : Ts) : Ts := if b then [40] :: (t ++ [[41]]) else t
def sepP (k : Int) (i : Nat) : Ts := if i = 0 then [] else if k = 2 then [[32]] else if k = 3 then [[32], [124], [32]] else []
def sepT (k : Int) (i : Nat) : Ts := if i = 0 then [] else if k = 3 then [[124]] else []
def sufP (k : Int) (n : List UInt8) : Ts := if k = 1 then [n] else if k = 4 then [[63]] else if k = 5 then [[42]] else if k = 6 then [[43]] else []

mutual
def pcE : GE → Ts
  | .mk k n l => pcL k 0 l ++ sufP k n
def pcL (k : Int) : Nat → List GE → Ts
  | _, [] => []
  | i, e :: l => sepP k i ++ enclP (reqOf k e) (pcE e) ++ pcL k (i + 1) l
end
mutual
def tkE : GE → Ts
  | .mk k n l => tkL k 0 l ++ sufP k n
def tkL (k : Int) : Nat → List GE → Ts
  | _, [] => []
  | i, e :: l => sepT k i ++ enclP (reqOf k e) (tkE e) ++ tkL k (i + 1) l
end
theorem pcE_mk (k : Int) (n : List UInt8) (l : List GE) : pcE (.mk k n l) = pcL k 0 l ++ sufP k n := by rw [pcE]
theorem pcL_cons (k : Int) (i : Nat) (e : GE) (l : List GE) : pcL k i (e :: l) = sepP k i ++ enclP (reqOf k e) (pcE e) ++ pcL k (i + 1) l := by rw [pcL]
theorem pcL_nil (k : Int) (i : Nat) : pcL k i [] = [] := by rw [pcL]
theorem tkE_mk (k : Int) (n : List UInt8) (l : List GE) : tkE (.mk k n l) = tkL k 0 l ++ sufP k n := by rw [tkE]
theorem tkL_cons (k : Int) (i : Nat) (e : GE) (l : List GE) : tkL k i (e :: l) = sepT k i ++ enclP (reqOf k e) (tkE e) ++ tkL k (i + 1) l := by rw [tkL]
theorem tkL_nil (k : Int) (i : Nat) : tkL k i [] = [] := by rw [tkL]

theorem enclP_flat (b : Bool) (t : Ts) : (enclP b t).flatten = encl b t.flatten := by
  cases b <;> simp [enclP, encl]
theorem sepP_flat (k : Int) (i : Nat) : (sepP k i).flatten = sepOf k i := by
  unfold sepP sepOf
  repeat' split
  all_goals rfl
theorem sufP_flat (k : Int) (n : List UInt8) : (sufP k n).flatten = sufOf k n := by
  unfold sufP sufOf
  repeat' split
  all_goals simp
mutual
theorem pcE_flat : ∀ (e : GE), (pcE e).flatten = fmtE e
  | .mk k n l => by rw [pcE_mk, fmtE_mk, List.flatten_append, pcL_flat k l 0, sufP_flat]
theorem pcL_flat (k : Int) : ∀ (l : List GE) (i : Nat), (pcL k i l).flatten = fmtL k i l
  | [], i => by rw [pcL_nil, fmtL_nil]; rfl
  | e :: l, i => by rw [pcL_cons, fmtL_cons, List.flatten_append, List.flatten_append, sepP_flat, enclP_flat, pcE_flat e, pcL_flat k l]
end

def nb (l : Ts) : Ts := l.filter fun p => !isBl p
@[simp] theorem nb_nil : nb [] = [] := rfl
theorem nb_append (a b : Ts) : nb (a ++ b) = nb a ++ nb b := by simp [nb]

theorem nameOK_parts {n : List UInt8} (h : nameOK n = true) : ∃ c r, n = c :: r ∧ isLetter c = true ∧ r.all inWord = true ∧ reserved n = false ∧ n.length ≤ 24 := by
  unfold nameOK at h
  simp only [Bool.and_eq_true, Bool.not_eq_true', decide_eq_true_eq] at h
  obtain ⟨⟨⟨⟨h1, h2⟩, h3⟩, h4⟩, h5⟩ := h
  cases n with
  | nil => simp at h1
  | cons c r =>
    rw [List.all_cons, Bool.and_eq_true] at h5
    exact ⟨c, r, rfl, h3, h5.2, h4, h2⟩

theorem letter_facts {c : UInt8} (h : isLetter c = true) : isBlank c = false ∧ c ≠ 35 := by
  have h1 := (isLetter_iff c).1 h
  refine ⟨?_, fun e => by subst e; have : ((35 : UInt8).toNat : Int) = 35 := rfl; omega⟩
  cases hb : isBlank c with
  | false => rfl
  | true => have := (isBlank_iff c).1 hb; omega

theorem good_word {c : UInt8} {r : List UInt8} (h : isLetter c = true) (hr : r.all inWord = true) : Good (c :: r) :=
  ⟨c, r, rfl, (letter_facts h).1, (letter_facts h).2, .inl ⟨h, hr⟩⟩
theorem good_name {n : List UInt8} (h : nameOK n = true) : Good n := by
  obtain ⟨c, r, rfl, h1, h2, _⟩ := nameOK_parts h
  exact good_word h1 h2

theorem exprOK_mk {d : Nat} {k : Int} {n : List UInt8} {l : List GE} (h : exprOK d (.mk k n l) = true) :
    ∃ d', d = d' + 1 ∧ (k = 1 ∨ n = []) ∧ kindOK k n l.length = true ∧ ∀ y ∈ l, exprOK d' y = true := by
  cases d with
  | zero => simp [exprOK] at h
  | succ d =>
    simp only [exprOK, Bool.and_eq_true, Bool.not_eq_true'] at h
    obtain ⟨⟨h1, h2⟩, h3⟩ := h
    refine ⟨d, rfl, ?_, h2, fun y hy => ?_⟩
    · by_cases hk : k = 1
      · exact .inl hk
      · right
        by_cases hn : n = []
        · exact hn
        · simp [hk, hn] at h1
    · cases hy' : exprOK d y with
      | true => rfl
      | false =>
        have : (l.any fun y => !exprOK d y) = true := List.any_eq_true.2 ⟨y, hy, by simp [hy']⟩
        rw [this] at h3; cases h3

theorem kindOK_cases {k : Int} {n : List UInt8} {m : Nat} (h : kindOK k n m = true) :
    (k = 1 ∧ nameOK n = true ∧ m = 0) ∨ (k = 2 ∧ m ≠ 1) ∨ (k = 3 ∧ 2 ≤ m) ∨ ((k = 4 ∨ k = 5 ∨ k = 6) ∧ m = 1) := by
  unfold kindOK at h
  split at h
  · rename_i h1
    simp only [Bool.and_eq_true, beq_iff_eq] at h h1
    exact .inl ⟨h1, h.1, h.2⟩
  · split at h
    · rename_i h1 h2
      simp at h h2
      exact .inr (.inl ⟨h2, h⟩)
    · split at h
      · rename_i h1 h2 h3
        simp at h h3
        exact .inr (.inr (.inl ⟨h3, h⟩))
      · split at h
        · rename_i h1 h2 h3 h4
          simp at h h4
          exact .inr (.inr (.inr ⟨by rcases h4 with (h4 | h4) | h4 <;> simp [h4], h⟩))
        · cases h

theorem sym_good {c : UInt8} (h1 : isBlank c = false) (h2 : c ≠ 35) (h3 : isLetter c = false) (h4 : isDigit c = false) : Good [c] ∧ Sym [c] :=
  ⟨⟨c, [], rfl, h1, h2, .inr (.inr ⟨h3, h4, rfl⟩)⟩, ⟨c, rfl, h3, h4⟩⟩

theorem sepd_sym {c : UInt8} {ps : Ts} {r : List UInt8} (h : Good [c] ∧ Sym [c]) (hs : Sepd ps r) : Sepd ([c] :: ps) r := ⟨.inr ⟨h.1, .inl h.2⟩, hs⟩
theorem sepd_bl {c : UInt8} {ps : Ts} {r : List UInt8} (h : isBlank c = true) (hs : Sepd ps r) : Sepd ([c] :: ps) r := ⟨.inl h, hs⟩
theorem sepd_word {n : List UInt8} {ps : Ts} {r : List UInt8} (h : Good n) (hn : NW (ps.flatten ++ r)) (hs : Sepd ps r) : Sepd (n :: ps) r := ⟨.inr ⟨h, .inr hn⟩, hs⟩

theorem g40 : Good [40] ∧ Sym [40] := sym_good (by decide) (by decide) (by decide) (by decide)
theorem g41 : Good [41] ∧ Sym [41] := sym_good (by decide) (by decide) (by decide) (by decide)
theorem g42 : Good [42] ∧ Sym [42] := sym_good (by decide) (by decide) (by decide) (by decide)
theorem g43 : Good [43] ∧ Sym [43] := sym_good (by decide) (by decide) (by decide) (by decide)
theorem g63 : Good [63] ∧ Sym [63] := sym_good (by decide) (by decide) (by decide) (by decide)
theorem g124 : Good [124] ∧ Sym [124] := sym_good (by decide) (by decide) (by decide) (by decide)
theorem g59 : Good [59] ∧ Sym [59] := sym_good (by decide) (by decide) (by decide) (by decide)
theorem g61 : Good [61] ∧ Sym [61] := sym_good (by decide) (by decide) (by decide) (by decide)

theorem sepd_encl {b : Bool} {t : Ts} {r : List UInt8} (hr : NW r) (h : ∀ r, NW r → Sepd t r) : Sepd (enclP b t) r := by
  cases b with
  | false => exact h r hr
  | true =>
    refine sepd_sym g40 ?_
    refine Sepd.app (h _ ?_) (sepd_sym g41 trivial)
    exact NW.cons (by decide)

theorem sepd_sep (k : Int) (i : Nat) (r : List UInt8) : Sepd (sepP k i) r := by
  unfold sepP
  split
  · exact trivial
  · split
    · exact sepd_bl (by decide) trivial
    · split
      · exact sepd_bl (by decide) (sepd_sym g124 (sepd_bl (by decide) trivial))
      · exact trivial

theorem nw_pcL {k : Int} {l : List GE} {i : Nat} {r : List UInt8} (hr : NW r) (hk : k = 2 ∨ k = 3 ∨ l = []) : NW ((pcL k (i + 1) l).flatten ++ r) := by
  cases l with
  | nil => rw [pcL_nil]; exact hr
  | cons e l =>
    rw [pcL_cons]
    rcases hk with rfl | rfl | h
    · exact NW.cons (b := 32) (by decide)
    · exact NW.cons (b := 32) (by decide)
    · cases h

theorem sepd_E : ∀ (n : Nat) (e : GE), SizeOf.sizeOf e ≤ n → ∀ (d : Nat), exprOK d e = true → ∀ (r : List UInt8), NW r → Sepd (pcE e) r
  | 0, .mk k nm l, h => by simp at h
  | n + 1, .mk k nm l, h => by
    intro d he r hr
    obtain ⟨d', rfl, hn, hk, hl⟩ := exprOK_mk he
    have hsub : ∀ x ∈ l, ∀ r, NW r → Sepd (pcE x) r := fun x hx r hr => sepd_E n x (by
      have := List.sizeOf_lt_of_mem hx
      simp at h
      omega) d' (hl x hx) r hr
    have hlist : ∀ (m : List GE) (i : Nat) (r : List UInt8), (∀ x ∈ m, x ∈ l) → NW r → (k = 2 ∨ k = 3 ∨ m.length ≤ 1) → Sepd (pcL k i m) r := by
      intro m
      induction m with
      | nil => intro i r _ _ _; rw [pcL_nil]; exact trivial
      | cons e m ih =>
        intro i r hm hr hk
        rw [pcL_cons]
        have hk' : k = 2 ∨ k = 3 ∨ m = [] := hk.imp id fun h => h.imp id fun h => by simpa using h
        have hk'' : k = 2 ∨ k = 3 ∨ m.length ≤ 1 := hk'.imp id fun h => h.imp id fun h => by simp [h]
        exact Sepd.app (Sepd.app (sepd_sep k i _) (sepd_encl (nw_pcL hr hk') (hsub e (hm e (by simp))))) (ih (i + 1) r (fun x hx => hm x (by simp [hx])) hr hk'')
    rw [pcE_mk]
    rcases kindOK_cases hk with ⟨rfl, h1, h2⟩ | ⟨rfl, h1⟩ | ⟨rfl, h1⟩ | ⟨h1, h2⟩
    · have : l = [] := by simpa using h2
      subst this
      rw [pcL_nil]
      exact sepd_word (good_name h1) (by simpa using hr) trivial
    · have : sufP 2 nm = [] := rfl
      rw [this, List.append_nil]
      exact hlist l 0 r (fun _ h => h) hr (.inl rfl)
    · have : sufP 3 nm = [] := rfl
      rw [this, List.append_nil]
      exact hlist l 0 r (fun _ h => h) hr (.inr (.inl rfl))
    · have hs : ∃ c, sufP k nm = [[c]] ∧ (Good [c] ∧ Sym [c]) ∧ inWord c = false := by
        rcases h1 with rfl | rfl | rfl
        · exact ⟨63, rfl, g63, by decide⟩
        · exact ⟨42, rfl, g42, by decide⟩
        · exact ⟨43, rfl, g43, by decide⟩
      obtain ⟨c, e1, e2, e3⟩ := hs
      rw [e1]
      exact Sepd.app (hlist l 0 _ (fun _ h => h) (NW.cons e3) (.inr (.inr (by omega)))) (sepd_sym e2 trivial)

theorem nb_encl (b : Bool) (t : Ts) : nb (enclP b t) = enclP b (nb t) := by
  cases b with
  | false => rfl
  | true =>
    show nb ([40] :: (t ++ [[41]])) = [40] :: (nb t ++ [[41]])
    have : nb ([40] :: (t ++ [[41]])) = [40] :: nb (t ++ [[41]]) := rfl
    rw [this, nb_append]; rfl
theorem nb_sep (k : Int) (i : Nat) : nb (sepP k i) = sepT k i := by
  unfold sepP sepT
  split
  · rfl
  · split
    · rename_i h; subst h; rfl
    · split <;> rfl

theorem nb_E : ∀ (n : Nat) (e : GE), SizeOf.sizeOf e ≤ n → ∀ (d : Nat), exprOK d e = true → nb (pcE e) = tkE e
  | 0, .mk k nm l, h => by simp at h
  | n + 1, .mk k nm l, h => by
    intro d he
    obtain ⟨d', rfl, hn, hk, hl⟩ := exprOK_mk he
    have hlist : ∀ (m : List GE) (i : Nat), (∀ x ∈ m, x ∈ l) → nb (pcL k i m) = tkL k i m := by
      intro m
      induction m with
      | nil => intro i _; rw [pcL_nil, tkL_nil]; rfl
      | cons e m ih =>
        intro i hm
        have he := nb_E n e (by
          have := List.sizeOf_lt_of_mem (hm e (by simp))
          simp at h
          omega) d' (hl e (hm e (by simp)))
        rw [pcL_cons, tkL_cons, nb_append, nb_append, nb_sep, nb_encl, he, ih (i + 1) fun x hx => hm x (by simp [hx])]
    rw [pcE_mk, tkE_mk, nb_append, hlist l 0 fun _ h => h]
    congr 1
    rcases kindOK_cases hk with ⟨rfl, h1, h2⟩ | ⟨rfl, h1⟩ | ⟨rfl, h1⟩ | ⟨rfl | rfl | rfl, h2⟩
    · have := good_not_bl (good_name h1)
      simp [nb, sufP, this]
    all_goals rfl

/-! ### Files -/
def kwPriceP : List UInt8 := kwPrice
def pcBody (x : GE) : Ts := if x.kind == 2 && x.kids.length == 0 then [] else [32] :: enclP (x.kind == 3) (pcE x)
def tkBody (x : GE) : Ts := if x.kind == 2 && x.kids.length == 0 then [] else enclP (x.kind == 3) (tkE x)
def pcPrice (p : Int) : Ts := if p = 0 then [] else [[32], kwPrice, [32], Lib.decDigits p.toNat]
def tkPrice (p : Int) : Ts := if p = 0 then [] else [kwPrice, Lib.decDigits p.toNat]
def pcAlt (x : GA) : Ts := pcBody x.body ++ pcPrice x.price
def tkAlt (x : GA) : Ts := tkBody x.body ++ tkPrice x.price
def pcAlts : Nat → List GA → Ts
  | _, [] => []
  | i, a :: l => (if i = 0 then [] else [[32], [124]]) ++ pcAlt a ++ pcAlts (i + 1) l
def tkAlts : Nat → List GA → Ts
  | _, [] => []
  | i, a :: l => (if i = 0 then [] else [[124]]) ++ tkAlt a ++ tkAlts (i + 1) l
def pcRule (r : GR) : Ts := [r.name, [32], [61]] ++ pcAlts 0 r.alts ++ [[59], [10]]
def tkRule (r : GR) : Ts := [r.name, [61]] ++ tkAlts 0 r.alts ++ [[59]]
def pcLev (l : GL) : Ts := [wordM l.assoc, [32]] ++ l.tokens.intersperse [32] ++ [[59], [10]]
def tkLev (l : GL) : Ts := [wordM l.assoc] ++ l.tokens ++ [[59]]
def pcF (f : GF) : Ts := [kwStart, [32], f.start, [59], [10]] ++ f.levels.flatMap pcLev ++ f.rules.flatMap pcRule
def tkF (f : GF) : Ts := [kwStart, f.start, [59]] ++ f.levels.flatMap tkLev ++ f.rules.flatMap tkRule

theorem flatMap_flat {α : Type} (g : α → Ts) (t : α → List UInt8) (h : ∀ a, (g a).flatten = t a) : ∀ l : List α, (l.flatMap g).flatten = l.flatMap t
  | [] => rfl
  | a :: l => by rw [List.flatMap_cons, List.flatMap_cons, List.flatten_append, h, flatMap_flat g t h l]

theorem pcBody_flat (x : GE) : (pcBody x).flatten = bodyText x := by
  unfold pcBody bodyText
  split
  · rfl
  · rw [List.flatten_cons, enclP_flat, pcE_flat]; rfl
theorem pcAlt_flat (x : GA) : (pcAlt x).flatten = altText x := by
  unfold pcAlt altText
  rw [List.flatten_append, pcBody_flat]
  congr 1
  unfold pcPrice priceText
  split
  · rfl
  · simp [kwPr, kwPrice]
theorem pcAlts_flat : ∀ (l : List GA) (i : Nat), (pcAlts i l).flatten = altsText i l
  | [], i => rfl
  | a :: l, i => by
    rw [pcAlts, altsText, List.flatten_append, List.flatten_append, pcAlt_flat, pcAlts_flat l]
    congr 2
    split <;> rfl
theorem pcRule_flat (r : GR) : (pcRule r).flatten = ruleText r := by
  unfold pcRule ruleText
  rw [List.flatten_append, List.flatten_append, pcAlts_flat]
  simp
theorem pcLev_flat (l : GL) : (pcLev l).flatten = levText l := by
  unfold pcLev levText Lib.join List.intercalate
  rw [List.flatten_append, List.flatten_append]
  simp
theorem pcF_flat (f : GF) : (pcF f).flatten = gfText f := by
  unfold pcF gfText startText
  rw [List.flatten_append, List.flatten_append, flatMap_flat _ _ pcLev_flat, flatMap_flat _ _ pcRule_flat]
  simp [kwStart]
end Go.Av

namespace Go.Av

/-- The second list is the first, some names in two pairs of parentheses. -/
inductive Dc : Ts → Ts → Prop where
  | nil : Dc [] []
  | cons (x : List UInt8) {l l' : Ts} (h : Dc l l') : Dc (x :: l) (x :: l')
  | par {x : List UInt8} {l l' : Ts} (hx : nameOK x = true) (h : Dc l l') : Dc (x :: l) ([40] :: [40] :: x :: [41] :: [41] :: l')

theorem Dc.refl : ∀ l : Ts, Dc l l
  | [] => .nil
  | x :: l => .cons x (Dc.refl l)
theorem Dc.app {a a' b b' : Ts} (h : Dc a a') (k : Dc b b') : Dc (a ++ b) (a' ++ b') := by
  induction h with
  | nil => exact k
  | cons x _ ih => exact .cons x ih
  | par hx _ ih => exact .par hx ih
theorem Dc.split : ∀ {a b t : Ts}, Dc (a ++ b) t → ∃ a' b', t = a' ++ b' ∧ Dc a a' ∧ Dc b b'
  | [], b, t, h => ⟨[], t, rfl, .nil, h⟩
  | x :: a, b, t, h => by
    rw [List.cons_append] at h
    cases h with
    | cons _ h =>
      obtain ⟨a', b', rfl, h1, h2⟩ := Dc.split h
      exact ⟨x :: a', b', rfl, .cons x h1, h2⟩
    | par hx h =>
      obtain ⟨a', b', rfl, h1, h2⟩ := Dc.split h
      exact ⟨_ :: _ :: _ :: _ :: _ :: a', b', rfl, .par hx h1, h2⟩
theorem Dc.not {x : List UInt8} {l t : Ts} (hx : nameOK x = false) (h : Dc (x :: l) t) : ∃ t', t = x :: t' ∧ Dc l t' := by
  cases h with
  | cons _ h => exact ⟨_, rfl, h⟩
  | par h1 _ => rw [hx] at h1; cases h1
theorem Dc.nil_inv {t : Ts} (h : Dc [] t) : t = [] := by cases h; rfl
theorem Dc.one {x : List UInt8} {t : Ts} (hx : nameOK x = false) (h : Dc [x] t) : t = [x] := by
  obtain ⟨t', rfl, h'⟩ := Dc.not hx h
  rw [h'.nil_inv]

abbrev tk (x : List UInt8) : Tok := tokOf 0 x
abbrev T (l : Ts) : List Tok := l.map tk

theorem isName_tk {x : List UInt8} (h : nameOK x = true) : isNameT (tk x) = true := by
  obtain ⟨c, r, rfl, h1, _, h3, _⟩ := nameOK_parts h
  simp [isNameT, tokOf, h1, h3]
theorem name_not_sym {x : List UInt8} (h : nameOK x = true) {c : UInt8} (hc : isLetter c = false) : (x == [c]) = false := by
  obtain ⟨a, r, rfl, h1, _⟩ := nameOK_parts h
  rw [beq_eq_false_iff_ne]
  intro e
  injection e with e _
  subst e
  rw [h1] at hc; cases hc
theorem name_not_kw {x : List UInt8} (h : nameOK x = true) : reserved x = false := by
  obtain ⟨c, r, rfl, _, _, h3, _⟩ := nameOK_parts h
  exact h3

@[simp] theorem tk_text (x : List UInt8) : (tokOf 0 x).text = x := rfl

/-- What follows is no suffix. -/
def Suf0 (e : Nat) (R : List Tok) : Prop := ∀ t r, R = t :: r → t.text ≠ [42] ∧ t.text ≠ [43] ∧ t.text ≠ [63]
theorem sufM_stop {e : Nat} {R : List Tok} (h : Suf0 e R) (x : GE) : sufM x R = (x, R) := by
  cases R with
  | nil => rfl
  | cons t r =>
    obtain ⟨h1, h2, h3⟩ := h t r rfl
    simp [sufM, h1, h2, h3]
/-- What follows is no item. -/
def Item0 (e : Nat) (R : List Tok) : Prop := isNameT (peekT e R) = false ∧ (peekT e R).text ≠ [40]

theorem items_stop {e f : Nat} {R : List Tok} (h : Item0 e R) : itemsM e (f + 1) R = .ok ([], R) := by
  rw [itemsM_eq, if_neg]
  simp [h.1, h.2]

def itTok (e : GE) : Ts := enclP (e.kind == 2 || e.kind == 3) (tkE e)

/-- Reading one item. -/
def ReadI (e0 : Nat) (x : GE) : Prop := ∀ (ts : Ts) (f : Nat) (R : List Tok), Dc (itTok x) ts → 3 * ts.length + 1 ≤ f → itemM e0 f (T ts ++ R) = .ok (sufM x R)
/-- Reading a group. -/
def ReadG (e0 : Nat) (x : GE) : Prop := ∀ (ts : Ts) (f : Nat) (R : List Tok), Dc ([40] :: (tkE x ++ [[41]])) ts → 3 * ts.length ≤ f → primM e0 f (T ts ++ R) = .ok (x, R)

theorem n40 : nameOK [40] = false := by decide
theorem n41 : nameOK [41] = false := by decide
theorem n124 : nameOK [124] = false := by decide

/-- The first token of an item. -/
theorem dc_first {x : List UInt8} {l t : Ts} (h : Dc (x :: l) t) (hx : nameOK x = true ∨ x = [40]) : ∃ y t', t = y :: t' ∧ (nameOK y = true ∨ y = [40]) := by
  cases h with
  | cons _ h => exact ⟨x, _, rfl, hx⟩
  | par h1 h => exact ⟨_, _, rfl, .inr rfl⟩

theorem tkE_first : ∀ (n : Nat) (x : GE), SizeOf.sizeOf x ≤ n → ∀ (d : Nat), exprOK d x = true → (x.kind ≠ 2) → x.kind ≠ 3 → ∃ y t, tkE x = y :: t ∧ (nameOK y = true ∨ y = [40])
  | 0, .mk k nm l, h => by simp at h
  | n + 1, .mk k nm l, h => by
    intro d he k2 k3
    obtain ⟨d', rfl, hn, hk, hl⟩ := exprOK_mk he
    rw [tkE_mk]
    rcases kindOK_cases hk with ⟨rfl, h1, h2⟩ | ⟨rfl, h1⟩ | ⟨rfl, h1⟩ | ⟨h1, h2⟩
    · have : l = [] := by simpa using h2
      subst this
      exact ⟨nm, [], by rw [tkL_nil]; rfl, .inl h1⟩
    · exact absurd rfl k2
    · exact absurd rfl k3
    · obtain ⟨x, rfl⟩ : ∃ x, l = [x] := by
        match l, h2 with
        | [x], _ => exact ⟨x, rfl⟩
      rw [tkL_cons, tkL_nil, List.append_nil]
      have hs : sepT k 0 = [] := rfl
      rw [hs, List.nil_append]
      have hr : reqOf k x = (x.kind != 1) := by
        unfold reqOf
        rcases h1 with rfl | rfl | rfl <;> rfl
      rw [hr]
      by_cases hx : x.kind = 1
      · have : (x.kind != 1) = false := by simp [hx]
        rw [this]
        obtain ⟨y, t, e1, e2⟩ := tkE_first n x (by simp at h; omega) d' (hl x (by simp)) (by omega) (by omega)
        exact ⟨y, t ++ sufP k nm, by show tkE x ++ sufP k nm = _; rw [e1]; rfl, e2⟩
      · have : (x.kind != 1) = true := by simp [hx]
        rw [this]
        exact ⟨[40], _, rfl, .inr rfl⟩

theorem itTok_first {d : Nat} {x : GE} (he : exprOK d x = true) : ∃ y t, itTok x = y :: t ∧ (nameOK y = true ∨ y = [40]) := by
  unfold itTok
  by_cases h2 : x.kind = 2
  · simp only [h2]; exact ⟨[40], _, rfl, .inr rfl⟩
  · by_cases h3 : x.kind = 3
    · simp only [h3]; exact ⟨[40], _, rfl, .inr rfl⟩
    · have : (x.kind == 2 || x.kind == 3) = false := by simp [h2, h3]
      rw [this]
      exact tkE_first _ x (Nat.le_refl _) d he h2 h3

theorem suf0_item {e : Nat} {y : List UInt8} {t : Ts} {R : List Tok} (h : nameOK y = true ∨ y = [40]) : Suf0 e (T (y :: t) ++ R) := by
  intro a r ha
  simp only [List.map_cons, List.cons_append] at ha
  injection ha with ha _
  subst ha
  rcases h with h | rfl
  · refine ⟨?_, ?_, ?_⟩
    · simpa using name_not_sym h (c := 42) (by decide)
    · simpa using name_not_sym h (c := 43) (by decide)
    · simpa using name_not_sym h (c := 63) (by decide)
  · exact ⟨by decide, by decide, by decide⟩

theorem len_pos {l t : Ts} (h : Dc l t) : l.length ≤ t.length := by
  induction h with
  | nil => exact Nat.le_refl _
  | cons x _ ih => simp only [List.length_cons]; omega
  | par hx _ ih => simp only [List.length_cons]; omega

/-- Reading the items of a sequence. -/
theorem read_items {e0 : Nat} : ∀ (l : List GE) (ts : Ts) (f : Nat) (R : List Tok), (∀ x ∈ l, ReadI e0 x ∧ ∃ d, exprOK d x = true) → Dc (l.flatMap itTok) ts → 3 * ts.length + 2 ≤ f → Item0 e0 R → Suf0 e0 R →
    itemsM e0 f (T ts ++ R) = .ok (l, R)
  | [], ts, f, R, _, hd, hf, hi, hs => by
    rw [List.flatMap_nil] at hd
    rw [hd.nil_inv] at hf ⊢
    obtain ⟨f, rfl⟩ : ∃ g, f = g + 1 := ⟨f - 1, by omega⟩
    exact items_stop hi
  | x :: l, ts, f, R, hx, hd, hf, hi, hs => by
    rw [List.flatMap_cons] at hd
    obtain ⟨a, b, rfl, h1, h2⟩ := hd.split
    obtain ⟨d, hdx⟩ := (hx x (by simp)).2
    obtain ⟨y, t, e1, e2⟩ := itTok_first hdx
    have h1' := h1
    rw [e1] at h1'
    obtain ⟨z, a', e3, e4⟩ := dc_first h1' e2
    have hlen : 1 ≤ a.length := by rw [e3]; simp
    rw [List.length_append] at hf
    obtain ⟨f, rfl⟩ : ∃ g, f = g + 1 := ⟨f - 1, by omega⟩
    have hT : T (a ++ b) ++ R = T a ++ (T b ++ R) := by simp [T]
    rw [hT, itemsM_eq, if_pos]
    · rw [(hx x (by simp)).1 a f (T b ++ R) h1 (by omega)]
      have hs' : Suf0 e0 (T b ++ R) := by
        cases l with
        | nil =>
          rw [List.flatMap_nil] at h2
          rw [h2.nil_inv]
          exact hs
        | cons x' l =>
          obtain ⟨d', hdx'⟩ := (hx x' (by simp)).2
          obtain ⟨y', t', e1', e2'⟩ := itTok_first hdx'
          rw [List.flatMap_cons, e1', List.cons_append] at h2
          obtain ⟨z', b', e3', e4'⟩ := dc_first h2 e2'
          rw [e3']
          exact suf0_item e4'
      rw [sufM_stop hs', bindM_ok, read_items l b f R (fun y hy => hx y (by simp [hy])) h2 (by omega) hi hs, bindM_ok]
    · rw [e3]
      simp only [List.map_cons, List.cons_append, peekT_cons]
      rcases e4 with h | rfl
      · simp [isName_tk h]
      · simp [tokOf]

/-- What an expression is, where a sequence is read. -/
def seqTok (x : GE) : Ts := enclP (x.kind == 3 || (x.kind == 2 && x.kids.length == 0)) (tkE x)
/-- The same, where nothing stands for the empty sequence. -/
def bareTok (x : GE) : Ts := enclP (x.kind == 3) (tkE x)

theorem tkL2 (l : List GE) : ∀ i, tkL 2 i l = l.flatMap itTok := by
  induction l with
  | nil => intro i; rw [tkL_nil]; rfl
  | cons e l ih =>
    intro i
    rw [tkL_cons, ih, List.flatMap_cons]
    have hs : sepT 2 i = [] := by unfold sepT; split <;> rfl
    rw [hs]
    rfl
theorem tkE2 (l : List GE) (nm : List UInt8) : tkE (.mk 2 nm l) = l.flatMap itTok := by
  rw [tkE_mk, tkL2]; simp [sufP]

theorem mkSeq_ne {k : Int} {l : List GE} (h : l.length ≠ 1) : mkSeq k l = .mk k [] l := by
  match l, h with
  | [], _ => rfl
  | _ :: _ :: _, _ => rfl

/-- The kids can be read. -/
def Kids (e0 : Nat) (x : GE) : Prop := ∀ y ∈ x.kids, ReadI e0 y ∧ ∃ d, exprOK d y = true

/-- Reading a sequence gives the expression. -/
theorem read_bare {e0 : Nat} {x : GE} {d : Nat} (he : exprOK d x = true) (hI : x.kind ≠ 2 → ReadI e0 x) (hK : Kids e0 x) (ts : Ts) (f : Nat) (R : List Tok) (hd : Dc (bareTok x) ts) (hf : 3 * ts.length + 2 ≤ f) (hi : Item0 e0 R) (hs : Suf0 e0 R) :
    ∃ xs, itemsM e0 f (T ts ++ R) = .ok (xs, R) ∧ mkSeq 2 xs = x := by
  by_cases h2 : x.kind = 2
  · obtain ⟨k, nm, l⟩ := x
    simp only [GE.kind] at h2
    subst h2
    obtain ⟨d', rfl, hn, hk, hl⟩ := exprOK_mk he
    have hlen : l.length ≠ 1 := by rcases kindOK_cases hk with ⟨h, _⟩ | ⟨_, h⟩ | ⟨h, _⟩ | ⟨h, _⟩ <;> first | exact h | simp at h
    have hnm : nm = [] := by simpa using hn
    refine ⟨l, ?_, by rw [mkSeq_ne hlen, hnm]⟩
    have : bareTok (.mk 2 nm l) = l.flatMap itTok := by unfold bareTok; exact tkE2 l nm
    rw [this] at hd
    exact read_items l ts f R hK hd hf hi hs
  · have : bareTok x = itTok x := by
      unfold bareTok itTok
      have : (x.kind == 2) = false := by simp [h2]
      rw [this]; rfl
    rw [this] at hd
    have key := read_items [x] ts f R (fun y hy => by simp at hy; subst hy; exact ⟨hI h2, d, he⟩) (by simpa using hd) hf hi hs
    exact ⟨[x], key, rfl⟩

theorem read_seq {e0 : Nat} {x : GE} {d : Nat} (he : exprOK d x = true) (hI : ReadI e0 x) (hK : Kids e0 x) (ts : Ts) (f : Nat) (R : List Tok) (hd : Dc (seqTok x) ts) (hf : 3 * ts.length + 2 ≤ f) (hi : Item0 e0 R) (hs : Suf0 e0 R) :
    ∃ xs, itemsM e0 f (T ts ++ R) = .ok (xs, R) ∧ mkSeq 2 xs = x := by
  by_cases h2 : (x.kind == 2 && x.kids.length == 0) = true
  · have h3 : x.kind = 2 := by simp at h2; exact h2.1
    have : seqTok x = itTok x := by
      unfold seqTok itTok
      rw [h2]
      simp [h3]
    rw [this] at hd
    have key := read_items [x] ts f R (fun y hy => by simp at hy; subst hy; exact ⟨hI, d, he⟩) (by simpa using hd) hf hi hs
    exact ⟨[x], key, rfl⟩
  · have : seqTok x = bareTok x := by
      unfold seqTok bareTok
      simp only [Bool.not_eq_true] at h2
      rw [h2, Bool.or_false]
    rw [this] at hd
    exact read_bare he (fun _ => hI) hK ts f R hd hf hi hs

theorem tkL3 (l : List GE) : ∀ i, tkL 3 (i + 1) l = l.flatMap fun x => [124] :: seqTok x := by
  induction l with
  | nil => intro i; rw [tkL_nil]; rfl
  | cons e l ih =>
    intro i
    rw [tkL_cons, ih, List.flatMap_cons]
    rfl
theorem tkE3 (x : GE) (l : List GE) (nm : List UInt8) : tkE (.mk 3 nm (x :: l)) = seqTok x ++ l.flatMap fun x => [124] :: seqTok x := by
  rw [tkE_mk, tkL_cons, tkL3]
  simp [sufP, sepT]
  rfl

theorem item0_sym {e : Nat} {c : UInt8} {ts : Ts} {R : List Tok} (h1 : isLetter c = false) (h2 : c ≠ 40) (h3 : c ≠ 42) (h4 : c ≠ 43) (h5 : c ≠ 63) : Item0 e (T ([c] :: ts) ++ R) ∧ Suf0 e (T ([c] :: ts) ++ R) := by
  refine ⟨⟨?_, ?_⟩, fun t r ht => ?_⟩
  · simp [isNameT, tokOf, h1]
  · simpa [tokOf] using h2
  · simp only [List.map_cons, List.cons_append] at ht
    injection ht with ht _
    subst ht
    exact ⟨by simpa using h3, by simpa using h4, by simpa using h5⟩

/-- The further alternatives. -/
theorem read_alts {e0 : Nat} : ∀ (l : List GE) (ts : Ts) (f : Nat) (R : List Tok), (∀ x ∈ l, (∃ d, exprOK d x = true) ∧ ReadI e0 x ∧ Kids e0 x) → Dc (l.flatMap fun x => [124] :: seqTok x) ts → 3 * ts.length + 1 ≤ f →
    altsM e0 f (T ts ++ (T [[41]] ++ R)) = .ok (l, T [[41]] ++ R)
  | [], ts, f, R, _, hd, hf => by
    rw [List.flatMap_nil] at hd
    rw [hd.nil_inv] at hf ⊢
    obtain ⟨f, rfl⟩ : ∃ g, f = g + 1 := ⟨f - 1, by omega⟩
    rw [altsM_eq, if_neg]
    · rfl
    · simp [tokOf]
  | x :: l, ts, f, R, hx, hd, hf => by
    rw [List.flatMap_cons] at hd
    obtain ⟨a, b, rfl, h1, h2⟩ := hd.split
    obtain ⟨a', rfl, h1'⟩ := Dc.not n124 h1
    obtain ⟨⟨d, hdx⟩, hI, hK⟩ := hx x (by simp)
    simp only [List.length_append, List.length_cons] at hf
    obtain ⟨f, rfl⟩ : ∃ g, f = g + 1 := ⟨f - 1, by omega⟩
    have hT : T (([124] :: a') ++ b) ++ (T [[41]] ++ R) = tk [124] :: (T a' ++ (T b ++ (T [[41]] ++ R))) := by simp [T]
    have hnext : Item0 e0 (T b ++ (T [[41]] ++ R)) ∧ Suf0 e0 (T b ++ (T [[41]] ++ R)) := by
      cases l with
      | nil =>
        rw [List.flatMap_nil] at h2
        rw [h2.nil_inv]
        exact item0_sym (c := 41) (ts := []) (by decide) (by decide) (by decide) (by decide) (by decide)
      | cons x' l =>
        rw [List.flatMap_cons, List.cons_append] at h2
        obtain ⟨b', rfl, _⟩ := Dc.not n124 h2
        exact item0_sym (c := 124) (by decide) (by decide) (by decide) (by decide) (by decide)
    obtain ⟨xs, k1, k2⟩ := read_seq hdx hI hK a' f (T b ++ (T [[41]] ++ R)) h1' (by omega) hnext.1 hnext.2
    rw [hT, altsM_eq, if_pos (by simp [tokOf])]
    simp only [List.tail_cons]
    rw [k1, bindM_ok, read_alts l b f R (fun y hy => hx y (by simp [hy])) h2 (by omega), bindM_ok, k2]

/-- A group round a sequence that is no choice. -/
theorem read_group1 {e0 f : Nat} {ts : Ts} {xs : List GE} {R : List Tok} (h : itemsM e0 (f + 1) (T ts ++ (T [[41]] ++ R)) = .ok (xs, T [[41]] ++ R)) : primM e0 (f + 2) (T ([40] :: (ts ++ [[41]])) ++ R) = .ok (mkSeq 2 xs, R) := by
  have hT : T ([40] :: (ts ++ [[41]])) ++ R = tk [40] :: (T ts ++ (T [[41]] ++ R)) := by simp [T]
  rw [hT, primM_eq, if_neg (by simp [isNameT, tokOf, isLetter])]
  have h1 : expB e0 [40] (tk [40] :: (T ts ++ (T [[41]] ++ R))) = .ok ((), T ts ++ (T [[41]] ++ R)) := by simp [expB, expM, tokOf]
  have h2 : expB e0 [41] (T [[41]] ++ R) = .ok ((), R) := by simp [expB, expM, tokOf]
  have h3 : altsM e0 (f + 1) (T [[41]] ++ R) = .ok ([], T [[41]] ++ R) := by
    rw [altsM_eq, if_neg]
    simp [tokOf]
  rw [h1, bindM_ok, h, bindM_ok, h3, bindM_ok, h2, bindM_ok]
  rfl

theorem read_name {e0 : Nat} {n : List UInt8} (hn : nameOK n = true) (ts : Ts) (f : Nat) (R : List Tok) (hd : Dc [n] ts) (hf : 3 * ts.length ≤ f) : primM e0 f (T ts ++ R) = .ok (.mk 1 n [], R) := by
  have plain : ∀ (f : Nat) (R : List Tok), primM e0 (f + 1) (T [n] ++ R) = .ok (.mk 1 n [], R) := fun f R => by
    rw [primM_eq, if_pos (by simpa using isName_tk hn)]
    rfl
  cases hd with
  | cons _ h =>
    rw [h.nil_inv] at hf ⊢
    obtain ⟨f, rfl⟩ : ∃ g, f = g + 1 := ⟨f - 1, by simp at hf; omega⟩
    exact plain f R
  | par _ h =>
    rw [h.nil_inv] at hf ⊢
    simp only [List.length_cons, List.length_nil] at hf
    obtain ⟨g, rfl⟩ : ∃ g, f = g + 7 := ⟨f - 7, by omega⟩
    have stop : ∀ R : List Tok, Item0 e0 (T [[41]] ++ R) ∧ Suf0 e0 (T [[41]] ++ R) := fun R => item0_sym (c := 41) (ts := []) (by decide) (by decide) (by decide) (by decide) (by decide)
    have i1 : ∀ R, itemsM e0 (g + 2 + 1) (T [n] ++ (T [[41]] ++ R)) = .ok ([.mk 1 n []], T [[41]] ++ R) := fun R => by
      rw [itemsM_eq, if_pos (by simp [isName_tk hn]), itemM_eq, plain, bindM_ok, sufM_stop (stop R).2, bindM_ok, items_stop (stop R).1, bindM_ok]
    have g1 : ∀ R, primM e0 (g + 2 + 2) (T ([40] :: ([n] ++ [[41]])) ++ R) = .ok (.mk 1 n [], R) := fun R => read_group1 (i1 R)
    have i2 : itemsM e0 (g + 5 + 1) (T ([40] :: ([n] ++ [[41]])) ++ (T [[41]] ++ R)) = .ok ([.mk 1 n []], T [[41]] ++ R) := by
      rw [itemsM_eq, if_pos (by simp [tokOf]), itemM_eq, g1, bindM_ok, sufM_stop (stop R).2, bindM_ok, items_stop (stop R).1, bindM_ok]
    exact read_group1 i2

theorem reqOf_suf {k : Int} {x : GE} (h : k = 4 ∨ k = 5 ∨ k = 6) : reqOf k x = (x.kind != 1) := by
  unfold reqOf
  rcases h with rfl | rfl | rfl <;> rfl

/-- Every valid expression is read back, as an item and as a group. -/
theorem read_expr {e0 : Nat} : ∀ (n : Nat) (x : GE), SizeOf.sizeOf x ≤ n → ∀ (d : Nat), exprOK d x = true → ReadI e0 x ∧ ReadG e0 x
  | 0, .mk k nm l, h => by simp at h
  | n + 1, .mk k nm l, h => by
    intro d he
    obtain ⟨d', hd', hn, hk, hl⟩ := exprOK_mk he
    have ih : ∀ y ∈ l, ReadI e0 y ∧ ReadG e0 y := fun y hy => read_expr n y (by
      have := List.sizeOf_lt_of_mem hy
      simp at h
      omega) d' (hl y hy)
    have hKids : Kids e0 (.mk k nm l) := fun y hy => ⟨(ih y hy).1, d', hl y hy⟩
    have stop : ∀ R : List Tok, Item0 e0 (T [[41]] ++ R) ∧ Suf0 e0 (T [[41]] ++ R) := fun R => item0_sym (c := 41) (ts := []) (by decide) (by decide) (by decide) (by decide) (by decide)
    -- a group round a sequence
    have group : ∀ (ts : Ts) (f : Nat) (R : List Tok), k ≠ 3 → (k ≠ 2 → ReadI e0 (.mk k nm l)) → Dc ([40] :: (tkE (.mk k nm l) ++ [[41]])) ts → 3 * ts.length ≤ f → primM e0 f (T ts ++ R) = .ok (.mk k nm l, R) := by
      intro ts f R hk3 hI hdc hf
      obtain ⟨t1, rfl, h1⟩ := Dc.not n40 hdc
      obtain ⟨a, b, rfl, h2, h3⟩ := h1.split
      rw [Dc.one n41 h3] at hf ⊢
      simp only [List.length_cons, List.length_append, List.length_nil] at hf
      obtain ⟨g, rfl⟩ : ∃ g, f = g + 2 := ⟨f - 2, by omega⟩
      have hb : bareTok (.mk k nm l) = tkE (.mk k nm l) := by
        unfold bareTok
        have : ((GE.mk k nm l).kind == 3) = false := by simp [GE.kind, hk3]
        rw [this]; rfl
      obtain ⟨xs, k1, k2⟩ := read_bare he (fun h => hI h) hKids a (g + 1) (T [[41]] ++ R) (by rw [hb]; exact h2) (by omega) (stop R).1 (stop R).2
      rw [← k2]
      exact read_group1 k1
    have asItem : ReadG e0 (.mk k nm l) → (k = 2 ∨ k = 3) → ReadI e0 (.mk k nm l) := by
      intro hG hk23 ts f R hdc hf
      have hit : itTok (.mk k nm l) = [40] :: (tkE (.mk k nm l) ++ [[41]]) := by
        unfold itTok
        have : ((GE.mk k nm l).kind == 2 || (GE.mk k nm l).kind == 3) = true := by rcases hk23 with rfl | rfl <;> rfl
        rw [this]; rfl
      rw [hit] at hdc
      obtain ⟨g, rfl⟩ : ∃ g, f = g + 1 := ⟨f - 1, by omega⟩
      rw [itemM_eq, hG ts g R hdc (by omega), bindM_ok]
    rcases kindOK_cases hk with ⟨rfl, h1, h2⟩ | ⟨rfl, h1⟩ | ⟨rfl, h1⟩ | ⟨h1, h2⟩
    · have : l = [] := by simpa using h2
      subst this
      have hI : ReadI e0 (.mk 1 nm []) := fun ts f R hdc hf => by
        have hit : itTok (.mk 1 nm []) = [nm] := by
          show tkE (.mk 1 nm []) = [nm]
          rw [tkE_mk, tkL_nil]; rfl
        rw [hit] at hdc
        obtain ⟨g, rfl⟩ : ∃ g, f = g + 1 := ⟨f - 1, by omega⟩
        rw [itemM_eq, read_name h1 ts g R hdc (by omega), bindM_ok]
      exact ⟨hI, fun ts f R hdc hf => group ts f R (by omega) (fun _ => hI) hdc hf⟩
    · have hG : ReadG e0 (.mk 2 nm l) := fun ts f R hdc hf => group ts f R (by omega) (fun h => absurd rfl h) hdc hf
      exact ⟨asItem hG (.inl rfl), hG⟩
    · obtain ⟨x, l, rfl⟩ : ∃ x m, l = x :: m := by
        match l, h1 with
        | x :: m, _ => exact ⟨x, m, rfl⟩
      have hnm : nm = [] := by simpa using hn
      subst hnm
      have hG : ReadG e0 (.mk 3 [] (x :: l)) := by
        intro ts f R hdc hf
        obtain ⟨t1, rfl, h1'⟩ := Dc.not n40 hdc
        obtain ⟨a, b, rfl, h2, h3⟩ := h1'.split
        rw [Dc.one n41 h3] at hf ⊢
        rw [tkE3] at h2
        obtain ⟨a1, a2, rfl, h4, h5⟩ := h2.split
        simp only [List.length_cons, List.length_append, List.length_nil] at hf
        obtain ⟨g, rfl⟩ : ∃ g, f = g + 2 := ⟨f - 2, by omega⟩
        have hx := ih x (by simp)
        have kidsOf : ∀ y ∈ x :: l, Kids e0 y := fun y hy z hz => by
          have hsz : SizeOf.sizeOf z ≤ n := by
            have h1 := List.sizeOf_lt_of_mem hy
            obtain ⟨ky, ny, ly⟩ := y
            simp only [GE.kids] at hz
            have h2 := List.sizeOf_lt_of_mem hz
            simp at h h1
            omega
          have hyz : ∃ dz, exprOK dz z = true := by
            have := hl y hy
            obtain ⟨ky, ny, ly⟩ := y
            obtain ⟨dz, _, _, _, hz'⟩ := exprOK_mk this
            exact ⟨dz, hz' z hz⟩
          obtain ⟨dz, hdz⟩ := hyz
          exact ⟨(read_expr n z hsz dz hdz).1, dz, hdz⟩
        have hnext : Item0 e0 (T a2 ++ (T [[41]] ++ R)) ∧ Suf0 e0 (T a2 ++ (T [[41]] ++ R)) := by
          cases l with
          | nil => simp at h1
          | cons x' l =>
            rw [List.flatMap_cons, List.cons_append] at h5
            obtain ⟨b', rfl, _⟩ := Dc.not n124 h5
            exact item0_sym (c := 124) (by decide) (by decide) (by decide) (by decide) (by decide)
        obtain ⟨xs, k1, k2⟩ := read_seq (hl x (by simp)) hx.1 (kidsOf x (by simp)) a1 (g + 1) (T a2 ++ (T [[41]] ++ R)) h4 (by omega) hnext.1 hnext.2
        have k3 := read_alts (e0 := e0) l a2 (g + 1) R (fun y hy => ⟨⟨d', hl y (by simp [hy])⟩, (ih y (by simp [hy])).1, kidsOf y (by simp [hy])⟩) h5 (by omega)
        have hT : T ([40] :: ((a1 ++ a2) ++ [[41]])) ++ R = tk [40] :: (T a1 ++ (T a2 ++ (T [[41]] ++ R))) := by simp [T]
        rw [hT, primM_eq, if_neg (by simp [isNameT, tokOf, isLetter])]
        have e1 : expB e0 [40] (tk [40] :: (T a1 ++ (T a2 ++ (T [[41]] ++ R)))) = .ok ((), T a1 ++ (T a2 ++ (T [[41]] ++ R))) := by simp [expB, expM, tokOf]
        have e2 : expB e0 [41] (T [[41]] ++ R) = .ok ((), R) := by simp [expB, expM, tokOf]
        rw [e1, bindM_ok, k1, bindM_ok, k3, bindM_ok, e2, bindM_ok, k2, mkSeq_ne (by simp at h1 ⊢; intro e; subst e; simp at h1)]
      exact ⟨asItem hG (.inr rfl), hG⟩
    · obtain ⟨x, rfl⟩ : ∃ x, l = [x] := by
        match l, h2 with
        | [x], _ => exact ⟨x, rfl⟩
      have hnm : nm = [] := by
        rcases hn with h | h
        · omega
        · exact h
      subst hnm
      have hI : ReadI e0 (.mk k [] [x]) := by
        intro ts f R hdc hf
        have hs : ∃ c, sufP k [] = [[c]] ∧ nameOK [c] = false ∧ (∀ (y : GE) (R : List Tok), sufM y (tk [c] :: R) = sufM (.mk k [] [y]) R) := by
          rcases h1 with rfl | rfl | rfl
          · exact ⟨63, rfl, by decide, fun y R => by simp [sufM, tokOf]⟩
          · exact ⟨42, rfl, by decide, fun y R => by simp [sufM, tokOf]⟩
          · exact ⟨43, rfl, by decide, fun y R => by simp [sufM, tokOf]⟩
        obtain ⟨c, e1, e2, e3⟩ := hs
        have hit : itTok (.mk k [] [x]) = enclP (x.kind != 1) (tkE x) ++ [[c]] := by
          unfold itTok
          have : ((GE.mk k [] [x]).kind == 2 || (GE.mk k [] [x]).kind == 3) = false := by rcases h1 with rfl | rfl | rfl <;> rfl
          rw [this]
          show tkE (.mk k [] [x]) = _
          rw [tkE_mk, tkL_cons, tkL_nil, reqOf_suf h1, e1]
          simp [sepT]
        rw [hit] at hdc
        obtain ⟨a, b, rfl, h3, h4⟩ := hdc.split
        rw [Dc.one e2 h4] at hf ⊢
        simp only [List.length_append, List.length_cons, List.length_nil] at hf
        obtain ⟨g, rfl⟩ : ∃ g, f = g + 1 := ⟨f - 1, by omega⟩
        have hT : T (a ++ [[c]]) ++ R = T a ++ (tk [c] :: R) := by simp [T]
        have hp : primM e0 g (T a ++ (tk [c] :: R)) = .ok (x, tk [c] :: R) := by
          by_cases hx1 : x.kind = 1
          · have : (x.kind != 1) = false := by simp [hx1]
            rw [this] at h3
            have hx := hl x (by simp)
            obtain ⟨kx, nx, lx⟩ := x
            simp only [GE.kind] at hx1
            subst hx1
            obtain ⟨dx, _, _, hkx, _⟩ := exprOK_mk hx
            obtain ⟨hnx, hlx⟩ : nameOK nx = true ∧ lx = [] := by
              rcases kindOK_cases hkx with ⟨_, h5, h6⟩ | ⟨h5, _⟩ | ⟨h5, _⟩ | ⟨h5, _⟩
              · exact ⟨h5, by simpa using h6⟩
              all_goals omega
            subst hlx
            have htk : tkE (.mk 1 nx []) = [nx] := by rw [tkE_mk, tkL_nil]; rfl
            have h3' : Dc [nx] a := by rw [← htk]; exact h3
            exact read_name hnx a g _ h3' (by omega)
          · have : (x.kind != 1) = true := by simp [hx1]
            rw [this] at h3
            exact (ih x (by simp)).2 a g _ h3 (by omega)
        rw [hT, itemM_eq, hp, bindM_ok, e3]
      exact ⟨hI, fun ts f R hdc hf => group ts f R (by omega) (fun _ => hI) hdc hf⟩

theorem read_kids {e0 : Nat} {x : GE} {d : Nat} (he : exprOK d x = true) : Kids e0 x := by
  obtain ⟨k, nm, l⟩ := x
  obtain ⟨d', _, _, _, hl⟩ := exprOK_mk he
  exact fun y hy => ⟨(read_expr _ y (Nat.le_refl _) d' (hl y hy)).1, d', hl y hy⟩
theorem read_body {e0 : Nat} {x : GE} {d : Nat} (he : exprOK d x = true) (ts : Ts) (f : Nat) (R : List Tok) (hd : Dc (bareTok x) ts) (hf : 3 * ts.length + 2 ≤ f) (hi : Item0 e0 R) (hs : Suf0 e0 R) :
    ∃ xs, itemsM e0 f (T ts ++ R) = .ok (xs, R) ∧ mkSeq 2 xs = x :=
  read_bare he (fun _ => (read_expr _ x (Nat.le_refl _) d he).1) (read_kids he) ts f R hd hf hi hs
end Go.Av

namespace Go.Av

theorem decDigits_small {n : Nat} (h : n < 10) : Lib.decDigits n = [UInt8.ofNat (48 + n)] := by rw [Lib.decDigits, dif_pos h]
theorem decDigits_big {n : Nat} (h : ¬ n < 10) : Lib.decDigits n = Lib.decDigits (n / 10) ++ [UInt8.ofNat (48 + n % 10)] := by rw [Lib.decDigits, dif_neg h]

theorem digit_byte {d : Nat} (h : d < 10) : isDigit (UInt8.ofNat (48 + d)) = true ∧ ((UInt8.ofNat (48 + d)).toNat : Int) - 48 = d := by
  have e : (UInt8.ofNat (48 + d)).toNat = 48 + d := by
    rw [UInt8.toNat_ofNat']
    omega
  refine ⟨(isDigit_iff _).2 (by omega), by omega⟩

theorem decDigits_all : ∀ (m n : Nat), n ≤ m → (Lib.decDigits n).all isDigit = true ∧ Lib.decDigits n ≠ []
  | 0, n, h => by
    rw [decDigits_small (by omega)]
    exact ⟨by simp only [List.all_cons, List.all_nil, (digit_byte (show n < 10 by omega)).1, Bool.and_true], by simp⟩
  | m + 1, n, h => by
    by_cases h1 : n < 10
    · rw [decDigits_small h1]
      exact ⟨by simp only [List.all_cons, List.all_nil, (digit_byte h1).1, Bool.and_true], by simp⟩
    · rw [decDigits_big h1]
      obtain ⟨h2, h3⟩ := decDigits_all m (n / 10) (by omega)
      refine ⟨?_, by simp⟩
      rw [List.all_append, h2]
      simp only [List.all_cons, List.all_nil, (digit_byte (show n % 10 < 10 by omega)).1, Bool.and_true]

theorem decDigits_val : ∀ (m n : Nat), n ≤ m → n ≤ 1000 → numVal (Lib.decDigits n) = n
  | 0, n, h, _ => by
    have h1 : n < 10 := by omega
    rw [decDigits_small h1]
    simp only [numVal, List.foldl_cons, List.foldl_nil]
    have := (digit_byte h1).2
    omega
  | m + 1, n, h, hn => by
    by_cases h1 : n < 10
    · rw [decDigits_small h1]
      simp only [numVal, List.foldl_cons, List.foldl_nil]
      have := (digit_byte h1).2
      omega
    · rw [decDigits_big h1, numVal_snoc, decDigits_val m (n / 10) (by omega) (by omega)]
      have := (digit_byte (show n % 10 < 10 by omega)).2
      omega

theorem dec_first (n : Nat) : ∃ c r, Lib.decDigits n = c :: r ∧ isDigit c = true ∧ r.all isDigit = true ∧ isLetter c = false := by
  obtain ⟨h1, h2⟩ := decDigits_all n n (Nat.le_refl _)
  cases hd : Lib.decDigits n with
  | nil => exact absurd hd h2
  | cons c r =>
    rw [hd, List.all_cons, Bool.and_eq_true] at h1
    refine ⟨c, r, rfl, h1.1, h1.2, ?_⟩
    cases hl : isLetter c with
    | false => rfl
    | true => rw [letter_not_digit hl] at h1; cases h1.1

theorem dec_not_name (n : Nat) : nameOK (Lib.decDigits n) = false := by
  obtain ⟨c, r, e, _, _, hl⟩ := dec_first n
  cases h : nameOK (Lib.decDigits n) with
  | false => rfl
  | true =>
    obtain ⟨c', r', e', hl', _⟩ := nameOK_parts h
    rw [e] at e'
    injection e' with e' _
    subst e'
    rw [hl] at hl'; cases hl'
theorem dec_good (n : Nat) : Good (Lib.decDigits n) := by
  obtain ⟨c, r, e, h1, h2, hl⟩ := dec_first n
  rw [e]
  have h3 := (isDigit_iff c).1 h1
  refine ⟨c, r, rfl, ?_, fun e => ?_, .inr (.inl ⟨hl, h1, h2⟩)⟩
  · cases hb : isBlank c with
    | false => rfl
    | true => have := (isBlank_iff c).1 hb; omega
  · subst e
    have : ((35 : UInt8).toNat : Int) = 35 := rfl
    omega
theorem dec_num {n : Nat} (h : n ≤ 1000) : (tk (Lib.decDigits n)).num = n := by
  have hv := decDigits_val n n (Nat.le_refl _) h
  obtain ⟨c, r, e, h1, h2, hl⟩ := dec_first n
  rw [e] at hv ⊢
  simp [tokOf, h1, hv]

theorem bareTok_body {x : GE} {d : Nat} (he : exprOK d x = true) : tkBody x = bareTok x := by
  obtain ⟨k, nm, l⟩ := x
  unfold tkBody bareTok
  split
  · rename_i h
    simp [GE.kind, GE.kids] at h
    obtain ⟨rfl, rfl⟩ := h
    show [] = tkE (.mk 2 nm [])
    rw [tkE2]; rfl
  · rfl

/-- What may stand behind an alternative. -/
def AltEnd (e : Nat) (R : List Tok) : Prop := ∃ c r, R = tk [c] :: r ∧ (c = 124 ∨ c = 59)
theorem AltEnd.facts {e : Nat} {R : List Tok} (h : AltEnd e R) : Item0 e R ∧ Suf0 e R ∧ (peekT e R).text ≠ kwPrice := by
  obtain ⟨c, r, rfl, h⟩ := h
  have key := item0_sym (e := e) (c := c) (ts := []) (R := r) (by rcases h with rfl | rfl <;> decide) (by rcases h with rfl | rfl <;> decide) (by rcases h with rfl | rfl <;> decide) (by rcases h with rfl | rfl <;> decide) (by rcases h with rfl | rfl <;> decide)
  refine ⟨key.1, key.2, ?_⟩
  show [c] ≠ kwPrice
  simp [kwPrice]

theorem kwPrice_not : nameOK kwPrice = false := by decide

theorem read_alt {e f : Nat} {x : GA} {ts : Ts} {R : List Tok} (hx : altOK x = true) (hd : Dc (tkAlt x) ts) (hf : 3 * ts.length + 2 ≤ f) (hR : AltEnd e R) : altM e f (T ts ++ R) = .ok (x, R) := by
  obtain ⟨b, p⟩ := x
  simp only [altOK, Bool.and_eq_true, decide_eq_true_eq] at hx
  obtain ⟨⟨h1, h2⟩, h3⟩ := hx
  unfold tkAlt at hd
  obtain ⟨a, q, rfl, h4, h5⟩ := hd.split
  simp only at h4 h5
  rw [bareTok_body h3] at h4
  rw [List.length_append] at hf
  have hT : T (a ++ q) ++ R = T a ++ (T q ++ R) := by simp [T]
  rw [hT, altM_eq]
  unfold tkPrice at h5
  split at h5
  · rename_i hp
    rw [h5.nil_inv]
    obtain ⟨xs, k1, k2⟩ := read_body (e0 := e) h3 a f R h4 (by omega) hR.facts.1 hR.facts.2.1
    have e1 : T [] ++ R = R := rfl
    rw [e1, k1, bindM_ok, if_neg (by simpa using hR.facts.2.2), k2, hp]
  · rename_i hp
    obtain ⟨q', rfl, h6⟩ := Dc.not kwPrice_not h5
    have h7 := Dc.one (dec_not_name _) h6
    subst h7
    have hi : Item0 e (T [kwPrice, Lib.decDigits p.toNat] ++ R) ∧ Suf0 e (T [kwPrice, Lib.decDigits p.toNat] ++ R) := by
      refine ⟨⟨rfl, show kwPrice ≠ [40] by decide⟩, fun t r ht => ?_⟩
      simp only [List.map_cons, List.cons_append] at ht
      injection ht with ht _
      subst ht
      exact ⟨by decide, by decide, by decide⟩
    obtain ⟨xs, k1, k2⟩ := read_body (e0 := e) h3 a f (T [kwPrice, Lib.decDigits p.toNat] ++ R) h4 (by omega) hi.1 hi.2
    rw [k1, bindM_ok]
    have hn := dec_num (n := p.toNat) (by omega)
    have e2 : ((p.toNat : Nat) : Int) = p := Int.toNat_of_nonneg h1
    rw [e2] at hn
    simp only [List.map_cons, List.map_nil, List.cons_append, List.nil_append, List.tail_cons, peekT_cons]
    rw [if_pos (by rfl), hn, if_neg (by omega), k2]

theorem read_more {e : Nat} : ∀ (l : List GA) (i f : Nat) (ts : Ts) (R : List Tok), (∀ x ∈ l, altOK x = true) → Dc (tkAlts (i + 1) l) ts → 3 * ts.length + 3 ≤ f → moreM e f (T ts ++ (tk [59] :: R)) = .ok (l, tk [59] :: R)
  | [], i, f, ts, R, _, hd, hf => by
    rw [tkAlts] at hd
    rw [hd.nil_inv] at hf ⊢
    obtain ⟨f, rfl⟩ : ∃ g, f = g + 1 := ⟨f - 1, by omega⟩
    rw [moreM_eq, if_neg]
    · rfl
    · simp [tokOf]
  | x :: l, i, f, ts, R, hx, hd, hf => by
    rw [tkAlts, if_neg (by omega)] at hd
    obtain ⟨ab, c, rfl, h1, h2⟩ := hd.split
    rw [List.cons_append, List.nil_append] at h1
    obtain ⟨a, rfl, h3⟩ := Dc.not n124 h1
    simp only [List.length_append, List.length_cons] at hf
    obtain ⟨f, rfl⟩ : ∃ g, f = g + 1 := ⟨f - 1, by omega⟩
    have hT : T (([124] :: a) ++ c) ++ (tk [59] :: R) = tk [124] :: (T a ++ (T c ++ (tk [59] :: R))) := by simp [T]
    have hend : AltEnd e (T c ++ (tk [59] :: R)) := by
      cases l with
      | nil =>
        rw [tkAlts] at h2
        rw [h2.nil_inv]
        exact ⟨59, R, rfl, .inr rfl⟩
      | cons y l =>
        rw [tkAlts, if_neg (by omega), List.append_assoc, List.cons_append] at h2
        obtain ⟨c', rfl, _⟩ := Dc.not n124 h2
        exact ⟨124, _, rfl, .inl rfl⟩
    rw [hT, moreM_eq, if_pos (by simp [tokOf])]
    simp only [List.tail_cons]
    rw [read_alt (hx x (by simp)) h3 (by omega) hend, bindM_ok, read_more l (i + 1) f c R (fun y hy => hx y (by simp [hy])) h2 (by omega), bindM_ok]

theorem ruleOK_parts {r : GR} (h : ruleOK r = true) : r.alts ≠ [] ∧ ∀ x ∈ r.alts, altOK x = true := by
  simp only [ruleOK, Bool.and_eq_true, decide_eq_true_eq, Bool.not_eq_true'] at h
  refine ⟨fun e => by rw [e] at h; simp at h, fun x hx => ?_⟩
  cases hc : altOK x with
  | true => rfl
  | false =>
    have : (r.alts.any fun a => !altOK a) = true := List.any_eq_true.2 ⟨x, hx, by simp [hc]⟩
    rw [this] at h; cases h.2

theorem read_rule {e f : Nat} {r : GR} {A : Ts} {R : List Tok} (hr : ruleOK r = true) (hn : nameOK r.name = true) (hd : Dc (tkAlts 0 r.alts) A) (hf : 3 * A.length + 3 ≤ f) :
    ruleM e f (tk r.name :: tk [61] :: (T A ++ (tk [59] :: R))) = .ok (r, R) := by
  obtain ⟨nm, alts⟩ := r
  obtain ⟨h1, h2⟩ := ruleOK_parts hr
  simp only at h1 h2 hn hd
  cases alts with
  | nil => exact absurd rfl h1
  | cons x l =>
    rw [tkAlts] at hd
    simp only [if_true, List.nil_append] at hd
    obtain ⟨a, c, rfl, h3, h4⟩ := hd.split
    rw [List.length_append] at hf
    have hend : AltEnd e (T c ++ (tk [59] :: R)) := by
      cases l with
      | nil =>
        rw [tkAlts] at h4
        rw [h4.nil_inv]
        exact ⟨59, R, rfl, .inr rfl⟩
      | cons y l =>
        rw [tkAlts, if_neg (by omega), List.append_assoc, List.cons_append] at h4
        obtain ⟨c', rfl, _⟩ := Dc.not n124 h4
        exact ⟨124, _, rfl, .inl rfl⟩
    have hT : T (a ++ c) ++ (tk [59] :: R) = T a ++ (T c ++ (tk [59] :: R)) := by simp [T]
    rw [ruleM_eq, if_pos (by simpa using isName_tk hn)]
    simp only [List.tail_cons, peekT_cons]
    have e1 : expB e [61] (tk [61] :: (T (a ++ c) ++ (tk [59] :: R))) = .ok ((), T (a ++ c) ++ (tk [59] :: R)) := by simp [expB, expM, tokOf]
    have e2 : expB e [59] (tk [59] :: R) = .ok ((), R) := by simp [expB, expM, tokOf]
    rw [e1, bindM_ok, hT, read_alt (h2 x (by simp)) h3 (by omega) hend, bindM_ok, read_more l 0 f c R (fun y hy => h2 y (by simp [hy])) h4 (by omega), bindM_ok, e2, bindM_ok]
    rfl

/-- The tokens of rules, with parentheses round names in the bodies. -/
def DcR : List GR → Ts → Prop
  | [], t => t = []
  | r :: l, t => ∃ A t', t = r.name :: [61] :: (A ++ ([59] :: t')) ∧ Dc (tkAlts 0 r.alts) A ∧ DcR l t'

theorem DcR.refl : ∀ l : List GR, DcR l (l.flatMap tkRule)
  | [] => rfl
  | r :: l => ⟨tkAlts 0 r.alts, l.flatMap tkRule, by simp [tkRule], Dc.refl _, DcR.refl l⟩

theorem read_rules {e F : Nat} : ∀ (l : List GR) (g : Nat) (t : Ts), (∀ r ∈ l, ruleOK r = true ∧ nameOK r.name = true) → DcR l t → t.length + 1 ≤ g → 3 * t.length + 3 ≤ F → rulesM e F g (T t) = .ok (l, [])
  | [], g, t, _, hd, hg, hF => by
    have : t = [] := hd
    subst this
    obtain ⟨g, rfl⟩ : ∃ k, g = k + 1 := ⟨g - 1, by omega⟩
    rfl
  | r :: l, g, t, h, hd, hg, hF => by
    obtain ⟨A, t', rfl, h1, h2⟩ := hd
    simp only [List.length_cons, List.length_append] at hg hF
    obtain ⟨g, rfl⟩ : ∃ k, g = k + 1 := ⟨g - 1, by omega⟩
    obtain ⟨h3, h4⟩ := h r (by simp)
    have hT : T (r.name :: [61] :: (A ++ ([59] :: t'))) = tk r.name :: tk [61] :: (T A ++ (tk [59] :: T t')) := by simp [T]
    rw [hT, rulesM_eq, read_rule h3 h4 h1 (by omega), bindM_ok, read_rules l g t' (fun y hy => h y (by simp [hy])) h2 (by omega) (by omega), bindM_ok]

theorem names_read {e : Nat} : ∀ (l : Ts) (R : List Tok), (∀ x ∈ l, nameOK x = true) → namesM e (T l ++ (tk [59] :: R)) = (l, tk [59] :: R)
  | [], R, _ => by simp [namesM, isNameT, tokOf, isLetter]
  | x :: l, R, h => by
    have := names_read (e := e) l R fun y hy => h y (by simp [hy])
    simp only [List.map_cons, List.cons_append, namesM]
    rw [if_pos (isName_tk (h x (by simp))), this]
    rfl

theorem read_level {e : Nat} {l : GL} {R : List Tok} (hl : lvOK l = true) (hn : ∀ x ∈ l.tokens, nameOK x = true) (t : Tok) : levelM e l.assoc (t :: (T l.tokens ++ (tk [59] :: R))) = .ok (l, R) := by
  obtain ⟨a, toks⟩ := l
  simp only [lvOK, Bool.and_eq_true, decide_eq_true_eq] at hl
  simp only at hn
  cases toks with
  | nil => simp at hl
  | cons x l =>
    rw [levelM_eq]
    simp only [List.tail_cons, List.map_cons, List.cons_append, peekT_cons]
    rw [if_pos (isName_tk (hn x (by simp))), names_read l R fun y hy => hn y (by simp [hy])]
    have e2 : expB e [59] (tk [59] :: R) = .ok ((), R) := by simp [expB, expM, tokOf]
    rw [e2, bindM_ok]
    rfl

theorem assoc_word {a : Int} (h1 : 1 ≤ a) (h2 : a ≤ 3) : assocOf (wordM a) = some a := by
  have : a = 1 ∨ a = 2 ∨ a = 3 := by omega
  rcases this with rfl | rfl | rfl <;> decide

theorem read_levels {e : Nat} : ∀ (l : List GL) (f : Nat) (R : List Tok), (∀ x ∈ l, lvOK x = true ∧ ∀ y ∈ x.tokens, nameOK y = true) → l.length + 1 ≤ f → assocOf (peekT e R).text = none → levelsM e f (T (l.flatMap tkLev) ++ R) = .ok (l, R)
  | [], f, R, _, hf, hR => by
    obtain ⟨f, rfl⟩ : ∃ k, f = k + 1 := ⟨f - 1, by omega⟩
    rw [levelsM_eq]
    simp only [List.flatMap_nil, List.map_nil, List.nil_append, hR]
  | x :: l, f, R, h, hf, hR => by
    simp only [List.length_cons] at hf
    obtain ⟨f, rfl⟩ : ∃ k, f = k + 1 := ⟨f - 1, by omega⟩
    obtain ⟨h1, h2⟩ := h x (by simp)
    have hl := h1
    simp only [lvOK, Bool.and_eq_true, decide_eq_true_eq] at hl
    have hT : T ((x :: l).flatMap tkLev) ++ R = tk (wordM x.assoc) :: (T x.tokens ++ (tk [59] :: (T (l.flatMap tkLev) ++ R))) := by simp [T, tkLev]
    rw [hT, levelsM_eq]
    simp only [peekT_cons, tk_text, assoc_word hl.1.1 hl.1.2]
    rw [read_level h1 h2, bindM_ok, read_levels l f R (fun y hy => h y (by simp [hy])) (by omega) hR, bindM_ok]

theorem distF_names : ∀ (l : Ts) (seen : Ts), distF seen l = true → ∀ x ∈ l, nameOK x = true
  | [], _, _ => by simp
  | y :: l, seen, h => by
    simp only [distF, Bool.and_eq_true] at h
    intro x hx
    rcases List.mem_cons.1 hx with rfl | hx
    · exact h.1.1
    · exact distF_names l _ h.2 x hx

structure VF (f : GF) : Prop where
  rules1 : 1 ≤ f.rules.length
  rules2 : f.rules.length ≤ 120
  rule : ∀ r ∈ f.rules, ruleOK r = true ∧ nameOK r.name = true
  level : ∀ x ∈ f.levels, lvOK x = true ∧ ∀ y ∈ x.tokens, nameOK y = true
  start : nameOK f.start = true

theorem validM_parts {f : GF} (h : validM f = true) : VF f := by
  unfold validM at h
  simp only [Bool.and_eq_true, decide_eq_true_eq] at h
  obtain ⟨⟨⟨⟨⟨⟨h1, h2⟩, h3⟩, h4⟩, h5⟩, h6⟩, h7⟩ := h
  have n1 := distF_names _ _ h5
  have n2 := distF_names _ _ h6
  refine ⟨h1, h2, fun r hr => ⟨List.all_eq_true.1 h3 r hr, n1 _ (List.mem_map_of_mem hr)⟩, fun x hx => ⟨List.all_eq_true.1 h4 x hx, fun y hy => n2 y (List.mem_flatMap.2 ⟨x, hx, hy⟩)⟩, ?_⟩
  obtain ⟨y, hy, he⟩ := List.any_eq_true.1 h7
  have : f.start = y := by simpa using he
  rw [this]
  exact n1 y hy

/-- The tokens of a file, with parentheses round names in the rules' bodies. -/
def DcF (f : GF) (t : Ts) : Prop := ∃ R, t = [kwStart, f.start, [59]] ++ f.levels.flatMap tkLev ++ R ∧ DcR f.rules R

theorem read_file {f : GF} {t : Ts} {e F : Nat} (hv : validM f = true) (hd : DcF f t) (hF : 3 * t.length + 3 ≤ F) : progP e F (T t) = .ok (f, []) := by
  have V := validM_parts hv
  obtain ⟨R, rfl, hR⟩ := hd
  obtain ⟨st, lv, rs⟩ := f
  simp only at hR hF ⊢
  have hst : nameOK st = true := V.start
  have hlv : ∀ x ∈ lv, lvOK x = true ∧ ∀ y ∈ x.tokens, nameOK y = true := V.level
  have hrs : ∀ r ∈ rs, ruleOK r = true ∧ nameOK r.name = true := V.rule
  have hr1 : 1 ≤ rs.length := V.rules1
  simp only [List.length_append, List.length_cons, List.length_nil] at hF
  have hT : T ([kwStart, st, [59]] ++ lv.flatMap tkLev ++ R) = tk kwStart :: tk st :: tk [59] :: (T (lv.flatMap tkLev) ++ T R) := by simp [T]
  have hl : ∀ l : List GL, l.length ≤ (l.flatMap tkLev).length := by
    intro l
    induction l with
    | nil => simp
    | cons x l ih => simp only [List.flatMap_cons, List.length_append, List.length_cons, tkLev] at ih ⊢; omega
  have hlv' := hl lv
  have hassoc : assocOf (peekT e (T R)).text = none := by
    cases rs with
    | nil => simp at hr1
    | cons r rs =>
      obtain ⟨A, t', rfl, _⟩ := hR
      have hn := name_not_kw (hrs r (by simp)).2
      simp only [List.map_cons, peekT_cons, tk_text]
      simp only [reserved, Bool.or_eq_false_iff] at hn
      obtain ⟨⟨⟨⟨_, n2⟩, n3⟩, n4⟩, _⟩ := hn
      simp [assocOf, n2, n3, n4]
  unfold progP
  have e1 : expB e kwStart (tk kwStart :: tk st :: tk [59] :: (T (lv.flatMap tkLev) ++ T R)) = .ok ((), tk st :: tk [59] :: (T (lv.flatMap tkLev) ++ T R)) := by simp [expB, expM, tokOf]
  have e2 : expB e [59] (tk [59] :: (T (lv.flatMap tkLev) ++ T R)) = .ok ((), T (lv.flatMap tkLev) ++ T R) := by simp [expB, expM, tokOf]
  rw [hT, e1, bindM_ok]
  have hnm := isName_tk hst
  simp only [peekT_cons, List.tail_cons, hnm, if_true]
  rw [e2, bindM_ok, read_levels lv F (T R) hlv (by omega) hassoc, bindM_ok, read_rules rs F R hrs hR (by omega) (by omega), bindM_ok]
  rfl

/-- A text with these tokens is read as the file. -/
theorem parse_text {f : GF} {s : List UInt8} {t : Ts} (hv : validM f = true) (hd : DcF f t) (hs : (lex s).map Tok.text = t) (hl : t.length ≤ 1000000) : parseM s = (f, 0, 0) := by
  have hg : ∀ x ∈ t, Good x := fun x hx => by
    rw [← hs] at hx
    obtain ⟨a, ha, rfl⟩ := List.mem_map.1 hx
    exact (lexL_good _ _ _ a ha).1
  have hok : ∀ x ∈ T t, TokOK x := fun x hx => by
    obtain ⟨y, hy, rfl⟩ := List.mem_map.1 hx
    obtain ⟨c, r, rfl, _⟩ := hg y hy
    exact ⟨c, r, rfl, rfl, rfl⟩
  have hk : KL (lex s) (T t) := KL.of_text (fun x hx => (lexL_good _ _ _ x hx).2.1) hok (by
    rw [hs, List.map_map]
    exact (List.map_id'' (fun x => rfl) t).symm)
  have hsm := progP_sm (e := s.length) (e' := 0) 3000003 hk
  rw [read_file hv hd (by omega)] at hsm
  unfold parseM
  rw [progM_eq]
  cases h1 : progP s.length 3000003 (lex s) with
  | error k => rw [h1] at hsm; exact hsm.elim
  | ok p =>
    obtain ⟨x, l⟩ := p
    rw [h1] at hsm
    obtain ⟨rfl, _⟩ := hsm
    simp [hv]
end Go.Av
