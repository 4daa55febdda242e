/- The text of a grammar; ref18.Format. -/
import Derived.Test.YtpdbcfnmhicnbaaDoorTe
import Derived.Test.YtpdbcfnmhicnbaaDoorTf
set_option linter.unusedVariables false
set_option linter.unusedSimpArgs false
namespace Go.Av
open Go Go.Proofs

/-- Names, each after a space. -/
def wordsT (l : List (List UInt8)) : List UInt8 := l.flatMap fun w => 32 :: w
def ntN (g : Gm) (i : Int) : List UInt8 := (g.nonterms[i.toNat]?).getD []
def symN (g : Gm) (x : Int) : List UInt8 := if 0 ≤ x then (g.terms[x.toNat]?).getD [] else (g.nonterms[(-1 - x).toNat]?).getD []
def priceT (p : Int) : List UInt8 := if 0 < p then [32, 91, 112, 114, 105, 99, 101, 93, 32] ++ Lib.decDigits p.toNat else []
def ruleT (g : Gm) (r : Rl) : List UInt8 := ntN g r.head ++ [32, 45, 62] ++ wordsT (r.body.map (symN g)) ++ priceT r.price ++ [10]
def headT (g : Gm) : List UInt8 := [116, 101, 114, 109, 115] ++ wordsT g.terms ++ [10, 110, 111, 110, 116, 101, 114, 109, 115] ++ wordsT g.nonterms ++ [10, 115, 116, 97, 114, 116, 32] ++ ntN g g.start ++ [10]
def rulesT (g : Gm) (l : List Rl) : List UInt8 := l.flatMap (ruleT g)
theorem rulesT_nil (g : Gm) : rulesT g [] = [] := rfl
theorem rulesT_snoc (g : Gm) (l : List Rl) (r : Rl) : rulesT g (l ++ [r]) = rulesT g l ++ ruleT g r := by simp [rulesT]
def textG (g : Gm) : List UInt8 := headT g ++ rulesT g g.rules
def fmtG (g : Gm) : List UInt8 := if validG g then textG g else []

structure VG (g : Gm) : Prop where
  t : g.terms.length ≤ 120
  n1 : 1 ≤ g.nonterms.length
  n : g.nonterms.length ≤ 120
  names : namesOk (g.terms ++ g.nonterms) = true
  s0 : 0 ≤ g.start
  s : g.start < g.nonterms.length
  r1 : 1 ≤ g.rules.length
  r : g.rules.length ≤ 120
  ok : ∀ r ∈ g.rules, okR g r = true

theorem validG_iff (g : Gm) : validG g = true ↔ VG g := by
  simp only [validG, Bool.and_eq_true, decide_eq_true_iff, List.all_eq_true]
  constructor
  · rintro ⟨⟨⟨⟨⟨⟨⟨⟨a, b⟩, c⟩, d⟩, e⟩, f⟩, h⟩, i⟩, j⟩
    exact ⟨a, b, c, d, e, f, h, i, j⟩
  · rintro ⟨a, b, c, d, e, f, h, i, j⟩
    exact ⟨⟨⟨⟨⟨⟨⟨⟨a, b⟩, c⟩, d⟩, e⟩, f⟩, h⟩, i⟩, j⟩

structure VR (g : Gm) (r : Rl) : Prop where
  h0 : 0 ≤ r.head
  h : r.head < g.nonterms.length
  b : r.body.length ≤ 12
  p0 : 0 ≤ r.price
  p : r.price ≤ 1000
  ok : ∀ x ∈ r.body, badSym g x = false

theorem okR_iff (g : Gm) (r : Rl) : okR g r = true ↔ VR g r := by
  have e : (!r.body.any (badSym g)) = true ↔ ∀ x ∈ r.body, badSym g x = false := by
    rw [Bool.not_eq_true', List.any_eq_false]
    exact ⟨fun h x hx => by have := h x hx; simpa using this, fun h x hx => by simp [h x hx]⟩
  simp only [okR, Bool.and_eq_true, decide_eq_true_iff, e]
  constructor
  · rintro ⟨⟨⟨⟨⟨a, b⟩, c⟩, d⟩, e⟩, f⟩
    exact ⟨a, b, c, d, e, f⟩
  · rintro ⟨a, b, c, d, e, f⟩
    exact ⟨⟨⟨⟨⟨a, b⟩, c⟩, d⟩, e⟩, f⟩

theorem VG.len {g : Gm} (h : VG g) : ∀ x, x ∈ g.terms ∨ x ∈ g.nonterms → x.length ≤ 48 := by
  intro x hx
  have hn := h.names
  simp only [namesOk, Bool.and_eq_true, List.all_eq_true] at hn
  have := (isName_iff x).1 (hn.1 x (by simpa using hx))
  exact this.1.2

theorem getD_len {l : List (List UInt8)} (h : ∀ x ∈ l, x.length ≤ 48) (i : Nat) : ((l[i]?).getD []).length ≤ 48 := by
  by_cases hi : i < l.length
  · rw [List.getElem?_eq_getElem hi]; exact h _ (List.getElem_mem hi)
  · rw [List.getElem?_eq_none (by omega)]; simp

theorem VG.nt_len {g : Gm} (h : VG g) (i : Int) : (ntN g i).length ≤ 48 := getD_len (fun x hx => h.len x (.inr hx)) _
theorem VG.sym_len {g : Gm} (h : VG g) (x : Int) : (symN g x).length ≤ 48 := by
  unfold symN
  split
  · exact getD_len (fun x hx => h.len x (.inl hx)) _
  · exact getD_len (fun x hx => h.len x (.inr hx)) _

theorem words_len : ∀ {l : List (List UInt8)}, (∀ x ∈ l, x.length ≤ 48) → (wordsT l).length ≤ 49 * l.length
  | [], _ => by simp [wordsT]
  | x :: l, h => by
    have h1 := words_len fun y hy => h y (List.mem_cons_of_mem _ hy)
    have h2 := h x List.mem_cons_self
    simp only [wordsT, List.flatMap_cons, List.length_append, List.length_cons] at h1 ⊢
    omega

theorem VG.body_len {g : Gm} (h : VG g) (l : List Int) : (wordsT (l.map (symN g))).length ≤ 49 * l.length := by
  have := words_len (l := l.map (symN g)) (by intro x hx; obtain ⟨y, _, rfl⟩ := List.mem_map.1 hx; exact h.sym_len y)
  simpa using this

theorem dec_len {p : Int} (h : p ≤ 1000) : (Lib.decDigits p.toNat).length ≤ 1001 := by
  have := decDigits_len p.toNat
  omega

theorem price_len {p : Int} (h : p ≤ 1000) : (priceT p).length ≤ 1010 := by
  have := dec_len h
  unfold priceT
  split <;> simp <;> omega

theorem VG.rule_len {g : Gm} (h : VG g) {r : Rl} (hr : VR g r) : (ruleT g r).length ≤ 1660 := by
  have h1 := h.nt_len r.head
  have h2 := h.body_len r.body
  have h3 := price_len hr.p
  have h4 := hr.b
  simp only [ruleT, List.length_append, List.length_cons, List.length_nil]
  omega

theorem VG.rules_len {g : Gm} (h : VG g) : ∀ {l : List Rl}, (∀ r ∈ l, VR g r) → (rulesT g l).length ≤ 1660 * l.length
  | [], _ => by simp [rulesT]
  | x :: l, hl => by
    have h1 := VG.rules_len h fun y hy => hl y (List.mem_cons_of_mem _ hy)
    have h2 := h.rule_len (hl x List.mem_cons_self)
    simp only [rulesT, List.flatMap_cons, List.length_append, List.length_cons] at h1 ⊢
    omega

theorem VG.head_len {g : Gm} (h : VG g) : (headT g).length ≤ 12000 := by
  have h1 := words_len (l := g.terms) fun x hx => h.len x (.inl hx)
  have h2 := words_len (l := g.nonterms) fun x hx => h.len x (.inr hx)
  have h3 := h.nt_len g.start
  have h4 := h.t
  have h5 := h.n
  simp only [headT, List.length_append, List.length_cons, List.length_nil]
  omega

theorem VG.rok {g : Gm} (h : VG g) : ∀ r ∈ g.rules, VR g r := fun r hr => (okR_iff g r).1 (h.ok r hr)

theorem wordsT_snoc (l : List (List UInt8)) (w : List UInt8) : wordsT (l ++ [w]) = wordsT l ++ 32 :: w := by simp [wordsT]

theorem r_words (l : List (List UInt8)) (H : AHeap) (hl : ∀ x ∈ l, x.length ≤ 48) (hl2 : l.length ≤ 1000) : Pure ref18_words_id [strs l] H (.str (wordsT l)) := by
  have hml := maxLen_eq
  refine ref18_words_enter rfl ?_
  simp [ref18_words_rs]
  refine aw_loopK (fun i : Nat => i ≤ l.length) (fun i => [(0, strs l), (3, .str (wordsT (l.take i))), (4, i64 i)]) (fun _ => H) (fun i => l.length - i) 0 (by simp) (by simp [wordsT]) rfl ?_
  intro i hi
  simp
  intro hlen
  by_cases h : i < l.length
  · have hc : l[i]? = some l[i] := List.getElem?_eq_getElem h
    have h' : ¬ l.length ≤ i := by omega
    have h1 := words_len (l := l.take i) fun x hx => hl x (List.mem_of_mem_take hx)
    have h2 := hl _ (List.getElem_mem h)
    have h3 : (l.take i).length = i := by simp; omega
    have htk : l.take (i + 1) = l.take i ++ [l[i]] := by rw [List.take_add_one, hc]; rfl
    simp [h, h', hc]
    refine ⟨by omega, by omega, ?_⟩
    rw [wrap64 (by omega) (by omega)]
    refine loopK_same (i + 1) (by omega) (by omega) (by rw [htk, wordsT_snoc]; simp) rfl
  · have : i = l.length := by omega
    subst this
    simp

theorem nt_get {g : Gm} {i : Int} (h0 : 0 ≤ i) (h : i < g.nonterms.length) : g.nonterms[i.toNat]? = some (ntN g i) := by
  have : i.toNat < g.nonterms.length := by omega
  unfold ntN
  rw [List.getElem?_eq_getElem this]
  rfl
theorem symN_pos {g : Gm} {x : Int} (h0 : 0 ≤ x) (h : badSym g x = false) : g.terms[x.toNat]? = some (symN g x) := by
  simp only [badSym, Bool.or_eq_false_iff, decide_eq_false_iff_not] at h
  have : x.toNat < g.terms.length := by omega
  unfold symN
  rw [if_pos h0, List.getElem?_eq_getElem this]
  rfl
theorem symN_neg {g : Gm} {x : Int} (h0 : ¬ 0 ≤ x) (h : badSym g x = false) : g.nonterms[(-1 - x).toNat]? = some (symN g x) := by
  simp only [badSym, Bool.or_eq_false_iff, decide_eq_false_iff_not] at h
  have : (-1 - x).toNat < g.nonterms.length := by omega
  unfold symN
  rw [if_neg h0, List.getElem?_eq_getElem this]
  rfl

theorem rfmt_inner (g : Gm) (r : Rl) (hv : VG g) (hr : VR g r) (s : List UInt8) (hs : s.length ≤ 10000000) (b b5 : Nat) (i : Int) (H : AHeap)
    (h1 : H b = some (.box (.struct [strs g.terms, strs g.nonterms, i64 g.start, rls g.rules]))) (h5 : H b5 = some (.box (.struct [i64 r.head, ints r.body, i64 r.price]))) (K : AK)
    (ht : K (.exit 2) [(1, .ptr b 0 []), (3, .str (s ++ wordsT (r.body.map (symN g)))), (4, i64 i), (5, .ptr b5 0 []), (6, i64 r.body.length), (53, .bool false)] H) :
    aw PP ref18_Format_c26 K [(1, .ptr b 0 []), (3, .str s), (4, i64 i), (5, .ptr b5 0 []), (6, i64 0)] H := by
  have hml := maxLen_eq
  simp only [ref18_Format_c26]
  refine aw_loopK (fun k : Nat => k ≤ r.body.length)
    (fun k => [(1, .ptr b 0 []), (3, .str (s ++ wordsT ((r.body.map (symN g)).take k))), (4, i64 i), (5, .ptr b5 0 []), (6, i64 k)]) (fun _ => H) (fun k => r.body.length - k) 0 (by simp) (by simp [wordsT]) rfl ?_
  intro k hk
  simp [h5]
  intro hlen
  by_cases h : k < r.body.length
  case neg =>
    have : k = r.body.length := by omega
    subst this
    have : (r.body.map (symN g)).take r.body.length = r.body.map (symN g) := by rw [← List.length_map (f := symN g), List.take_length]
    simp [this]
    exact ht
  have hc : r.body[k]? = some r.body[k] := List.getElem?_eq_getElem h
  have h' : ¬ r.body.length ≤ k := by omega
  have hbad := hr.ok _ (List.getElem_mem h)
  have htk : r.body.take (k + 1) = r.body.take k ++ [r.body[k]] := by rw [List.take_add_one, hc]; rfl
  have hbl := hv.body_len (r.body.take k)
  have h3 : (r.body.take k).length = k := by simp; omega
  have h4 := hr.b
  have hsl := hv.sym_len r.body[k]
  have hwk : IntKind.i64.wrap ((k : Int) + 1) = (k : Int) + 1 := wrap64 (by omega) (by omega)
  have hnext : wordsT ((r.body.take (k + 1)).map (symN g)) = wordsT ((r.body.take k).map (symN g)) ++ 32 :: symN g r.body[k] := by rw [htk, List.map_append, List.map_cons, List.map_nil, wordsT_snoc]
  rw [List.map_take] at hbl
  rw [List.map_take, List.map_take] at hnext
  obtain ⟨x, hx0⟩ : ∃ x, x = r.body[k] := ⟨_, rfl⟩
  rw [← hx0] at hc hbad hsl hnext
  have hx : (-140 : Int) ≤ x := by
    have h6 := hv.n
    simp only [badSym, Bool.or_eq_false_iff, decide_eq_false_iff_not] at hbad
    omega
  have hx2 : x ≤ 140 := by
    have h6 := hv.t
    simp only [badSym, Bool.or_eq_false_iff, decide_eq_false_iff_not] at hbad
    omega
  by_cases p : 0 ≤ x
  · have p' : ¬ x < 0 := by omega
    have hg := symN_pos p hbad
    simp [h, h', h5, hc, p, p', ← hx0]
    refine ref18_Format_c18_lex ?_
    simp [h1, h5, hc, hg, p, h, ← hx0]
    refine ⟨by omega, by omega, ?_⟩
    rw [hwk]
    refine loopK_same (k + 1) (by omega) (by omega) ?_ rfl
    simp [hnext]
  · have p' : x < 0 := by omega
    have hg := symN_neg p hbad
    have hwx : IntKind.i64.wrap (-1 - x) = -1 - x := wrap64 (by omega) (by omega)
    simp [h, h', h5, hc, p, p', ← hx0]
    refine ref18_Format_c19_lex ?_
    have p2 : 0 ≤ -1 - x := by omega
    simp [h1, h5, hc, hg, p, h, hwx, p2, ← hx0]
    refine ⟨by omega, by omega, by omega, ?_⟩
    rw [hwk]
    refine loopK_same (k + 1) (by omega) (by omega) ?_ rfl
    simp [hnext]
end Go.Av

namespace Go.Av
open Go Go.Proofs

/-- The table of the powers of ten is there. -/
def GT (H : AHeap) : Prop := H 1 = some (.tab powTab)
theorem GT.set {H : AHeap} {b : Nat} {o : AObj} (h : GT H) (hb : H b = none) : GT (H.set b o) := by
  unfold GT at *
  rw [AHeap.set_ne _ _ (ne_of_some_none h hb)]
  exact h

theorem itoa {p : Int} (h0 : 0 ≤ p) (h : p ≤ 1000) (H : AHeap) (hT : GT H) : Pure strconv_Itoa_id [i64 p] H (.str (Lib.decDigits p.toNat)) := by
  have := strconv_Itoa p.toNat (by omega) H hT
  rw [Int.toNat_of_nonneg h0] at this
  exact this

theorem rfmt_loop (g : Gm) (hv : VG g) (s : List UInt8) (hs : s.length ≤ 12000) (b : Nat) (H : AHeap) (hT : GT H)
    (h1 : H b = some (.box (.struct [strs g.terms, strs g.nonterms, i64 g.start, rls g.rules]))) (K : AK)
    (ht : K (.exit 0) [(1, .ptr b 0 []), (3, .str (s ++ rulesT g g.rules)), (4, i64 g.rules.length), (32, .bool false)] H) :
    aw PP ref18_Format_c42 K [(1, .ptr b 0 []), (3, .str s), (4, i64 0)] H := by
  have hml := maxLen_eq
  simp only [ref18_Format_c42]
  refine aw_loopK (fun k : Nat => k ≤ g.rules.length)
    (fun k => [(1, .ptr b 0 []), (3, .str (s ++ rulesT g (g.rules.take k))), (4, i64 k)]) (fun _ => H) (fun k => g.rules.length - k) 0 (by simp) (by simp [rulesT_nil]) rfl ?_
  intro k hk
  simp [h1]
  intro hlen
  by_cases h : k < g.rules.length
  case neg =>
    have : k = g.rules.length := by omega
    subst this
    simp
    exact ht
  have hc : g.rules[k]? = some g.rules[k] := List.getElem?_eq_getElem h
  have h' : ¬ g.rules.length ≤ k := by omega
  have hr := hv.rok _ (List.getElem_mem h)
  have hrl := hv.rule_len hr
  have hnext : rulesT g (g.rules.take (k + 1)) = rulesT g (g.rules.take k) ++ ruleT g g.rules[k] := by
    rw [List.take_add_one, hc]
    exact rulesT_snoc _ _ _
  have hal := hv.rules_len (l := g.rules.take k) fun r hr => hv.rok r (List.mem_of_mem_take hr)
  have h3 : (g.rules.take k).length = k := by simp; omega
  have h4 := hv.r
  have hwk : IntKind.i64.wrap ((k : Int) + 1) = (k : Int) + 1 := wrap64 (by omega) (by omega)
  simp [h, h', h1, hc, allocQ]
  generalize g.rules[k] = r at *
  simp only [Rl.av]
  intro b5 hb5
  have n15 := ne_of_some_none h1 hb5
  have hle : HLe H (H.set b5 (.box (.struct [i64 r.head, ints r.body, i64 r.price]))) := .set hb5
  have hT2 := hT.set (o := .box (.struct [i64 r.head, ints r.body, i64 r.price])) hb5
  have q1 : (H.set b5 (.box (.struct [i64 r.head, ints r.body, i64 r.price]))) b = some (.box (.struct [strs g.terms, strs g.nonterms, i64 g.start, rls g.rules])) := by rw [AHeap.set_ne _ _ n15]; exact h1
  have q5 : (H.set b5 (.box (.struct [i64 r.head, ints r.body, i64 r.price]))) b5 = some (.box (.struct [i64 r.head, ints r.body, i64 r.price])) := AHeap.set_same _ _ _
  generalize H.set b5 (.box (.struct [i64 r.head, ints r.body, i64 r.price])) = H2 at *
  have hn := nt_get hr.h0 hr.h
  have hnl := hv.nt_len r.head
  have hh0 := hr.h0
  have hbl := hv.body_len r.body
  have hb12 := hr.b
  have hdl := dec_len hr.p
  simp [q1, q5, hn, hh0]
  refine ⟨by omega, by omega, ?_⟩
  refine rfmt_inner g r hv hr _ (by simp; omega) b b5 (k : Int) H2 q1 q5 _ ?_
  simp [q1, q5]
  have hp0 := hr.p0
  by_cases p : 0 < r.price
  · have p' : ¬ r.price ≤ 0 := by omega
    simp [p, p']
    refine ⟨by omega, ?_⟩
    refine (itoa hp0 hr.p H2 hT2).use ?_
    simp
    refine ⟨by omega, by omega, ?_⟩
    rw [hwk]
    refine loopK_next (k + 1) (by omega) (by omega) ?_ hle
    rw [hnext]
    simp [ruleT, priceT, p]
    exact EnvLe.refl _
  · have p' : r.price ≤ 0 := by omega
    simp [p, p']
    refine ⟨by omega, ?_⟩
    rw [hwk]
    refine loopK_next (k + 1) (by omega) (by omega) ?_ hle
    rw [hnext]
    simp [ruleT, priceT, p]
    exact EnvLe.refl _
set_option maxHeartbeats 1000000 in
theorem r_Format (g : Gm) (ha : g.terms.length ≤ 1000) (hb : g.nonterms.length ≤ 1000) (H : AHeap) (hT : GT H) : Pure ref18_Format_id [g.av] H (.str (fmtG g)) := by
  have hml := maxLen_eq
  refine ref18_Format_enter rfl ?_
  simp [ref18_Format_rs, allocQ]
  intro b hb0
  refine (r_Valid g ha hb _).use ?_
  have hT1 := hT.set (o := .box g.av) hb0
  have hH1 : HLe H (H.set b (.box g.av)) := .set hb0
  have hbx : (H.set b (.box g.av)) b = some (.box (.struct [strs g.terms, strs g.nonterms, i64 g.start, rls g.rules])) := AHeap.set_same _ _ _
  cases hv : validG g
  · simp [fmtG, hv]
    exact hH1
  have hvg := (validG_iff g).1 hv
  have hfm : fmtG g = headT g ++ rulesT g g.rules := by simp [fmtG, hv, textG]
  simp only [hfm]
  simp
  generalize H.set b (.box g.av) = H1 at *
  refine ref18_Format_c6_lex ?_
  have hn := nt_get hvg.s0 hvg.s
  have h1 := words_len (l := g.terms) fun x hx => hvg.len x (.inl hx)
  have h2 := words_len (l := g.nonterms) fun x hx => hvg.len x (.inr hx)
  have h3 := hvg.nt_len g.start
  have h4 := hvg.t
  have h5 := hvg.n
  have hs0 := hvg.s0
  have hhl := hvg.head_len
  simp [hbx]
  refine ⟨_, r_words g.terms H1 (fun x hx => hvg.len x (.inl hx)) (by omega), ?_⟩
  simp [hbx]
  refine ⟨by omega, by omega, ?_⟩
  refine ⟨_, r_words g.nonterms H1 (fun x hx => hvg.len x (.inr hx)) (by omega), ?_⟩
  simp [hn, hs0]
  refine ⟨by omega, by omega, by omega, by omega, ?_⟩
  refine rfmt_loop g hvg _ ?_ b H1 hT1 hbx _ ?_
  · simp
    omega
  · simp [headT]
    exact hH1
end Go.Av
