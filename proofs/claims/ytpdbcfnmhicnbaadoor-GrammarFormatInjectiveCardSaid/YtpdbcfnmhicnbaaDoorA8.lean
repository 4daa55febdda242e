/- Two valid grammars with the same text are the same. -/
import Derived.Test.YtpdbcfnmhicnbaaDoorFnLin
import Derived.Test.YtpdbcfnmhicnbaaDoorA7
set_option linter.unusedVariables false
set_option linter.unusedSimpArgs false
namespace Go.Av
open Go Go.Proofs

theorem VG.t_free {g : Gm} (h : VG g) : ∀ x ∈ g.terms, ∀ c ∈ x, c ≠ 32 ∧ c ≠ 10 := fun x hx => name_chars (h.name x (.inl hx))
theorem VG.n_free {g : Gm} (h : VG g) : ∀ x ∈ g.nonterms, ∀ c ∈ x, c ≠ 32 ∧ c ≠ 10 := fun x hx => name_chars (h.name x (.inr hx))

theorem app_names {a b p q : List (List UInt8)} (ha : ∀ x ∈ a, isName x = true) (hb : ∀ x ∈ b, isName x = true) (hp : ∀ x, p.head? = some x → isName x = false) (hq : ∀ x, q.head? = some x → isName x = false) (h : a ++ p = b ++ q) : a = b ∧ p = q := by
  induction a generalizing b with
  | nil =>
    cases b with
    | nil => exact ⟨rfl, by simpa using h⟩
    | cons y b =>
      simp at h
      have h1 := hp y (by rw [h]; rfl)
      rw [hb y (by simp)] at h1
      cases h1
  | cons x a ih =>
    cases b with
    | nil =>
      simp at h
      have h1 := hq x (by rw [← h]; rfl)
      rw [ha x (by simp)] at h1
      cases h1
    | cons y b =>
      simp at h
      obtain ⟨e1, e2⟩ := ih (b := b) (fun z hz => ha z (List.mem_cons_of_mem _ hz)) (fun z hz => hb z (List.mem_cons_of_mem _ hz)) h.2
      exact ⟨by rw [h.1, e1], e2⟩

theorem price_head (p : Int) : ∀ x, (priceW p).head? = some x → isName x = false := by
  intro x hx
  unfold priceW at hx
  split at hx
  · simp at hx
    subst hx
    decide
  · cases hx

theorem price_inj {p q : Int} (hp : 0 ≤ p) (hq : 0 ≤ q) (h : priceW p = priceW q) : p = q := by
  unfold priceW at h
  split at h <;> split at h
  · simp at h
    have := dd_inj _ _ h
    omega
  · simp at h
  · simp at h
  · omega

theorem map_inj {α β : Type} {f : α → β} : ∀ {l m : List α}, (∀ x ∈ l, ∀ y ∈ m, f x = f y → x = y) → l.map f = m.map f → l = m
  | [], [], _, _ => rfl
  | [], y :: m, _, h => by simp at h
  | x :: l, [], _, h => by simp at h
  | x :: l, y :: m, hi, h => by
    simp at h
    rw [hi x (by simp) y (by simp) h.1, map_inj (l := l) (m := m) (fun a ha b hb => hi a (List.mem_cons_of_mem _ ha) b (List.mem_cons_of_mem _ hb)) h.2]

/-- Lines of rules over the same names. -/
theorem line_inj {g h : Gm} (hg : VG g) (hh : VG h) (et : g.terms = h.terms) (en : g.nonterms = h.nonterms) {r s : Rl} (hr : VR g r) (hs : VR h s) (e : lineW g r = lineW h s) : r = s := by
  have nte : ∀ i, ntN h i = ntN g i := fun i => by simp [ntN, en]
  have sye : ∀ x, symN h x = symN g x := fun x => by simp [symN, en, et]
  have bad : ∀ x, badSym h x = badSym g x := fun x => by simp [badSym, en, et]
  unfold lineW at e
  obtain ⟨e1, e2⟩ := cut_at (fun hm => (name_chars (hg.nt_name hr.h0 hr.h) _ hm).1 rfl) (fun hm => (name_chars (hh.nt_name hs.h0 hs.h) _ hm).1 rfl) e
  rw [nte] at e1
  have q1 := nt_inj hg hr.h0 hr.h hs.h0 (by rw [en]; exact hs.h) e1
  have e3 : wordsT (r.body.map (symN g) ++ priceW r.price) = wordsT (s.body.map (symN h) ++ priceW s.price) := by simpa using e2
  have e4 := words_inj (fun x hx hc => (hg.body_free hr x hx _ hc).1 rfl) (fun x hx hc => (hh.body_free hs x hx _ hc).1 rfl) e3
  obtain ⟨e5, e6⟩ := app_names (fun x hx => by obtain ⟨y, hy, rfl⟩ := List.mem_map.1 hx; exact hg.sym_name (hr.ok y hy)) (fun x hx => by obtain ⟨y, hy, rfl⟩ := List.mem_map.1 hx; exact hh.sym_name (hs.ok y hy)) (price_head _) (price_head _) e4
  have q3 := price_inj hr.p0 hs.p0 e6
  have e7 : s.body.map (symN h) = s.body.map (symN g) := List.map_congr_left fun x _ => sye x
  rw [e7] at e5
  have q2 := map_inj (fun x hx y hy exy => sym_inj hg (hr.ok x hx) (by rw [← bad]; exact hs.ok y hy) exy) e5
  exact Rl.ext' q1 q2 q3

theorem rules_inj {g h : Gm} (hg : VG g) (hh : VG h) (et : g.terms = h.terms) (en : g.nonterms = h.nonterms) : ∀ {l m : List Rl}, (∀ r ∈ l, VR g r) → (∀ r ∈ m, VR h r) → l.map (lineW g) = m.map (lineW h) → l = m
  | [], [], _, _, _ => rfl
  | [], y :: m, _, _, e => by simp at e
  | x :: l, [], _, _, e => by simp at e
  | x :: l, y :: m, hl, hm, e => by
    simp at e
    rw [line_inj hg hh et en (hl x (by simp)) (hm y (by simp)) e.1, rules_inj hg hh et en (l := l) (m := m) (fun a ha => hl a (List.mem_cons_of_mem _ ha)) (fun a ha => hm a (List.mem_cons_of_mem _ ha)) e.2]

theorem fmt_inj (g h : Gm) (hg : VG g) (hh : VG h) (e : fmtG g = fmtG h) : g = h := by
  rw [fmtG, fmtG, if_pos ((validG_iff g).2 hg), if_pos ((validG_iff h).2 hh)] at e
  have tx : ∀ k : Gm, textG k = ([116, 101, 114, 109, 115] ++ wordsT k.terms) ++ 10 :: (([110, 111, 110, 116, 101, 114, 109, 115] ++ wordsT k.nonterms) ++ 10 :: (([115, 116, 97, 114, 116, 32] ++ ntN k k.start) ++ 10 :: k.rules.flatMap fun r => lineW k r ++ [10])) := fun k => by
    have : rulesT k k.rules = k.rules.flatMap fun r => lineW k r ++ [10] := by
      unfold rulesT
      congr 1
      funext r
      exact ruleT_eq k r
    simp [textG, headT, this]
  rw [tx, tx] at e
  have f1 : ∀ k : Gm, VG k → (10 : UInt8) ∉ ([116, 101, 114, 109, 115] ++ wordsT k.terms) := fun k hk hm => by
    rcases List.mem_append.1 hm with hm | hm
    · revert hm; decide
    · exact words_no (by decide) (fun x hx hc => (hk.t_free x hx _ hc).2 rfl) hm
  have f2 : ∀ k : Gm, VG k → (10 : UInt8) ∉ ([110, 111, 110, 116, 101, 114, 109, 115] ++ wordsT k.nonterms) := fun k hk hm => by
    rcases List.mem_append.1 hm with hm | hm
    · revert hm; decide
    · exact words_no (by decide) (fun x hx hc => (hk.n_free x hx _ hc).2 rfl) hm
  have f3 : ∀ k : Gm, VG k → (10 : UInt8) ∉ ([115, 116, 97, 114, 116, 32] ++ ntN k k.start) := fun k hk hm => by
    rcases List.mem_append.1 hm with hm | hm
    · revert hm; decide
    · exact (name_chars (hk.nt_name hk.s0 hk.s) _ hm).2 rfl
  obtain ⟨a1, e⟩ := cut_at (f1 g hg) (f1 h hh) e
  obtain ⟨a2, e⟩ := cut_at (f2 g hg) (f2 h hh) e
  obtain ⟨a3, e⟩ := cut_at (f3 g hg) (f3 h hh) e
  have et := words_inj (fun x hx hc => (hg.t_free x hx _ hc).1 rfl) (fun x hx hc => (hh.t_free x hx _ hc).1 rfl) (List.append_cancel_left a1)
  have en := words_inj (fun x hx hc => (hg.n_free x hx _ hc).1 rfl) (fun x hx hc => (hh.n_free x hx _ hc).1 rfl) (List.append_cancel_left a2)
  have es : ntN g g.start = ntN g h.start := by
    have := List.append_cancel_left a3
    rw [this]
    simp [ntN, en]
  have q := nt_inj hg hg.s0 hg.s hh.s0 (by rw [en]; exact hh.s) es
  have el := lines_inj (fun r hr => hg.line_free (hg.rok r hr)) (fun r hr => hh.line_free (hh.rok r hr)) e
  exact Gm.ext' et en q (rules_inj hg hh et en hg.rok hh.rok el)

theorem law_Inj (a c : Gm) (H : AHeap) (hM : GM H) (hT : GT H) : Pure law18_GrammarFormatInjective_id [a.av, c.av] H (.bool true) := law_FormatInjective fmt_inj a c H hM hT
end Go.Av
