/- The text of a valid grammar tells the grammar: the theorem. -/
import Derived.Test.YtpdbcfnmhicnbaaDoorA6
set_option linter.unusedVariables false
set_option linter.unusedSimpArgs false
namespace Go.Av
open Go Go.Proofs

theorem dd_small {n : Nat} (h : n < 10) : Lib.decDigits n = [UInt8.ofNat (48 + n)] := by rw [Lib.decDigits, dif_pos h]
theorem dd_big {n : Nat} (h : ¬ n < 10) : Lib.decDigits n = Lib.decDigits (n / 10) ++ [UInt8.ofNat (48 + n % 10)] := by rw [Lib.decDigits, dif_neg h]
theorem dd_ne (n : Nat) : Lib.decDigits n ≠ [] := by
  by_cases h : n < 10
  · rw [dd_small h]; simp
  · rw [dd_big h]; simp
theorem dig_inj {a b : Nat} (ha : a < 10) (hb : b < 10) (h : UInt8.ofNat (48 + a) = UInt8.ofNat (48 + b)) : a = b := by
  have := congrArg UInt8.toNat h
  rw [UInt8.toNat_ofNat', UInt8.toNat_ofNat'] at this
  omega
theorem dd_inj : ∀ (n m : Nat), Lib.decDigits n = Lib.decDigits m → n = m := by
  intro n
  induction n using Nat.strongRecOn with
  | _ n ih =>
    intro m h
    by_cases hn : n < 10
    · by_cases hm : m < 10
      · rw [dd_small hn, dd_small hm] at h
        exact dig_inj hn hm (by simpa using h)
      · rw [dd_small hn, dd_big hm] at h
        have := congrArg List.length h
        have h2 := dd_ne (m / 10)
        simp at this
        exact absurd this h2
    · by_cases hm : m < 10
      · rw [dd_big hn, dd_small hm] at h
        have := congrArg List.length h
        have h2 := dd_ne (n / 10)
        simp at this
        exact absurd this h2
      · rw [dd_big hn, dd_big hm] at h
        obtain ⟨e1, e2⟩ := List.append_inj' h rfl
        have e3 := ih (n / 10) (by omega) (m / 10) e1
        have e4 := dig_inj (Nat.mod_lt n (by omega)) (Nat.mod_lt m (by omega)) (by simpa using e2)
        omega
theorem dd_dig : ∀ (n : Nat), ∀ c ∈ Lib.decDigits n, c ≠ 32 ∧ c ≠ 10 := by
  intro n
  induction n using Nat.strongRecOn with
  | _ n ih =>
    have hd : ∀ a, a < 10 → UInt8.ofNat (48 + a) ≠ 32 ∧ UInt8.ofNat (48 + a) ≠ 10 := fun a ha => by
      constructor <;> intro h <;> have := congrArg UInt8.toNat h <;> rw [UInt8.toNat_ofNat'] at this <;> simp at this <;> omega
    intro c hc
    by_cases hn : n < 10
    · rw [dd_small hn] at hc
      rw [List.mem_singleton.1 hc]
      exact hd n hn
    · rw [dd_big hn] at hc
      rcases List.mem_append.1 hc with hc | hc
      · exact ih (n / 10) (by omega) c hc
      · rw [List.mem_singleton.1 hc]
        exact hd _ (Nat.mod_lt _ (by omega))

theorem VG.name {g : Gm} (h : VG g) : ∀ x, x ∈ g.terms ∨ x ∈ g.nonterms → isName x = true := by
  intro x hx
  have hn := h.names
  simp only [namesOk, Bool.and_eq_true, List.all_eq_true] at hn
  exact hn.1 x (by simpa using hx)
theorem VG.nodup {g : Gm} (h : VG g) : (g.terms ++ g.nonterms).Nodup := by
  have hn := h.names
  simp only [namesOk, Bool.and_eq_true, decide_eq_true_iff] at hn
  exact hn.2

/-- Where a symbol's name stands. -/
def posS (g : Gm) (x : Int) : Nat := if 0 ≤ x then x.toNat else g.terms.length + (-1 - x).toNat
theorem pos_at {g : Gm} {x : Int} (h : badSym g x = false) : (g.terms ++ g.nonterms)[posS g x]? = some (symN g x) := by
  unfold posS
  by_cases p : 0 ≤ x
  · have := symN_pos p h
    rw [if_pos p, List.getElem?_append_left (List.getElem?_eq_some_iff.1 this).1]
    exact this
  · have := symN_neg p h
    rw [if_neg p, List.getElem?_append_right (by omega)]
    simpa using this
theorem nodup_at {l : List (List UInt8)} (h : l.Nodup) {i j : Nat} {x : List UInt8} (hi : l[i]? = some x) (hj : l[j]? = some x) : i = j := by
  obtain ⟨l1, e1⟩ := List.getElem?_eq_some_iff.1 hi
  obtain ⟨l2, e2⟩ := List.getElem?_eq_some_iff.1 hj
  have key := List.pairwise_iff_getElem.1 h
  rcases Nat.lt_trichotomy i j with h1 | h1 | h1
  · exact absurd (e1.trans e2.symm) (key i j l1 l2 h1)
  · exact h1
  · exact absurd (e2.trans e1.symm) (key j i l2 l1 h1)
theorem sym_inj {g : Gm} (hv : VG g) {x y : Int} (hx : badSym g x = false) (hy : badSym g y = false) (h : symN g x = symN g y) : x = y := by
  have e := nodup_at hv.nodup (pos_at hx) (by rw [h]; exact pos_at hy)
  simp only [badSym, Bool.or_eq_false_iff, decide_eq_false_iff_not] at hx hy
  unfold posS at e
  split at e <;> split at e <;> omega
theorem nt_inj {g : Gm} (hv : VG g) {i j : Int} (hi : 0 ≤ i) (hi2 : i < g.nonterms.length) (hj : 0 ≤ j) (hj2 : j < g.nonterms.length) (h : ntN g i = ntN g j) : i = j := by
  have h1 := nt_get hi hi2
  have h2 := nt_get hj hj2
  rw [← h] at h2
  have h3 := nodup_at (List.nodup_append.1 hv.nodup).2.1 h1 h2
  omega
theorem VG.nt_name {g : Gm} (h : VG g) {i : Int} (hi : 0 ≤ i) (hi2 : i < g.nonterms.length) : isName (ntN g i) = true := h.name _ (.inr (List.mem_of_getElem? (nt_get hi hi2)))
theorem VG.sym_name {g : Gm} (h : VG g) {x : Int} (hx : badSym g x = false) : isName (symN g x) = true := by
  have := List.mem_of_getElem? (pos_at hx)
  exact h.name _ (by simpa using this)

/-- A rule's line without its end. -/
def lineW (g : Gm) (r : Rl) : List UInt8 := ntN g r.head ++ 32 :: 45 :: 62 :: wordsT (r.body.map (symN g) ++ priceW r.price)
theorem ruleT_eq (g : Gm) (r : Rl) : ruleT g r = lineW g r ++ [10] := by simp [ruleT, lineW, priceT_eq, wordsT]

theorem words_no {c : UInt8} (hc : c ≠ 32) {l : List (List UInt8)} (h : ∀ x ∈ l, c ∉ x) : c ∉ wordsT l := by
  intro hm
  simp only [wordsT, List.mem_flatMap] at hm
  obtain ⟨x, hx, hm⟩ := hm
  rcases List.mem_cons.1 hm with e | hm
  · exact hc e
  · exact h x hx hm

theorem price_free (p : Int) : ∀ x ∈ priceW p, ∀ c ∈ x, c ≠ 32 ∧ c ≠ 10 := by
  intro x hx
  unfold priceW at hx
  split at hx
  · simp at hx
    rcases hx with rfl | rfl
    · decide
    · exact dd_dig _
  · cases hx
theorem VG.body_free {g : Gm} (h : VG g) {r : Rl} (hr : VR g r) : ∀ x ∈ r.body.map (symN g) ++ priceW r.price, ∀ c ∈ x, c ≠ 32 ∧ c ≠ 10 := by
  intro x hx
  rcases List.mem_append.1 hx with hx | hx
  · obtain ⟨y, hy, rfl⟩ := List.mem_map.1 hx
    exact name_chars (h.sym_name (hr.ok y hy))
  · exact price_free _ x hx
theorem VG.line_free {g : Gm} (h : VG g) {r : Rl} (hr : VR g r) : (10 : UInt8) ∉ lineW g r := by
  intro hm
  simp only [lineW, List.mem_append, List.mem_cons] at hm
  rcases hm with hm | hm | hm | hm | hm
  · exact (name_chars (h.nt_name hr.h0 hr.h) _ hm).2 rfl
  · revert hm; decide
  · revert hm; decide
  · revert hm; decide
  · exact words_no (by decide) (fun x hx hc => (h.body_free hr x hx _ hc).2 rfl) hm
end Go.Av
