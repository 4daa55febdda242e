/- Part of the proof: D12. No condition. -/
import Derived.Test.YtondhmpdmbjmdaaDoorQa
import Derived.Test.YtondhmpdmbjmdaaDoorCe
set_option linter.unusedVariables false
set_option linter.unusedSimpArgs false
namespace Go.Av
/-- What the reference asks of the i-th byte of a name. -/
def nameAt (i : Nat) (c : UInt8) : Bool := isLetter c || (i != 0 && inWord c)

theorem r16_Name_letter {s : List UInt8} {i : Nat} {c : UInt8} (hc : s[i]? = some c) {K : AK} {H : AHeap} (hK : K .norm [(0, .str s), (3, i64 i), (4, .bool (isLetter c))] H) :
    aw PP r6_Name_c5 K [(0, .str s), (3, i64 i), (8, .bool true)] H := by
  obtain ⟨hlt, hcc⟩ := List.getElem?_eq_some_iff.1 hc
  have hiff := isLetter_iff c
  by_cases h1 : 97 ≤ (c.toNat : Int)
  · by_cases h2 : (c.toNat : Int) ≤ 122
    · have : isLetter c = true := hiff.2 (by omega)
      rw [this] at hK
      simp [hc, h1, h2]
      exact hK
    · have : isLetter c = false := by rw [Bool.eq_false_iff]; intro h; have := hiff.1 h; omega
      rw [this] at hK
      have h3 : 65 ≤ (c.toNat : Int) := by omega
      have h4 : ¬ (c.toNat : Int) ≤ 90 := by omega
      have h3' : ¬ (c.toNat : Int) < 65 := by omega
      simp [hc, h1, h2, h3, h3', h4]
      exact hK
  · have h1' : (c.toNat : Int) < 97 := by omega
    by_cases h3 : 65 ≤ (c.toNat : Int)
    · have h3' : ¬ (c.toNat : Int) < 65 := by omega
      by_cases h4 : (c.toNat : Int) ≤ 90
      · have : isLetter c = true := hiff.2 (by omega)
        rw [this] at hK
        simp [hc, h1, h1', h3, h3', h4]
        exact hK
      · have : isLetter c = false := by rw [Bool.eq_false_iff]; intro h; have := hiff.1 h; omega
        rw [this] at hK
        simp [hc, h1, h1', h3, h3', h4]
        exact hK
    · have : isLetter c = false := by rw [Bool.eq_false_iff]; intro h; have := hiff.1 h; omega
      rw [this] at hK
      have h3' : (c.toNat : Int) < 65 := by omega
      simp [hc, h1, h1', h3, h3']
      exact hK

theorem r16_Name_test {s : List UInt8} {i : Nat} {c : UInt8} (hc : s[i]? = some c) {K : AK} {H : AHeap} (hK : K .norm [(0, .str s), (3, i64 i), (56, .bool (!nameAt i c))] H) :
    aw PP r6_Name_c6 K [(0, .str s), (3, i64 i), (4, .bool (isLetter c))] H := by
  obtain ⟨hlt, hcc⟩ := List.getElem?_eq_some_iff.1 hc
  have hiff := isDigit_iff c
  cases hl : isLetter c
  · by_cases h0 : i = 0
    · subst h0
      simp [nameAt, hl] at hK
      simp
      exact hK
    · have h0' : ¬ (i : Int) = 0 := by omega
      have h0b : ((i : Int) == 0) = false := by rw [beq_eq_false_iff_ne]; omega
      have h0c : (i != 0) = true := by simpa using h0
      simp [nameAt, hl, h0, h0c] at hK
      by_cases h1 : 48 ≤ (c.toNat : Int)
      · by_cases h2 : (c.toNat : Int) ≤ 57
        · have hd : isDigit c = true := hiff.2 ⟨h1, h2⟩
          simp [inWord, hd] at hK
          have h1' : ¬ (c.toNat : Int) < 48 := by omega
          have h2' : ¬ 57 < (c.toNat : Int) := by omega
          simp [h0, h0', h0b, hc, h1', h2', h1, h2]
          exact hK
        · have hd : isDigit c = false := by rw [Bool.eq_false_iff]; intro h; have := hiff.1 h; omega
          have h1' : ¬ (c.toNat : Int) < 48 := by omega
          have h2' : 57 < (c.toNat : Int) := by omega
          have e95 : ((c.toNat : Int) != 95) = !(c == 95) := by rw [u8_eq]; by_cases h : (c.toNat : Int) = 95 <;> simp [h]
          simp [inWord, hd, hl] at hK
          simp [h0, h0', h0b, hc, h1', h2', h1, h2, e95]
          exact hK
      · have hd : isDigit c = false := by rw [Bool.eq_false_iff]; intro h; have := hiff.1 h; omega
        have h1' : (c.toNat : Int) < 48 := by omega
        have e95 : ((c.toNat : Int) != 95) = !(c == 95) := by rw [u8_eq]; by_cases h : (c.toNat : Int) = 95 <;> simp [h]
        simp [inWord, hd, hl] at hK
        simp [h0, h0', h0b, hc, h1', h1, e95]
        exact hK
  · simp [nameAt, hl] at hK
    simp
    exact hK

theorem nameOK_bad {s : List UInt8} {i : Nat} {c : UInt8} (hc : s[i]? = some c) (hn : nameAt i c = false) : nameOK s = false := by
  simp [nameAt] at hn
  obtain ⟨hl, hw⟩ := hn
  cases i with
  | zero =>
    cases s with
    | nil => simp at hc
    | cons d r =>
      simp at hc
      subst hc
      simp [nameOK, hl]
  | succ i =>
    have hw := hw (by omega)
    have : s.all inWord = false := by
      rw [List.all_eq_false]
      exact ⟨c, List.mem_of_getElem? hc, by simp [hw]⟩
    simp [nameOK, this]

theorem nameOK_good {s : List UInt8} (h : ∀ i c, s[i]? = some c → nameAt i c = true) : nameOK s = (s != [] && decide (s.length ≤ 24) && !reserved s) := by
  cases s with
  | nil => rfl
  | cons d r =>
    have h0 : isLetter d = true := by
      have := h 0 d rfl
      simpa [nameAt] using this
    have ha : (d :: r).all inWord = true := by
      rw [List.all_eq_true]
      intro x hx
      obtain ⟨i, hi, he⟩ := List.getElem_of_mem hx
      have := h i x (by rw [← he]; exact List.getElem?_eq_getElem hi)
      simp [nameAt] at this
      rcases this with h1 | ⟨_, h1⟩
      · simp [inWord, h1]
      · exact h1
    simp only [nameOK, h0, ha, Bool.and_true]

set_option maxHeartbeats 1000000 in
theorem r16_Name_end {s : List UInt8} {H : AHeap} {k : Int} (h : nameOK s = (s != [] && decide (s.length ≤ 24) && !reserved s)) :
    aw PP r6_Name_c20 (retK [.tmp 2] fun r H' => r = .ret (.bool (nameOK s)) ∧ H' = H) [(0, .str s), (3, i64 k), (8, .bool false)] H := by
  rw [h]
  by_cases h0 : s = []
  · subst h0
    simp
  · have b0 : (s != []) = true := by simpa using h0
    have c0 : (s == []) = false := by simpa using h0
    by_cases hl : (s.length : Int) ≤ 24
    · have hl2 : s.length ≤ 24 := by omega
      unfold reserved kwStart kwLeft kwRight kwNone kwPrice
      by_cases h1 : s = [115, 116, 97, 114, 116]
      · subst h1; simp
      · by_cases h2 : s = [108, 101, 102, 116]
        · subst h2; simp
        · by_cases h3 : s = [114, 105, 103, 104, 116]
          · subst h3; simp
          · by_cases h4 : s = [110, 111, 110, 101]
            · subst h4; simp
            · by_cases h5 : s = [112, 114, 105, 99, 101]
              · subst h5; simp
              · have c1 : (s == [115, 116, 97, 114, 116]) = false := by simpa using h1
                have c2 : (s == [108, 101, 102, 116]) = false := by simpa using h2
                have c3 : (s == [114, 105, 103, 104, 116]) = false := by simpa using h3
                have c4 : (s == [110, 111, 110, 101]) = false := by simpa using h4
                have c5 : (s == [112, 114, 105, 99, 101]) = false := by simpa using h5
                simp [b0, c0, c1, c2, c3, c4, c5, hl, hl2]
    · have hl2 : ¬ s.length ≤ 24 := by omega
      simp [b0, c0, hl, hl2]

theorem r16_Name (s : List UInt8) (H : AHeap) : Pure r6_Name_id [.str s] H (.bool (nameOK s)) := by
  have hml := maxLen_eq
  refine r6_Name_enter rfl ?_
  simp [r6_Name_rs, -r6_Name_c20_eq]
  refine aw_loopK (fun i : Nat => i ≤ s.length ∧ ∀ j c, j < i → s[j]? = some c → nameAt j c = true) (fun i => [(0, .str s), (3, i64 i)]) (fun _ => H) (fun i => s.length - i) 0 ⟨Nat.zero_le _, fun j c h => by omega⟩ rfl rfl ?_
  rintro i ⟨hi, hall⟩
  by_cases h : i < s.length
  · have hc : s[i]? = some s[i] := List.getElem?_eq_getElem h
    have h' : ¬ s.length ≤ i := by omega
    simp [h, h', -r6_Name_c5_eq, -r6_Name_c10_eq, -r6_Name_c20_eq]
    intro hm
    refine r16_Name_letter hc ?_
    rw [seqK_norm, r6_Name_c10_eq]
    refine r16_Name_test hc ?_
    rw [seqK_norm]
    cases hn : nameAt i s[i]
    · rw [nameOK_bad hc hn]
      simp
    · simp
      rw [wrap64 (by omega) (by omega)]
      refine loopK_same (i + 1) ⟨by omega, fun j c hj hjc => ?_⟩ (by omega) rfl rfl
      by_cases hji : j < i
      · exact hall j c hji hjc
      · have : j = i := by omega
        subst this
        rw [hc] at hjc
        injection hjc with hjc
        subst hjc
        exact hn
  · have : i = s.length := by omega
    subst this
    simp [-r6_Name_c20_eq]
    intro _
    exact r16_Name_end (nameOK_good fun j c hjc => hall j c (List.getElem?_eq_some_iff.1 hjc).1 hjc)
end Go.Av
