/- Valid names. -/
import Derived.Test.YtpdbcfnmhicnbaaDoorT1
import Derived.Test.YtpdbcfnmhicnbaaDoorB4
set_option linter.unusedVariables false
set_option linter.unusedSimpArgs false
namespace Go.Av
open Go Go.Proofs Go.RowKit

def nmC (c : UInt8) : Bool := isLetter c || isDigit c || c == 95 || c == 46 || c == 64
def isName (s : List UInt8) : Bool := decide (1 ≤ s.length) && decide (s.length ≤ 48) && s.head?.any isLetter && s.all nmC

theorem isName_iff (s : List UInt8) : isName s = true ↔ (1 ≤ s.length ∧ s.length ≤ 48) ∧ ∀ (j : Nat) (c : UInt8), s[j]? = some c → isLetter c = true ∨ (j ≠ 0 ∧ nmC c = true) := by
  cases s with
  | nil => simp [isName]
  | cons a s =>
    simp only [isName, Bool.and_eq_true, decide_eq_true_iff, List.head?_cons, Option.any_some, List.all_eq_true]
    constructor
    · rintro ⟨⟨⟨h1, h2⟩, h3⟩, h4⟩
      refine ⟨⟨h1, h2⟩, fun j c hj => ?_⟩
      cases j with
      | zero => simp at hj; subst hj; exact .inl h3
      | succ j => exact .inr ⟨by omega, h4 c (List.mem_of_getElem? hj)⟩
    · rintro ⟨⟨h1, h2⟩, h3⟩
      refine ⟨⟨⟨h1, h2⟩, ?_⟩, fun c hc => ?_⟩
      · rcases h3 0 a rfl with h | ⟨h, _⟩
        · exact h
        · exact absurd rfl h
      · obtain ⟨j, hj⟩ := List.getElem?_of_mem hc
        rcases h3 j c hj with h | ⟨_, h⟩
        · simp [nmC, h]
        · exact h

theorem nmC_iff (c : UInt8) : nmC c = true ↔ (isLetter c = true ∨ isDigit c = true ∨ (c.toNat : Int) = 95 ∨ (c.toNat : Int) = 46 ∨ (c.toNat : Int) = 64) := by
  simp [nmC, u8_eq]
  constructor
  · rintro ((((h | h) | h) | h) | h)
    · exact .inl h
    · exact .inr (.inl h)
    · exact .inr (.inr (.inl (by omega)))
    · exact .inr (.inr (.inr (.inl (by omega))))
    · exact .inr (.inr (.inr (.inr (by omega))))
  · rintro (h | h | h | h | h)
    · exact .inl (.inl (.inl (.inl h)))
    · exact .inl (.inl (.inl (.inr h)))
    · exact .inl (.inl (.inr (by omega)))
    · exact .inl (.inr (by omega))
    · exact .inr (by omega)

/-- The given program's package variable that bounds a search. -/
def GM (H : AHeap) : Prop := ∃ m : Int, H 0 = some (.tab [.int .i64 m])
theorem GM.set {H : AHeap} {b : Nat} {o : AObj} (h : GM H) (hb : H b = none) : GM (H.set b o) := by
  obtain ⟨m, hm⟩ := h
  exact ⟨m, by rw [AHeap.set_ne _ _ (ne_of_some_none hm hb)]; exact hm⟩

theorem strings_Contains (s t : List UInt8) (hs : s.length < 4294967281) (H : AHeap) (hM : GM H) : Pure strings_Contains_id [.str s, .str t] H (.bool (Lib.contains s t)) := by
  obtain ⟨m, hM⟩ := hM
  refine ACalls.shelf (by kernel_rfl) fun c us hH hh hl hr => ?_
  obtain ⟨u0, u1, rfl⟩ : ∃ u0 u1, us = [u0, u1] := by
    match us, hl with
    | [u0, u1], _ => exact ⟨u0, u1, rfl⟩
  obtain ⟨r0, _⟩ := (hr 0 _ u0 rfl rfl).str
  obtain ⟨r1, _⟩ := (hr 1 _ u1 rfl rfl).str
  subst r0 r1
  rw [← hH] at hM
  obtain ⟨_, e, z, q⟩ := hh.x.tab _ _ hM
  refine (Tryd.strings_Contains ⟨s.toArray⟩ ⟨t.toArray⟩ m c.w (by simpa [ByteArray.size] using hs) (by simp [World.cell?, q])).mono fun e w' ⟨he, hw⟩ => ⟨_, he, fun d => ?_, hw ▸ Below.refl _ _⟩
  exact Rep1.v ⟨.bool _, rfl⟩

theorem spec_chars (c : UInt8) : Lib.contains [95, 46, 64] (Utf8.encode (c.toNat : Int)).data.toList = (c == 95 || c == 46 || c == 64) := by
  have h : ∀ n : Fin 256, Lib.contains [95, 46, 64] (Utf8.encode (n.val : Int)).data.toList = (n.val == 95 || n.val == 46 || n.val == 64) := by decide +kernel
  have hc := c.toNat_lt
  have := h ⟨c.toNat, hc⟩
  simp only at this
  rw [this]
  have e : ∀ d : UInt8, (c == d) = (c.toNat == d.toNat) := fun d => by
    rw [Bool.eq_iff_iff, beq_iff_eq, beq_iff_eq, UInt8.toNat_inj]
  rw [e, e, e]
  rfl

set_option maxRecDepth 100000 in
set_option maxHeartbeats 4000000 in
theorem r_Name (s : List UInt8) (H : AHeap) : Pure ref18_Name_id [.str s] H (.bool (isName s)) := by
  have hml := maxLen_eq
  refine ref18_Name_enter rfl ?_
  simp [ref18_Name_rs]
  intro h1
  by_cases hl1 : s.length < 1
  · have hn : isName s = false := by simp [isName, hl1]; omega
    have hl1' : (s.length : Int) < 1 := by omega
    simp [hl1, hl1', hn]
  · have hl1' : ¬ (s.length : Int) < 1 := by omega
    by_cases hl2 : 48 < s.length
    · have hn : isName s = false := by rw [← Bool.not_eq_true, isName_iff]; omega
      have hl2' : (48 : Int) < s.length := by omega
      simp [hl1, hl1', hl2, hl2', hn]
    · have hl2' : ¬ (48 : Int) < s.length := by omega
      simp [hl1, hl1', hl2, hl2']
      intro _ _ _
      refine aw_loopK (fun i : Nat => i ≤ s.length ∧ ∀ (j : Nat) (c : UInt8), j < i → s[j]? = some c → isLetter c = true ∨ (j ≠ 0 ∧ nmC c = true))
        (fun i => [(0, .str s), (3, i64 i)]) (fun _ => H) (fun i => s.length - i) 0 ⟨by simp, by simp⟩ rfl rfl ?_
      rintro i ⟨hi, hno⟩
      by_cases h : i < s.length
      · have hc : s[i]? = some s[i] := List.getElem?_eq_getElem h
        have hw : IntKind.i64.wrap ((i : Int) + 1) = ((i + 1 : Nat) : Int) := by rw [wrap64 (by omega) (by omega)]; simp
        have hok := or_congr (isLetter_iff s[i]) (and_congr (Iff.rfl (a := i ≠ 0)) ((nmC_iff s[i]).trans (or_congr (isLetter_iff s[i]) (or_congr (isDigit_iff s[i]) Iff.rfl))))
        have hi0 : ((i : Int) = 0) = (i = 0) := by simp
        simp [h, hc, -grdQ_b]
        generalize hk : (s[i].toNat : Int) = k at hok
        have hcase : (isLetter s[i] = true ∨ (i ≠ 0 ∧ nmC s[i] = true)) ∨ ¬ (isLetter s[i] = true ∨ (i ≠ 0 ∧ nmC s[i] = true)) := Classical.em _
        rcases hcase with hg | hg
        · have hnext : ∀ (j : Nat) (c : UInt8), j < i + 1 → s[j]? = some c → isLetter c = true ∨ (j ≠ 0 ∧ nmC c = true) := fun j c hj hjc => by
            by_cases hji : j < i
            · exact hno j c hji hjc
            · have : j = i := by omega
              subst this
              rw [hc] at hjc
              injection hjc with hjc
              rw [← hjc]
              exact hg
          have hgk := hok.1 hg
          clear hg hok
          by_cases h5 : i = 0
          · subst h5
            by_cases h1 : (97 : Int) ≤ k <;> by_cases h2 : k ≤ 122 <;> (try omega) <;> by_cases h3 : (65 : Int) ≤ k <;> by_cases h4 : k ≤ 90 <;> (try omega) <;> by_cases h6 : (48 : Int) ≤ k <;> by_cases h7 : k ≤ 57 <;> (try omega) <;> by_cases h8 : k = 95 <;> by_cases h9 : k = 46 <;> by_cases h10 : k = 64 <;> (try omega) <;> simp [h1, h2, h3, h4, h6, h7, h8, h9, h10] <;> (intro _; rw [wrap64 (by omega) (by omega)]; exact loopK_same 1 ⟨by omega, hnext⟩ (by omega) rfl rfl)
          · by_cases h1 : (97 : Int) ≤ k <;> by_cases h2 : k ≤ 122 <;> (try omega) <;> by_cases h3 : (65 : Int) ≤ k <;> by_cases h4 : k ≤ 90 <;> (try omega) <;> by_cases h6 : (48 : Int) ≤ k <;> by_cases h7 : k ≤ 57 <;> (try omega) <;> by_cases h8 : k = 95 <;> by_cases h9 : k = 46 <;> by_cases h10 : k = 64 <;> (try omega) <;> simp [h1, h2, h3, h4, h5, h6, h7, h8, h9, h10] <;> (intro _; rw [wrap64 (by omega) (by omega)]; exact loopK_same (i + 1) ⟨by omega, hnext⟩ (by omega) rfl rfl)
        · have hn : isName s = false := by
            rw [← Bool.not_eq_true, isName_iff]
            exact fun h => hg (h.2 i _ hc)
          have hgk := (not_congr hok).1 hg
          clear hg hok
          by_cases h5 : i = 0
          · subst h5
            by_cases h1 : (97 : Int) ≤ k <;> by_cases h2 : k ≤ 122 <;> (try omega) <;> by_cases h3 : (65 : Int) ≤ k <;> by_cases h4 : k ≤ 90 <;> (try omega) <;> by_cases h6 : (48 : Int) ≤ k <;> by_cases h7 : k ≤ 57 <;> (try omega) <;> by_cases h8 : k = 95 <;> by_cases h9 : k = 46 <;> by_cases h10 : k = 64 <;> (try omega) <;> simp [h1, h2, h3, h4, h6, h7, h8, h9, h10, hn]
          · by_cases h1 : (97 : Int) ≤ k <;> by_cases h2 : k ≤ 122 <;> (try omega) <;> by_cases h3 : (65 : Int) ≤ k <;> by_cases h4 : k ≤ 90 <;> (try omega) <;> by_cases h6 : (48 : Int) ≤ k <;> by_cases h7 : k ≤ 57 <;> (try omega) <;> by_cases h8 : k = 95 <;> by_cases h9 : k = 46 <;> by_cases h10 : k = 64 <;> (try omega) <;> simp [h1, h2, h3, h4, h5, h6, h7, h8, h9, h10, hn]
      · have hn : isName s = true := (isName_iff s).2 ⟨by omega, fun j c hj => hno j c (by have := (List.getElem?_eq_some_iff.1 hj).1; omega) hj⟩
        simp [h, hn]
end Go.Av

namespace Go.Av
open Go Go.Proofs Go.RowKit

theorem g_name (s : List UInt8) (H : AHeap) (hM : GM H) : Pure grammar_name_id [.str s] H (.bool (isName s)) := by
  have hml := maxLen_eq
  refine grammar_name_enter rfl ?_
  simp [grammar_name_rs]
  match s with
  | [] =>
    simp [isName]
  | a :: s =>
    simp
    by_cases hl2 : 48 < (a :: s).length
    · have hn : isName (a :: s) = false := by rw [← Bool.not_eq_true, isName_iff]; omega
      have hl2' : (48 : Int) < (a :: s).length := by omega
      simp at hl2 hl2'
      have hl3 : ¬ (s.length : Int) + 1 ≤ 48 := by omega
      simp [hl2, hl2', hl3, hn]
    · have hl2' : ¬ (48 : Int) < (a :: s).length := by omega
      have hl4 : ¬ (48 : Int) < (s.length : Int) + 1 := by simpa using hl2'
      have hl5 : (s.length : Int) + 1 ≤ 48 := by omega
      simp [hl4, hl5]
      intro h1
      refine (g_letter a H).use ?_
      cases ha : isLetter a
      · have hn : isName (a :: s) = false := by simp [isName, ha]
        simp [hn]
      · simp
        intro _
        have hb : ((a :: s).map fun b : UInt8 => AV.int .u8 (b.toNat : Int)).length = (a :: s).length := by simp
        refine aw_loopK (fun i : Nat => i ≤ (a :: s).length ∧ ∀ (j : Nat) (c : UInt8), j < i → (a :: s)[j]? = some c → isLetter c = true ∨ (j ≠ 0 ∧ nmC c = true))
          (fun i => [(19, .list 1 ((a :: s).map fun b => AV.int .u8 (b.toNat : Int))), (20, i64 ((a :: s).length : Nat)), (21, i64 i)]) (fun _ => H) (fun i => (a :: s).length - i) 0 ⟨by simp, by simp⟩ (by simp) rfl ?_
        generalize ht : a :: s = t at *
        rintro i ⟨hi, hno⟩
        by_cases h : i < t.length
        · have hc : t[i]? = some t[i] := List.getElem?_eq_getElem h
          simp [h, hc]
          refine (g_letter _ H).use ?_
          have hw : IntKind.i64.wrap ((i : Int) + 1) = ((i + 1 : Nat) : Int) := by rw [wrap64 (by simp at hl2; omega) (by simp at hl2; omega)]; simp
          have next : isLetter t[i] = true ∨ (i ≠ 0 ∧ nmC t[i] = true) → ∀ (j : Nat) (c : UInt8), j < i + 1 → t[j]? = some c → isLetter c = true ∨ (j ≠ 0 ∧ nmC c = true) := fun hg j c hj hjc => by
            by_cases hji : j < i
            · exact hno j c hji hjc
            · have : j = i := by omega
              subst this
              rw [hc] at hjc
              injection hjc with hjc
              rw [← hjc]
              exact hg
          have i0 : isLetter t[i] = false → i ≠ 0 := by
            rintro hh rfl
            subst ht
            simp [ha] at hh
          cases hL : isLetter t[i]
          · simp
            have hdig := isDigit_iff t[i]
            have hcon : Pure strings_Contains_id [.str [95, 46, 64], .str (Utf8.encode (t[i].toNat : Int)).data.toList] H (.bool (t[i] == 95 || t[i] == 46 || t[i] == 64)) := by
              rw [← spec_chars]
              exact strings_Contains _ _ (by decide) H hM
            have hnm : nmC t[i] = (isDigit t[i] || (t[i] == 95 || t[i] == 46 || t[i] == 64)) := by simp [nmC, hL, Bool.or_assoc]
            by_cases h1 : (48 : Int) ≤ t[i].toNat
            · by_cases h2 : (t[i].toNat : Int) ≤ 57
              · have h1' : ¬ (t[i].toNat : Int) < 48 := by omega
                have h2' : ¬ (57 : Int) < t[i].toNat := by omega
                simp [h1, h2, h1', h2', hw]
                exact loopK_same (i + 1) ⟨by omega, next (.inr ⟨i0 hL, by rw [hnm, hdig.2 ⟨h1, h2⟩]; rfl⟩)⟩ (by omega) rfl rfl
              · have h1' : ¬ (t[i].toNat : Int) < 48 := by omega
                have h2' : (57 : Int) < t[i].toNat := by omega
                have hd : isDigit t[i] = false := by rw [← Bool.not_eq_true, hdig]; omega
                simp [h1, h2, h1', h2']
                generalize (Utf8.encode (t[i].toNat : Int)).data.toList = u at hcon ⊢
                refine hcon.use ?_
                cases hs : (t[i] == 95 || t[i] == 46 || t[i] == 64)
                · have hn : isName t = false := by
                    rw [← Bool.not_eq_true, isName_iff]
                    intro hh
                    rcases hh.2 i _ hc with h' | ⟨_, h'⟩
                    · rw [hL] at h'; cases h'
                    · rw [hnm, hd, hs] at h'; cases h'
                  simp [hn]
                · simp [hw]
                  exact loopK_same (i + 1) ⟨by omega, next (.inr ⟨i0 hL, by rw [hnm, hs, Bool.or_true]⟩)⟩ (by omega) rfl rfl
            · have h1' : (t[i].toNat : Int) < 48 := by omega
              have hd : isDigit t[i] = false := by rw [← Bool.not_eq_true, hdig]; omega
              simp [h1, h1']
              generalize (Utf8.encode (t[i].toNat : Int)).data.toList = u at hcon ⊢
              refine hcon.use ?_
              cases hs : (t[i] == 95 || t[i] == 46 || t[i] == 64)
              · have hn : isName t = false := by
                  rw [← Bool.not_eq_true, isName_iff]
                  intro hh
                  rcases hh.2 i _ hc with h' | ⟨_, h'⟩
                  · rw [hL] at h'; cases h'
                  · rw [hnm, hd, hs] at h'; cases h'
                simp [hn]
              · simp [hw]
                exact loopK_same (i + 1) ⟨by omega, next (.inr ⟨i0 hL, by rw [hnm, hs, Bool.or_true]⟩)⟩ (by omega) rfl rfl
          · simp [hw]
            exact loopK_same (i + 1) ⟨by omega, next (.inl hL)⟩ (by omega) rfl rfl
        · have hn : isName t = true := (isName_iff t).2 ⟨⟨by subst ht; simp, by omega⟩, fun j c hj => hno j c (by have := (List.getElem?_eq_some_iff.1 hj).1; omega) hj⟩
          simp [h, hn]
end Go.Av
