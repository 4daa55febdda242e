/- The size of a grammar file: plain definitions and laws. -/
import Derived.Test.YtondhmpdmbjmdaaDoorFmt
set_option linter.unusedVariables false
set_option linter.unusedSimpArgs false
namespace Go.Av
mutual
def nodesM : GE → Int → Int
  | .mk _ _ l, m => nodesL m 1 l
def nodesL (m : Int) : Int → List GE → Int
  | n, [] => n
  | n, e :: l => if n ≤ m then nodesL m (n + nodesM e (m - n)) l else n
end
theorem nodesM_mk (k : Int) (nm : List UInt8) (l : List GE) (m : Int) : nodesM (.mk k nm l) m = nodesL m 1 l := by rw [nodesM]
theorem nodesL_nil (m n : Int) : nodesL m n [] = n := by rw [nodesL]
theorem nodesL_cons (m n : Int) (e : GE) (l : List GE) : nodesL m n (e :: l) = if n ≤ m then nodesL m (n + nodesM e (m - n)) l else n := by rw [nodesL]

mutual
theorem nodesM_bd : ∀ (x : GE) (m : Int), 0 ≤ m → 1 ≤ nodesM x m ∧ nodesM x m ≤ m + 1
  | .mk k nm l, m, hm => by
    rw [nodesM_mk]
    have := nodesL_bd l m 1 (by omega)
    omega
theorem nodesL_bd : ∀ (l : List GE) (m n : Int), n ≤ m + 1 → n ≤ nodesL m n l ∧ nodesL m n l ≤ m + 1
  | [], m, n, h => by rw [nodesL_nil]; omega
  | e :: l, m, n, h => by
    rw [nodesL_cons]
    split
    · rename_i h1
      have h2 := nodesM_bd e (m - n) (by omega)
      have h3 := nodesL_bd l m (n + nodesM e (m - n)) (by omega)
      omega
    · omega
end

/-- Sizes of grammar files. -/
def sizeL (m : Int) : Int → List GL → Int
  | n, [] => n
  | n, l :: ls => if n ≤ m then sizeL m (n + 1 + l.tokens.length) ls else n
def sizeA (m : Int) : Int → List GA → Int
  | n, [] => n
  | n, a :: l => if n ≤ m then sizeA m (n + 1 + nodesM a.body (m - n)) l else n
def sizeR (m : Int) : Int → List GR → Int
  | n, [] => n
  | n, r :: rs => if n ≤ m then sizeR m (sizeA m (n + 1) r.alts) rs else n
def sizeF (f : GF) (m : Int) : Int := sizeR m (sizeL m 0 f.levels) f.rules
abbrev R47 : Nat := 140737488351232

theorem sizeL_bd (m : Int) : ∀ (l : List GL) (n : Int), (∀ x ∈ l, x.tokens.length ≤ R47) → 0 ≤ n → n ≤ m + 1 + R47 → 0 ≤ sizeL m n l ∧ sizeL m n l ≤ m + 1 + R47
  | [], n, _, h0, h1 => by rw [sizeL]; exact ⟨h0, h1⟩
  | e :: l, n, h, h0, h1 => by
    rw [sizeL]
    split
    · rename_i hn
      have := h e (by simp)
      have hr : R47 = 140737488351232 := rfl
      exact sizeL_bd m l _ (fun x hx => h x (by simp [hx])) (by omega) (by omega)
    · exact ⟨h0, h1⟩

theorem sizeA_bd (m : Int) : ∀ (l : List GA) (n : Int), 0 ≤ n → n ≤ m + 2 → 0 ≤ sizeA m n l ∧ sizeA m n l ≤ m + 2
  | [], n, h0, h1 => by rw [sizeA]; exact ⟨h0, h1⟩
  | e :: l, n, h0, h1 => by
    rw [sizeA]
    split
    · rename_i hn
      have := nodesM_bd e.body (m - n) (by omega)
      exact sizeA_bd m l _ (by omega) (by omega)
    · exact ⟨h0, h1⟩

/-- A small file has few levels and tokens. -/
theorem sizeL_sum (m : Int) : ∀ (l : List GL) (n : Int), 0 ≤ n → n ≤ m → sizeL m n l ≤ m → sizeL m n l = n + (l.map fun x => 1 + (x.tokens.length : Int)).sum
  | [], n, _, _, _ => by rw [sizeL]; simp
  | e :: l, n, h0, h1, h => by
    rw [sizeL, if_pos h1] at h ⊢
    by_cases hn : n + 1 + (e.tokens.length : Int) ≤ m
    · rw [sizeL_sum m l _ (by omega) hn h]
      simp
      omega
    · have : sizeL m (n + 1 + e.tokens.length) l = n + 1 + e.tokens.length := by
        cases l with
        | nil => rw [sizeL]
        | cons a l => rw [sizeL, if_neg hn]
      omega

theorem sizeA_ge (m : Int) : ∀ (l : List GA) (n : Int), n ≤ sizeA m n l
  | [], n => by rw [sizeA]; omega
  | e :: l, n => by
    rw [sizeA]
    split
    · have h1 := nodesM_bd e.body (m - n) (by omega)
      have := sizeA_ge m l (n + 1 + nodesM e.body (m - n))
      omega
    · omega
theorem sizeR_ge (m : Int) : ∀ (l : List GR) (n : Int), n ≤ sizeR m n l
  | [], n => by rw [sizeR]; omega
  | e :: l, n => by
    rw [sizeR]
    split
    · have h1 := sizeA_ge m e.alts (n + 1)
      have := sizeR_ge m l (sizeA m (n + 1) e.alts)
      omega
    · omega

theorem small_tokens {f : GF} {m : Int} (hm0 : 0 ≤ m) (hm : m ≤ 1000000) (h : sizeF f m ≤ m) : (f.levels.flatMap GL.tokens).length ≤ 1000000 ∧ ∀ l ∈ f.levels, l.tokens.length ≤ 1000000 := by
  have h1 : sizeL m 0 f.levels ≤ m := Int.le_trans (sizeR_ge m f.rules _) h
  have h2 := sizeL_sum m f.levels 0 (Int.le_refl _) hm0 h1
  have key : ∀ l : List GL, ((l.flatMap GL.tokens).length : Int) ≤ (l.map fun x => 1 + (x.tokens.length : Int)).sum := by
    intro l
    induction l with
    | nil => simp
    | cons e l ih => simp only [List.flatMap_cons, List.length_append, List.map_cons, List.sum_cons]; omega
  have h3 := key f.levels
  refine ⟨by omega, fun l hl => ?_⟩
  have : l.tokens.length ≤ (f.levels.flatMap GL.tokens).length := by
    obtain ⟨i, hi, rfl⟩ := List.getElem_of_mem hl
    have : ∀ (L : List GL) (x : GL), x ∈ L → x.tokens.length ≤ (L.flatMap GL.tokens).length := by
      intro L
      induction L with
      | nil => intro x hx; cases hx
      | cons e L ih =>
        intro x hx
        simp only [List.flatMap_cons, List.length_append]
        rcases List.mem_cons.1 hx with rfl | hx
        · omega
        · have := ih x hx; omega
    exact this _ _ hl
  omega

end Go.Av
