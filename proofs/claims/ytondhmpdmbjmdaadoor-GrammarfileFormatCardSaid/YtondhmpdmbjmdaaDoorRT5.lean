/- The text of a valid file is read back as the file; how long it is. -/
import Derived.Test.YtondhmpdmbjmdaaDoorRa
import Derived.Test.YtondhmpdmbjmdaaDoorSiz
set_option linter.unusedVariables false
set_option linter.unusedSimpArgs false
namespace Go.Av

theorem kw_good {s : List UInt8} (h : reserved s = true) : Good s ∧ isBl s = false := by
  have : s = kwStart ∨ s = kwLeft ∨ s = kwRight ∨ s = kwNone ∨ s = kwPrice := by
    simp only [reserved, Bool.or_eq_true, beq_iff_eq] at h
    rcases h with (((h | h) | h) | h) | h <;> simp [h]
  have hg : Good s := by
    rcases this with rfl | rfl | rfl | rfl | rfl
    · exact good_word (c := 115) (r := [116, 97, 114, 116]) (by decide) (by decide)
    · exact good_word (c := 108) (r := [101, 102, 116]) (by decide) (by decide)
    · exact good_word (c := 114) (r := [105, 103, 104, 116]) (by decide) (by decide)
    · exact good_word (c := 110) (r := [111, 110, 101]) (by decide) (by decide)
    · exact good_word (c := 112) (r := [114, 105, 99, 101]) (by decide) (by decide)
  exact ⟨hg, good_not_bl hg⟩

theorem wordM_res {a : Int} : reserved (wordM a) = true := by
  unfold wordM
  split
  · decide
  · split <;> decide

theorem nb_cons_good {p : List UInt8} {l : Ts} (h : Good p) : nb (p :: l) = p :: nb l := by simp [nb, good_not_bl h]
theorem nb_cons_bl {c : UInt8} {l : Ts} (h : isBlank c = true) : nb ([c] :: l) = nb l := by simp [nb, isBl, h]

theorem bl32 : isBlank 32 = true := by decide
theorem bl10 : isBlank 10 = true := by decide
theorem nw32 {r : List UInt8} : NW (32 :: r) := NW.cons (by decide)
theorem nw59 {r : List UInt8} : NW (59 :: r) := NW.cons (by decide)

/-! ### Alternatives -/
theorem sepd_body {x : GE} {d : Nat} (he : exprOK d x = true) {r : List UInt8} (hr : NW r) : Sepd (pcBody x) r := by
  unfold pcBody
  split
  · trivial
  · exact sepd_bl bl32 (sepd_encl hr fun r hr => sepd_E _ x (Nat.le_refl _) d he r hr)
theorem sepd_price (p : Int) {r : List UInt8} (hr : NW r) : Sepd (pcPrice p) r := by
  unfold pcPrice
  split
  · trivial
  · refine sepd_bl bl32 (sepd_word (kw_good (by decide)).1 nw32 (sepd_bl bl32 (sepd_word (dec_good _) ?_ trivial)))
    simpa using hr
theorem nw_price (p : Int) {r : List UInt8} (hr : NW r) : NW ((pcPrice p).flatten ++ r) := by
  unfold pcPrice
  split
  · simpa using hr
  · exact nw32
theorem sepd_alt {x : GA} (hx : altOK x = true) {r : List UInt8} (hr : NW r) : Sepd (pcAlt x) r := by
  simp only [altOK, Bool.and_eq_true] at hx
  exact Sepd.app (sepd_body hx.2 (nw_price _ hr)) (sepd_price _ hr)
theorem nw_alts {l : List GA} {i : Nat} {r : List UInt8} (hr : NW r) : NW ((pcAlts (i + 1) l).flatten ++ r) := by
  cases l with
  | nil => exact hr
  | cons x l => rw [pcAlts, if_neg (by omega)]; exact nw32
theorem sepd_alts : ∀ (l : List GA) (i : Nat) {r : List UInt8}, (∀ x ∈ l, altOK x = true) → NW r → Sepd (pcAlts i l) r
  | [], _, _, _, _ => trivial
  | x :: l, i, r, h, hr => by
    rw [pcAlts]
    refine Sepd.app (Sepd.app ?_ (sepd_alt (h x (by simp)) (nw_alts hr))) (sepd_alts l (i + 1) (fun y hy => h y (by simp [hy])) hr)
    split
    · trivial
    · exact sepd_bl bl32 (sepd_sym g124 trivial)

theorem nb_body {x : GE} {d : Nat} (he : exprOK d x = true) : nb (pcBody x) = tkBody x := by
  unfold pcBody tkBody
  split
  · rfl
  · rw [nb_cons_bl bl32, nb_encl, nb_E _ x (Nat.le_refl _) d he]
theorem nb_price (p : Int) : nb (pcPrice p) = tkPrice p := by
  unfold pcPrice tkPrice
  split
  · rfl
  · rw [nb_cons_bl bl32, nb_cons_good (kw_good (by decide)).1, nb_cons_bl bl32, nb_cons_good (dec_good _)]; rfl
theorem nb_alts : ∀ (l : List GA) (i : Nat), (∀ x ∈ l, altOK x = true) → nb (pcAlts i l) = tkAlts i l
  | [], _, _ => rfl
  | x :: l, i, h => by
    have hx := h x (by simp)
    simp only [altOK, Bool.and_eq_true] at hx
    rw [pcAlts, tkAlts, nb_append, nb_append, nb_alts l (i + 1) fun y hy => h y (by simp [hy])]
    have e1 : nb (pcAlt x) = tkAlt x := by unfold pcAlt tkAlt; rw [nb_append, nb_body hx.2, nb_price]
    have e2 : nb (if i = 0 then [] else [[32], [124]]) = if i = 0 then [] else [[124]] := by split <;> rfl
    rw [e1, e2]

/-! ### Files -/
theorem sepd_flat {α : Type} (g : α → Ts) : ∀ (l : List α) (r : List UInt8), (∀ x ∈ l, ∀ r, Sepd (g x) r) → Sepd (l.flatMap g) r
  | [], _, _ => trivial
  | x :: l, r, h => by
    rw [List.flatMap_cons]
    exact Sepd.app (h x (by simp) _) (sepd_flat g l r fun y hy => h y (by simp [hy]))
theorem nb_flat {α : Type} (g k : α → Ts) : ∀ (l : List α), (∀ x ∈ l, nb (g x) = k x) → nb (l.flatMap g) = l.flatMap k
  | [], _ => rfl
  | x :: l, h => by rw [List.flatMap_cons, List.flatMap_cons, nb_append, h x (by simp), nb_flat g k l fun y hy => h y (by simp [hy])]

theorem sepd_end (r : List UInt8) : Sepd [[59], [10]] r := sepd_sym g59 (sepd_bl bl10 trivial)

theorem sepd_rule {x : GR} (h1 : ruleOK x = true) (h2 : nameOK x.name = true) (r : List UInt8) : Sepd (pcRule x) r := by
  obtain ⟨_, h3⟩ := ruleOK_parts h1
  refine Sepd.app (Sepd.app ?_ (sepd_alts _ 0 h3 nw59)) (sepd_end r)
  exact sepd_word (good_name h2) nw32 (sepd_bl bl32 (sepd_sym g61 trivial))
theorem nb_rule {x : GR} (h1 : ruleOK x = true) (h2 : nameOK x.name = true) : nb (pcRule x) = tkRule x := by
  obtain ⟨_, h3⟩ := ruleOK_parts h1
  unfold pcRule tkRule
  rw [nb_append, nb_append, nb_alts _ _ h3, nb_cons_good (good_name h2), nb_cons_bl bl32]
  rfl

theorem sepd_inter : ∀ (l : Ts) (r : List UInt8), (∀ x ∈ l, nameOK x = true) → NW r → Sepd (l.intersperse [32]) r
  | [], _, _, _ => trivial
  | [x], r, h, hr => sepd_word (good_name (h x (by simp))) hr trivial
  | x :: y :: l, r, h, hr => by
    rw [List.intersperse_cons_cons]
    exact sepd_word (good_name (h x (by simp))) nw32 (sepd_bl bl32 (sepd_inter (y :: l) r (fun z hz => h z (by simp [hz])) hr))
theorem nb_inter : ∀ (l : Ts), (∀ x ∈ l, nameOK x = true) → nb (l.intersperse [32]) = l
  | [], _ => rfl
  | [x], h => nb_cons_good (good_name (h x (by simp)))
  | x :: y :: l, h => by
    rw [List.intersperse_cons_cons, nb_cons_good (good_name (h x (by simp))), nb_cons_bl bl32, nb_inter (y :: l) fun z hz => h z (by simp [hz])]

theorem sepd_lev {x : GL} (h : ∀ y ∈ x.tokens, nameOK y = true) (r : List UInt8) : Sepd (pcLev x) r := by
  refine Sepd.app (Sepd.app ?_ (sepd_inter _ _ h nw59)) (sepd_end r)
  exact sepd_word (kw_good wordM_res).1 nw32 (sepd_bl bl32 trivial)
theorem nb_lev {x : GL} (h : ∀ y ∈ x.tokens, nameOK y = true) : nb (pcLev x) = tkLev x := by
  unfold pcLev tkLev
  rw [nb_append, nb_append, nb_inter _ h, nb_cons_good (kw_good wordM_res).1, nb_cons_bl bl32]
  rfl

theorem sepd_F {f : GF} (hv : validM f = true) : Sepd (pcF f) [] := by
  have V := validM_parts hv
  refine Sepd.app (Sepd.app ?_ (sepd_flat _ _ _ fun x hx r => sepd_lev (V.level x hx).2 r)) (sepd_flat _ _ _ fun x hx r => sepd_rule (V.rule x hx).1 (V.rule x hx).2 r)
  exact sepd_word (kw_good (by decide)).1 nw32 (sepd_bl bl32 (sepd_word (good_name V.start) nw59 (sepd_end _)))
theorem nb_F {f : GF} (hv : validM f = true) : nb (pcF f) = tkF f := by
  have V := validM_parts hv
  unfold pcF tkF
  rw [nb_append, nb_append, nb_flat _ _ _ fun x hx => nb_lev (V.level x hx).2, nb_flat _ _ _ fun x hx => nb_rule (V.rule x hx).1 (V.rule x hx).2]
  rw [nb_cons_good (kw_good (by decide)).1, nb_cons_bl bl32, nb_cons_good (good_name V.start)]
  rfl

/-- The tokens of a file's text. -/
theorem lex_format {f : GF} (hv : validM f = true) : (lex (gfText f)).map Tok.text = tkF f := by
  rw [lexK_lex, ← pcF_flat, lexK_pieces _ _ (sepd_F hv)]
  exact nb_F hv

theorem dcF_refl (f : GF) : DcF f (tkF f) := ⟨_, rfl, DcR.refl _⟩

theorem parse_format {f : GF} (hv : validM f = true) (hl : (gfText f).length ≤ 1000000) : parseM (gfText f) = (f, 0, 0) := by
  refine parse_text hv (dcF_refl f) (lex_format hv) ?_
  rw [← lex_format hv, List.length_map]
  exact Nat.le_trans (lex_len _) hl

theorem format_inj {f g : GF} (hf : validM f = true) (hg : validM g = true) (hl : (gfText f).length ≤ 1000000) (h : gfText f = gfText g) : f = g := by
  have h1 := parse_format hf hl
  have h2 := parse_format hg (h ▸ hl)
  rw [h, h2] at h1
  injection h1 with h1
  exact h1.symm

/-! ### How long the text is -/
mutual
def cnt : GE → Nat
  | .mk _ _ l => 1 + cntL l
def cntL : List GE → Nat
  | [] => 0
  | e :: l => cnt e + cntL l
end
theorem cnt_mk (k : Int) (n : List UInt8) (l : List GE) : cnt (.mk k n l) = 1 + cntL l := by rw [cnt]
theorem cntL_cons (e : GE) (l : List GE) : cntL (e :: l) = cnt e + cntL l := by rw [cntL]
theorem cntL_nil : cntL [] = 0 := by rw [cntL]

mutual
theorem nodesM_cnt : ∀ (x : GE) (m : Int), 0 ≤ m → nodesM x m ≤ m → nodesM x m = cnt x
  | .mk k nm l, m, hm, h => by
    rw [nodesM_mk] at h ⊢
    rw [cnt_mk]
    rw [nodesL_cnt l m 1 (by have := nodesL_bd l m 1 (by omega); omega) h]
    omega
theorem nodesL_cnt : ∀ (l : List GE) (m n : Int), n ≤ m → nodesL m n l ≤ m → nodesL m n l = n + cntL l
  | [], m, n, _, h => by rw [nodesL_nil, cntL_nil]; omega
  | e :: l, m, n, hn, h => by
    rw [nodesL_cons, if_pos hn] at h ⊢
    have h2 := nodesM_bd e (m - n) (by omega)
    by_cases h1 : n + nodesM e (m - n) ≤ m
    · rw [nodesL_cnt l m _ h1 h, cntL_cons]
      have h3 := nodesM_cnt e (m - n) (by omega) (by omega)
      omega
    · have h4 : nodesL m (n + nodesM e (m - n)) l = n + nodesM e (m - n) := by
        cases l with
        | nil => rw [nodesL_nil]
        | cons a l => rw [nodesL_cons, if_neg h1]
      omega
end

def szA (l : List GA) : Nat := (l.map fun a => 1 + cnt a.body).sum
def szR (l : List GR) : Nat := (l.map fun r => 1 + szA r.alts).sum

theorem sizeA_cnt (m : Int) : ∀ (l : List GA) (n : Int), n ≤ m → sizeA m n l ≤ m → sizeA m n l = n + szA l
  | [], n, _, _ => by rw [sizeA]; simp [szA]
  | e :: l, n, hn, h => by
    rw [sizeA, if_pos hn] at h ⊢
    have h2 := nodesM_bd e.body (m - n) (by omega)
    have h5 : szA (e :: l) = 1 + cnt e.body + szA l := by simp [szA]
    by_cases h1 : n + 1 + nodesM e.body (m - n) ≤ m
    · rw [sizeA_cnt m l _ h1 h, h5]
      have h3 := nodesM_cnt e.body (m - n) (by omega) (by omega)
      omega
    · have h4 : sizeA m (n + 1 + nodesM e.body (m - n)) l = n + 1 + nodesM e.body (m - n) := by
        cases l with
        | nil => rw [sizeA]
        | cons a l => rw [sizeA, if_neg h1]
      omega
theorem sizeR_cnt (m : Int) : ∀ (l : List GR) (n : Int), n ≤ m → sizeR m n l ≤ m → sizeR m n l = n + szR l
  | [], n, _, _ => by rw [sizeR]; simp [szR]
  | e :: l, n, hn, h => by
    rw [sizeR, if_pos hn] at h ⊢
    have h5 : szR (e :: l) = 1 + szA e.alts + szR l := by simp [szR]
    by_cases h1 : sizeA m (n + 1) e.alts ≤ m
    · have h6 := sizeA_ge m e.alts (n + 1)
      rw [sizeR_cnt m l _ h1 h, h5, sizeA_cnt m e.alts (n + 1) (by omega) h1]
      omega
    · have h4 : sizeR m (sizeA m (n + 1) e.alts) l = sizeA m (n + 1) e.alts := by
        cases l with
        | nil => rw [sizeR]
        | cons a l => rw [sizeR, if_neg h1]
      omega

/-- The size of a small file. -/
theorem sizeF_cnt {f : GF} {m : Int} (hm : 0 ≤ m) (h : sizeF f m ≤ m) : (f.levels.map fun x => 1 + x.tokens.length).sum + szR f.rules ≤ m.toNat := by
  unfold sizeF at h
  have h1 := sizeR_ge m f.rules (sizeL m 0 f.levels)
  have h2 := sizeL_sum m f.levels 0 (Int.le_refl _) hm (by omega)
  have h3 := sizeR_cnt m f.rules (sizeL m 0 f.levels) (by omega) h
  have key : ∀ l : List GL, (((l.map fun x => 1 + x.tokens.length).sum : Nat) : Int) = (l.map fun x => 1 + (x.tokens.length : Int)).sum := by
    intro l
    induction l with
    | nil => rfl
    | cons e l ih => simp only [List.map_cons, List.sum_cons]; omega
  have h4 := key f.levels
  omega

theorem suf_len {k : Int} {n : List UInt8} {m : Nat} (h : kindOK k n m = true) : (sufOf k n).length ≤ 24 := by
  rcases kindOK_cases h with ⟨rfl, h1, _⟩ | ⟨rfl, _⟩ | ⟨rfl, _⟩ | ⟨rfl | rfl | rfl, _⟩
  · obtain ⟨_, _, _, _, _, _, h2⟩ := nameOK_parts h1
    exact h2
  all_goals first | decide | simp [sufOf]
theorem sep_len (k : Int) (i : Nat) : (sepOf k i).length ≤ 3 := by
  unfold sepOf
  repeat' split
  all_goals first | decide | simp [sufOf]
theorem encl_len (b : Bool) (t : List UInt8) : (encl b t).length ≤ t.length + 2 := by
  cases b <;> simp [encl]
theorem fmtE_len : ∀ (n : Nat) (x : GE), SizeOf.sizeOf x ≤ n → ∀ (d : Nat), exprOK d x = true → (fmtE x).length + 5 ≤ 30 * cnt x
  | 0, .mk k nm l, h => by simp at h
  | n + 1, .mk k nm l, h => by
    intro d he
    obtain ⟨d', rfl, hn, hk, hl⟩ := exprOK_mk he
    have hlist : ∀ (m : List GE) (i : Nat), (∀ x ∈ m, x ∈ l) → (fmtL k i m).length ≤ 30 * cntL m := by
      intro m
      induction m with
      | nil => intro i _; rw [fmtL_nil, cntL_nil]; simp
      | cons e m ih =>
        intro i hm
        have h1 := fmtE_len n e (by
          have := List.sizeOf_lt_of_mem (hm e (by simp))
          simp at h
          omega) d' (hl e (hm e (by simp)))
        have h2 := ih (i + 1) fun x hx => hm x (by simp [hx])
        have h3 := sep_len k i
        have h4 := encl_len (reqOf k e) (fmtE e)
        rw [fmtL_cons, cntL_cons]
        simp only [List.length_append]
        omega
    have h1 := hlist l 0 fun _ h => h
    have h2 := suf_len hk
    rw [fmtE_mk, cnt_mk]
    simp only [List.length_append]
    omega

theorem dec_len (n : Nat) (m : Nat) (h : n ≤ m) : (Lib.decDigits n).length ≤ n + 1 := by
  induction m generalizing n with
  | zero => rw [decDigits_small (by omega)]; simp
  | succ m ih =>
    by_cases h1 : n < 10
    · rw [decDigits_small h1]; simp
    · rw [decDigits_big h1]
      have := ih (n / 10) (by omega)
      simp only [List.length_append, List.length_cons, List.length_nil]
      omega

theorem altText_len {x : GA} (h : altOK x = true) : (altText x).length ≤ 1100 + 30 * cnt x.body := by
  simp only [altOK, Bool.and_eq_true, decide_eq_true_eq] at h
  have h1 := fmtE_len _ x.body (Nat.le_refl _) 30 h.2
  have h2 : (bodyText x.body).length ≤ 3 + (fmtE x.body).length := by
    unfold bodyText
    split
    · simp
    · have := encl_len (x.body.kind == 3) (fmtE x.body)
      simp only [List.length_cons]
      omega
  have h3 : (priceText x.price).length ≤ 1020 := by
    unfold priceText
    split
    · simp
    · have := dec_len x.price.toNat _ (Nat.le_refl _)
      simp only [List.length_append, kwPr, List.length_cons, List.length_nil]
      omega
  unfold altText
  simp only [List.length_append]
  omega
theorem altsText_len : ∀ (l : List GA) (i : Nat), (∀ x ∈ l, altOK x = true) → (altsText i l).length ≤ 1200 * szA l
  | [], _, _ => by simp [altsText]
  | x :: l, i, h => by
    have h1 := altText_len (h x (by simp))
    have h2 := altsText_len l (i + 1) fun y hy => h y (by simp [hy])
    have h5 : szA (x :: l) = 1 + cnt x.body + szA l := by simp [szA]
    rw [altsText, h5]
    have h3 : (if i = 0 then ([] : List UInt8) else [32, 124]).length ≤ 2 := by split <;> simp
    simp only [List.length_append]
    omega
theorem rulesText_len : ∀ (l : List GR), (∀ x ∈ l, ruleOK x = true ∧ nameOK x.name = true) → (l.flatMap ruleText).length ≤ 1200 * szR l
  | [], _ => by simp
  | x :: l, h => by
    obtain ⟨h1, h2⟩ := h x (by simp)
    have h3 := altsText_len x.alts 0 (ruleOK_parts h1).2
    have h4 := rulesText_len l fun y hy => h y (by simp [hy])
    have h5 : szR (x :: l) = 1 + szA x.alts + szR l := by simp [szR]
    obtain ⟨_, _, _, _, _, _, h6⟩ := nameOK_parts h2
    rw [List.flatMap_cons, h5]
    simp only [List.length_append, ruleText, List.length_cons, List.length_nil]
    omega
theorem join_len : ∀ (l : Ts), (∀ x ∈ l, nameOK x = true) → (Lib.join l [32]).length ≤ 25 * l.length
  | [], _ => by simp [Lib.join]
  | [x], h => by
    obtain ⟨_, _, _, _, _, _, h6⟩ := nameOK_parts (h x (by simp))
    simp [Lib.join, List.intercalate]
    omega
  | x :: y :: l, h => by
    have h1 := join_len (y :: l) fun z hz => h z (by simp [hz])
    obtain ⟨_, _, _, _, _, _, h6⟩ := nameOK_parts (h x (by simp))
    have e : Lib.join (x :: y :: l) [32] = x ++ 32 :: Lib.join (y :: l) [32] := by
      simp [Lib.join, List.intercalate, List.intersperse_cons_cons]
    rw [e]
    simp only [List.length_append, List.length_cons] at h1 ⊢
    omega
theorem levsText_len : ∀ (l : List GL), (∀ x ∈ l, lvOK x = true ∧ ∀ y ∈ x.tokens, nameOK y = true) → (l.flatMap levText).length ≤ 1200 * (l.map fun x => 1 + x.tokens.length).sum
  | [], _ => by simp
  | x :: l, h => by
    obtain ⟨_, h2⟩ := h x (by simp)
    have h3 := join_len x.tokens h2
    have h4 := levsText_len l fun y hy => h y (by simp [hy])
    have h5 : (wordM x.assoc).length ≤ 5 := by
      unfold wordM
      split
      · decide
      · split <;> decide
    rw [List.flatMap_cons, List.map_cons, List.sum_cons]
    simp only [List.length_append, levText, List.length_cons, List.length_nil]
    omega
theorem gfText_len {f : GF} {m : Int} (hv : validM f = true) (hm : 0 ≤ m) (h : sizeF f m ≤ m) : (gfText f).length ≤ 40 + 1200 * m.toNat := by
  have V := validM_parts hv
  have h1 := sizeF_cnt hm h
  have h2 := levsText_len f.levels V.level
  have h3 := rulesText_len f.rules V.rule
  obtain ⟨_, _, _, _, _, _, h6⟩ := nameOK_parts V.start
  unfold gfText startText
  simp only [List.length_append, List.length_cons, List.length_nil]
  omega
end Go.Av
