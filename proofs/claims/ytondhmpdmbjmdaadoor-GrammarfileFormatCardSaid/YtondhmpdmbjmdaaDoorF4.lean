/- ref16.Format. -/
import Derived.Test.YtondhmpdmbjmdaaDoorFnsF
import Derived.Test.YtondhmpdmbjmdaaDoorF3
set_option linter.unusedVariables false
set_option linter.unusedSimpArgs false
namespace Go.Av
open Go Go.Proofs

structure F4St (α : Type) where
  done : List α
  rest : List α

def spT (l : List (List UInt8)) : List UInt8 := l.flatMap fun t => 32 :: t
theorem spT_cons (t : List UInt8) (l : List (List UInt8)) : spT (t :: l) = 32 :: (t ++ spT l) := by simp [spT]
theorem spT_snoc (l : List (List UInt8)) (t : List UInt8) : spT (l ++ [t]) = spT l ++ 32 :: t := by simp [spT]
theorem spT_join : ∀ (t : List UInt8) (l : List (List UInt8)), spT (t :: l) = 32 :: Lib.join (t :: l) [32]
  | t, [] => by simp [spT, Lib.join, List.intercalate]
  | t, u :: l => by
    have e : Lib.join (t :: u :: l) [32] = t ++ 32 :: Lib.join (u :: l) [32] := by simp [Lib.join, List.intercalate, List.intersperse_cons_cons]
    rw [spT_cons, spT_join u l, e]
theorem levText_sp {l : GL} (h : lvOK l = true) : levText l = wordM l.assoc ++ spT l.tokens ++ [59, 10] := by
  obtain ⟨a, toks⟩ := l
  simp only [lvOK, Bool.and_eq_true, decide_eq_true_eq] at h
  cases toks with
  | nil => simp at h
  | cons t l =>
    rw [spT_join]
    simp [levText]

set_option maxHeartbeats 4000000 in
theorem f16_toks {b1 i : Nat} {st : List UInt8} {levels : List GL} {l : GL} {v2 : AV} {s : List UInt8} {H1 : AHeap} {K : AK} (q1 : H1 b1 = some (.box (.struct [.str st, .list 2 (levels.map GL.av), v2]))) (hv2 : v2.size = 1)
    (hi : levels[i]? = some l) (hl : s.length + (spT l.tokens).length ≤ Lim)
    (hK : ∀ j : Int, K .norm [(1, .ptr b1 0 []), (3, .str (s ++ spT l.tokens)), (4, i64 i), (5, i64 j), (43, .bool false)] H1) :
    aw PP r6_Format_c29 K [(1, .ptr b1 0 []), (3, .str s), (4, i64 i)] H1 := by
  have hml := maxLen_eq
  have hLim := Lim_eq
  have hil : i < levels.length := (List.getElem?_eq_some_iff.1 hi).1
  have hgl : levels[i] = l := (List.getElem?_eq_some_iff.1 hi).2
  simp
  refine aw_loopK (fun x : F4St (List UInt8) => l.tokens = x.done ++ x.rest) (fun x => [(1, .ptr b1 0 []), (3, .str (s ++ spT x.done)), (4, i64 i), (5, i64 x.done.length)]) (fun _ => H1) (fun x => x.rest.length) ⟨[], l.tokens⟩ rfl (by simp [spT]) rfl ?_
  rintro ⟨done, rest⟩ he
  simp only at he
  simp only
  cases rest with
  | nil =>
    simp at he
    have h1 : ¬ (done.length : Int) < l.tokens.length := by rw [he]; omega
    have h2 : ¬ done.length < l.tokens.length := by rw [he]; omega
    simp [q1, hil, hgl, GL.av, h1, h2]
    intro _
    refine ⟨by rw [he]; omega, fun _ => ?_⟩
    have := hK (done.length : Int)
    rw [he] at this
    exact this
  | cons t rest =>
    have hlt' : done.length < l.tokens.length := by rw [he]; simp
    have hlt : (done.length : Int) < l.tokens.length := by omega
    have hlt2 : ¬ l.tokens.length ≤ done.length := by omega
    have hat : l.tokens[done.length]? = some t := by rw [he]; simp
    have hget : l.tokens[done.length] = t := by rw [List.getElem?_eq_getElem hlt'] at hat; injection hat
    have hlen : (spT l.tokens).length = (spT done).length + 1 + t.length + (spT rest).length := by rw [he]; simp [spT]; omega
    have e9 : ((done ++ [t]).length : Int) = done.length + 1 := by simp
    simp [q1, hil, hgl, GL.av, hlt, hlt', hlt2, hget]
    intro hkm
    refine ⟨by omega, by omega, ?_⟩
    rw [wrap64 (by omega) (by omega)]
    refine loopK_next ⟨done ++ [t], rest⟩ (by simp [he]) (by simp) ?_ (.refl _)
    simp only [e9, spT_snoc]
    exact EnvLe.refl _

set_option maxRecDepth 100000 in
set_option maxHeartbeats 4000000 in
theorem f16_levels {b1 : Nat} {st : List UInt8} {levels : List GL} {v2 : AV} {s : List UInt8} {H1 : AHeap} {K : AK} (q1 : H1 b1 = some (.box (.struct [.str st, .list 2 (levels.map GL.av), v2]))) (hv2 : v2.size = 1)
    (hok : ∀ l ∈ levels, lvOK l = true) (hl : s.length + (levels.flatMap levText).length ≤ Lim)
    (hK : ∀ j : Int, K .norm [(1, .ptr b1 0 []), (3, .str (s ++ levels.flatMap levText)), (4, i64 j), (16, .bool false)] H1) :
    aw PP r6_Format_c39 K [(1, .ptr b1 0 []), (3, .str s)] H1 := by
  have hml := maxLen_eq
  have hLim := Lim_eq
  simp
  refine aw_loopK (fun x : F4St GL => levels = x.done ++ x.rest) (fun x => [(1, .ptr b1 0 []), (3, .str (s ++ x.done.flatMap levText)), (4, i64 x.done.length)]) (fun _ => H1) (fun x => x.rest.length) ⟨[], levels⟩ rfl (by simp) rfl ?_
  rintro ⟨done, rest⟩ he
  simp only at he
  simp only
  cases rest with
  | nil =>
    simp at he
    subst he
    simp [q1]
    intro _
    exact hK _
  | cons e rest =>
    have hlt' : done.length < levels.length := by rw [he]; simp
    have hlt : (done.length : Int) < levels.length := by omega
    have hlt2 : ¬ levels.length ≤ done.length := by omega
    have hat : levels[done.length]? = some e := by rw [he]; simp
    have hget : levels[done.length] = e := by rw [List.getElem?_eq_getElem hlt'] at hat; injection hat
    have hoe := hok e (by rw [he]; simp)
    have hlv := levText_sp hoe
    have hlen : (levels.flatMap levText).length = (done.flatMap levText).length + (levText e).length + (rest.flatMap levText).length := by rw [he]; simp; omega
    have hle2 : (levText e).length = (wordM e.assoc).length + (spT e.tokens).length + 2 := by rw [hlv]; simp; omega
    have e9 : ((done ++ [e]).length : Int) = done.length + 1 := by simp
    have hsum : (done.flatMap levText).length = (done.map fun a => (levText a).length).sum := List.length_flatMap
    have fin : ∀ kl : levels.length ≤ maxLen, ∀ w, w = wordM e.assoc → aw PP r6_Format_c31 (blockK 1 (seqK PP r6_Format_c34 (loopK (fun x : F4St GL => levels = x.done ++ x.rest) (fun x => [(1, .ptr b1 0 []), (3, .str (s ++ x.done.flatMap levText)), (4, i64 x.done.length)]) (fun _ => H1) (fun x => x.rest.length) (e :: rest).length (blockK 0 K))))
        [(1, .ptr b1 0 []), (3, .str (s ++ done.flatMap levText ++ w)), (4, i64 done.length)] H1 := by
      intro kl w hw
      rw [r6_Format_c31_eq]
      refine f16_toks q1 hv2 hat (by rw [hw]; simp only [List.length_append]; omega) fun j => ?_
      simp
      refine ⟨by rw [hw]; omega, ?_⟩
      rw [wrap64 (by omega) (by omega)]
      refine loopK_next ⟨done ++ [e], rest⟩ (by simp [he]) (by simp) ?_ (.refl _)
      simp only [e9]
      have : s ++ (done ++ [e]).flatMap levText = s ++ (done.flatMap levText ++ (w ++ (spT e.tokens ++ [59, 10]))) := by simp [hlv, hw]
      rw [this]
      exact EnvLe.refl _
    simp [q1, hlt, hlt', hlt2, hget, GL.av, -r6_Format_c31_eq]
    intro kl
    by_cases h1 : e.assoc = 1
    · have hw : wordM e.assoc = [108, 101, 102, 116] := by simp [wordM, h1]
      simp [h1, -r6_Format_c31_eq]
      refine ⟨by rw [hw] at hle2; simp at hle2; omega, ?_⟩
      have := fin kl _ hw.symm
      simpa [-r6_Format_c31_eq] using this
    · have h1' : (e.assoc == 1) = false := by simp [h1]
      by_cases h2 : e.assoc = 2
      · have hw : wordM e.assoc = [114, 105, 103, 104, 116] := by simp [wordM, h2]
        simp [h1, h1', h2, -r6_Format_c31_eq]
        refine ⟨by rw [hw] at hle2; simp at hle2; omega, ?_⟩
        have := fin kl _ hw.symm
        simpa [-r6_Format_c31_eq] using this
      · have h2' : (e.assoc == 2) = false := by simp [h2]
        have hw : wordM e.assoc = [110, 111, 110, 101] := by simp [wordM, h1, h2]
        simp [h1, h1', h2, h2', -r6_Format_c31_eq]
        refine ⟨by rw [hw] at hle2; simp at hle2; omega, ?_⟩
        have := fin kl _ hw.symm
        simpa [-r6_Format_c31_eq] using this

theorem altsText_snoc (l : List GA) (a : GA) : altsText 0 (l ++ [a]) = altsText 0 l ++ ((if l.length = 0 then [] else [32, 124]) ++ altText a) := by
  rw [altsText_append, altsText, altsText]; simp
theorem altsText_split (l : List GA) (a : GA) (m : List GA) : (altsText 0 (l ++ a :: m)).length = (altsText 0 l).length + (if l.length = 0 then ([] : List UInt8) else [32, 124]).length + (altText a).length + (altsText (l.length + 1) m).length := by
  rw [altsText_append, altsText]
  simp only [List.length_append, Nat.zero_add]
  omega

set_option maxRecDepth 100000 in
set_option maxHeartbeats 4000000 in
theorem f16_alts {b1 i : Nat} {st : List UInt8} {rules : List GR} {r : GR} {v1 : AV} {s : List UInt8} {H1 : AHeap} {K : AK} (q1 : H1 b1 = some (.box (.struct [.str st, v1, .list 2 (rules.map GR.av)]))) (hv1 : v1.size = 1)
    (hi : rules[i]? = some r) (hok : ∀ a ∈ r.alts, altOK a = true) (hl : s.length + (altsText 0 r.alts).length ≤ Lim)
    (hK : ∀ j : Int, K .norm [(1, .ptr b1 0 []), (3, .str (s ++ altsText 0 r.alts)), (6, i64 i), (7, i64 j), (84, .bool false)] H1) :
    aw PP r6_Format_c61 K [(1, .ptr b1 0 []), (3, .str s), (6, i64 i)] H1 := by
  have hml := maxLen_eq
  have hLim := Lim_eq
  have hil : i < rules.length := (List.getElem?_eq_some_iff.1 hi).1
  have hgl : rules[i] = r := (List.getElem?_eq_some_iff.1 hi).2
  simp
  refine aw_loopK (fun x : F4St GA => r.alts = x.done ++ x.rest) (fun x => [(1, .ptr b1 0 []), (3, .str (s ++ altsText 0 x.done)), (6, i64 i), (7, i64 x.done.length)]) (fun _ => H1) (fun x => x.rest.length) ⟨[], r.alts⟩ rfl (by simp [altsText]) rfl ?_
  rintro ⟨done, rest⟩ he
  simp only at he
  simp only
  cases rest with
  | nil =>
    simp at he
    have h1 : ¬ (done.length : Int) < r.alts.length := by rw [he]; omega
    have h2 : ¬ done.length < r.alts.length := by rw [he]; omega
    simp [q1, hil, hgl, hv1, GR.av, h1, h2]
    intro _
    refine ⟨by rw [he]; omega, fun _ => ?_⟩
    have := hK (done.length : Int)
    rw [he] at this
    exact this
  | cons e rest =>
    have hlt' : done.length < r.alts.length := by rw [he]; simp
    have hlt : (done.length : Int) < r.alts.length := by omega
    have hlt2 : ¬ r.alts.length ≤ done.length := by omega
    have hat : r.alts[done.length]? = some e := by rw [he]; simp
    have hget : r.alts[done.length] = e := by rw [List.getElem?_eq_getElem hlt'] at hat; injection hat
    have hsp := altsText_split done e rest
    rw [← he] at hsp
    have halt := fun H => r16_alternative e (hok e (by rw [he]; simp)) (by omega) H
    have e9 : ((done ++ [e]).length : Int) = done.length + 1 := by simp
    simp [q1, hil, hgl, hv1, GR.av, hlt, hlt', hlt2, -r6_Format_c54_eq]
    intro hkm
    have mid : ∀ t env, t = s ++ altsText 0 done ++ (if done.length = 0 then [] else [32, 124]) → (env = [(1, AV.ptr b1 0 []), (3, .str t), (6, i64 i), (7, i64 done.length)] ∨ env = [(1, AV.ptr b1 0 []), (3, .str t), (6, i64 i), (7, i64 done.length), (88, .bool false)]) →
        aw PP r6_Format_c53 (blockK 8 (seqK PP r6_Format_c56 (loopK (fun x : F4St GA => r.alts = x.done ++ x.rest) (fun x => [(1, .ptr b1 0 []), (3, .str (s ++ altsText 0 x.done)), (6, i64 i), (7, i64 x.done.length)]) (fun _ => H1) (fun x => x.rest.length) (e :: rest).length (blockK 7 K)))) env H1 := by
      intro t env ht henv
      have htl : t.length = s.length + (altsText 0 done).length + (if done.length = 0 then ([] : List UInt8) else [32, 124]).length := by rw [ht]; simp only [List.length_append]
      have fin : t ++ altText e = s ++ altsText 0 (done ++ [e]) := by rw [altsText_snoc, ht]; simp only [List.append_assoc]
      rcases henv with rfl | rfl <;>
      · simp [q1, hil, hgl, hv1, GR.av, hlt', hlt2, hget]
        refine (halt H1).use ?_
        simp
        refine ⟨by omega, ?_⟩
        rw [wrap64 (by omega) (by omega)]
        refine loopK_next ⟨done ++ [e], rest⟩ (by simp [he]) (by simp) (by simp only [e9, ← fin]; exact EnvLe.refl _) (.refl _)
    cases done with
    | nil =>
      simp [-r6_Format_c53_eq, -r6_Format_c56_eq]
      exact mid _ _ (by simp) (.inr rfl)
    | cons d0 ds =>
      have hp0 : (0 : Int) < ((d0 :: ds).length : Int) := by rw [List.length_cons]; omega
      simp only [List.length_cons, Nat.succ_ne_zero, if_false, List.length_nil] at hp0 hsp
      simp [hp0, -r6_Format_c53_eq, -r6_Format_c56_eq]
      refine ⟨by omega, ?_⟩
      exact mid _ _ (by simp) (.inl rfl)

set_option maxRecDepth 100000 in
set_option maxHeartbeats 4000000 in
theorem r16_Format (f : GF) (hv : validM f = true) (hl : (gfText f).length ≤ Lim) (H : AHeap) : Pure r6_Format_id [f.av] H (.str (gfText f)) := by
  have V := validM_parts hv
  obtain ⟨start, levels, rules⟩ := f
  have hlv : ∀ x ∈ levels, lvOK x = true := fun x hx => (V.level x hx).1
  have hru : ∀ x ∈ rules, ∀ a ∈ x.alts, altOK a = true := fun x hx => (ruleOK_parts (V.rule x hx).1).2
  have hml := maxLen_eq
  have hLim := Lim_eq
  simp only [gfText, List.length_append] at hl
  have hst : (startText start).length = start.length + 8 := by simp [startText]
  refine r6_Format_enter rfl ?_
  simp [r6_Format_rs, allocQ, -r6_Format_c76_eq]
  intro b1 hb1
  have q1 : (H.set b1 (.box (GF.av ⟨start, levels, rules⟩))) b1 = some (.box (.struct [.str start, .list 2 (levels.map GL.av), .list 2 (rules.map GR.av)])) := AHeap.set_same _ _ _
  have hle : HLe H (H.set b1 (.box (GF.av ⟨start, levels, rules⟩))) := .set hb1
  generalize H.set b1 (.box (GF.av ⟨start, levels, rules⟩)) = H1 at q1 hle ⊢
  simp [q1, -r6_Format_c75_eq]
  refine ⟨by omega, by omega, ?_⟩
  have hss : (115 :: 116 :: 97 :: 114 :: 116 :: 32 :: (start ++ [59, 10])) = startText start := by simp [startText]
  rw [hss]
  rw [r6_Format_c75_eq]
  refine f16_levels q1 rfl hlv (by omega) fun j => ?_
  simp
  refine aw_loopK (fun x : F4St GR => rules = x.done ++ x.rest) (fun x => [(1, .ptr b1 0 []), (3, .str (startText start ++ levels.flatMap levText ++ x.done.flatMap ruleText)), (6, i64 x.done.length)]) (fun _ => H1) (fun x => x.rest.length) ⟨[], rules⟩ rfl (by simp) rfl ?_
  rintro ⟨done, rest⟩ he
  simp only at he
  simp only
  cases rest with
  | nil =>
    simp at he
    subst he
    simp [q1]
    intro _
    refine ⟨by simp [gfText], hle⟩
  | cons e rest =>
    have hlt' : done.length < rules.length := by rw [he]; simp
    have hlt : (done.length : Int) < rules.length := by omega
    have hlt2 : ¬ rules.length ≤ done.length := by omega
    have hat : rules[done.length]? = some e := by rw [he]; simp
    have hget : rules[done.length] = e := by rw [List.getElem?_eq_getElem hlt'] at hat; injection hat
    have hlen : (rules.flatMap ruleText).length = (done.flatMap ruleText).length + (ruleText e).length + (rest.flatMap ruleText).length := by rw [he]; simp only [List.flatMap_append, List.flatMap_cons, List.length_append]; omega
    have hle2 : (ruleText e).length = e.name.length + 2 + (altsText 0 e.alts).length + 2 := by simp [ruleText]; omega
    have e9 : ((done ++ [e]).length : Int) = done.length + 1 := by simp
    have hsum : (done.flatMap ruleText).length = (done.map fun a => (ruleText a).length).sum := List.length_flatMap
    have hsum2 : (levels.flatMap levText).length = (levels.map fun a => (levText a).length).sum := List.length_flatMap
    simp [q1, hlt, hlt', hlt2, hget, GR.av, -r6_Format_c63_eq]
    intro kl
    refine ⟨by omega, by omega, ?_⟩
    rw [r6_Format_c63_eq]
    refine f16_alts (s := startText start ++ (levels.flatMap levText ++ (done.flatMap ruleText ++ (e.name ++ [32, 61])))) q1 rfl hat (hru e (by rw [he]; simp)) (by simp only [List.length_append, List.length_cons, List.length_nil]; omega) fun j => ?_
    simp
    refine ⟨by omega, ?_⟩
    rw [wrap64 (by omega) (by omega)]
    refine loopK_next ⟨done ++ [e], rest⟩ (by simp [he]) (by simp) ?_ (.refl _)
    simp only [e9]
    have : startText start ++ levels.flatMap levText ++ (done ++ [e]).flatMap ruleText = startText start ++ (levels.flatMap levText ++ (done.flatMap ruleText ++ (e.name ++ 32 :: 61 :: (altsText 0 e.alts ++ [59, 10])))) := by simp [ruleText]
    rw [List.append_assoc] at this
    rw [this]
    exact EnvLe.refl _
end Go.Av
