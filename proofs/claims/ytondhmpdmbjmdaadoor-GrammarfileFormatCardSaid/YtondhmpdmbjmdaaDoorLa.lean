/- Part of the proof: La. No condition. -/
import Derived.Test.YtondhmpdmbjmdaaDoorBc
import Derived.Test.YtondhmpdmbjmdaaDoorQa
import Derived.Test.YtondhmpdmbjmdaaDoorDb
import Derived.Test.YtondhmpdmbjmdaaDoorSiz
import Derived.Test.YtondhmpdmbjmdaaDoorFnsLv
set_option linter.unusedVariables false
set_option linter.unusedSimpArgs false
namespace Go.Av
open Go Go.Proofs

structure NSt where
  n : Int
  done : List GE
  rest : List GE

theorem r16_nodes : ∀ (k : Nat) (x : GE), SizeOf.sizeOf x ≤ k → ∀ (m : Int) (H : AHeap), 0 ≤ m → m ≤ 1000000 → Pure r6_nodes_id [x.av, i64 m] H (.int .i64 (nodesM x m))
  | 0, .mk k nm kids, h => by simp at h
  | s + 1, .mk k nm kids, h => by
    intro m H hm hm2
    have hml := maxLen_eq
    refine r6_nodes_enter rfl ?_
    simp [r6_nodes_rs, allocQ]
    intro b2 hb2
    have q2 : (H.set b2 (.box (GE.mk k nm kids).av)) b2 = some (.box (.struct [i64 k, .str nm, .list 3 (kids.map GE.av)])) := by rw [AHeap.set_same, GE.av_mk]
    have hle : HLe H (H.set b2 (.box (GE.mk k nm kids).av)) := .set hb2
    generalize H.set b2 (.box (GE.mk k nm kids).av) = H1 at q2 hle ⊢
    refine aw_loopK (fun x : NSt => kids = x.done ++ x.rest ∧ 1 ≤ x.n ∧ x.n ≤ m + 1 ∧ nodesL m 1 kids = nodesL m x.n x.rest) (fun x => [(1, i64 m), (2, .ptr b2 0 []), (5, i64 x.n), (6, i64 x.done.length)]) (fun _ => H1) (fun x => x.rest.length) ⟨1, [], kids⟩ ⟨rfl, Int.le_refl _, by show (1 : Int) ≤ m + 1; omega, rfl⟩ rfl rfl ?_
    rintro ⟨n, done, rest⟩ ⟨he, h1, h2, h3⟩
    simp only at he h1 h2 h3
    simp only
    cases rest with
    | nil =>
      simp at he
      subst he
      have hlt : ¬ (kids.length : Int) < kids.length := by omega
      simp [q2]
      intro hkm
      have : nodesM (.mk k nm kids) m = n := by rw [nodesM_mk, h3, nodesL_nil]
      rw [this]
      exact ⟨.refl _, hle⟩
    | cons e rest =>
      have hlt : (done.length : Int) < kids.length := by rw [he]; simp; omega
      have hlt' : done.length < kids.length := by omega
      have hlt2 : ¬ kids.length ≤ done.length := by omega
      have hat : kids[done.length]? = some e := by rw [he]; simp
      have hget : kids[done.length] = e := by rw [List.getElem?_eq_getElem hlt'] at hat; injection hat
      have hsz : SizeOf.sizeOf e ≤ s := by
        have : SizeOf.sizeOf e < SizeOf.sizeOf kids := List.sizeOf_lt_of_mem (by rw [he]; simp)
        simp at h
        omega
      rw [nodesL_cons] at h3
      by_cases hn : n ≤ m
      · have hn2 : ¬ m < n := by omega
        have hb := nodesM_bd e (m - n) (by omega)
        rw [if_pos hn] at h3
        simp [q2, hlt, hlt', hlt2, hn, hn2, hget]
        intro hkm
        rw [wrap64 (by omega) (by omega)]
        refine (r16_nodes s e hsz (m - n) H1 (by omega) (by omega)).use ?_
        simp
        rw [wrap64 (by omega) (by omega), wrap64 (by omega) (by omega)]
        have e9 : ((done ++ [e]).length : Int) = done.length + 1 := by simp
        refine loopK_next ⟨n + nodesM e (m - n), done ++ [e], rest⟩ ⟨by simp [he], by show (1 : Int) ≤ n + nodesM e (m - n); omega, by show n + nodesM e (m - n) ≤ m + 1; omega, h3⟩ (by simp) (by simp only [e9]; exact EnvLe.refl _) (.refl _)
      · have hn2 : m < n := by omega
        rw [if_neg hn] at h3
        simp [q2, hlt, hlt', hlt2, hn, hn2, hget]
        intro hkm
        have : nodesM (.mk k nm kids) m = n := by rw [nodesM_mk, h3]
        rw [this]
        exact ⟨.refl _, hle⟩

end Go.Av

namespace Go.Av
open Go Go.Proofs

structure SSt (α : Type) where
  n : Int
  done : List α
  rest : List α

set_option maxHeartbeats 2000000 in
theorem sz_levels {b2 : Nat} {m : Int} {levels : List GL} {st : List UInt8} {v2 : AV} {H1 : AHeap} {K : AK} (h2 : v2.size = 1) (hm0 : 0 ≤ m) (hm : m ≤ 1000000) (q2 : H1 b2 = some (.box (.struct [.str st, .list 2 (levels.map GL.av), v2]))) (ht : ∀ l ∈ levels, l.tokens.length ≤ R47)
    (hK : ∀ j : Nat, K .norm [(1, i64 m), (2, .ptr b2 0 []), (5, i64 (sizeL m 0 levels)), (6, i64 j), (18, .bool false)] H1) :
    aw PP r6_Size_c12 K [(1, i64 m), (2, .ptr b2 0 []), (5, i64 0), (6, i64 0)] H1 := by
  have hml := maxLen_eq
  have hr : R47 = 140737488351232 := rfl
  simp
  refine aw_loopK (fun x : SSt GL => levels = x.done ++ x.rest ∧ 0 ≤ x.n ∧ x.n ≤ m + 1 + R47 ∧ sizeL m 0 levels = sizeL m x.n x.rest) (fun x => [(1, i64 m), (2, .ptr b2 0 []), (5, i64 x.n), (6, i64 x.done.length)])
    (fun _ => H1) (fun x => x.rest.length) ⟨0, [], levels⟩ ⟨rfl, Int.le_refl _, by show (0 : Int) ≤ m + 1 + R47; omega, rfl⟩ rfl rfl ?_
  rintro ⟨n, done, rest⟩ ⟨he, h0, h1, h3⟩
  simp only at he h0 h1 h3
  simp only
  cases rest with
  | nil =>
    simp at he
    subst he
    rw [sizeL] at h3
    have hlt : ¬ (levels.length : Int) < levels.length := by omega
    simp [q2]
    intro hkm
    rw [← h3]
    exact hK _
  | cons e rest =>
    have hlt : (done.length : Int) < levels.length := by rw [he]; simp; omega
    have hlt' : done.length < levels.length := by omega
    have hlt2 : ¬ levels.length ≤ done.length := by omega
    have hat : levels[done.length]? = some e := by rw [he]; simp
    have hget : levels[done.length] = e := by rw [List.getElem?_eq_getElem hlt'] at hat; injection hat
    have hte := ht e (by rw [he]; simp)
    rw [sizeL] at h3
    by_cases hn : n ≤ m
    · have hn2 : ¬ m < n := by omega
      rw [if_pos hn] at h3
      simp [q2, hlt, hlt', hlt2, hn, hn2, hget, GL.av]
      intro hkm htm
      rw [show IntKind.i64.wrap (n + 1) = n + 1 from wrap64 (by omega) (by omega), wrap64 (by omega) (by omega), wrap64 (by omega) (by omega)]
      have e9 : ((done ++ [e]).length : Int) = done.length + 1 := by simp
      exact loopK_next ⟨n + 1 + e.tokens.length, done ++ [e], rest⟩ ⟨by simp [he], by show (0 : Int) ≤ n + 1 + e.tokens.length; omega, by show n + 1 + (e.tokens.length : Int) ≤ m + 1 + R47; omega, h3⟩ (by simp) (by simp only [e9]; exact EnvLe.refl _) (.refl _)
    · have hn2 : m < n := by omega
      rw [if_neg hn] at h3
      simp [q2, hlt, hlt', hlt2, hn, hn2, hget]
      intro hkm
      rw [← h3]
      exact hK _

set_option maxHeartbeats 2000000 in
theorem sz_alts {b2 i : Nat} {m n0 : Int} {r : GR} {rules : List GR} {st : List UInt8} {v1 : AV} {H1 : AHeap} {K : AK} (h2 : v1.size = 1) (hm0 : 0 ≤ m) (hm : m ≤ 1000000) (hn0 : 0 ≤ n0) (hn1 : n0 ≤ m + 2)
    (q2 : H1 b2 = some (.box (.struct [.str st, v1, .list 2 (rules.map GR.av)]))) (hi : rules[i]? = some r)
    (hK : ∀ j : Nat, K .norm [(1, i64 m), (2, .ptr b2 0 []), (5, i64 (sizeA m n0 r.alts)), (7, i64 i), (8, i64 j), (58, .bool false)] H1) :
    aw PP r6_Size_c29 K [(1, i64 m), (2, .ptr b2 0 []), (5, i64 n0), (7, i64 i), (8, i64 0)] H1 := by
  have hml := maxLen_eq
  have hil : i < rules.length := (List.getElem?_eq_some_iff.1 hi).1
  have hgr : rules[i] = r := (List.getElem?_eq_some_iff.1 hi).2
  simp
  refine aw_loopK (fun x : SSt GA => r.alts = x.done ++ x.rest ∧ 0 ≤ x.n ∧ x.n ≤ m + 2 ∧ sizeA m n0 r.alts = sizeA m x.n x.rest) (fun x => [(1, i64 m), (2, .ptr b2 0 []), (5, i64 x.n), (7, i64 i), (8, i64 x.done.length)])
    (fun _ => H1) (fun x => x.rest.length) ⟨n0, [], r.alts⟩ ⟨rfl, hn0, hn1, rfl⟩ rfl rfl ?_
  rintro ⟨n, done, rest⟩ ⟨he, h0, h1, h3⟩
  simp only at he h0 h1 h3
  simp only
  cases rest with
  | nil =>
    simp at he
    rw [sizeA] at h3
    have hlt : ¬ (r.alts.length : Int) < done.length := by rw [he]; omega
    have hlt' : ¬ (done.length : Int) < r.alts.length := by rw [he]; omega
    have hlt2 : ¬ done.length < r.alts.length := by rw [he]; omega
    simp [q2, hil, hgr, h2, GR.av, hlt', hlt2]
    intro hkm
    rw [← h3]
    exact fun h => ⟨h, fun _ => hK _⟩
  | cons e rest =>
    have hlt : (done.length : Int) < r.alts.length := by rw [he]; simp; omega
    have hlt' : done.length < r.alts.length := by omega
    have hlt2 : ¬ r.alts.length ≤ done.length := by omega
    have hat : r.alts[done.length]? = some e := by rw [he]; simp
    have hget : r.alts[done.length] = e := by rw [List.getElem?_eq_getElem hlt'] at hat; injection hat
    rw [sizeA] at h3
    by_cases hn : n ≤ m
    · have hn2 : ¬ m < n := by omega
      have hb := nodesM_bd e.body (m - n) (by omega)
      rw [if_pos hn] at h3
      simp [q2, hil, hgr, h2, GR.av, GA.av, hlt, hlt', hlt2, hn, hn2, hget]
      intro hkm
      rw [wrap64 (by omega) (by omega), wrap64 (by omega) (by omega)]
      refine (r16_nodes _ e.body (Nat.le_refl _) (m - n) H1 (by omega) (by omega)).use ?_
      simp
      rw [wrap64 (by omega) (by omega), wrap64 (by omega) (by omega)]
      have e9 : ((done ++ [e]).length : Int) = done.length + 1 := by simp
      exact loopK_next ⟨n + 1 + nodesM e.body (m - n), done ++ [e], rest⟩ ⟨by simp [he], by show (0 : Int) ≤ n + 1 + nodesM e.body (m - n); omega, by show n + 1 + nodesM e.body (m - n) ≤ m + 2; omega, h3⟩ (by simp) (by simp only [e9]; exact EnvLe.refl _) (.refl _)
    · have hn2 : m < n := by omega
      rw [if_neg hn] at h3
      simp [q2, hil, hgr, h2, GR.av, hlt, hlt', hlt2, hn, hn2, hget]
      intro hkm
      rw [← h3]
      exact hK _

set_option maxHeartbeats 2000000 in
theorem r16_Size (f : GF) (m : Int) (H : AHeap) (hm0 : 0 ≤ m) (hm : m ≤ 1000000) (ht : ∀ l ∈ f.levels, l.tokens.length ≤ R47) : Pure r6_Size_id [f.av, i64 m] H (.int .i64 (sizeF f m)) := by
  obtain ⟨st, levels, rules⟩ := f
  simp only at ht
  have hml := maxLen_eq
  have hr : R47 = 140737488351232 := rfl
  refine r6_Size_enter rfl ?_
  simp [r6_Size_rs, allocQ, -r6_Size_c43_eq]
  intro b2 hb2
  have q2 : (H.set b2 (.box (GF.av ⟨st, levels, rules⟩))) b2 = some (.box (.struct [.str st, .list 2 (levels.map GL.av), .list 2 (rules.map GR.av)])) := AHeap.set_same _ _ _
  have hle : HLe H (H.set b2 (.box (GF.av ⟨st, levels, rules⟩))) := .set hb2
  generalize H.set b2 (.box (GF.av ⟨st, levels, rules⟩)) = H1 at q2 hle ⊢
  simp [-r6_Size_c12_eq, -r6_Size_c41_eq]
  refine sz_levels rfl hm0 hm q2 ht fun j => ?_
  have hbl := sizeL_bd m levels 0 ht (by omega) (by omega)
  simp
  refine aw_loopK (fun x : SSt GR => rules = x.done ++ x.rest ∧ 0 ≤ x.n ∧ x.n ≤ m + 2 + R47 ∧ sizeF ⟨st, levels, rules⟩ m = sizeR m x.n x.rest) (fun x => [(1, i64 m), (2, .ptr b2 0 []), (5, i64 x.n), (7, i64 x.done.length)])
    (fun _ => H1) (fun x => x.rest.length) ⟨sizeL m 0 levels, [], rules⟩ ⟨rfl, hbl.1, by show sizeL m 0 levels ≤ m + 2 + R47; omega, rfl⟩ rfl rfl ?_
  rintro ⟨n, done, rest⟩ ⟨he, h0, h1, h3⟩
  simp only at he h0 h1 h3
  simp only
  cases rest with
  | nil =>
    simp at he
    subst he
    rw [sizeR] at h3
    simp [q2]
    intro hkm
    rw [h3]
    exact ⟨.refl _, hle⟩
  | cons e rest =>
    have hlt : (done.length : Int) < rules.length := by rw [he]; simp; omega
    have hlt' : done.length < rules.length := by omega
    have hlt2 : ¬ rules.length ≤ done.length := by omega
    have hat : rules[done.length]? = some e := by rw [he]; simp
    rw [sizeR] at h3
    by_cases hn : n ≤ m
    · have hn2 : ¬ m < n := by omega
      rw [if_pos hn] at h3
      simp [q2, hlt, hlt', hlt2, hn, hn2, -r6_Size_c29_eq]
      intro hkm
      rw [wrap64 (by omega) (by omega)]
      refine sz_alts rfl hm0 hm (by omega) (by omega) q2 hat fun j => ?_
      have hb := sizeA_bd m e.alts (n + 1) (by omega) (by omega)
      simp
      rw [wrap64 (by omega) (by omega)]
      have e9 : ((done ++ [e]).length : Int) = done.length + 1 := by simp
      exact loopK_next ⟨sizeA m (n + 1) e.alts, done ++ [e], rest⟩ ⟨by simp [he], hb.1, by show sizeA m (n + 1) e.alts ≤ m + 2 + R47; omega, h3⟩ (by simp) (by simp only [e9]; exact EnvLe.refl _) (.refl _)
    · have hn2 : m < n := by omega
      rw [if_neg hn] at h3
      simp [q2, hlt, hlt', hlt2, hn, hn2]
      intro hkm
      rw [h3]
      exact ⟨.refl _, hle⟩
end Go.Av

namespace Go.Av
open Go Go.Proofs

def nmE (s : List UInt8) : GE := .mk 1 s []
theorem sub3 {a b c a' b' c' : AV} (h1 : Sub a a') (h2 : Sub b b') (h3 : Sub c c') (u1 : a' ≠ .undef) (u2 : b' ≠ .undef) (u3 : c' ≠ .undef) : Sub (.struct [a, b, c]) (.struct [a', b', c']) := by
  refine .struct rfl (fun j x y hx hy => ?_) (fun x hx => ?_)
  · match j with
    | 0 => simp at hx hy; subst hx hy; exact h1
    | 1 => simp at hx hy; subst hx hy; exact h2
    | 2 => simp at hx hy; subst hx hy; exact h3
    | j + 3 => simp at hx
  · simp at hx
    rcases hx with rfl | rfl | rfl
    · exact u1
    · exact u2
    · exact u3

theorem l16_name (s : List UInt8) (H : AHeap) : Pure lS_name_id [.str s] H (nmE s).av := by
  refine lS_name_enter rfl ?_
  simp [lS_name_rs, nmE, GE.av_mk, allocQ]
  intro b hb
  exact ⟨sub3 (.refl _) (.refl _) (.nils 3) (by simp) (by simp) (by simp), .set hb⟩
theorem l16_of (k : Int) (l : List GE) (H : AHeap) : Pure lS_of_id [i64 k, .list 3 (l.map GE.av)] H (GE.mk k [] l).av := by
  refine lS_of_enter rfl ?_
  simp [lS_of_rs, GE.av_mk, allocQ]
  intro b hb
  exact .set hb

def exR : List GR := [⟨[101], [⟨.mk 2 [] [nmE [101], nmE [112, 108, 117, 115], nmE [101]], 2⟩, ⟨nmE [110], 0⟩]⟩,
  ⟨[110], [⟨.mk 2 [] [nmE [97], .mk 5 [] [.mk 3 [] [nmE [98], nmE [99]]]], 0⟩]⟩]
def exF (s : List UInt8) : GF := ⟨s, [], exR⟩

theorem l16_example (H : AHeap) : Pure lS_example_id [] H (exF [101]).av := by
  refine lS_example_enter rfl ?_
  simp [lS_example_rs, allocQ]
  intro b0 hb0
  refine (l16_name _ _).use ?_
  simp
  refine (l16_name _ _).use ?_
  simp
  refine (l16_name _ _).use ?_
  simp
  refine (l16_of 2 [nmE [101], nmE [112, 108, 117, 115], nmE [101]] _).use ?_
  simp
  refine (l16_name _ _).use ?_
  simp
  refine (l16_name _ _).use ?_
  simp
  refine (l16_name _ _).use ?_
  simp
  refine (l16_name _ _).use ?_
  simp
  refine (l16_of 3 [nmE [98], nmE [99]] _).use ?_
  simp
  refine (l16_of 5 [.mk 3 [] [nmE [98], nmE [99]]] _).use ?_
  simp
  refine (l16_of 2 [nmE [97], .mk 5 [] [.mk 3 [] [nmE [98], nmE [99]]]] _).use ?_
  simp
  exact ⟨sub3 (.refl _) (.nils 2) (.refl _) (by simp) (by simp) (by simp), .set hb0⟩

def exText : List UInt8 := [115, 116, 97, 114, 116, 32, 101, 59, 10, 101, 32, 61, 32, 101, 32, 112, 108, 117, 115, 32, 101, 32, 112, 114, 105, 99, 101, 32, 50, 32, 124, 32, 110, 59, 10, 110, 32, 61, 32, 97, 32, 40, 98, 32, 124, 32, 99, 41, 42, 59, 10]
theorem dec2 : Lib.decDigits 2 = [50] := by rw [Lib.decDigits]; rfl
theorem exText_eq : gfText (exF [101]) = exText := by
  simp [gfText, exF, exR, startText, ruleText, altsText, altText, bodyText, priceText, fmtE_mk, fmtL_cons, fmtL_nil, nmE, GE.kind, GE.kids, encl, sepOf, reqOf, sufOf, kwPr, dec2, exText]
theorem exV1 : validM (exF [101]) = true := by decide
theorem exV2 : validM (exF [120]) = false := by decide
theorem exV3 : validM ⟨[], [], []⟩ = false := by decide

theorem l16_awake (H : AHeap) : Pure lS_awake_id [] H (.bool true) := by
  refine lS_awake_enter rfl ?_
  simp [lS_awake_rs, allocQ]
  refine (l16_example _).use ?_
  simp
  refine (l16_example _).use ?_
  simp [allocQ]
  intro b1 hb1 b2 hb2
  have n12 : b1 ≠ b2 := fun e => by subst e; rw [AHeap.set_same] at hb2; cases hb2
  have h2 : H b2 = none := by rw [AHeap.set_ne _ _ n12.symm] at hb2; exact hb2
  have a0 : (exF [101]).av.at_ [0] = some (.str [101]) := rfl
  have a1 : (exF [101]).av.offs [0] = 0 := rfl
  have a2 : (exF [101]).av.put [0] (.str [120]) = (exF [120]).av := rfl
  simp [AHeap.set_ne, n12, n12.symm, a0, a1, a2]
  obtain ⟨H1, e1, q1, q2, hle⟩ : ∃ H1, ((((H.set b1 (.box (.struct [.str [], .nils, .nils]))).set b2 (.box (.struct [.str [], .nils, .nils]))).set b1 (.box (exF [101]).av)).set b2 (.box (exF [120]).av)) = H1 ∧
      H1 b1 = some (.box (exF [101]).av) ∧ H1 b2 = some (.box (exF [120]).av) ∧ HLe H H1 := by
    refine ⟨_, rfl, by rw [AHeap.set_ne _ _ n12, AHeap.set_same], AHeap.set_same _ _ _, .of_sub fun x o hx => ?_⟩
    have x1 : x ≠ b1 := fun e => by subst e; rw [hb1] at hx; cases hx
    have x2 : x ≠ b2 := fun e => by subst e; rw [h2] at hx; cases hx
    rw [AHeap.set_ne _ _ x2, AHeap.set_ne _ _ x1, AHeap.set_ne _ _ x2, AHeap.set_ne _ _ x1]
    exact hx
  rw [e1]
  refine lS_awake_c3_lex ?_
  have hlim : lim47 = 140737488355328 := rfl
  have v1 : Pure gF_Valid_id [(exF [101]).av] H1 (.bool true) := exV1 ▸ gf_Valid (exF [101]) (by decide) H1
  have v2 : Pure gF_Valid_id [(exF [120]).av] H1 (.bool false) := exV2 ▸ gf_Valid (exF [120]) (by decide) H1
  have v3 : Pure gF_Valid_id [.struct [.str [], .nils, .nils]] H1 (.bool false) :=
    ACalls.sub1 (v' := (GF.mk [] [] []).av) (sub3 (.refl _) (.nils 2) (.nils 2) (by simp) (by simp) (by simp)) (exV3 ▸ gf_Valid ⟨[], [], []⟩ (by decide) H1)
  have f1 : Pure gF_Format_id [(exF [101]).av] H1 (.str exText) := by
    rw [← exText_eq]
    refine gf_Format (exF [101]) H1 (by intro l hl; cases hl) ?_ (by rw [exText_eq]; decide)
    intro r hr a ha
    have : a.price = 2 ∨ a.price = 0 := by
      simp [exF, exR] at hr
      rcases hr with rfl | rfl
      · simp at ha; rcases ha with rfl | rfl <;> simp
      · simp at ha; subst ha; simp
    rcases this with h | h <;> rw [h] <;> exact ⟨by decide, .inl (by decide)⟩
  have q11 : Pure gF_Equal_id [(exF [101]).av, (exF [101]).av] H1 (.bool true) := eqB_self (exF [101]) ▸ gf_Equal (exF [101]) (exF [101]) H1
  have q12 : Pure gF_Equal_id [(exF [101]).av, (exF [120]).av] H1 (.bool false) := by
    have := gf_Equal (exF [101]) (exF [120]) H1
    rw [eqB_false.2 (by simp [exF])] at this
    exact this
  have ex1 := l16_example H1
  simp [q1]
  refine ⟨_, v1, ?_⟩
  simp [q2]
  refine ⟨_, v2, ?_⟩
  simp
  refine ⟨_, v3, ?_⟩
  simp [q1]
  refine ⟨_, f1, ?_⟩
  have hx : (exText == [115, 116, 97, 114, 116, 32, 101, 59, 10, 101, 32, 61, 32, 101, 32, 112, 108, 117, 115, 32, 101, 32, 112, 114,
        105, 99, 101, 32, 50, 32, 124, 32, 110, 59, 10, 110, 32, 61, 32, 97, 32, 40, 98, 32, 124, 32, 99, 41, 42, 59, 10]) = true := by decide
  simp [hx, q1]
  refine ⟨_, ex1, ?_⟩
  refine ⟨_, q11, ?_⟩
  simp [q1, q2]
  refine ⟨_, q12, ?_⟩
  simp
  exact hle

/-- What 'small' answers. -/
theorem l16_small (f : GF) (m : Int) (H : AHeap) (hm0 : 0 ≤ m) (hm : m ≤ 1000000) (ht : ∀ l ∈ f.levels, l.tokens.length ≤ R47) : Pure lS_small_id [f.av, i64 m] H (.bool (decide (sizeF f m ≤ m))) := by
  refine lS_small_enter rfl ?_
  simp [lS_small_rs, allocQ]
  intro b2 hb2
  have q2 : (H.set b2 (.box f.av)) b2 = some (.box f.av) := AHeap.set_same _ _ _
  have hle : HLe H (H.set b2 (.box f.av)) := .set hb2
  generalize H.set b2 (.box f.av) = H1 at q2 hle ⊢
  refine (r16_Size f m H1 hm0 hm ht).use ?_
  simp
  exact hle

theorem law_GfValid (f : GF) (H : AHeap) (hT : H 1 = some (.tab powTab)) (ht : ∀ l ∈ f.levels, l.tokens.length ≤ R47) : Pure lF_Valid_id [f.av] H (.bool true) := by
  refine lF_Valid_enter rfl ?_
  simp [lF_Valid_rs, allocQ]
  intro b1 hb1
  have q1 : (H.set b1 (.box f.av)) b1 = some (.box f.av) := AHeap.set_same _ _ _
  have hle : HLe H (H.set b1 (.box f.av)) := .set hb1
  generalize H.set b1 (.box f.av) = H1 at q1 hle ⊢
  refine (l16_small f 200 H1 (by decide) (by decide) ht).use ?_
  by_cases hs : sizeF f 200 ≤ 200
  · obtain ⟨t1, _⟩ := small_tokens (by decide) (by decide) hs
    simp [hs]
    refine lF_Valid_c6_lex ?_
    simp
    refine ⟨_, l16_awake H1, ?_⟩
    simp [q1]
    refine ⟨_, gf_Valid f t1 H1, ?_⟩
    refine ⟨_, r16_Valid f t1 H1, ?_⟩
    simp
    exact hle
  · simp [hs]
    refine (l16_awake H1).use ?_
    simp
    exact hle
end Go.Av
