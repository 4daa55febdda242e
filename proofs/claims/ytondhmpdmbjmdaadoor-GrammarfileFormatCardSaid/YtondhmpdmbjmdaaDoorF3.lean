/- ref16.Decimal, ref16.alternative. -/
import Derived.Test.YtondhmpdmbjmdaaDoorFnsF
import Derived.Test.YtondhmpdmbjmdaaDoorF2
import Derived.Lib.ItoaNum
set_option linter.unusedVariables false
set_option linter.unusedSimpArgs false
namespace Go.Av
open Go Go.Proofs
structure DSt where
  m : Nat
  s : List UInt8

theorem dig_av (n : Nat) : IntKind.u8.wrap (IntKind.i64.wrap (48 + (n : Int).tmod 10)) = ((UInt8.ofNat (48 + n % 10)).toNat : Int) := by
  have e : (n : Int).tmod 10 = ((n % 10 : Nat) : Int) := by
    rw [Int.tmod_eq_emod_of_nonneg (by omega)]
    omega
  have h := (digit_byte (show n % 10 < 10 by omega)).2
  rw [e, wrap64 (by omega) (by omega), wrap8 (by omega) (by omega)]
  omega

theorem dec_step {n m : Nat} {s : List UInt8} (h : Lib.decDigits n = Lib.decDigits m ++ s) : Lib.decDigits n = (if m / 10 = 0 then [] else Lib.decDigits (m / 10)) ++ (UInt8.ofNat (48 + m % 10) :: s) := by
  rw [h]
  by_cases h1 : m < 10
  · have e : m / 10 = 0 := by omega
    have e2 : m % 10 = m := by omega
    rw [if_pos e, decDigits_small h1, e2]
    rfl
  · have e : ¬ m / 10 = 0 := by omega
    rw [if_neg e, decDigits_big h1]
    simp

theorem r16_Decimal (n : Nat) (hn : n ≤ 1000000) (H : AHeap) : Pure r6_Decimal_id [i64 n] H (.str (Lib.decDigits n)) := by
  have hml := maxLen_eq
  have hlen := dec_len n n (Nat.le_refl _)
  refine r6_Decimal_enter rfl ?_
  simp [r6_Decimal_rs, allocQ]
  refine ⟨[UInt8.ofNat (48 + n % 10)], by rw [dig_av]; rfl, ?_⟩
  have e1 : IntKind.i64.wrap ((n : Int) / 10) = ((n / 10 : Nat) : Int) := by rw [wrap64 (by omega) (by omega)]; omega
  rw [e1]
  refine aw_loopK (fun x : DSt => x.m ≤ n ∧ Lib.decDigits n = (if x.m = 0 then [] else Lib.decDigits x.m) ++ x.s) (fun x => [(0, i64 x.m), (3, .str x.s)]) (fun _ => H) (fun x => x.m) ⟨n / 10, [UInt8.ofNat (48 + n % 10)]⟩ ⟨Nat.div_le_self _ _, dec_step (by simp)⟩ rfl rfl ?_
  rintro ⟨m, s⟩ ⟨hm, hd⟩
  simp only at hm hd
  by_cases h0 : m = 0
  · subst h0
    simp at hd
    simp [hd]
  · rw [if_neg h0] at hd
    have hp : (0 : Int) < (m : Int) := by omega
    have hp2 : 0 < m := by omega
    have hsl : (Lib.decDigits n).length = (Lib.decDigits m).length + s.length := by rw [hd]; simp
    simp [hp, hp2, h0, allocQ]
    refine ⟨[UInt8.ofNat (48 + m % 10)], by rw [dig_av]; rfl, ?_⟩
    refine ⟨by simp; omega, ?_⟩
    have e1 : IntKind.i64.wrap ((m : Int) / 10) = ((m / 10 : Nat) : Int) := by rw [wrap64 (by omega) (by omega)]; omega
    rw [e1]
    exact loopK_same ⟨m / 10, UInt8.ofNat (48 + m % 10) :: s⟩ ⟨by have := Nat.div_le_self m 10; show m / 10 ≤ n; omega, dec_step hd⟩ (by show m / 10 < m; omega) rfl rfl

set_option maxRecDepth 100000 in
set_option maxHeartbeats 4000000 in
theorem r16_alternative (x : GA) (hx : altOK x = true) (hl : (altText x).length ≤ Lim) (H : AHeap) : Pure r6_al_id [x.av] H (.str (altText x)) := by
  obtain ⟨e, p⟩ := x
  have hml := maxLen_eq
  have hLim := Lim_eq
  simp only [altOK, Bool.and_eq_true, decide_eq_true_eq] at hx
  obtain ⟨⟨h1, h2⟩, h3⟩ := hx
  simp only [altText, List.length_append] at hl
  have hav : e.av = .struct [i64 e.kind, .str e.name, .list 3 (e.kids.map GE.av)] := by cases e; rw [GE.av_mk]; rfl
  refine r6_al_enter rfl ?_
  simp [r6_al_rs, allocQ, -r6_al_c13_eq]
  intro b1 hb1
  have q1 : (H.set b1 (.box (GA.av ⟨e, p⟩))) b1 = some (.box (.struct [e.av, i64 p])) := AHeap.set_same _ _ _
  have hle : HLe H (H.set b1 (.box (GA.av ⟨e, p⟩))) := .set hb1
  generalize H.set b1 (.box (GA.av ⟨e, p⟩)) = H1 at q1 hle ⊢
  have tail : ∀ env, (env = [(1, AV.ptr b1 0 []), (3, .str (bodyText e))] ∨ env = [(1, AV.ptr b1 0 []), (3, .str (bodyText e)), (14, .bool false)]) →
      aw PP r6_al_c12 (retK [ARV.tmp 2] fun r H' => r = ARes.ret (.str (altText ⟨e, p⟩)) ∧ H' = H) env H1 := by
    intro env henv
    by_cases hp0 : p = 0
    · rcases henv with rfl | rfl <;>
      · simp [q1, hp0, altText, priceText]
        exact hle
    · have hp0' : (p != 0) = true := by simp [hp0]
      have hpt : priceText p = kwPr ++ Lib.decDigits p.toNat := by simp [priceText, hp0]
      have epn : ((p.toNat : Nat) : Int) = p := Int.toNat_of_nonneg h1
      have hdec := r16_Decimal p.toNat (by omega) H1
      rw [epn] at hdec
      rw [hpt] at hl
      simp only [List.length_append, kwPr, List.length_cons, List.length_nil] at hl
      rcases henv with rfl | rfl <;>
      · simp [q1, hp0, hp0']
        refine ⟨by first | omega | (simp; omega), ?_⟩
        refine hdec.use ?_
        simp
        refine ⟨by first | omega | (simp; omega), ?_⟩
        simp [altText, hpt, kwPr]
        exact hle
  have hge := encl_ge (e.kind == 3) (fmtE e)
  by_cases hb : (e.kind == 2 && e.kids.length == 0) = true
  · have hbt : bodyText e = [] := by simp [bodyText, hb]
    have hb2 : e.kind = 2 ∧ e.kids = [] := by simpa using hb
    simp [q1, hav, hb2.1, hb2.2, -r6_al_c12_eq]
    exact tail _ (by rw [hbt]; exact .inr rfl)
  · have hbt : bodyText e = 32 :: encl (e.kind == 3) (fmtE e) := by unfold bodyText; rw [if_neg hb]
    rw [hbt] at hl
    simp only [List.length_cons] at hl
    have hfe := r16_FormatExpr _ e (Nat.le_refl _) 30 h3 (by omega)
    have hkid := r16_kid e (e.kind == 3) H1 (by omega) hfe
    simp only [hav] at hkid
    have fin : ∀ K : Prop, K → K := fun _ h => h
    by_cases e2 : e.kind = 2
    · have e0 : ¬ e.kids = [] := by intro h0; exact hb (by simp [e2, h0])
      have e0' : ¬ e.kids.length = 0 := by simpa using e0
      have e0p : (0 : Int) < e.kids.length := by omega
      have e0n : 0 < e.kids.length := by omega
      simp only [e2] at hkid hbt hl
      simp [q1, hav, e2, e0, e0', e0p, e0n, -r6_al_c12_eq]
      intro _
      refine Pure.use (by simpa using hkid) ?_
      simp [-r6_al_c12_eq]
      refine ⟨by simp at hl; omega, ?_⟩
      exact tail _ (by rw [hbt]; simp [e2])
    · have e2' : (e.kind != 2) = true := by simp [e2]
      simp [q1, hav, e2, e2', -r6_al_c12_eq]
      refine Pure.use hkid ?_
      simp [-r6_al_c12_eq]
      refine ⟨by omega, ?_⟩
      exact tail _ (by rw [hbt]; simp)
end Go.Av
