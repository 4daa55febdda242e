/- What all contracts of a seat share: calls that leave the heap alone, slices that grow, equality. -/
import Derived.Test.YtpdbcfnmhicnbaaDoorFns1
import Derived.Test.YtpdbcfnmhicnbaaDoorAvF
set_option linter.unusedVariables false
set_option linter.unusedSimpArgs false
namespace Go.Av
open Go Go.Proofs

/-- The call comes to v and leaves the heap alone. -/
def Pure (f : FuncId) (args : List AV) (H : AHeap) (v : AV) : Prop := ACalls PP f args H (fun r H' => r = .ret v ∧ H' = H)
theorem Pure.use {f : FuncId} {args : List AV} {H : AHeap} {v : AV} {K : AV → AHeap → Prop} {Kp : Value → AHeap → Prop} (h : Pure f args H v) (hK : K v H) : ACalls PP f args H (callK K Kp) :=
  ACalls.mono h fun r H' hr => by obtain ⟨rfl, rfl⟩ := hr; exact hK
theorem ret_pure {v : AV} {H : AHeap} {w : AV} (h : v = w) : ∃ v' H', Sub v v' ∧ HLe H' H ∧ (ARes.ret v' = ARes.ret w ∧ H' = H) := ⟨v, H, .refl _, .refl _, by rw [h], rfl⟩
/-- A fresh variable is forgotten. -/
theorem ret_pure_set {v : AV} {H : AHeap} {w : AV} {b : Nat} {o : AObj} (hb : H b = none) (h : v = w) : ∃ v' H', Sub v v' ∧ HLe H' (H.set b o) ∧ (ARes.ret v' = ARes.ret w ∧ H' = H) := ⟨v, H, .refl _, .set hb, by rw [h], rfl⟩

attribute [simp] Sub.refl HLe.refl

def isLetter (b : UInt8) : Bool := (97 ≤ b && b ≤ 122) || (65 ≤ b && b ≤ 90)
def isDigit (b : UInt8) : Bool := 48 ≤ b && b ≤ 57
def isBlank (b : UInt8) : Bool := b == 32 || b == 9 || b == 13 || b == 10
def inWord (b : UInt8) : Bool := isLetter b || isDigit b || b == 95

abbrev u8 (b : UInt8) : AV := .int .u8 (b.toNat : Int)
abbrev i64 (n : Int) : AV := .int .i64 n

theorem u8_eq (b c : UInt8) : (b == c) = decide ((b.toNat : Int) = c.toNat) := by
  by_cases h : b = c
  · subst h; simp
  · have : b.toNat ≠ c.toNat := fun e => h (UInt8.toNat_inj.1 e)
    rw [decide_eq_false (by omega)]
    exact beq_eq_false_iff_ne.2 h

theorem isLetter_iff (b : UInt8) : isLetter b = true ↔ (97 ≤ (b.toNat : Int) ∧ (b.toNat : Int) ≤ 122) ∨ (65 ≤ (b.toNat : Int) ∧ (b.toNat : Int) ≤ 90) := by
  simp [isLetter, UInt8.le_iff_toNat_le]; omega
theorem isDigit_iff (b : UInt8) : isDigit b = true ↔ (48 ≤ (b.toNat : Int) ∧ (b.toNat : Int) ≤ 57) := by
  simp [isDigit, UInt8.le_iff_toNat_le]; omega
theorem isBlank_iff (b : UInt8) : isBlank b = true ↔ ((b.toNat : Int) = 32 ∨ (b.toNat : Int) = 9 ∨ (b.toNat : Int) = 13 ∨ (b.toNat : Int) = 10) := by
  simp [isBlank, u8_eq]; omega
theorem bool_of_iff {a : Bool} {p : Prop} [Decidable p] (h : a = true ↔ p) : a = decide p := by
  by_cases hp : p
  · simp [hp, h.2 hp]
  · simp only [hp, decide_false]; cases a <;> simp_all


theorem maxLen_eq : maxLen = 9223372036854775807 := by decide

abbrev fnv (F : FuncId) : AV := .fn (.func F) [] []

theorem Grows.add {H0 H : AHeap} {e : TypeId} {sz : Nat} {l : List AV} {v : AV} {b : Nat} {o : AObj} (h : Grows H0 e sz l v H) (hb : H b = none) : Grows (H0.set b o) e sz l v (H.set b o) := by
  rcases h with ⟨rfl, rfl, rfl⟩ | ⟨b', hb0, rfl, rfl⟩
  · exact .inl ⟨rfl, rfl, rfl⟩
  · have : b ≠ b' := by rintro rfl; rw [AHeap.set_same] at hb; cases hb
    exact .inr ⟨b', by rw [AHeap.set_ne _ _ (Ne.symm this)]; exact hb0, rfl, set_comm_heap (Ne.symm this)⟩

theorem Grows.base {H0 H : AHeap} {e : TypeId} {sz : Nat} {l : List AV} {v : AV} {b : Nat} (h : Grows H0 e sz l v H) (hb : H b = none) : H0 b = none := by
  rcases h with ⟨rfl, rfl, rfl⟩ | ⟨b', hb0, rfl, rfl⟩
  · exact hb
  · by_cases e : b = b'
    · subst e; exact hb0
    · rwa [AHeap.set_ne _ _ e] at hb

theorem Grows.drop {H0 H : AHeap} {e : TypeId} {sz : Nat} {l : List AV} {v : AV} {b : Nat} {o : AObj} (h : Grows (H0.set b o) e sz l v H) (hb : H0 b = none) : ∃ H3, Grows H0 e sz l v H3 ∧ HLe H3 H := by
  rcases h with ⟨rfl, rfl, rfl⟩ | ⟨b', hb0, rfl, rfl⟩
  · exact ⟨H0, .inl ⟨rfl, rfl, rfl⟩, .set hb⟩
  · have : b' ≠ b := by rintro rfl; rw [AHeap.set_same] at hb0; cases hb0
    rw [AHeap.set_ne _ _ this] at hb0
    refine ⟨H0.set b' (.row l.length sz e), .inr ⟨b', hb0, rfl, rfl⟩, ?_⟩
    rw [set_comm_heap (Ne.symm this)]
    exact .set (by rw [AHeap.set_ne _ _ (Ne.symm this)]; exact hb)

theorem Grows.HLe {H0 H : AHeap} {e : TypeId} {sz : Nat} {l : List AV} {v : AV} (h : Grows H0 e sz l v H) : HLe H0 H := by
  rcases h with ⟨rfl, rfl, rfl⟩ | ⟨b', hb0, rfl, rfl⟩
  · exact .refl _
  · exact .set hb0

theorem ne_of_some_none {H : AHeap} {a b : Nat} {o : AObj} (ha : H a = some o) (hb : H b = none) : a ≠ b := by
  rintro rfl; rw [ha] at hb; cases hb

theorem Grows.get {H0 H : AHeap} {e : TypeId} {sz : Nat} {l : List AV} {v : AV} {b : Nat} {o : AObj} (h : Grows H0 e sz l v H) (hb : H0 b = some o) : H b = some o := by
  rcases h with ⟨rfl, rfl, rfl⟩ | ⟨b', hb0, rfl, rfl⟩
  · exact hb
  · rw [AHeap.set_ne _ _ (ne_of_some_none hb hb0)]; exact hb

theorem Grows.set {H0 H : AHeap} {e : TypeId} {sz : Nat} {l : List AV} {v : AV} {b : Nat} {o o' : AObj} (h : Grows H0 e sz l v H) (hb : H0 b = some o') : Grows (H0.set b o) e sz l v (H.set b o) := by
  rcases h with ⟨rfl, rfl, rfl⟩ | ⟨b', hb0, rfl, rfl⟩
  · exact .inl ⟨rfl, rfl, rfl⟩
  · have := ne_of_some_none hb hb0
    exact .inr ⟨b', by rw [AHeap.set_ne _ _ (Ne.symm this)]; exact hb0, rfl, set_comm_heap (Ne.symm this)⟩

theorem Grows.size {H0 H : AHeap} {e : TypeId} {sz : Nat} {l : List AV} {v : AV} (h : Grows H0 e sz l v H) : v.size = 1 ∧ v.sto = true ∧ v.isAgg = false := by
  rcases h with ⟨rfl, _⟩ | ⟨b', _, rfl, _⟩
  · exact ⟨rfl, rfl, rfl⟩
  · exact ⟨rfl, rfl, rfl⟩

theorem set_self {H : AHeap} {b : Nat} {o : AObj} (h : H b = some o) : H.set b o = H := by
  funext x
  simp only [AHeap.set]
  split
  · rename_i e; rw [e, h]
  · rfl

theorem Grows.lit {H0 : AHeap} {e : TypeId} {sz b : Nat} {x : AV} (hb : H0 b = none) : Grows H0 e sz [x] (.own sz [x] b) (H0.set b (.row 1 sz e)) := .inr ⟨b, hb, rfl, rfl⟩

theorem ACalls.sub {P : Program} {f : FuncId} {args args' : List AV} {H : AHeap} {post : ARes → AHeap → Prop} (hl : args.length = args'.length)
    (h : ∀ (j : Nat) v v', args[j]? = some v → args'[j]? = some v' → Sub v v') (hc : ACalls P f args' H post) : ACalls P f args H post :=
  ⟨hc.1, fun c us h1 h2 h3 h4 => hc.2 c us h1 h2 (h3.trans hl) fun j v' u hv hu => by
    have hj : j < args.length := by rw [hl]; exact (List.getElem?_eq_some_iff.1 hv).1
    exact (h4 j _ u (List.getElem?_eq_getElem hj) hu).sub (h j _ _ (List.getElem?_eq_getElem hj) hv)⟩

theorem ACalls.sub1 {P : Program} {f : FuncId} {v v' : AV} {H : AHeap} {post : ARes → AHeap → Prop} (h : Sub v v') (hc : ACalls P f [v'] H post) : ACalls P f [v] H post :=
  ACalls.sub (args := [v]) (args' := [v']) rfl (fun j a b ha hb => by
    cases j with
    | zero => simp at ha hb; subst ha hb; exact h
    | succ j => simp at ha) hc

theorem aw_loopW {σ : Type} {P : Program} {a : AC} {K : AK} (Inv : σ → Prop) (E : σ → Env) (Hp : σ → AHeap) (μ : σ → Nat) (x0 : σ)
    {env : Env} {H : AHeap} (hi : Inv x0) (he : EnvLe env (E x0)) (hh : HLe (Hp x0) H) (hstep : ∀ x, Inv x → aw P a (loopK Inv E Hp μ (μ x) K) (E x) (Hp x)) : aw P (.loop a) K env H :=
  aw_loop Inv E Hp μ hstep ⟨x0, hi, he, hh⟩

noncomputable def eqB {α : Type} (a b : α) : Bool := @decide (a = b) (Classical.propDecidable _)

theorem eqB_iff {α : Type} {a b : α} : eqB a b = true ↔ a = b := by unfold eqB; simp

theorem eqB_false {α : Type} {a b : α} : eqB a b = false ↔ a ≠ b := by unfold eqB; simp

theorem eqB_self {α : Type} (a : α) : eqB a a = true := eqB_iff.2 rfl

theorem eqB_comm {α : Type} (a b : α) : eqB a b = eqB b a := by
  rw [Bool.eq_iff_iff, eqB_iff, eqB_iff]
  exact ⟨Eq.symm, Eq.symm⟩

/-- Two fresh variables are forgotten. -/
theorem ret_pure_set2 {v : AV} {H : AHeap} {w : AV} {b c : Nat} {o o' : AObj} (hb : H b = none) (hc : (H.set b o) c = none) (h : v = w) : ∃ v' H', Sub v v' ∧ HLe H' ((H.set b o).set c o') ∧ (ARes.ret v' = ARes.ret w ∧ H' = H) :=
  ⟨v, H, .refl _, (HLe.set hb).trans (.set hc), by rw [h], rfl⟩

theorem two_boxes {H : AHeap} {b c : Nat} {o o' : AObj} (hb : H b = none) (hc : (H.set b o) c = none) : ∃ H1, (H.set b o).set c o' = H1 ∧ H1 b = some o ∧ H1 c = some o' ∧ HLe H H1 := by
  have n : b ≠ c := fun e => by subst e; rw [AHeap.set_same] at hc; cases hc
  exact ⟨_, rfl, by rw [AHeap.set_ne _ _ n, AHeap.set_same], AHeap.set_same _ _ _, (HLe.set hb).trans (.set hc)⟩

def Pre {α : Type} (l m : List α) (i : Nat) : Prop := ∀ j x y, j < i → l[j]? = some x → m[j]? = some y → x = y

theorem Pre.zero {α : Type} (l m : List α) : Pre l m 0 := fun j x y h => by omega

theorem Pre.succ {α : Type} {l m : List α} {i : Nat} {x y : α} (h : Pre l m i) (hx : l[i]? = some x) (hy : m[i]? = some y) (e : x = y) : Pre l m (i + 1) := by
  intro j a b hj ha hb
  by_cases hji : j < i
  · exact h j a b hji ha hb
  · have : j = i := by omega
    subst this
    rw [hx] at ha
    rw [hy] at hb
    injection ha with ha
    injection hb with hb
    rw [← ha, ← hb, e]

theorem Pre.full {α : Type} {l m : List α} (hl : l.length = m.length) (h : Pre l m l.length) : l = m := by
  apply List.ext_getElem?
  intro j
  by_cases hj : j < l.length
  · rw [List.getElem?_eq_getElem hj, List.getElem?_eq_getElem (by omega)]
    rw [h j _ _ hj (List.getElem?_eq_getElem hj) (List.getElem?_eq_getElem (by omega : j < m.length))]
  · rw [List.getElem?_eq_none (by omega), List.getElem?_eq_none (by omega)]

theorem Pre.ne {α : Type} {l m : List α} {i : Nat} {x y : α} (hx : l[i]? = some x) (hy : m[i]? = some y) (e : x ≠ y) : l ≠ m := fun h => by
  subst h
  rw [hx] at hy
  injection hy with hy
  exact e hy

abbrev lim47 : Nat := 140737488355328

/-- Boxes that were made meanwhile are forgotten. -/
theorem forget {H H1 : AHeap} {b : Nat} {o o2 : AObj} (hle : HLe H H1) (hb : H b = some o) : HLe (H.set b o2) (H1.set b o2) := by
  refine ⟨fun x v hx => ?_, fun x n z e hx => ?_, fun x o ho hx => ?_⟩
  all_goals
    by_cases hxb : x = b
    · subst hxb
      rw [AHeap.set_same] at hx ⊢
      first | exact .inl hx | exact hx
    · rw [AHeap.set_ne _ _ hxb] at hx ⊢
      first | exact hle.box x v hx | exact hle.row x n z e hx | exact hle.x x o ho hx

structure FSt (α : Type) where
  done : List α
  rest : List α

theorem sub3 {a b c a' b' c' : AV} (h1 : Sub a a') (h2 : Sub b b') (h3 : Sub c c') (u1 : a' ≠ .undef) (u2 : b' ≠ .undef) (u3 : c' ≠ .undef) : Sub (.struct [a, b, c]) (.struct [a', b', c']) := by
  refine .struct rfl (fun j x y hx hy => ?_) (fun x hx => ?_)
  · match j with
    | 0 => simp at hx hy; subst hx hy; exact h1
    | 1 => simp at hx hy; subst hx hy; exact h2
    | 2 => simp at hx hy; subst hx hy; exact h3
    | j + 3 => simp at hx
  · simp at hx
    rcases hx with rfl | rfl | rfl
    · exact u1
    · exact u2
    · exact u3

/-- The index of the first that fits, or -1. -/
def IsIdx {α : Type} (p : α → Bool) (l : List α) (k : Int) : Prop := decide (0 ≤ k) = l.any p
end Go.Av
