/- What the rows of this seat have in common: the listed tables, a world that meets the condition, arguments that are grammar files. -/
import Derived.Test.YtondhmpdmbjmdaaDoorAvG
import Derived.Test.YtondhmpdmbjmdaaDoorBridgeF
import Derived.Test.YtondhmpdmbjmdaaDoorBb
import Derived.Test.YtondhmpdmbjmdaaDoorCards
import Derived.Test.YtondhmpdmbjmdaaDoorTie
import Derived.ProofKit
import Derived.LaidMore
import Derived.OpenShut
import Derived.Stop.Joined
import Derived.ChangeSame
import Derived.ChangeVars
import Derived.JoinedOf
import Derived.RowKit
import Derived.RowKitTokens
import Derived.LaidLaws
import Derived.LaidHandle
import Derived.Carry
import Derived.Lib.LaidTab
import Derived.Stop.LaidErr
set_option linter.unusedVariables false
set_option linter.unusedSimpArgs false
set_option maxRecDepth 100000
namespace Go.Proofs.YtondhmpdmbjmdaaDoor
open Go.ChangeShapes Go.WideShapes Go.ChangeAt Go.RowKit Go.Av

theorem own : ownKnob Tryd.prog.godebug = none := by kernel_rfl
theorem laidOut : laidOutB Tryd.prog = true := by kernel_rfl

/-- The three listed tables. -/
abbrev laid3 : List (String × DataW Unit) := [("math/bits.deBruijn32tab", Rows.laid_math_bits_deBruijn32tab), ("math/bits.deBruijn64tab", Rows.laid_math_bits_deBruijn64tab), ("internal/strconv.uint64pow10", Rows.laid_internal_strconv_uint64pow10)]

def litOf : DataW Unit → Value
  | .lit (.int k n) => .int k n
  | _ => .nilIface
def cellsOfTab : DataW Unit → Array Value
  | .agg l => (l.map litOf).toArray
  | _ => #[]
def put (cs : Array Value) : Obj → Obj
  | .cells _ t fr => .cells cs t fr
  | o => o
/-- A world that meets the condition: the settled one, the three tables laid. -/
noncomputable def laidWorld (os : Os) : World :=
  let w0 := World.holding Tryd.prog os ⟨#[], #[], []⟩
  { w0 with heap := ((w0.heap.modify 1 (put (cellsOfTab Rows.laid_internal_strconv_uint64pow10))).modify 2 (put (cellsOfTab Rows.laid_math_bits_deBruijn32tab))).modify 3 (put (cellsOfTab Rows.laid_math_bits_deBruijn64tab)) }
theorem laidWorld_met (os : Os) (args : Array Value) : laidMetH Tryd.prog laid3 ((laidWorld os).forCall (fun _ _ => 0) ⟨#[], args, []⟩).memory := by
  rw [MakeChecks.laidMetH_plain _ _ _ (by kernel_rfl)]
  exact laidMet_of_run' 8 (by kernel_rfl) (by kernel_rfl)

theorem powData : (Rows.laid_internal_strconv_uint64pow10 : DataW Unit) = Lib.tabData .u64 Lib.pow10Tab := by rfl

/-- The table of the powers of ten is at hand. -/
theorem pow_tab {W : World} (h : laidMetH Tryd.prog laid3 W) : ∃ e z, W.heap[1]? = some (.cells powTab.toArray e z) := by
  rw [MakeChecks.laidMetH_plain _ _ _ (by kernel_rfl)] at h
  have h2 := h.tail.tail
  rw [powData] at h2
  have h3 : Lib.TabIs Tryd.prog W "internal/strconv.uint64pow10" .u64 Lib.pow10Tab :=
    Lib.tabIs_of_head powGlob (by kernel_rfl) Tryd.underlying125 Tryd.underlying118 (by kernel_rfl) (by kernel_rfl) h2
  unfold Lib.TabIs World.var? at h3
  rw [powGlob] at h3
  simp only [Option.bind_some] at h3
  split at h3
  · rename_i cs e z hc
    injection h3 with h3
    subst h3
    exact ⟨e, z, hc⟩
  · cases h3

/-- The heap at a call from without: the table is known. -/
def HT : AHeap := fun b => if b = 1 then some (.tab powTab) else none
def startT (W : World) : Cx := { base := W.heap.size, lim := fun _ => 0, w := W, H := HT }

theorem HT_row {b n s : Nat} {e : TypeId} : HT b ≠ some (.row n s e) := by
  unfold HT; split <;> simp
theorem start_le (W : World) : (Cx.start W).Le (startT W) :=
  ⟨rfl, Nat.le_refl _, fun _ _ h => h, fun _ _ => rfl, rfl, rfl, rfl, rfl, fun b n s e _ h => absurd h HT_row⟩

theorem RH.startT {W : World} (h : ∃ e z, W.heap[1]? = some (.cells powTab.toArray e z)) : RH (startT W) := by
  obtain ⟨e, z, h⟩ := h
  have hlt : 1 < W.heap.size := by
    rcases Nat.lt_or_ge 1 W.heap.size with h' | h'
    · exact h'
    · rw [Array.getElem?_eq_none h'] at h; cases h
  have key : ∀ b o, HT b = some o → b = 1 ∧ o = .tab powTab := fun b o ho => by
    unfold HT at ho
    split at ho
    · rename_i hb
      injection ho with ho
      exact ⟨hb, ho.symm⟩
    · cases ho
  refine ⟨Nat.le_refl _, fun _ _ => rfl, fun b o ho => ?_, fun b o ho hold => ?_, ⟨fun b o ho hx => ?_, fun b s T e' ho => ?_, fun b b' s T e' s' T' e'' ho => ?_, fun b cs ho => ?_⟩, fun b v ho => ?_, fun b n s e' ho => ?_⟩
  · obtain ⟨rfl, rfl⟩ := key b o ho; exact hlt
  · obtain ⟨rfl, rfl⟩ := key b o ho; cases hold
  · obtain ⟨rfl, rfl⟩ := key b o ho; exact ⟨hlt, fun h => by cases h⟩
  · have := (key b _ ho).2; cases this
  · have := (key b _ ho).2; cases this
  · obtain ⟨rfl, h1⟩ := key b _ ho
    injection h1 with h1
    subst h1
    exact ⟨hlt, e, z, h⟩
  · have := (key b _ ho).2; cases this
  · have := (key b _ ho).2; cases this

/-- A contract 'it answers true', at a call from without. -/
theorem lawT {f : FuncId} {args : List AV} {us : List Value} {W : World} (hl : us.length = args.length) (hW : laidMetH Tryd.prog laid3 W)
    (hc : Go.Av.Pure f args HT (.bool true)) (hrep : ∀ (j : Nat) (v : AV) (u : Value), args[j]? = some v → us[j]? = some u → RepV (Cx.start W) v u) :
    Calls Tryd.prog f us.toArray W fun e w' => e = .returned (.bool true) ∧ Below W.heap.size W w' := by
  refine (hc.2 (startT W) us rfl (RH.startT (pow_tab hW)) hl fun j v u hv hu => (hrep j v u hv hu).mono (start_le W)).mono fun e w' ⟨d, e1, hle, _, h⟩ => ?_
  subst e1
  refine ⟨?_, hle.os, hle.tape, hle.output, hle.size, hle.old⟩
  cases e with
  | returned u =>
    obtain ⟨v, ⟨hv, _⟩, hr⟩ := h
    injection hv with hv
    subst hv
    rw [hr.bool]
  | panicked ch =>
    obtain ⟨pv, _, hv, _⟩ := h
    cases hv
  | outgrown => exact h.elim

theorem flds {t : TypeId} {l : List (TypeId × Nat)} {fs : Array Field} (h : Tryd.prog.underlying t = some (.struct fs)) (hl : fs.toList.map (fun f => (f.type, f.offset)) = l) : FldsAre Tryd.prog t l := ⟨fs, h, hl⟩

theorem gty : GTy Tryd.prog 25 22 23 51 41 39 38 31 33 48 9 3 where
  uI := Tryd.underlying3
  uS := Tryd.underlying9
  uE := flds Tryd.underlying33 rfl
  uES := Tryd.underlying31
  uA := flds Tryd.underlying38 rfl
  uAS := Tryd.underlying39
  uR := flds Tryd.underlying41 rfl
  uRS := Tryd.underlying23
  uTS := Tryd.underlying48
  uL := flds Tryd.underlying51 rfl
  uLS := Tryd.underlying22
  uF := flds Tryd.underlying25 rfl
  cI := by kernel_rfl
  cS := by kernel_rfl
  cE := by kernel_rfl
  cES := by kernel_rfl
  cA := by kernel_rfl
  cAS := by kernel_rfl
  cR := by kernel_rfl
  cRS := by kernel_rfl
  cTS := by kernel_rfl
  cL := by kernel_rfl
  cLS := by kernel_rfl
  cF := by kernel_rfl
  bE := of_decide_eq_true (by kernel_rfl)
  bA := of_decide_eq_true (by kernel_rfl)
  bR := of_decide_eq_true (by kernel_rfl)
  bS := of_decide_eq_true (by kernel_rfl)
  bL := of_decide_eq_true (by kernel_rfl)

/-- An argument that is a grammar file. -/
theorem gf_arg {H : Type} {enc : TypeId × Value → H} {W : World} {base : Nat} {v : Value} {d : DataW H} {ps : List MemPlace} (h : DataW.Trod enc Tryd.prog W 0 (fun _ => true) true 25 v d ps)
    (hv : Value.okWide Tryd.prog W .any base 25 v) (hk : ∀ k ∈ d.weights Tryd.prog 25, k ≤ reachBytes) : ∃ f : GF, (∀ l ∈ f.levels, l.tokens.length ≤ reachBytes) ∧ RepV (Cx.start W) f.av v := by
  obtain ⟨n, hn⟩ := h
  obtain ⟨f, h1, h2, _⟩ := gty.rF H enc W _ _ n _ _ hn hk
  refine ⟨f, h1, Rep1.v ⟨h2, ?_⟩⟩
  unfold Value.okWide at hv
  rw [Tryd.underlying25] at hv
  obtain ⟨cs, rfl, _⟩ := hv
  rfl

/-- The empty file, for the witness. -/
abbrev noFile : Value := .agg #[.string ⟨#[]⟩, .slice none 0 0, .slice none 0 0]

theorem read25 : Tryd.prog.readableRec 25 = true := by kernel_rfl
theorem row25 : 25 < Tryd.prog.types.size := of_decide_eq_true (by kernel_rfl)

theorem weights1 {P : Program} {H : Type} {t : TypeId} {d : DataW H} (h : (DataW.weightsEach P ([t] ++ []) ([d] ++ [])).all (· ≤ reachBytes) = true) : ∀ k ∈ d.weights P t, k ≤ reachBytes := by
  intro k hk
  have := List.all_eq_true.1 h k (by simp [DataW.weightsEach]; exact hk)
  simpa using this
theorem weights2 {P : Program} {H : Type} {t t' : TypeId} {d d' : DataW H} (h : (DataW.weightsEach P ([t, t'] ++ []) ([d, d'] ++ [])).all (· ≤ reachBytes) = true) : (∀ k ∈ d.weights P t, k ≤ reachBytes) ∧ ∀ k ∈ d'.weights P t', k ≤ reachBytes := by
  refine ⟨fun k hk => ?_, fun k hk => ?_⟩
  · have := List.all_eq_true.1 h k (by simp [DataW.weightsEach]; exact .inl hk)
    simpa using this
  · have := List.all_eq_true.1 h k (by simp [DataW.weightsEach]; exact .inr hk)
    simpa using this
end Go.Proofs.YtondhmpdmbjmdaaDoor
