/- What the rows of this seat have in common: the listed tables, a world that meets the condition, arguments that are grammars. -/
import Derived.Test.YtpdbcfnmhicnbaaDoorAvG
import Derived.Test.YtpdbcfnmhicnbaaDoorBridgeG
import Derived.Test.YtpdbcfnmhicnbaaDoorTi
import Derived.Test.YtpdbcfnmhicnbaaDoorCards
import Derived.Test.YtpdbcfnmhicnbaaDoorTie
import Derived.ProofKit
import Derived.LaidMore
import Derived.OpenShut
import Derived.Stop.Joined
import Derived.ChangeSame
import Derived.ChangeVars
import Derived.JoinedOf
import Derived.RowKit
import Derived.RowKitTokens
import Derived.LaidLaws
import Derived.LaidHandle
import Derived.Carry
import Derived.Lib.LaidTab
import Derived.Stop.LaidErr
import Derived.Shelf.Vars
set_option linter.unusedVariables false
set_option linter.unusedSimpArgs false
set_option maxRecDepth 100000
namespace Go.Proofs.YtpdbcfnmhicnbaaDoor
open Go.ChangeShapes Go.WideShapes Go.ChangeAt Go.RowKit Go.Av

theorem own : ownKnob Tryd.prog.godebug = none := by kernel_rfl
theorem laidOut : laidOutB Tryd.prog = true := by kernel_rfl

/-- The three listed tables. -/
abbrev laid3 : List (String × DataW Unit) := [("math/bits.deBruijn32tab", Rows.laid_math_bits_deBruijn32tab), ("math/bits.deBruijn64tab", Rows.laid_math_bits_deBruijn64tab), ("internal/strconv.uint64pow10", Rows.laid_internal_strconv_uint64pow10)]

def litOf : DataW Unit → Value
  | .lit (.int k n) => .int k n
  | _ => .nilIface
def cellsOfTab : DataW Unit → Array Value
  | .agg l => (l.map litOf).toArray
  | _ => #[]
def put (cs : Array Value) : Obj → Obj
  | .cells _ t fr => .cells cs t fr
  | o => o
/-- A world that meets the condition: the settled one, the three tables laid. -/
noncomputable def laidWorld (os : Os) : World :=
  let w0 := World.holding Tryd.prog os ⟨#[], #[], []⟩
  { w0 with heap := ((w0.heap.modify 1 (put (cellsOfTab Rows.laid_internal_strconv_uint64pow10))).modify 2 (put (cellsOfTab Rows.laid_math_bits_deBruijn32tab))).modify 3 (put (cellsOfTab Rows.laid_math_bits_deBruijn64tab)) }
theorem laidWorld_met (os : Os) (args : Array Value) : laidMetH Tryd.prog laid3 ((laidWorld os).forCall (fun _ _ => 0) ⟨#[], args, []⟩).memory := by
  rw [MakeChecks.laidMetH_plain _ _ _ (by kernel_rfl)]
  exact laidMet_of_run' 8 (by kernel_rfl) (by kernel_rfl)

theorem powData : (Rows.laid_internal_strconv_uint64pow10 : DataW Unit) = Lib.tabData .u64 Lib.pow10Tab := by rfl

/-- The table of the powers of ten is at hand. -/
theorem pow_tab {W : World} (h : laidMetH Tryd.prog laid3 W) : ∃ e z, W.heap[1]? = some (.cells powTab.toArray e z) := by
  rw [MakeChecks.laidMetH_plain _ _ _ (by kernel_rfl)] at h
  have h2 := h.tail.tail
  rw [powData] at h2
  have h3 : Lib.TabIs Tryd.prog W "internal/strconv.uint64pow10" .u64 Lib.pow10Tab :=
    Lib.tabIs_of_head powGlob (by kernel_rfl) Tryd.underlying83 Tryd.underlying76 (by kernel_rfl) (by kernel_rfl) h2
  unfold Lib.TabIs World.var? at h3
  rw [powGlob] at h3
  simp only [Option.bind_some] at h3
  split at h3
  · rename_i cs e z hc
    injection h3 with h3
    subst h3
    exact ⟨e, z, hc⟩
  · cases h3

/-- The library's package variable holds some number. -/
theorem max_cell {W : World} (h : W.ShapedOpen Tryd.prog) : ∃ (m : Int) (e : TypeId) (z : Nat × Nat), W.heap[0]? = some (.cells #[.int .i64 m] e z) := by
  obtain ⟨zero, hz⟩ : ∃ zero : Array Value, ((begin Tryd.prog (fun _ _ => 0) default).world.heap[0]?).bind Obj.row? = some (zero, 3) ∧ zero.size = 1 := ⟨#[.int .i64 0], by kernel_rfl, rfl⟩
  obtain ⟨m, hm⟩ := cell_of_shapedOpen_int h (g := 0) (t := 3) (k := .i64) (of_decide_eq_true (by kernel_rfl)) hz.1 hz.2 (by kernel_rfl) (by kernel_rfl) Tryd.underlying3
  obtain ⟨cs, hh, hs, _⟩ := h.1 0 zero 3 (of_decide_eq_true (by kernel_rfl)) hz.1
  rw [hz.2] at hs
  have h0 : cs[0]? = some (.int .i64 m) := by simpa [World.cell?, hh] using hm
  have : cs = #[.int .i64 m] := by
    apply Array.ext
    · simp [hs]
    · intro i h1 h2
      have : i = 0 := by omega
      subst this
      rw [Array.getElem?_eq_getElem h1] at h0
      injection h0
  exact ⟨m, 3, _, by rw [hh, this]⟩

/-- The heap at a call from without: the tables are known. -/
def HT (m : Int) : AHeap := fun b => if b = 0 then some (.tab [.int .i64 m]) else if b = 1 then some (.tab powTab) else none
def startT (W : World) (m : Int) : Cx := { base := W.heap.size, lim := fun _ => 0, w := W, H := HT m }
theorem HT_GM (m : Int) : GM (HT m) := ⟨m, rfl⟩
theorem HT_GT (m : Int) : GT (HT m) := rfl
theorem HT_key {m : Int} {b : Nat} {o : AObj} (h : HT m b = some o) : (b = 0 ∧ o = .tab [.int .i64 m]) ∨ (b = 1 ∧ o = .tab powTab) := by
  unfold HT at h
  split at h
  · rename_i hb
    injection h with h
    exact .inl ⟨hb, h.symm⟩
  · split at h
    · rename_i hb
      injection h with h
      exact .inr ⟨hb, h.symm⟩
    · cases h
theorem HT_row {m : Int} {b n s : Nat} {e : TypeId} : HT m b ≠ some (.row n s e) := by
  intro h
  rcases HT_key h with ⟨_, h⟩ | ⟨_, h⟩ <;> cases h
theorem start_le (W : World) (m : Int) : (Cx.start W).Le (startT W m) :=
  ⟨rfl, Nat.le_refl _, fun _ _ h => h, fun _ _ => rfl, rfl, rfl, rfl, rfl, fun b n s e _ h => absurd h HT_row⟩

theorem lt_of_some {W : World} {b : Nat} {o : Obj} (h : W.heap[b]? = some o) : b < W.heap.size := by
  rcases Nat.lt_or_ge b W.heap.size with h' | h'
  · exact h'
  · rw [Array.getElem?_eq_none h'] at h; cases h

theorem RH.startT {W : World} {m : Int} (h : ∃ e z, W.heap[1]? = some (.cells powTab.toArray e z)) (h0 : ∃ e z, W.heap[0]? = some (.cells #[.int .i64 m] e z)) : RH (startT W m) := by
  obtain ⟨e, z, h⟩ := h
  obtain ⟨e0, z0, h0⟩ := h0
  have hlt := lt_of_some h
  have hlt0 := lt_of_some h0
  have key : ∀ b o, HT m b = some o → _ := fun b o ho => HT_key ho
  refine ⟨Nat.le_refl _, fun _ _ => rfl, fun b o ho => ?_, fun b o ho hold => ?_, ?_, fun b v ho => ?_, fun b n s e' ho => ?_⟩
  · rcases key b o ho with ⟨rfl, rfl⟩ | ⟨rfl, rfl⟩
    · exact hlt0
    · exact hlt
  · rcases key b o ho with ⟨rfl, rfl⟩ | ⟨rfl, rfl⟩ <;> cases hold
  · constructor
    case tab =>
      intro b cs ho
      rcases key b _ ho with ⟨rfl, h1⟩ | ⟨rfl, h1⟩
      · injection h1 with h1
        subst h1
        exact ⟨hlt0, e0, z0, h0⟩
      · injection h1 with h1
        subst h1
        exact ⟨hlt, e, z, h⟩
    case lt =>
      intro b o ho hx
      rcases key b o ho with ⟨rfl, rfl⟩ | ⟨rfl, rfl⟩
      · exact ⟨hlt0, fun h => by cases h⟩
      · exact ⟨hlt, fun h => by cases h⟩
    case bld =>
      intro b s T e ho
      rcases key b _ ho with ⟨_, h⟩ | ⟨_, h⟩ <;> cases h
    case sep =>
      intro b b' s T e' s' T' e'' ho
      rcases key b _ ho with ⟨_, h⟩ | ⟨_, h⟩ <;> cases h
    case mp =>
      intro b l ho
      rcases key b _ ho with ⟨_, h⟩ | ⟨_, h⟩ <;> cases h
  · rcases key b _ ho with ⟨_, h⟩ | ⟨_, h⟩ <;> cases h
  · rcases key b _ ho with ⟨_, h⟩ | ⟨_, h⟩ <;> cases h

/-- A contract 'it answers true', at a call from without. -/
theorem lawT {f : FuncId} {args : List AV} {us : List Value} {W : World} (hl : us.length = args.length) (hW : laidMetH Tryd.prog laid3 W) (hsh : W.ShapedOpen Tryd.prog)
    (hc : ∀ H : AHeap, GM H → GT H → Go.Av.Pure f args H (.bool true)) (hrep : ∀ (j : Nat) (v : AV) (u : Value), args[j]? = some v → us[j]? = some u → RepV (Cx.start W) v u) :
    Calls Tryd.prog f us.toArray W fun e w' => e = .returned (.bool true) ∧ Below W.heap.size W w' := by
  obtain ⟨m, e0, z0, h0⟩ := max_cell hsh
  refine ((hc (HT m) (HT_GM m) (HT_GT m)).2 (startT W m) us rfl (RH.startT (pow_tab hW) ⟨e0, z0, h0⟩) hl fun j v u hv hu => (hrep j v u hv hu).mono (start_le W m)).mono fun e w' ⟨d, e1, hle, _, h⟩ => ?_
  subst e1
  refine ⟨?_, hle.os, hle.tape, hle.output, hle.size, hle.old⟩
  cases e with
  | returned u =>
    obtain ⟨v, ⟨hv, _⟩, hr⟩ := h
    injection hv with hv
    subst hv
    rw [hr.bool]
  | panicked ch =>
    obtain ⟨pv, _, hv, _⟩ := h
    cases hv
  | outgrown => exact h.elim

/-- The plain wrap, with one condition more on the world and with the world's shape. -/
theorem wrap_and_shaped {H : Type} {enc : TypeId × Value → H} {a : Assume} {C : Checked} {os : Os} {f : FuncId} {fn : Func} {s : ChangeSpec} {conds : List PathCond} {apart fresh handsOn again : Bool} {X : World → Array Value → Prop}
    (hX : ∀ (w w' : World) (args : Array Value), w.heap = w'.heap → X w args → X w' args)
    (own : ownKnob C.prog.godebug = none) (started : os.Started) (noInit : C.prog.inits.idxOf? f = none) (hfn : C.prog.funcs[f]? = some fn)
    (witness : ∃ (w : World) (tape : Tape) (i : Input), w.os = os ∧ (w.forCall tape i).Shaped C.prog ∧ i.vars = [] ∧ Input.okWide C.prog (w.forCall tape i) .any w.heap.size f i ∧
      ((s.pre enc C.prog fn conds apart (w.forCall tape i).memory i.args ∧ X (w.forCall tape i).memory i.args) ∧ sizedMet enc C.prog fn (OpenSpec.ofChange s) apart (w.forCall tape i).memory i.args) ∧ a.holds C.prog (lone (Frame.enter C.prog f i.args .normal) [] (w.forCall tape i)))
    (contract : ∀ (W : World) (base : Nat) (args : Array Value) (ds gs : List (DataW H)) (before : List MemPlace),
      (∀ (j : Nat) t v, fn.params[j]? = some t → args[j]? = some v → Value.okWide C.prog W .any base t v) →
      DataW.Whole enc C.prog fn.params.toList s.vars apart W args.toList ds gs before →
      (DataW.weightsEach C.prog (fn.params.toList ++ s.plain.varTypes C.prog) (ds ++ gs)).all (· ≤ reachBytes) = true → X W args → W.ShapedOpen C.prog →
      Calls C.prog f args W fun e W' => ∃ v, e = .returned v ∧ s.post enc C.prog fn apart fresh handsOn again W args v W') :
    ReturnsInHanded a C os f .any (fun w args => (s.pre enc C.prog fn conds apart w args ∧ X w args) ∧ sizedMet enc C.prog fn (OpenSpec.ofChange s) apart w args) (s.post enc C.prog fn apart fresh handsOn again) := by
  refine returnsInHanded_of_calls own started noInit witness ?_
  intro w tape i _ hsh _ hok hpre hholds
  obtain ⟨_, _, _, fn', hfn', _, _, _, _, hval⟩ := hok
  have e : fn' = fn := Option.some.inj (hfn'.symm.trans hfn)
  subst e
  obtain ⟨⟨⟨ds, gs, before, hw, hc⟩, hx⟩, hz⟩ := hpre
  have hw' := DataW.Whole.of_heap (w' := w.forCall tape i) (by rfl) hw
  refine (contract (w.forCall tape i) w.heap.size i.args ds gs before hval hw' (hz.weights hw) (hX _ _ _ (by rfl) hx) hsh).mono fun e W' ⟨v, he, hp⟩ => ?_
  subst he
  exact ChangeSpec.post_blind hp

theorem flds {t : TypeId} {l : List (TypeId × Nat)} {fs : Array Field} (h : Tryd.prog.underlying t = some (.struct fs)) (hl : fs.toList.map (fun f => (f.type, f.offset)) = l) : FldsAre Tryd.prog t l := ⟨fs, h, hl⟩

theorem mty : MTy Tryd.prog 25 22 23 36 33 9 3 where
  uI := Tryd.underlying3
  uS := Tryd.underlying9
  uTS := Tryd.underlying22
  uIS := Tryd.underlying33
  uR := flds Tryd.underlying36 rfl
  uRS := Tryd.underlying23
  uG := flds Tryd.underlying25 rfl
  cI := by kernel_rfl
  cS := by kernel_rfl
  cTS := by kernel_rfl
  cIS := by kernel_rfl
  cR := by kernel_rfl
  cRS := by kernel_rfl
  cG := by kernel_rfl
  bI := of_decide_eq_true (by kernel_rfl)
  bS := of_decide_eq_true (by kernel_rfl)
  bR := of_decide_eq_true (by kernel_rfl)

/-- An argument that is a grammar. -/
theorem gm_arg {H : Type} {enc : TypeId × Value → H} {W : World} {base : Nat} {v : Value} {d : DataW H} {ps : List MemPlace} (h : DataW.Trod enc Tryd.prog W 0 (fun _ => true) true 25 v d ps)
    (hv : Value.okWide Tryd.prog W .any base 25 v) (hk : ∀ k ∈ d.weights Tryd.prog 25, k ≤ reachBytes) : ∃ f : Gm, RepV (Cx.start W) f.av v := by
  obtain ⟨n, hn⟩ := h
  obtain ⟨f, h1, h2, _⟩ := mty.rG H enc W _ _ n _ _ hn hk
  refine ⟨f, Rep1.v ⟨h2, ?_⟩⟩
  unfold Value.okWide at hv
  rw [Tryd.underlying25] at hv
  obtain ⟨cs, rfl, _⟩ := hv
  rfl

/-- The empty grammar, for the witness. -/
abbrev noGram : Value := .agg #[.slice none 0 0, .slice none 0 0, .int .i64 0, .slice none 0 0]

theorem read25 : Tryd.prog.readableRec 25 = true := by kernel_rfl
theorem row25 : 25 < Tryd.prog.types.size := of_decide_eq_true (by kernel_rfl)

theorem weights1 {P : Program} {H : Type} {t : TypeId} {d : DataW H} (h : (DataW.weightsEach P ([t] ++ []) ([d] ++ [])).all (· ≤ reachBytes) = true) : ∀ k ∈ d.weights P t, k ≤ reachBytes := by
  intro k hk
  have := List.all_eq_true.1 h k (by simp [DataW.weightsEach]; exact hk)
  simpa using this
theorem weights2 {P : Program} {H : Type} {t t' : TypeId} {d d' : DataW H} (h : (DataW.weightsEach P ([t, t'] ++ []) ([d, d'] ++ [])).all (· ≤ reachBytes) = true) : (∀ k ∈ d.weights P t, k ≤ reachBytes) ∧ ∀ k ∈ d'.weights P t', k ≤ reachBytes := by
  refine ⟨fun k hk => ?_, fun k hk => ?_⟩
  · have := List.all_eq_true.1 h k (by simp [DataW.weightsEach]; exact .inl hk)
    simpa using this
  · have := List.all_eq_true.1 h k (by simp [DataW.weightsEach]; exact .inr hk)
    simpa using this
end Go.Proofs.YtpdbcfnmhicnbaaDoor
