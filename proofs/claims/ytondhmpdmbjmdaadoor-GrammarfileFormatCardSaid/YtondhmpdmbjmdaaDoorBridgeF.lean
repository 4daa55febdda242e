/- Part of the proof: BridgeF. No condition. -/
import Derived.Test.YtondhmpdmbjmdaaDoorCf
import Derived.Test.YtondhmpdmbjmdaaDoorAvG
set_option linter.unusedVariables false
set_option linter.unusedSimpArgs false
namespace Go.Av

/-- Where the types of a grammar file lie. -/
structure GTy (P : Program) (F LS RS L R AS A ES E TS S I : TypeId) : Prop where
  uI : P.underlying I = some (.int .i64)
  uS : P.underlying S = some .string
  uE : FldsAre P E [(I, 0), (S, 1), (ES, 2)]
  uES : P.underlying ES = some (.slice E)
  uA : FldsAre P A [(E, 0), (I, 3)]
  uAS : P.underlying AS = some (.slice A)
  uR : FldsAre P R [(S, 0), (AS, 1)]
  uRS : P.underlying RS = some (.slice R)
  uTS : P.underlying TS = some (.slice S)
  uL : FldsAre P L [(I, 0), (TS, 1)]
  uLS : P.underlying LS = some (.slice L)
  uF : FldsAre P F [(S, 0), (LS, 1), (RS, 2)]
  cI : P.cellsOf I = 1
  cS : P.cellsOf S = 1
  cE : P.cellsOf E = 3
  cES : P.cellsOf ES = 1
  cA : P.cellsOf A = 4
  cAS : P.cellsOf AS = 1
  cR : P.cellsOf R = 2
  cRS : P.cellsOf RS = 1
  cTS : P.cellsOf TS = 1
  cL : P.cellsOf L = 2
  cLS : P.cellsOf LS = 1
  cF : P.cellsOf F = 3
  bE : 0 < P.bytesOf E
  bA : 0 < P.bytesOf A
  bR : 0 < P.bytesOf R
  bS : 0 < P.bytesOf S
  bL : 0 < P.bytesOf L

variable {P : Program} {F LS RS L R AS A ES E TS S I : TypeId}

theorem GTy.rE (g : GTy P F LS RS L R AS A ES E TS S I) : ∀ N, ReadsN P N E 3 GE.av fun _ => True := by
  intro N
  induction N with
  | zero => exact ReadsN.zero P E 3 GE.av _
  | succ N ih =>
    have h1 := reads_slice g.uES g.cE g.bE ih
    have h2 := reads_struct3 g.uE (a := 1) (b := 1) (c := 1) g.cE g.cI g.cS g.cES rfl rfl rfl (Reads.n (reads_int P I .i64 g.uI) N) (Reads.n (reads_str P S g.uS) N) (ReadsN.weak h1 (Nat.le_succ N))
    exact ReadsN.map h2 (fun p => GE.mk p.1 p.2.1 p.2.2) _ _ fun x _ => ⟨trivial, GE.av_mk ..⟩

theorem GTy.rA (g : GTy P F LS RS L R AS A ES E TS S I) (N : Nat) : ReadsN P N A 4 GA.av fun _ => True := by
  have h := reads_struct2 g.uA (a := 3) (b := 1) g.cA g.cE g.cI rfl rfl (g.rE N) (Reads.n (reads_int P I .i64 g.uI) N)
  exact ReadsN.weak (ReadsN.map h (fun p => GA.mk p.1 p.2) _ _ fun x _ => ⟨trivial, rfl⟩) (Nat.le_succ N)

theorem GTy.rR (g : GTy P F LS RS L R AS A ES E TS S I) (N : Nat) : ReadsN P N R 2 GR.av fun _ => True := by
  have h := reads_struct2 g.uR (a := 1) (b := 1) g.cR g.cS g.cAS rfl rfl (Reads.n (reads_str P S g.uS) (N + 1)) (reads_slice g.uAS g.cA g.bA (g.rA N))
  exact ReadsN.weak (ReadsN.map h (fun p => GR.mk p.1 p.2) _ _ fun x _ => ⟨trivial, rfl⟩) (by omega)

theorem GTy.rL (g : GTy P F LS RS L R AS A ES E TS S I) (N : Nat) : ReadsN P N L 2 GL.av fun l => l.tokens.length ≤ reachBytes := by
  have h := reads_struct2 g.uL (a := 1) (b := 1) g.cL g.cI g.cTS rfl rfl (Reads.n (reads_int P I .i64 g.uI) (N + 1)) (reads_slice g.uTS g.cS g.bS (Reads.n (reads_str P S g.uS) N))
  exact ReadsN.weak (ReadsN.map h (fun p => GL.mk p.1 p.2) _ _ fun x hx => ⟨hx.2.2, rfl⟩) (by omega)

theorem GTy.rF (g : GTy P F LS RS L R AS A ES E TS S I) : Reads P F 3 GF.av fun f => ∀ l ∈ f.levels, l.tokens.length ≤ reachBytes := ReadsN.all fun N => by
  have h := reads_struct3 g.uF (a := 1) (b := 1) (c := 1) g.cF g.cS g.cLS g.cRS rfl rfl rfl (Reads.n (reads_str P S g.uS) (N + 1)) (reads_slice g.uLS g.cL g.bL (g.rL N)) (reads_slice g.uRS g.cR g.bR (g.rR N))
  exact ReadsN.weak (ReadsN.map h (fun p => GF.mk p.1 p.2.1 p.2.2) _ _ fun x hx => ⟨hx.2.1.1, rfl⟩) (by omega)

end Go.Av
