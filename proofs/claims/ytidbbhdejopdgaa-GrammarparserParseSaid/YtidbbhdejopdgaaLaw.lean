/- Part of the proof: Law. No condition. -/
import Derived.Test.YtidbbhdejopdgaaAvD
import Derived.Below
import Derived.WalkKit
import Derived.ProofKit
import Derived.OpenShut
import Derived.ShutString
import Derived.ChangeOld
set_option linter.unusedVariables false
set_option linter.unusedSimpArgs false
namespace Go.Av
open Go.RowKit

/-- The context at a call from without: nothing is known of the heap but what the arguments read. -/
def Cx.start (W : World) : Cx := { base := W.heap.size, lim := fun _ => 0, w := W, H := fun _ => none }

theorem RH.start (W : World) : RH (Cx.start W) where
  base := Nat.le_refl _
  new := fun _ _ => rfl
  at_ := fun b o h => by simp [Cx.start] at h
  box := fun b v h => by simp [Cx.start] at h
  row := fun b n s e h => by simp [Cx.start] at h

/-- A contract 'it answers true', at a call from without. -/
theorem ACalls.law {P : Program} {f : FuncId} {args : List AV} {us : List Value} {W : World} (hl : us.length = args.length)
    (hc : ACalls P f args (fun _ => none) (fun r H' => r = .ret (.bool true) ∧ H' = fun _ => none)) (hrep : ∀ (j : Nat) (v : AV) (u : Value), args[j]? = some v → us[j]? = some u → RepV (Cx.start W) v u) :
    Calls P f us.toArray W fun e w' => e = .returned (.bool true) ∧ Below W.heap.size W w' := by
  refine (hc.2 (Cx.start W) us rfl (RH.start W) hl hrep).mono fun e w' ⟨d, e1, hle, _, h⟩ => ?_
  subst e1
  refine ⟨?_, hle.os, hle.tape, hle.output, hle.size, hle.old⟩
  cases e with
  | returned u =>
    obtain ⟨v, ⟨hv, _⟩, hr⟩ := h
    injection hv with hv
    subst hv
    rw [hr.bool]
  | panicked ch =>
    obtain ⟨pv, _, hv, _⟩ := h
    cases hv
  | outgrown => exact h.elim

theorem rep_str (W : World) (s : ByteArray) (hs : s.size ≤ maxLen) : RepV (Cx.start W) (.str s.data.toList) (.string s) := by
  have h := RepC.str (c := Cx.start W) s.data.toList (by simpa using hs)
  have e : (Value.string s).cells.toList = [.string ⟨s.data.toList.toArray⟩] := by simp [Value.cells]
  exact Rep1.v ⟨by rw [e]; exact h, rfl⟩
end Go.Av
