/- Part of the proof: B3. No condition. -/
import Derived.Test.YtpdbcfnmhicnbaaDoorBa
import Derived.Test.YtpdbcfnmhicnbaaDoorFnD
import Derived.Test.YtpdbcfnmhicnbaaDoorFnE
import Derived.Test.YtpdbcfnmhicnbaaDoorAvG
set_option linter.unusedVariables false
set_option linter.unusedSimpArgs false
namespace Go.Av
open Go Go.Proofs

theorem lies48 (T : Nat) (h : T = 48) : liesAt Tryd.prog Tryd.prog.depth T (2 / Tryd.prog.cellsOf T) 0 48 1 = true := by subst h; kernel_rfl

theorem buf_owns {c : Cx} {b : Nat} {s : List UInt8} {v : Value} (h : BufAt c b s 5 v) : c.w.ownsRow c.base 5 1 v s.length (byteVals s) ∧ v.ownBlock ≠ some b := by
  rcases h with ⟨rfl, rfl⟩ | ⟨g, cap, cur, rfl, ⟨f2, f3, _, _⟩, f6, ⟨f7, f8, f9⟩, f10⟩
  · exact ⟨⟨rfl, .inl ⟨rfl, rfl⟩⟩, by simp [Value.ownBlock]⟩
  · exact ⟨⟨by simp [byteVals], .inr ⟨g, cap, cur, rfl, f2, f6, f7, f8, by omega, by simpa using f10⟩⟩, by simp [Value.ownBlock, f3]⟩

theorem bld_row {c : Cx} {b : Nat} {s : List UInt8} {T : Nat} {p v : Value} (h1 : c.w.heap[b]? = some (.cells #[p, v] T (0, 0))) (h : BufAt c b s 5 v) : rowOf c.w b = v.ownBlock := by
  simp only [rowOf, h1]
  rcases h with ⟨rfl, _⟩ | ⟨g, cap, cur, rfl, _⟩ <;> rfl

theorem wrote_step {c : Cx} (hh : RH c) {b : Nat} {s s' : List UInt8} {T : Nat} {v : Value} {w' : World} (hb : c.H b = some (.bld s T 5)) (hv : rowOf c.w b = v.ownBlock) (h : Wrote c.base b T v s'.length (byteVals s') c.w w') :
    c.Le { c with w := w', H := c.H.set b (.bld s' T 5) } ∧ RH { c with w := w', H := c.H.set b (.bld s' T 5) } := by
  obtain ⟨v', e1, e2, e3⟩ := h.here
  exact bld_step hh hb h.size h.os h.tape h.output (fun k hk hkb hr => h.oth k hk hkb (by rw [← hv]; exact hr)) (fun x hx => AHeap.set_ne _ _ hx) (.inr ⟨s', v', AHeap.set_same _ _ _, e1, e2, fun g hg => ⟨(e3 g hg).1, by rw [hv]; exact (e3 g hg).2⟩⟩)

theorem bld_WriteString {b : Nat} {path : List Nat} {s t : List UInt8} {H : AHeap} (hb : H b = some (.bld s 48 5)) (hl : s.length + t.length ≤ 140737488355328) :
    ACalls PP sB_WriteString_id [.ptr b 0 path, .str t] H fun r H' => r = .ret (.tuple [.int .i64 (t.length : Int), .nili]) ∧ H' = H.set b (.bld (s ++ t) 48 5) := by
  refine ⟨by kernel_rfl, fun c us hH hh hlen hrep => ?_⟩
  subst hH
  obtain ⟨u0, u1, rfl⟩ : ∃ u0 u1, us = [u0, u1] := by
    match us, hlen with
    | [u0, u1], _ => exact ⟨u0, u1, rfl⟩
  have r0 := (hrep 0 _ u0 rfl rfl).ptr
  obtain ⟨r1, hm⟩ := (hrep 1 _ u1 rfl rfl).str
  subst r0 r1
  obtain ⟨p, v, e1, e2, e3⟩ := hh.x.bld b s 48 5 hb
  obtain ⟨hown, hne⟩ := buf_owns e3
  have hbl : (byteVals s).length = s.length := by simp [byteVals]
  have hown' : c.w.ownsRow c.base 5 1 v (byteVals s).length (byteVals s) := hbl.symm ▸ hown
  have hl' : (byteVals s).length + (⟨t.toArray⟩ : ByteArray).size ≤ 140737488355328 := hbl.symm ▸ hl
  have key := bw_string c.base b 48 p v (byteVals s) ⟨t.toArray⟩ c.w e1 e2 (lies48 48 rfl) hown' hne hl' hh.base
  refine key.mono fun e w' ⟨he, hw⟩ => ?_
  have hv := bld_row e1 e3
  have hbv : byteVals s ++ Lib.strCells ⟨t.toArray⟩ = byteVals (s ++ t) := by simp [byteVals, Lib.strCells]
  have hsz : (byteVals s).length + (⟨t.toArray⟩ : ByteArray).size = (s ++ t).length := by rw [List.length_append, hbl]; rfl
  rw [hbv, hsz] at hw
  obtain ⟨hle, hrh⟩ := wrote_step hh hb hv hw
  refine ⟨_, rfl, hle, hrh, ?_⟩
  subst he
  refine ⟨_, ⟨rfl, rfl⟩, .inr (.inr ⟨_, [.int .i64 t.length, .nilIface], rfl, rfl, rfl, fun j x y hx hy => ?_⟩)⟩
  match j with
  | 0 => simp at hx hy; subst hx hy; exact ⟨.int _ _, rfl⟩
  | 1 => simp at hx hy; subst hx hy; exact ⟨.nili, rfl⟩
  | j + 2 => simp at hx

theorem bld_String {b : Nat} {path : List Nat} {s : List UInt8} {H : AHeap} (hb : H b = some (.bld s 48 5)) (h0 : s ≠ []) (hl : s.length ≤ 140737488355328) :
    ACalls PP sB_String_id [.ptr b 0 path] H fun r H' => r = .ret (.str s) ∧ H' = H.del b := by
  refine ⟨by kernel_rfl, fun c us hH hh hlen hrep => ?_⟩
  subst hH
  obtain ⟨u0, rfl⟩ : ∃ u0, us = [u0] := by
    match us, hlen with
    | [u0], _ => exact ⟨u0, rfl⟩
  have r0 := (hrep 0 _ u0 rfl rfl).ptr
  subst r0
  obtain ⟨p, v, e1, e2, e3⟩ := hh.x.bld b s 48 5 hb
  obtain ⟨hown, hne⟩ := buf_owns e3
  have key := bs_string c.base b 48 p v s c.w e1 hown hne h0
  refine key.mono fun e w' ⟨he, g, hg, hw⟩ => ?_
  have hv := bld_row e1 e3
  have hl0 : ¬ s.length = 0 := by simpa using h0
  have hwf : w' = { c.w.drew with heap := c.w.heap.modify g fun o => match o with
      | .cells cs elem (lo, hi) => .cells cs elem (if lo == hi then (0, 0 + s.length) else (min lo 0, max hi (0 + s.length)))
      | o => o } := by
    rw [hw]
    unfold World.freeze
    rw [if_neg hl0]
    rfl
  have hoth : ∀ k, k ≠ g → w'.heap[k]? = c.w.heap[k]? := by
    intro k hk
    rw [hwf]
    simp only [Array.getElem?_modify]
    rw [if_neg (fun e => hk e.symm)]
  obtain ⟨hle, hrh⟩ := bld_step (Hn := c.H.del b) (w' := w') hh hb (by rw [hwf]; simp only [Array.size_modify]; exact Nat.le_refl _) (by rw [hwf]; rfl) (by rw [hwf]; rfl) (by rw [hwf]; rfl)
    (fun k hk hkb hr => hoth k fun e => hr (by rw [hv, hg, e])) (fun x hx => by simp [AHeap.del, hx]) (.inl (by simp [AHeap.del]))
  refine ⟨_, rfl, hle, hrh, ?_⟩
  subst he
  exact ⟨_, ⟨rfl, rfl⟩, Rep1.v ⟨.str s (by unfold maxLen; omega), rfl⟩⟩
end Go.Av
