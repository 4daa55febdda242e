/- Part of the proof: Bb. No condition. -/
import Derived.Test.YtondhmpdmbjmdaaDoorBa
import Derived.Test.YtondhmpdmbjmdaaDoorFns66
import Derived.Test.YtondhmpdmbjmdaaDoorAvG
import Derived.Test.YtondhmpdmbjmdaaDoorShelf
import Derived.Lib.AppendIntMem
set_option linter.unusedVariables false
set_option linter.unusedSimpArgs false
namespace Go.Av
open Go Go.Proofs

theorem lies69 (T : Nat) (h : T = 69) : liesAt Tryd.prog Tryd.prog.depth T (2 / Tryd.prog.cellsOf T) 0 67 1 = true := by subst h; kernel_rfl

theorem buf_owns {c : Cx} {b : Nat} {s : List UInt8} {v : Value} (h : BufAt c b s 5 v) : c.w.ownsRow c.base 5 1 v s.length (byteVals s) ∧ v.ownBlock ≠ some b := by
  rcases h with ⟨rfl, rfl⟩ | ⟨g, cap, cur, rfl, ⟨f2, f3, _, _⟩, f6, ⟨f7, f8, f9⟩, f10⟩
  · exact ⟨⟨rfl, .inl ⟨rfl, rfl⟩⟩, by simp [Value.ownBlock]⟩
  · exact ⟨⟨by simp [byteVals], .inr ⟨g, cap, cur, rfl, f2, f6, f7, f8, by omega, by simpa using f10⟩⟩, by simp [Value.ownBlock, f3]⟩

theorem bld_row {c : Cx} {b : Nat} {s : List UInt8} {T : Nat} {p v : Value} (h1 : c.w.heap[b]? = some (.cells #[p, v] T (0, 0))) (h : BufAt c b s 5 v) : rowOf c.w b = v.ownBlock := by
  simp only [rowOf, h1]
  rcases h with ⟨rfl, _⟩ | ⟨g, cap, cur, rfl, _⟩ <;> rfl

theorem wrote_step {c : Cx} (hh : RH c) {b : Nat} {s s' : List UInt8} {T : Nat} {v : Value} {w' : World} (hb : c.H b = some (.bld s T 5)) (hv : rowOf c.w b = v.ownBlock) (h : Wrote c.base b T v s'.length (byteVals s') c.w w') :
    c.Le { c with w := w', H := c.H.set b (.bld s' T 5) } ∧ RH { c with w := w', H := c.H.set b (.bld s' T 5) } := by
  obtain ⟨v', e1, e2, e3⟩ := h.here
  exact bld_step hh hb h.size h.os h.tape h.output (fun k hk hkb hr => h.oth k hk hkb (by rw [← hv]; exact hr)) (fun x hx => AHeap.set_ne _ _ hx) (.inr ⟨s', v', AHeap.set_same _ _ _, e1, e2, fun g hg => ⟨(e3 g hg).1, by rw [hv]; exact (e3 g hg).2⟩⟩)

theorem bld_WriteString {b : Nat} {path : List Nat} {s t : List UInt8} {H : AHeap} (hb : H b = some (.bld s 69 5)) (hl : s.length + t.length ≤ 140737488355328) :
    ACalls PP sB_WriteString_id [.ptr b 0 path, .str t] H fun r H' => r = .ret (.tuple [.int .i64 (t.length : Int), .nili]) ∧ H' = H.set b (.bld (s ++ t) 69 5) := by
  refine ⟨by kernel_rfl, fun c us hH hh hlen hrep => ?_⟩
  subst hH
  obtain ⟨u0, u1, rfl⟩ : ∃ u0 u1, us = [u0, u1] := by
    match us, hlen with
    | [u0, u1], _ => exact ⟨u0, u1, rfl⟩
  have r0 := (hrep 0 _ u0 rfl rfl).ptr
  obtain ⟨r1, hm⟩ := (hrep 1 _ u1 rfl rfl).str
  subst r0 r1
  obtain ⟨p, v, e1, e2, e3⟩ := hh.x.bld b s 69 5 hb
  obtain ⟨hown, hne⟩ := buf_owns e3
  have hbl : (byteVals s).length = s.length := by simp [byteVals]
  have hown' : c.w.ownsRow c.base 5 1 v (byteVals s).length (byteVals s) := hbl.symm ▸ hown
  have hl' : (byteVals s).length + (⟨t.toArray⟩ : ByteArray).size ≤ 140737488355328 := hbl.symm ▸ hl
  have key := bw_string c.base b 69 p v (byteVals s) ⟨t.toArray⟩ c.w e1 e2 (lies69 69 rfl) hown' hne hl' hh.base
  refine key.mono fun e w' ⟨he, hw⟩ => ?_
  have hv := bld_row e1 e3
  have hbv : byteVals s ++ Lib.strCells ⟨t.toArray⟩ = byteVals (s ++ t) := by simp [byteVals, Lib.strCells]
  have hsz : (byteVals s).length + (⟨t.toArray⟩ : ByteArray).size = (s ++ t).length := by rw [List.length_append, hbl]; rfl
  rw [hbv, hsz] at hw
  obtain ⟨hle, hrh⟩ := wrote_step hh hb hv hw
  refine ⟨_, rfl, hle, hrh, ?_⟩
  subst he
  refine ⟨_, ⟨rfl, rfl⟩, .inr (.inr ⟨_, [.int .i64 t.length, .nilIface], rfl, rfl, rfl, fun j x y hx hy => ?_⟩)⟩
  match j with
  | 0 => simp at hx hy; subst hx hy; exact ⟨.int _ _, rfl⟩
  | 1 => simp at hx hy; subst hx hy; exact ⟨.nili, rfl⟩
  | j + 2 => simp at hx

theorem bld_WriteByte {b : Nat} {path : List Nat} {s : List UInt8} {ch : UInt8} {H : AHeap} (hb : H b = some (.bld s 69 5)) (hl : s.length + 1 ≤ 140737488355328) :
    ACalls PP sB_WriteByte_id [.ptr b 0 path, .int .u8 (ch.toNat : Int)] H fun r H' => r = .ret .nili ∧ H' = H.set b (.bld (s ++ [ch]) 69 5) := by
  refine ⟨by kernel_rfl, fun c us hH hh hlen hrep => ?_⟩
  subst hH
  obtain ⟨u0, u1, rfl⟩ : ∃ u0 u1, us = [u0, u1] := by
    match us, hlen with
    | [u0, u1], _ => exact ⟨u0, u1, rfl⟩
  have r0 := (hrep 0 _ u0 rfl rfl).ptr
  have r1 := (hrep 1 _ u1 rfl rfl).int
  subst r0 r1
  obtain ⟨p, v, e1, e2, e3⟩ := hh.x.bld b s 69 5 hb
  obtain ⟨hown, hne⟩ := buf_owns e3
  have hbl : (byteVals s).length = s.length := by simp [byteVals]
  have hown' : c.w.ownsRow c.base 5 1 v (byteVals s).length (byteVals s) := hbl.symm ▸ hown
  have hl' : (byteVals s).length + 1 ≤ 140737488355328 := hbl.symm ▸ hl
  have key := bw_byte c.base b 69 p v (byteVals s) ch.toNat c.w e1 e2 (lies69 69 rfl) hown' hne hl' hh.base
  refine key.mono fun e w' ⟨he, hw⟩ => ?_
  have hv := bld_row e1 e3
  have hbv : byteVals s ++ [.int .u8 (ch.toNat : Int)] = byteVals (s ++ [ch]) := by simp [byteVals]
  have hsz : (byteVals s).length + 1 = (s ++ [ch]).length := by rw [List.length_append, hbl]; rfl
  rw [hbv, hsz] at hw
  obtain ⟨hle, hrh⟩ := wrote_step hh hb hv hw
  refine ⟨_, rfl, hle, hrh, ?_⟩
  subst he
  exact ⟨_, ⟨rfl, rfl⟩, Rep1.v ⟨.nili, rfl⟩⟩

theorem bld_String {b : Nat} {path : List Nat} {s : List UInt8} {H : AHeap} (hb : H b = some (.bld s 69 5)) (h0 : s ≠ []) (hl : s.length ≤ 140737488355328) :
    ACalls PP sB_String_id [.ptr b 0 path] H fun r H' => r = .ret (.str s) ∧ H' = H.del b := by
  refine ⟨by kernel_rfl, fun c us hH hh hlen hrep => ?_⟩
  subst hH
  obtain ⟨u0, rfl⟩ : ∃ u0, us = [u0] := by
    match us, hlen with
    | [u0], _ => exact ⟨u0, rfl⟩
  have r0 := (hrep 0 _ u0 rfl rfl).ptr
  subst r0
  obtain ⟨p, v, e1, e2, e3⟩ := hh.x.bld b s 69 5 hb
  obtain ⟨hown, hne⟩ := buf_owns e3
  have key := bs_string c.base b 69 p v s c.w e1 hown hne h0
  refine key.mono fun e w' ⟨he, g, hg, hw⟩ => ?_
  have hv := bld_row e1 e3
  have hl0 : ¬ s.length = 0 := by simpa using h0
  have hwf : w' = { c.w.drew with heap := c.w.heap.modify g fun o => match o with
      | .cells cs elem (lo, hi) => .cells cs elem (if lo == hi then (0, 0 + s.length) else (min lo 0, max hi (0 + s.length)))
      | o => o } := by
    rw [hw]
    unfold World.freeze
    rw [if_neg hl0]
    rfl
  have hoth : ∀ k, k ≠ g → w'.heap[k]? = c.w.heap[k]? := by
    intro k hk
    rw [hwf]
    simp only [Array.getElem?_modify]
    rw [if_neg (fun e => hk e.symm)]
  obtain ⟨hle, hrh⟩ := bld_step (Hn := c.H.del b) (w' := w') hh hb (by rw [hwf]; simp only [Array.size_modify]; exact Nat.le_refl _) (by rw [hwf]; rfl) (by rw [hwf]; rfl) (by rw [hwf]; rfl)
    (fun k hk hkb hr => hoth k fun e => hr (by rw [hv, hg, e])) (fun x hx => by simp [AHeap.del, hx]) (.inl (by simp [AHeap.del]))
  refine ⟨_, rfl, hle, hrh, ?_⟩
  subst he
  exact ⟨_, ⟨rfl, rfl⟩, Rep1.v ⟨.str s (by unfold maxLen; omega), rfl⟩⟩
end Go.Av

namespace Go.Av
open Go Go.Proofs Go.RowKit

/-- Below the heap's end the world is as it was. -/
theorem below_step {c : Cx} (hh : RH c) {w' : World} (h : Below c.w.heap.size c.w w') : c.Le { c with w := w' } ∧ RH { c with w := w' } := by
  have hk : ∀ k, k < c.w.heap.size → w'.heap[k]? = c.w.heap[k]? := fun k hk => h.block k hk
  have hle : c.Le { c with w := w' } := by
    refine ⟨rfl, h.size, fun a u hr => ⟨hr.1, ?_⟩, fun k hb => hk k (Nat.lt_of_lt_of_le hb hh.base), h.os, h.tape, h.output, rfl, fun k n z t hb hr => .inl ⟨hr, hk k hb⟩⟩
    rw [World.cell?_of_block (hk _ (World.block_lt_of_cell? c.w a hr.2))]
    exact hr.2
  refine ⟨hle, Nat.le_trans hh.base h.size, fun k hb => hh.new k (Nat.le_trans h.size hb), fun k o ho => Nat.lt_of_lt_of_le (hh.lt k o ho) h.size, hh.ge, hh.x.keep rfl h.size (fun x hx _ => ⟨hk x hx, rfl⟩) (fun _ _ _ h => h) (fun _ _ h => h), fun k v ho => ?_, fun k n z t ho => ?_⟩
  · obtain ⟨p, cs, t, q1, q2⟩ := hh.box k v ho
    exact ⟨p, cs, t, by rw [hk k (hh.lt k _ ho)]; exact q1, q2.mono hle⟩
  · obtain ⟨p, cs, q1, q2⟩ := hh.row k n z t ho
    exact ⟨p, cs, by rw [hk k (hh.lt k _ ho)]; exact q1, q2⟩

/-- A contract of the shelf's, of a function that turns nothing that was there, as one of ours. -/
theorem ACalls.shelf {P : Program} {f : FuncId} {args : List AV} {H : AHeap} {v : AV} (hb : hasBody P f = true)
    (h : ∀ (c : Cx) (us : List Value), c.H = H → RH c → us.length = args.length → (∀ (j : Nat) (v : AV) (u : Value), args[j]? = some v → us[j]? = some u → RepV c v u) →
      Calls P f us.toArray c.w fun e w' => ∃ u, e = .returned u ∧ (∀ d, RepV d v u) ∧ Below c.w.heap.size c.w w') :
    ACalls P f args H fun r H' => r = .ret v ∧ H' = H := by
  refine ⟨hb, fun c us hH hh hl hr => (h c us hH hh hl hr).mono fun e w' ⟨u, he, hu, hbel⟩ => ?_⟩
  obtain ⟨hle, hrh⟩ := below_step hh hbel
  subst he
  exact ⟨_, rfl, hle, hrh, v, ⟨rfl, hH⟩, hu _⟩


theorem decDigits_len (n : Nat) : (Lib.decDigits n).length ≤ n + 1 := by
  induction n using Nat.strongRecOn with
  | _ n ih =>
    rw [Lib.decDigits]
    split
    · simp
    · rename_i h
      have := ih (n / 10) (by omega)
      simp only [List.length_append, List.length_cons, List.length_nil]
      omega

theorem strconv_Itoa_small (n : Nat) (hn : n < 100) (H : AHeap) : ACalls PP strconv_Itoa_id [.int .i64 (n : Int)] H fun r H' => r = .ret (.str (Lib.decDigits n)) ∧ H' = H := by
  refine ACalls.shelf (by kernel_rfl) fun c us hH hh hl hr => ?_
  obtain ⟨u0, rfl⟩ : ∃ u0, us = [u0] := by
    match us, hl with
    | [u0], _ => exact ⟨u0, rfl⟩
  have r0 := (hr 0 _ u0 rfl rfl).int
  subst r0
  refine (Tryd.strconv_Itoa_small n hn c.w).mono fun e w' ⟨he, hw⟩ => ⟨_, he, fun d => ?_, hw ▸ Below.refl _ _⟩
  have := decDigits_len n
  exact Rep1.v ⟨.str _ (by unfold maxLen; omega), rfl⟩

/-- The table of the powers of ten. -/
def powTab : List Value := Lib.pow10Tab.map fun z => Value.int .u64 z
theorem powGlob : Tryd.prog.globalNamed "internal/strconv.uint64pow10" = some 1 := by kernel_rfl

theorem strconv_Itoa (n : Nat) (hn : n ≤ 1000000) (H : AHeap) (hT : H 1 = some (.tab powTab)) : ACalls PP strconv_Itoa_id [.int .i64 (n : Int)] H fun r H' => r = .ret (.str (Lib.decDigits n)) ∧ H' = H := by
  refine ACalls.shelf (by kernel_rfl) fun c us hH hh hl hr => ?_
  obtain ⟨u0, rfl⟩ : ∃ u0, us = [u0] := by
    match us, hl with
    | [u0], _ => exact ⟨u0, rfl⟩
  have r0 := (hr 0 _ u0 rfl rfl).int
  subst r0
  rw [← hH] at hT
  obtain ⟨_, e, z, q⟩ := hh.x.tab _ _ hT
  have htab : Lib.TabIs Tryd.prog c.w "internal/strconv.uint64pow10" .u64 Lib.pow10Tab := by
    unfold Lib.TabIs World.var?
    rw [powGlob]
    simp only [Option.bind_some, q]
    rfl
  refine (Tryd.strconv_Itoa n (by omega) (by omega) c.w htab).mono fun e w' ⟨he, k, os, hw⟩ => ⟨_, he, fun d => ?_, hw ▸ Lib.below_grow _ _ (Nat.le_refl _) k os⟩
  have h1 : Lib.itoa n = Lib.decDigits n := by
    unfold Lib.itoa
    rw [if_neg (by omega)]
    simp
  rw [h1]
  have := decDigits_len n
  exact Rep1.v ⟨.str _ (by unfold maxLen; omega), rfl⟩

theorem strings_Join (v : AV) (s0 : Nat) (l : List (List UInt8)) (hv : v.asList = some (s0, l.map AV.str)) (hs0 : l.map AV.str = [] ∨ s0 = 1) (hN : l.length ≤ 1000000) (sep : List UInt8) (hlen : (Lib.join l sep).length ≤ 140737488355328) (H : AHeap) :
    ACalls PP strings_Join_id [v, .str sep] H fun r H' => r = .ret (.str (Lib.join l sep)) ∧ H' = H := by
  refine ACalls.shelf (by kernel_rfl) fun c us hH hh hl hr => ?_
  obtain ⟨u0, u1, rfl⟩ : ∃ u0 u1, us = [u0, u1] := by
    match us, hl with
    | [u0, u1], _ => exact ⟨u0, u1, rfl⟩
  have r0 := hr 0 _ u0 rfl rfl
  obtain ⟨r1, hm⟩ := (hr 1 _ u1 rfl rfl).str
  subst r1
  obtain ⟨A, cap, hu, hla⟩ := r0.asList hv
  subst hu
  cases l with
  | nil =>
    refine (Tryd.strings_Join_none A cap ⟨sep.toArray⟩ c.w).mono fun e w' ⟨he, hw⟩ => ⟨_, he, fun d => ?_, hw ▸ Below.refl _ _⟩
    exact Rep1.v ⟨.str [] (by decide), rfl⟩
  | cons a l =>
    have hs1 : s0 = 1 := by simpa using hs0
    subst hs1
    obtain ⟨hc, hm', css, hr', hs', ha'⟩ := hla
    have cellAt : ∀ j s, (a :: l)[j]? = some s → ∃ ad, A = some ad ∧ c.w.cell? (ad.add j) = some (.string ⟨s.toArray⟩) := by
      intro j s hj
      have h1 := hr' j (.str s) (by rw [List.getElem?_map, hj]; rfl)
      have hjl : j < ((a :: l).map AV.str).length := by
        have := (List.getElem?_eq_some_iff.1 hj).1
        simpa using this
      generalize hcs : css j = cs at h1
      cases h1
      obtain ⟨ad, e1, e2⟩ := ha' j 0 (.string ⟨s.toArray⟩) hjl (by rw [hcs]; rfl)
      exact ⟨ad, e1, by simpa using e2.2⟩
    obtain ⟨⟨bk, o, sp⟩, rfl, h0⟩ := cellAt 0 a rfl
    have hsp : sp = none := by
      have := World.cell?_spot h0
      simpa [Addr.add] using this
    subst hsp
    have hcell : ∀ (j : Nat) x, ((a :: l).map fun s => (⟨s.toArray⟩ : ByteArray))[j]? = some x → c.w.cell? ⟨bk, o + j, none⟩ = some (.string x) := by
      intro j x hj
      rw [List.getElem?_map, Option.map_eq_some_iff] at hj
      obtain ⟨s, hs, rfl⟩ := hj
      obtain ⟨ad, e1, e2⟩ := cellAt j s hs
      injection e1 with e1
      subst e1
      have : (⟨bk, o, none⟩ : Addr).add j = ⟨bk, o + j, none⟩ := by unfold Addr.add; split <;> simp_all
      rw [this] at e2
      exact e2
    have hmap : (((a :: l).map fun s => (⟨s.toArray⟩ : ByteArray)).map fun x => x.data.toList) = a :: l := by
      rw [List.map_map]
      exact List.map_id'' (fun s => by simp) _
    have hbk : bk < c.w.heap.size := by
      have := World.block_lt_of_cell? c.w _ h0
      simpa [Addr.add] using this
    have key := Tryd.strings_Join bk o cap ((a :: l).map fun s => ⟨s.toArray⟩) ⟨sep.toArray⟩ c.w hcell hbk (by
      have h3 : ((a :: l).map fun s => (⟨s.toArray⟩ : ByteArray)).length = (a :: l).length := by simp
      rw [h3]
      omega) (by simpa using hc) (by rw [hmap]; exact hlen)
    rw [hmap] at key
    have hlen2 : ((a :: l).map fun s => (⟨s.toArray⟩ : ByteArray)).length = ((a :: l).map AV.str).length := by simp
    rw [hlen2] at key
    refine key.mono fun e w' ⟨he, hw⟩ => ⟨_, he, fun d => ?_, hw⟩
    exact Rep1.v ⟨.str _ (by unfold maxLen; omega), rfl⟩
end Go.Av
