/- Part of the proof: B4. No condition. -/
import Derived.Test.YtpdbcfnmhicnbaaDoorB3
import Derived.Test.YtpdbcfnmhicnbaaDoorShelf3
import Derived.Test.YtpdbcfnmhicnbaaDoorBase
import Derived.Lib.AppendIntMem
set_option linter.unusedVariables false
set_option linter.unusedSimpArgs false
namespace Go.Av
open Go Go.Proofs Go.RowKit

/-- Below the heap's end the world is as it was. -/
theorem below_step {c : Cx} (hh : RH c) {w' : World} (h : Below c.w.heap.size c.w w') : c.Le { c with w := w' } ∧ RH { c with w := w' } := by
  have hk : ∀ k, k < c.w.heap.size → w'.heap[k]? = c.w.heap[k]? := fun k hk => h.block k hk
  have hle : c.Le { c with w := w' } := by
    refine ⟨rfl, h.size, fun a u hr => ⟨hr.1, ?_⟩, fun k hb => hk k (Nat.lt_of_lt_of_le hb hh.base), h.os, h.tape, h.output, rfl, fun k n z t hb hr => .inl ⟨hr, hk k hb⟩⟩
    rw [World.cell?_of_block (hk _ (World.block_lt_of_cell? c.w a hr.2))]
    exact hr.2
  refine ⟨hle, Nat.le_trans hh.base h.size, fun k hb => hh.new k (Nat.le_trans h.size hb), fun k o ho => Nat.lt_of_lt_of_le (hh.lt k o ho) h.size, hh.ge, hh.x.keep rfl h.size (fun x hx _ => ⟨hk x hx, rfl⟩) (fun _ _ _ h => h) (fun _ _ h => h), fun k v ho => ?_, fun k n z t ho => ?_⟩
  · obtain ⟨p, cs, t, q1, q2⟩ := hh.box k v ho
    exact ⟨p, cs, t, by rw [hk k (hh.lt k _ ho)]; exact q1, q2.mono hle⟩
  · obtain ⟨p, cs, q1, q2⟩ := hh.row k n z t ho
    exact ⟨p, cs, by rw [hk k (hh.lt k _ ho)]; exact q1, q2⟩

/-- A contract of the shelf's, of a function that turns nothing that was there, as one of ours. -/
theorem ACalls.shelf {P : Program} {f : FuncId} {args : List AV} {H : AHeap} {v : AV} (hb : hasBody P f = true)
    (h : ∀ (c : Cx) (us : List Value), c.H = H → RH c → us.length = args.length → (∀ (j : Nat) (v : AV) (u : Value), args[j]? = some v → us[j]? = some u → RepV c v u) →
      Calls P f us.toArray c.w fun e w' => ∃ u, e = .returned u ∧ (∀ d, RepV d v u) ∧ Below c.w.heap.size c.w w') :
    ACalls P f args H fun r H' => r = .ret v ∧ H' = H := by
  refine ⟨hb, fun c us hH hh hl hr => (h c us hH hh hl hr).mono fun e w' ⟨u, he, hu, hbel⟩ => ?_⟩
  obtain ⟨hle, hrh⟩ := below_step hh hbel
  subst he
  exact ⟨_, rfl, hle, hrh, v, ⟨rfl, hH⟩, hu _⟩


theorem decDigits_len (n : Nat) : (Lib.decDigits n).length ≤ n + 1 := by
  induction n using Nat.strongRecOn with
  | _ n ih =>
    rw [Lib.decDigits]
    split
    · simp
    · rename_i h
      have := ih (n / 10) (by omega)
      simp only [List.length_append, List.length_cons, List.length_nil]
      omega

theorem strconv_Itoa_small (n : Nat) (hn : n < 100) (H : AHeap) : ACalls PP strconv_Itoa_id [.int .i64 (n : Int)] H fun r H' => r = .ret (.str (Lib.decDigits n)) ∧ H' = H := by
  refine ACalls.shelf (by kernel_rfl) fun c us hH hh hl hr => ?_
  obtain ⟨u0, rfl⟩ : ∃ u0, us = [u0] := by
    match us, hl with
    | [u0], _ => exact ⟨u0, rfl⟩
  have r0 := (hr 0 _ u0 rfl rfl).int
  subst r0
  refine (Tryd.strconv_Itoa_small n hn c.w).mono fun e w' ⟨he, hw⟩ => ⟨_, he, fun d => ?_, hw ▸ Below.refl _ _⟩
  have := decDigits_len n
  exact Rep1.v ⟨.str _ (by unfold maxLen; omega), rfl⟩

/-- The table of the powers of ten. -/
def powTab : List Value := Lib.pow10Tab.map fun z => Value.int .u64 z
theorem powGlob : Tryd.prog.globalNamed "internal/strconv.uint64pow10" = some 1 := by kernel_rfl

theorem strconv_Itoa (n : Nat) (hn : n ≤ 1000000) (H : AHeap) (hT : H 1 = some (.tab powTab)) : ACalls PP strconv_Itoa_id [.int .i64 (n : Int)] H fun r H' => r = .ret (.str (Lib.decDigits n)) ∧ H' = H := by
  refine ACalls.shelf (by kernel_rfl) fun c us hH hh hl hr => ?_
  obtain ⟨u0, rfl⟩ : ∃ u0, us = [u0] := by
    match us, hl with
    | [u0], _ => exact ⟨u0, rfl⟩
  have r0 := (hr 0 _ u0 rfl rfl).int
  subst r0
  rw [← hH] at hT
  obtain ⟨_, e, z, q⟩ := hh.x.tab _ _ hT
  have htab : Lib.TabIs Tryd.prog c.w "internal/strconv.uint64pow10" .u64 Lib.pow10Tab := by
    unfold Lib.TabIs World.var?
    rw [powGlob]
    simp only [Option.bind_some, q]
    rfl
  refine (Tryd.strconv_Itoa n (by omega) (by omega) c.w htab).mono fun e w' ⟨he, k, os, hw⟩ => ⟨_, he, fun d => ?_, hw ▸ Lib.below_grow _ _ (Nat.le_refl _) k os⟩
  have h1 : Lib.itoa n = Lib.decDigits n := by
    unfold Lib.itoa
    rw [if_neg (by omega)]
    simp
  rw [h1]
  have := decDigits_len n
  exact Rep1.v ⟨.str _ (by unfold maxLen; omega), rfl⟩

theorem strings_Join (v : AV) (s0 : Nat) (l : List (List UInt8)) (hv : v.asList = some (s0, l.map AV.str)) (hs0 : l.map AV.str = [] ∨ s0 = 1) (hN : l.length ≤ 1000000) (sep : List UInt8) (hlen : (Lib.join l sep).length ≤ 140737488355328) (H : AHeap) :
    ACalls PP strings_Join_id [v, .str sep] H fun r H' => r = .ret (.str (Lib.join l sep)) ∧ H' = H := by
  refine ACalls.shelf (by kernel_rfl) fun c us hH hh hl hr => ?_
  obtain ⟨u0, u1, rfl⟩ : ∃ u0 u1, us = [u0, u1] := by
    match us, hl with
    | [u0, u1], _ => exact ⟨u0, u1, rfl⟩
  have r0 := hr 0 _ u0 rfl rfl
  obtain ⟨r1, hm⟩ := (hr 1 _ u1 rfl rfl).str
  subst r1
  obtain ⟨A, cap, hu, hla⟩ := r0.asList hv
  subst hu
  cases l with
  | nil =>
    refine (Tryd.strings_Join_none A cap ⟨sep.toArray⟩ c.w).mono fun e w' ⟨he, hw⟩ => ⟨_, he, fun d => ?_, hw ▸ Below.refl _ _⟩
    exact Rep1.v ⟨.str [] (by decide), rfl⟩
  | cons a l =>
    have hs1 : s0 = 1 := by simpa using hs0
    subst hs1
    obtain ⟨hc, hm', css, hr', hs', ha'⟩ := hla
    have cellAt : ∀ j s, (a :: l)[j]? = some s → ∃ ad, A = some ad ∧ c.w.cell? (ad.add j) = some (.string ⟨s.toArray⟩) := by
      intro j s hj
      have h1 := hr' j (.str s) (by rw [List.getElem?_map, hj]; rfl)
      have hjl : j < ((a :: l).map AV.str).length := by
        have := (List.getElem?_eq_some_iff.1 hj).1
        simpa using this
      generalize hcs : css j = cs at h1
      cases h1
      obtain ⟨ad, e1, e2⟩ := ha' j 0 (.string ⟨s.toArray⟩) hjl (by rw [hcs]; rfl)
      exact ⟨ad, e1, by simpa using e2.2⟩
    obtain ⟨⟨bk, o, sp⟩, rfl, h0⟩ := cellAt 0 a rfl
    have hsp : sp = none := by
      have := World.cell?_spot h0
      simpa [Addr.add] using this
    subst hsp
    have hcell : ∀ (j : Nat) x, ((a :: l).map fun s => (⟨s.toArray⟩ : ByteArray))[j]? = some x → c.w.cell? ⟨bk, o + j, none⟩ = some (.string x) := by
      intro j x hj
      rw [List.getElem?_map, Option.map_eq_some_iff] at hj
      obtain ⟨s, hs, rfl⟩ := hj
      obtain ⟨ad, e1, e2⟩ := cellAt j s hs
      injection e1 with e1
      subst e1
      have : (⟨bk, o, none⟩ : Addr).add j = ⟨bk, o + j, none⟩ := by unfold Addr.add; split <;> simp_all
      rw [this] at e2
      exact e2
    have hmap : (((a :: l).map fun s => (⟨s.toArray⟩ : ByteArray)).map fun x => x.data.toList) = a :: l := by
      rw [List.map_map]
      exact List.map_id'' (fun s => by simp) _
    have hbk : bk < c.w.heap.size := by
      have := World.block_lt_of_cell? c.w _ h0
      simpa [Addr.add] using this
    have key := Tryd.strings_Join bk o cap ((a :: l).map fun s => ⟨s.toArray⟩) ⟨sep.toArray⟩ c.w hcell hbk (by
      have h3 : ((a :: l).map fun s => (⟨s.toArray⟩ : ByteArray)).length = (a :: l).length := by simp
      rw [h3]
      omega) (by simpa using hc) (by rw [hmap]; exact hlen)
    rw [hmap] at key
    have hlen2 : ((a :: l).map fun s => (⟨s.toArray⟩ : ByteArray)).length = ((a :: l).map AV.str).length := by simp
    rw [hlen2] at key
    refine key.mono fun e w' ⟨he, hw⟩ => ⟨_, he, fun d => ?_, hw⟩
    exact Rep1.v ⟨.str _ (by unfold maxLen; omega), rfl⟩
end Go.Av
