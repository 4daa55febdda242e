/- A text that is being built (a strings.Builder's): how a write changes the state; the laws of append with the new row's place. Over any program. -/
import Derived.Test.YtpdbcfnmhicnbaaDoorAvD
import Derived.Lib.AppendStr
import Derived.Lib.Builder
import Derived.Lib.FrozenHead
import Derived.Lib.UnsafeStr
import Derived.Test.YtpdbcfnmhicnbaaDoorAvA
import Derived.ChangeArms
import Derived.DataReads
import Derived.SizedLaws
import Derived.Below
import Derived.WalkKit
import Derived.ProofKit
import Derived.OpenShut
import Derived.ShutString
import Derived.ChangeOld
set_option linter.unusedVariables false
set_option linter.unusedSimpArgs false
namespace Go.Av

theorem ownsRow_base {w : World} {B B' : Nat} {e : TypeId} {n : Nat} {v : Value} {xs : List Value} (h : w.ownsRow B' e 1 v n xs) (hB : B ≤ B') : w.ownsRow B e 1 v n xs := by
  obtain ⟨h1, h2⟩ := h
  refine ⟨h1, h2.imp id ?_⟩
  rintro ⟨g, cap, cur, a, b, c⟩
  exact ⟨g, cap, cur, a, Nat.le_trans hB b, c⟩

theorem app_str {P : Program} (w : World) (base : Nat) (t u ty e : TypeId) (i : TypeInfo) (ht : P.underlying t = some (.slice e)) (hu : P.underlying u = some .string) (hi : P.info? e = some i) (hz : i.zero = some (.int .u8 0))
    (hsize : i.size = 1) (hby : i.bytes = 1) (v : Value) (n : Nat) (xs : List Value) (hown : w.ownsRow base e 1 v n xs) (s : ByteArray)
    (h63 : n + s.size ≤ maxLen) (hbytes : n + s.size ≤ 140737488355328) (hbase : base ≤ w.heap.size) :
    ∃ v' w', (Builtin.append_ #[t, u] ty #[v, .string s]).run P w = .ok v' w' ∧ w'.ownsRow base e 1 v' (n + s.size) (xs ++ Lib.strCells s) ∧ w.grownBy w' v.ownBlock ∧
      ∀ g, v'.ownBlock = some g → v.ownBlock = some g ∨ w.heap.size ≤ g := by
  obtain ⟨v', w', h1, h2, h3, h4⟩ := Lib.run_append_own_string (P := P) w base t u ty e i ht hu hi hz hsize hby v n xs hown s h63 hbytes hbase
  refine ⟨v', w', h1, h2, h3, fun g' hg' => ?_⟩
  rcases hown.2 with ⟨rfl, rfl⟩ | ⟨g, cap, cur, rfl, hbg, hg, hnc, hcm, hcs, htake⟩
  · obtain ⟨v2, w2, k1, k2, _, _⟩ := Lib.run_append_own_string (P := P) w w.heap.size t u ty e i ht hu hi hz hsize hby (.slice none 0 0) 0 xs ⟨hown.1, .inl ⟨rfl, rfl⟩⟩ s h63 hbytes (Nat.le_refl _)
    rw [h1] at k1
    injection k1 with k1 k1'
    subst k1 k1'
    right
    rcases k2.2 with ⟨rfl, _⟩ | ⟨g, cap, cur, rfl, hb, _⟩
    · simp [Value.ownBlock] at hg'
    · simp [Value.ownBlock] at hg'
      omega
  · have hxl : xs.length = n := by simpa using hown.1
    by_cases hroom : n + s.size ≤ cap
    · have hr := Lib.run_append_room_stringF (P := P) w t u ty e i ht hu hi hsize g n cap cur (0, 0) hg (Nat.zero_le _) s hroom (by omega)
      rw [h1] at hr
      injection hr with hr _
      subst hr
      exact .inl hg'
    · have holds : ∀ j u, xs[j]? = some u → w.cell? ((⟨g, 0, none⟩ : Addr).add j) = some u := by
        intro j u hj
        have := (World.ownsRowF_of hown).cells (g := g) rfl j u hj
        exact this
      have hr := Lib.run_append_grow_string (P := P) w t u ty e i (.int .u8 0) ht hu hi hz ⟨g, 0, none⟩ n cap xs (by rw [hsize]; simpa using hxl) holds s (by omega) (by simp only [maxLen] at h63; omega) (by rw [hby]; exact growslice_fits (by omega) (by omega))
      rw [h1] at hr
      injection hr with hr _
      subst hr
      simp [Value.ownBlock] at hg'
      omega

theorem app_row {P : Program} (w : World) (base : Nat) (t ty e : TypeId) (i : TypeInfo) (ht : P.underlying t = some (.slice e)) (hi : P.info? e = some i) (hz : i.zero = some (.int .u8 0))
    (hsize : i.size = 1) (hby : i.bytes = 1) (v : Value) (n : Nat) (xs : List Value) (hown : w.ownsRow base e 1 v n xs)
    (a : Addr) (m c : Nat) (news : List Value) (hl : news.length = m) (hnews : ∀ j u, news[j]? = some u → w.cell? (a.add j) = some u) (h1 : ∀ u ∈ news, u.oneCell' = true)
    (h63 : n + m ≤ maxLen) (hbytes : n + m ≤ 140737488355328) (hbase : base ≤ w.heap.size) (hm : 0 < m) :
    ∃ v' w', (Builtin.append_ #[t, t] ty #[v, .slice (some a) m c]).run P w = .ok v' w' ∧ w'.ownsRow base e 1 v' (n + m) (xs ++ news) ∧ w.grownBy w' v.ownBlock ∧
      ∀ g, v'.ownBlock = some g → v.ownBlock = some g ∨ w.heap.size ≤ g := by
  have key := fun B hB hown => run_append_own (P := P) (w := w) B t ty e i (.int .u8 0) 1 1 ht hi hz hsize hby rfl (by decide) v n xs hown a m c news (by simpa using hl) hnews h1 h63 (by simpa using hbytes) hB
  obtain ⟨v', w', k1, k2, k3, k4⟩ := key base hbase hown
  refine ⟨v', w', k1, k2, k3, fun g' hg' => ?_⟩
  rcases hown.2 with ⟨rfl, rfl⟩ | ⟨g, cap, cur, rfl, hbg, hg, hnc, hcm, hcs, htake⟩
  · obtain ⟨v2, w2, q1, q2, _, _⟩ := key w.heap.size (Nat.le_refl _) ⟨hown.1, .inl ⟨rfl, rfl⟩⟩
    rw [k1] at q1
    injection q1 with q1 q1'
    subst q1 q1'
    right
    rcases q2.2 with ⟨rfl, _⟩ | ⟨g, cap, cur, rfl, hb, _⟩
    · simp [Value.ownBlock] at hg'
    · simp [Value.ownBlock] at hg'
      omega
  · have hxl : xs.length = n := by simpa using hown.1
    by_cases hroom : n + m ≤ cap
    · have hr := run_append_room (P := P) w t ty e i ht hi g n cap cur hg a m c news (by rw [hsize]; simpa using hl) hnews h1 hroom (by rw [hsize, Nat.mul_one, hl]; omega)
      rw [k1] at hr
      injection hr with hr _
      subst hr
      exact .inl hg'
    · have holds : ∀ j u, xs[j]? = some u → w.cell? ((⟨g, 0, none⟩ : Addr).add j) = some u := by
        intro j u hj
        have := (World.ownsRowF_of hown).cells (g := g) rfl j u hj
        exact this
      have hr := run_append_grow (P := P) w t ty e i (.int .u8 0) ht hi hz ⟨g, 0, none⟩ n cap xs (by rw [hsize]; simpa using hxl) holds a m c news (by rw [hsize]; simpa using hl) hnews (by omega) (by simp only [maxLen] at h63; omega)
        (by rw [hby]; exact growslice_fits (by omega) (by omega))
      rw [k1] at hr
      injection hr with hr _
      subst hr
      simp [Value.ownBlock] at hg'
      omega

/-- A call of append whose run is known, for the walk. -/
theorem wpl_app {P : Program} {w : World} {ops : Array Oper} {rest : List Oper} {o : Oper} {a : Act} {Q : Exit → Act → World → Prop} (hgd : o.guard = none) (sl x : Operand) (t u : TypeId)
    (ho : o.op = .call { callee := .builtin .append, args := #[sl, x], argTypes := #[t, u] }) (v y : Value) (hs : a.eval sl = v) (hx : a.eval x = y) {v' : Value} {w' : World}
    (hr : (Builtin.append_ #[t, u] o.type #[v, y]).run P w = .ok v' w') (h : wpList P ops Q rest (a.put o.dst v') w') : wpList P ops Q (o :: rest) a w := by
  refine wpList_plain hgd fun K hK => ?_
  unfold Oper.wp execOp
  simp only [ho, resolve, invoke, builtin, Sem.run_bind, Sem.run_pure, Result.andThen_ok, List.map_toArray, List.map_cons, List.map_nil, hs, hx, hr]
  exact hK _ _ h

/-- One builder is written, or given up. -/
theorem bld_step {c : Cx} (hh : RH c) {b : Nat} {s : List UInt8} {T e : TypeId} (hb : c.H b = some (.bld s T e)) {w' : World} {Hn : AHeap} (hsz : c.w.heap.size ≤ w'.heap.size) (h1 : w'.os = c.w.os) (h2 : w'.tape = c.w.tape) (h3 : w'.output = c.w.output)
    (hoth : ∀ k, k < c.w.heap.size → k ≠ b → rowOf c.w b ≠ some k → w'.heap[k]? = c.w.heap[k]?) (hH : ∀ x, x ≠ b → Hn x = c.H x)
    (hn : Hn b = none ∨ ∃ s' v', Hn b = some (.bld s' T e) ∧ w'.heap[b]? = some (.cells #[.pointer (some ⟨b, 0, none⟩), v'] T (0, 0)) ∧ w'.ownsRow c.base e 1 v' s'.length (byteVals s') ∧
      ∀ g, v'.ownBlock = some g → g ≠ b ∧ (rowOf c.w b = some g ∨ c.w.heap.size ≤ g)) :
    c.Le { c with w := w', H := Hn } ∧ RH { c with w := w', H := Hn } := by
  have hx := hh.x
  obtain ⟨p0, v0, e1, e2, e3⟩ := hx.bld b s T e hb
  obtain ⟨hbs, hbb⟩ := hx.lt b _ hb rfl
  obtain ⟨hbb, hbl⟩ := hbb rfl
  have hr0 : rowOf c.w b = v0.ownBlock := by
    simp only [rowOf, e1]
    rcases e3 with ⟨rfl, _⟩ | ⟨g, cap, cur, rfl, _⟩ <;> rfl
  have hrow : ∀ g, rowOf c.w b = some g → c.base ≤ g ∧ g < c.w.heap.size ∧ c.H g = none ∧ c.lim g = 0 := by
    intro g hg
    rw [hr0] at hg
    rcases e3 with ⟨rfl, _⟩ | ⟨g', cap, cur, rfl, ⟨f2, f3, f4, f5⟩, f6, _⟩
    · cases hg
    · simp [Value.ownBlock] at hg
      subst hg
      refine ⟨f2, ?_, f4, f5⟩
      rcases Nat.lt_or_ge g' c.w.heap.size with h | h
      · exact h
      · rw [Array.getElem?_eq_none h] at f6; cases f6
  -- blocks that bear objects, all but b, stay
  have hkeep : ∀ k o, c.H k = some o → k ≠ b → w'.heap[k]? = c.w.heap[k]? := fun k o hk hkb =>
    hoth k (hh.lt k o hk) hkb fun hr => by rw [(hrow k hr).2.2.1] at hk; cases hk
  have hle : c.Le { c with w := w', H := Hn } := by
    refine ⟨rfl, hsz, fun a u hr => ⟨hr.1, ?_⟩, fun k hk => hoth k (Nat.lt_of_lt_of_le hk hh.base) (by omega) fun hr => by have := (hrow k hr).1; omega, h1, h2, h3, rfl, fun k n z t hk hr => ?_⟩
    · have hlt := World.block_lt_of_cell? c.w a hr.2
      have e : w'.heap[a.block]? = c.w.heap[a.block]? := hoth _ hlt (fun h => by
        rcases hr.1 with h' | h'
        · omega
        · rw [h, hbl] at h'; omega) fun h => by
        have := hrow _ h
        rcases hr.1 with h' | h'
        · omega
        · omega
      rw [World.cell?_of_block e]
      exact hr.2
    · by_cases hkb : k = b
      · subst hkb
        simp only at hr
        rcases hn with hn | ⟨s', v', hn, _⟩ <;> rw [hn] at hr <;> cases hr
      · simp only at hr
        rw [hH k hkb] at hr
        exact .inl ⟨hr, hkeep k _ hr hkb⟩
  refine ⟨hle, Nat.le_trans hh.base hsz, fun k hk => hh.new k (Nat.le_trans hsz hk), fun k o hk => ?_, fun k o hk ho => ?_, ⟨fun k o hk ho => ?_, fun k s1 T1 E1 hk => ?_, fun k k' s1 T1 E1 s2 T2 E2 hk hk' hne g hg => ?_, fun k cs hk => ?_, fun k l hk => ?_⟩, fun k v hk => ?_, fun k n z t hk => ?_⟩
  · by_cases hkb : k = b
    · subst hkb; exact Nat.lt_of_lt_of_le hbs hsz
    · simp only at hk; rw [hH k hkb] at hk; exact Nat.lt_of_lt_of_le (hh.lt k o hk) hsz
  · by_cases hkb : k = b
    · subst hkb; exact hbb
    · simp only at hk; rw [hH k hkb] at hk; exact hh.ge k o hk ho
  · by_cases hkb : k = b
    · subst hkb; exact ⟨Nat.lt_of_lt_of_le hbs hsz, fun _ => ⟨hbb, hbl⟩⟩
    · simp only at hk; rw [hH k hkb] at hk
      obtain ⟨p, q⟩ := hx.lt k o hk ho
      exact ⟨Nat.lt_of_lt_of_le p hsz, q⟩
  · by_cases hkb : k = b
    · subst hkb
      simp only at hk
      rcases hn with hn | ⟨s', v', hn, hw, hown, hg⟩
      · rw [hn] at hk; cases hk
      · rw [hn] at hk
        injection hk with hk
        injection hk with g1 g2 g3
        subst g1 g2 g3
        refine ⟨_, v', hw, .inr rfl, ?_⟩
        rcases hown.2 with ⟨rfl, hz⟩ | ⟨g, cap, cur, rfl, hbg, hgc, hnc, hcm, hcs, htk⟩
        · exact .inl ⟨rfl, List.length_eq_zero_iff.1 hz⟩
        · obtain ⟨gb, gr⟩ := hg g rfl
          refine .inr ⟨g, cap, cur, rfl, ⟨hbg, gb, ?_, ?_⟩, hgc, ⟨hnc, hcm, by simpa using hcs⟩, by simpa using htk⟩
          · simp only
            rw [hH g gb]
            rcases gr with gr | gr
            · exact (hrow g gr).2.2.1
            · cases hq : c.H g with
              | none => rfl
              | some o => have := hh.lt g o hq; omega
          · rcases gr with gr | gr
            · exact (hrow g gr).2.2.2
            · exact hh.new g gr
    · simp only at hk
      rw [hH k hkb] at hk
      obtain ⟨p, v, q1, q2, q3⟩ := hx.bld k s1 T1 E1 hk
      refine ⟨p, v, by rw [hkeep k _ hk hkb]; exact q1, q2, ?_⟩
      rcases q3 with q3 | ⟨g, cap, cur, rfl, ⟨f2, f3, f4, f5⟩, f6, f7⟩
      · exact .inl q3
      · have hgl : g < c.w.heap.size := by
          rcases Nat.lt_or_ge g c.w.heap.size with h | h
          · exact h
          · rw [Array.getElem?_eq_none h] at f6; cases f6
        have hgb : g ≠ b := fun h => by rw [h, hb] at f4; cases f4
        have hrk : rowOf c.w k = some g := by simp [rowOf, q1]
        refine .inr ⟨g, cap, cur, rfl, ⟨f2, f3, by simp only; rw [hH g hgb]; exact f4, f5⟩, ?_, f7⟩
        simp only
        rw [hoth g hgl hgb (hx.sep k b _ _ _ _ _ _ hk hb hkb g hrk)]
        exact f6
  · have rk : ∀ x s T e, x ≠ b → Hn x = some (.bld s T e) → c.H x = some (.bld s T e) ∧ rowOf w' x = rowOf c.w x := fun x s T e hxb h => by
      rw [hH x hxb] at h
      exact ⟨h, by simp only [rowOf, hkeep x _ h hxb]⟩
    have own : ∀ g, rowOf w' b = some g → (∃ s' T' E', Hn b = some (.bld s' T' E')) → g ≠ b ∧ (rowOf c.w b = some g ∨ c.w.heap.size ≤ g) := by
      rintro g hg ⟨s', T', E', hs'⟩
      rcases hn with hn | ⟨s2, v', hn, hw, hown, hgg⟩
      · rw [hn] at hs'; cases hs'
      · refine hgg g ?_
        simp only [rowOf, hw] at hg
        rcases hown.2 with ⟨rfl, hz⟩ | ⟨g', cap, cur, rfl, _⟩ <;> exact hg
    have oldrow : ∀ x s T e g, c.H x = some (.bld s T e) → rowOf c.w x = some g → g < c.w.heap.size := fun x s T e g h hr => by
      obtain ⟨p, v, q1, q2, q3⟩ := hx.bld x s T e h
      rcases q3 with ⟨rfl, _⟩ | ⟨g', cap, cur, rfl, _, f6, _⟩
      · simp [rowOf, q1] at hr
      · simp [rowOf, q1] at hr
        subst hr
        rcases Nat.lt_or_ge g' c.w.heap.size with h | h
        · exact h
        · rw [Array.getElem?_eq_none h] at f6; cases f6
    simp only at hk hk' hg ⊢
    by_cases hkb : k = b
    · subst hkb
      have hk'b : k' ≠ k := fun h => hne h.symm
      obtain ⟨q1, q2⟩ := rk k' _ _ _ hk'b hk'
      rw [q2]
      intro hr
      rcases (own g hg ⟨_, _, _, hk⟩).2 with h | h
      · exact hx.sep k k' _ _ _ _ _ _ hb q1 hne g h hr
      · have := oldrow k' _ _ _ g q1 hr; omega
    · obtain ⟨q1, q2⟩ := rk k _ _ _ hkb hk
      rw [q2] at hg
      by_cases hk'b : k' = b
      · subst hk'b
        intro hr
        rcases (own g hr ⟨_, _, _, hk'⟩).2 with h | h
        · exact hx.sep k k' _ _ _ _ _ _ q1 hb hne g hg h
        · have := oldrow k _ _ _ g q1 hg; omega
      · obtain ⟨q3, q4⟩ := rk k' _ _ _ hk'b hk'
        rw [q4]
        exact hx.sep k k' _ _ _ _ _ _ q1 q3 hne g hg
  · have hkb : k ≠ b := fun h => by
      subst h
      simp only at hk
      rcases hn with hn | ⟨s', v', hn, _⟩ <;> rw [hn] at hk <;> cases hk
    simp only at hk
    rw [hH k hkb] at hk
    obtain ⟨p, e, z, q⟩ := hx.tab k cs hk
    exact ⟨p, e, z, by rw [hkeep k _ hk hkb]; exact q⟩
  · have hkb : k ≠ b := fun h => by
      subst h
      simp only at hk
      rcases hn with hn | ⟨s', v', hn, _⟩ <;> rw [hn] at hk <;> cases hk
    simp only at hk
    rw [hH k hkb] at hk
    obtain ⟨es, clock, q, r⟩ := hx.mp k l hk
    exact ⟨es, clock, by rw [hkeep k _ hk hkb]; exact q, r⟩
  · have hkb : k ≠ b := fun h => by
      subst h
      simp only at hk
      rcases hn with hn | ⟨s', v', hn, _⟩ <;> rw [hn] at hk <;> cases hk
    simp only at hk
    rw [hH k hkb] at hk
    obtain ⟨p, cs, t, q1, q2⟩ := hh.box k v hk
    exact ⟨p, cs, t, by rw [hkeep k _ hk hkb]; exact q1, q2.mono hle⟩
  · have hkb : k ≠ b := fun h => by
      subst h
      simp only at hk
      rcases hn with hn | ⟨s', v', hn, _⟩ <;> rw [hn] at hk <;> cases hk
    simp only at hk
    rw [hH k hkb] at hk
    obtain ⟨p, cs, q1, q2⟩ := hh.row k n z t hk
    exact ⟨p, cs, by rw [hkeep k _ hk hkb]; exact q1, q2⟩
end Go.Av

namespace Go.Av

/-- The context at a call from without: nothing is known of the heap but what the arguments read. -/
def Cx.start (W : World) : Cx := { base := W.heap.size, lim := fun _ => 0, w := W, H := fun _ => none }

/-- The type's readings bear values of this family. -/
def Reads {α : Type} (P : Program) (t : TypeId) (sz : Nat) (av : α → AV) (ok : α → Prop) : Prop :=
  ∀ (H : Type) (enc : TypeId × Value → H) (W : World) (sp : Nat → Bool) (held : Bool) (n : Nat) (cs : List Value) x,
    DataW.trod enc P W 0 sp held n t cs = some x → (∀ k ∈ x.1.weights P t, k ≤ reachBytes) → ∃ g, ok g ∧ RepC (Cx.start W) (av g) cs ∧ cs.length = sz

/-- The same, for a bounded fuel (for types that name themselves). -/
def ReadsN {α : Type} (P : Program) (N : Nat) (t : TypeId) (sz : Nat) (av : α → AV) (ok : α → Prop) : Prop :=
  ∀ (H : Type) (enc : TypeId × Value → H) (W : World) (sp : Nat → Bool) (held : Bool) (n : Nat) (cs : List Value) x, n ≤ N → 
    DataW.trod enc P W 0 sp held n t cs = some x → (∀ k ∈ x.1.weights P t, k ≤ reachBytes) → ∃ g, ok g ∧ RepC (Cx.start W) (av g) cs ∧ cs.length = sz

theorem Reads.n {α : Type} {P : Program} {t : TypeId} {sz : Nat} {av : α → AV} {ok : α → Prop} (h : Reads P t sz av ok) (N : Nat) : ReadsN P N t sz av ok :=
  fun H enc W sp held n cs x _ hx hk => h H enc W sp held n cs x hx hk

theorem ReadsN.all {α : Type} {P : Program} {t : TypeId} {sz : Nat} {av : α → AV} {ok : α → Prop} (h : ∀ N, ReadsN P N t sz av ok) : Reads P t sz av ok :=
  fun H enc W sp held n cs x hx hk => h n H enc W sp held n cs x (Nat.le_refl _) hx hk

theorem Addr.add_add (a : Addr) (i j : Nat) : (a.add i).add j = a.add (i + j) := by
  cases a
  by_cases h1 : i = 0 <;> by_cases h2 : j = 0 <;> simp_all [Addr.add, Nat.add_assoc]

theorem rd_start {W : World} {a : Addr} {u : Value} (h : W.cell? a = some u) : (Cx.start W).rd a u := by
  refine ⟨.inl ?_, h⟩
  simp only [Cx.start]
  unfold World.cell? at h
  rcases Nat.lt_or_ge a.block W.heap.size with h1 | h1
  · exact h1
  · rw [Array.getElem?_eq_none h1] at h
    simp at h

theorem reads_int (P : Program) (t : TypeId) (k : IntKind) (ht : P.underlying t = some (.int k)) : Reads P t 1 (AV.int k) fun n => (Lit.int k n).wf = true := by
  intro H enc W sp held n cs x hx hk
  obtain ⟨m, rfl, _, hw⟩ := DataW.trod_int ht hx
  exact ⟨m, hw, .int _ _, rfl⟩

theorem reads_str (P : Program) (t : TypeId) (ht : P.underlying t = some .string) : Reads P t 1 AV.str fun s => s.length ≤ maxLen := by
  intro H enc W sp held n cs x hx hk
  obtain ⟨s, rfl, _, hw⟩ := DataW.trod_string ht hx
  have hl : s.data.toList.length ≤ maxLen := by simpa using hw
  refine ⟨s.data.toList, hl, ?_, rfl⟩
  have h := RepC.str (c := Cx.start W) s.data.toList hl
  exact h

theorem choose_list {α : Type} {n : Nat} {p : Nat → α → Prop} (h : ∀ i, i < n → ∃ g, p i g) : ∃ l : List α, l.length = n ∧ ∀ i g, l[i]? = some g → p i g := by
  induction n with
  | zero => exact ⟨[], rfl, fun i g hi => by simp at hi⟩
  | succ n ih =>
    obtain ⟨l, hl, hp⟩ := ih fun i hi => h i (by omega)
    obtain ⟨g, hg⟩ := h n (by omega)
    refine ⟨l ++ [g], by simp [hl], fun i x hx => ?_⟩
    rcases Nat.lt_trichotomy i n with h1 | h1 | h1
    · rw [List.getElem?_append_left (by omega)] at hx
      exact hp i x hx
    · subst h1
      rw [List.getElem?_append_right (by omega)] at hx
      simp [hl] at hx
      subst hx
      exact hg
    · rw [List.getElem?_append_right (by omega)] at hx
      have : ¬ i - l.length = 0 := by omega
      simp [List.getElem?_cons, this] at hx

theorem weights_all {H : Type} {P : Program} {e : TypeId} {d : DataW H} {k : Nat} (hk : k ∈ d.weights P e) : ∀ {l : List (DataW H)}, d ∈ l → k ∈ DataW.weightsAll P e l
  | [], h => by cases h
  | x :: l, h => by
    rw [DataW.weightsAll, List.mem_append]
    rcases List.mem_cons.1 h with rfl | h
    · exact .inl hk
    · exact .inr (weights_all hk h)

theorem reads_slice {α : Type} {P : Program} {N : Nat} {t e : TypeId} {sz : Nat} {av : α → AV} {ok : α → Prop} (ht : P.underlying t = some (.slice e)) (hsz : P.cellsOf e = sz) (hby : 0 < P.bytesOf e) (he : ReadsN P N e sz av ok) :
    ReadsN P (N + 1) t 1 (fun l : List α => .list sz (l.map av)) fun l => (∀ g ∈ l, ok g) ∧ l.length ≤ reachBytes := by
  intro H enc W sp held n cs x hn hx hk
  rcases DataW.trod_slice ht hx with ⟨rfl, _⟩ | ⟨a, len, cap, elems, rest, m, rfl, rfl, rfl, _, hlc, hcm, hel, hr, _⟩
  · refine ⟨[], ⟨by simp, by simp⟩, ?_, rfl⟩
    exact .list (A := none) (fun _ => []) (Nat.le_refl _) (by decide) (by simp) (by simp) (by simp)
  · simp only [DataW.weights, ht] at hk
    have hlen : len ≤ reachBytes := by
      have h0 := hk _ (List.mem_cons_self ..)
      simp only [List.length_map] at h0
      have h1 : elems.length * 1 ≤ (elems.length + rest.length) * P.bytesOf e := Nat.mul_le_mul (by omega) hby
      omega
    have h1 : ∀ i, i < len → ∃ g : α, ok g ∧ ∃ cs', W.cells? 0 (a.add (i * sz)) sz = some cs' ∧ RepC (Cx.start W) (av g) cs' ∧ cs'.length = sz := by
      intro i hi
      have h2 := hr i hi
      rw [hsz] at h2
      have h3 : elems[i]? = some elems[i] := List.getElem?_eq_getElem (by omega)
      rw [h3] at h2
      cases hc : W.cells? 0 (a.add (i * sz)) sz with
      | none => rw [hc] at h2; simp at h2
      | some cs' =>
        rw [hc] at h2
        simp only [Option.bind_some] at h2
        obtain ⟨g, hg, hrep, hlen⟩ := he H enc W sp held m cs' _ (by omega) h2 (fun k hk' => hk k (List.mem_cons_of_mem _ (List.mem_append.2 (.inl (weights_all hk' (List.mem_map.2 ⟨_, List.getElem_mem _, rfl⟩))))))
        exact ⟨g, hg, cs', rfl, hrep, hlen⟩
    obtain ⟨l, hl, hp⟩ := choose_list h1
    refine ⟨l, ⟨fun g hg => ?_, by omega⟩, ?_, rfl⟩
    · obtain ⟨i, hi, rfl⟩ := List.getElem_of_mem hg
      exact (hp i _ (List.getElem?_eq_getElem hi)).1
    · have key : ∀ j g, l[j]? = some g → ∃ cs', W.cells? 0 (a.add (j * sz)) sz = some cs' ∧ RepC (Cx.start W) (av g) cs' ∧ cs'.length = sz := fun j g hg => (hp j g hg).2
      have hcl : len = (l.map av).length := by simp [hl]
      rw [hcl]
      refine .list (A := some a) (fun j => (W.cells? 0 (a.add (j * sz)) sz).getD []) (by simp [hl, hlc]) hcm (fun j v hv => ?_) (fun j hj => ?_) (fun j i u hj hu => ?_)
      · rw [List.getElem?_map, Option.map_eq_some_iff] at hv
        obtain ⟨g, hg, rfl⟩ := hv
        obtain ⟨cs', e1, e2, _⟩ := key j g hg
        simp only [e1, Option.getD_some]
        exact e2
      · obtain ⟨cs', e1, _, e3⟩ := key j (l[j]'(by simpa using hj)) (List.getElem?_eq_getElem _)
        simp only [e1, Option.getD_some]
        exact e3
      · obtain ⟨cs', e1, _, e3⟩ := key j (l[j]'(by simpa using hj)) (List.getElem?_eq_getElem _)
        simp only [e1, Option.getD_some] at hu
        obtain ⟨_, _, hcell⟩ := World.cells?_some e1
        have hi : i < sz := by
          have := (List.getElem?_eq_some_iff.1 hu).1
          omega
        have hc := hcell i hi
        rw [hu] at hc
        refine ⟨a, rfl, ?_⟩
        rw [← Addr.add_add]
        exact rd_start hc

/-- The fields of a struct: their types and where they lie. -/
def FldsAre (P : Program) (t : TypeId) (l : List (TypeId × Nat)) : Prop := ∃ fs : Array Field, P.underlying t = some (.struct fs) ∧ fs.toList.map (fun f => (f.type, f.offset)) = l

theorem trod_flds {H : Type} {enc : TypeId × Value → H} {P : Program} {W : World} {sp : Nat → Bool} {held : Bool} {n : Nat} {t : TypeId} {cs : List Value} {x : DataW H × List MemPlace} {l : List (TypeId × Nat)}
    (hf : FldsAre P t l) (h : DataW.trod enc P W 0 sp held n t cs = some x) :
    ∃ m, n = m + 1 ∧ cs.length = P.cellsOf t ∧ ∀ p ∈ l, ∃ y, DataW.trod enc P W 0 sp held m p.1 ((cs.drop p.2).take (P.cellsOf p.1)) = some y ∧ ∀ k ∈ y.1.weights P p.1, k ∈ x.1.weights P t := by
  obtain ⟨fs, hu, hl⟩ := hf
  obtain ⟨xs, m, e1, e2, e3, e4, e5⟩ := DataW.trod_struct hu h
  refine ⟨m, e1, e3, fun p hp => ?_⟩
  rw [← hl] at hp
  obtain ⟨f, hf, rfl⟩ := List.mem_map.1 hp
  obtain ⟨i, hi, rfl⟩ := List.getElem_of_mem hf
  have hi' : i < fs.size := by simpa using hi
  have h6 := e5 i fs[i] (Array.getElem?_eq_getElem hi')
  have h7 : xs[i]? = some xs[i] := List.getElem?_eq_getElem (by omega)
  rw [h7] at h6
  refine ⟨xs[i], by simpa using h6, fun k hk => ?_⟩
  subst e2
  simp only [DataW.weights, hu]
  refine DataW.weights_mem_each (j := i) ?_ ?_ k hk
  · simp [hi']
  · simp [h7]

theorem reads_struct2 {α β : Type} {P : Program} {N : Nat} {t t1 t2 : TypeId} {a b : Nat} {o1 o2 : Nat} {av1 : α → AV} {av2 : β → AV} {ok1 : α → Prop} {ok2 : β → Prop}
    (hf : FldsAre P t [(t1, o1), (t2, o2)]) (hc : P.cellsOf t = a + b) (h1 : P.cellsOf t1 = a) (h2 : P.cellsOf t2 = b) (e1 : o1 = 0) (e2 : o2 = a) (r1 : ReadsN P N t1 a av1 ok1) (r2 : ReadsN P N t2 b av2 ok2) :
    ReadsN P (N + 1) t (a + b) (fun p : α × β => .struct [av1 p.1, av2 p.2]) fun p => ok1 p.1 ∧ ok2 p.2 := by
  intro H enc W sp held n cs x hn hx hk
  obtain ⟨m, rfl, hlen, hp⟩ := trod_flds hf hx
  obtain ⟨y1, k1, w1⟩ := hp _ (List.mem_cons_self ..)
  obtain ⟨y2, k2, w2⟩ := hp _ (List.mem_cons_of_mem _ (List.mem_cons_self ..))
  simp only [h1, h2, e1, e2, List.drop_zero] at k1 k2
  obtain ⟨g1, o1, p1, _⟩ := r1 H enc W sp held m _ _ (by omega) k1 (fun k hk' => hk k (w1 k hk'))
  obtain ⟨g2, o2, p2, _⟩ := r2 H enc W sp held m _ _ (by omega) k2 (fun k hk' => hk k (w2 k hk'))
  refine ⟨(g1, g2), ⟨o1, o2⟩, ?_, by omega⟩
  have e : cs = cs.take a ++ ((cs.drop a).take b ++ []) := by
    rw [List.append_nil, List.take_of_length_le (l := cs.drop a) (by simp; omega), List.take_append_drop]
  rw [e]
  exact .scons p1 (.scons p2 .snil)

theorem reads_struct3 {α β γ : Type} {P : Program} {N : Nat} {t t1 t2 t3 : TypeId} {a b c : Nat} {o1 o2 o3 : Nat} {av1 : α → AV} {av2 : β → AV} {av3 : γ → AV} {ok1 : α → Prop} {ok2 : β → Prop} {ok3 : γ → Prop}
    (hf : FldsAre P t [(t1, o1), (t2, o2), (t3, o3)]) (hc : P.cellsOf t = a + b + c) (h1 : P.cellsOf t1 = a) (h2 : P.cellsOf t2 = b) (h3 : P.cellsOf t3 = c) (e1 : o1 = 0) (e2 : o2 = a) (e3 : o3 = a + b)
    (r1 : ReadsN P N t1 a av1 ok1) (r2 : ReadsN P N t2 b av2 ok2) (r3 : ReadsN P N t3 c av3 ok3) :
    ReadsN P (N + 1) t (a + b + c) (fun p : α × β × γ => .struct [av1 p.1, av2 p.2.1, av3 p.2.2]) fun p => ok1 p.1 ∧ ok2 p.2.1 ∧ ok3 p.2.2 := by
  intro H enc W sp held n cs x hn hx hk
  obtain ⟨m, rfl, hlen, hp⟩ := trod_flds hf hx
  obtain ⟨y1, k1, w1⟩ := hp _ (List.mem_cons_self ..)
  obtain ⟨y2, k2, w2⟩ := hp _ (List.mem_cons_of_mem _ (List.mem_cons_self ..))
  obtain ⟨y3, k3, w3⟩ := hp _ (List.mem_cons_of_mem _ (List.mem_cons_of_mem _ (List.mem_cons_self ..)))
  simp only [h1, h2, h3, e1, e2, e3, List.drop_zero] at k1 k2 k3
  obtain ⟨g1, o1, p1, _⟩ := r1 H enc W sp held m _ _ (by omega) k1 (fun k hk' => hk k (w1 k hk'))
  obtain ⟨g2, o2, p2, _⟩ := r2 H enc W sp held m _ _ (by omega) k2 (fun k hk' => hk k (w2 k hk'))
  obtain ⟨g3, o3, p3, _⟩ := r3 H enc W sp held m _ _ (by omega) k3 (fun k hk' => hk k (w3 k hk'))
  refine ⟨(g1, g2, g3), ⟨o1, o2, o3⟩, ?_, by omega⟩
  have e : cs = cs.take a ++ ((cs.drop a).take b ++ ((cs.drop (a + b)).take c ++ [])) := by
    rw [List.append_nil, List.take_of_length_le (l := cs.drop (a + b)) (by simp; omega), ← List.drop_drop, List.take_append_drop, List.take_append_drop]
  rw [e]
  exact .scons p1 (.scons p2 (.scons p3 .snil))

theorem ReadsN.map {α β : Type} {P : Program} {N : Nat} {t : TypeId} {sz : Nat} {av : α → AV} {ok : α → Prop} (h : ReadsN P N t sz av ok) (f : α → β) (av' : β → AV) (ok' : β → Prop) (he : ∀ x, ok x → ok' (f x) ∧ av' (f x) = av x) :
    ReadsN P N t sz av' ok' := by
  intro H enc W sp held n cs x hn hx hk
  obtain ⟨g, h1, h2, h3⟩ := h H enc W sp held n cs x hn hx hk
  exact ⟨f g, (he g h1).1, (he g h1).2 ▸ h2, h3⟩

theorem ReadsN.weak {α : Type} {P : Program} {N M : Nat} {t : TypeId} {sz : Nat} {av : α → AV} {ok : α → Prop} (h : ReadsN P N t sz av ok) (hm : M ≤ N) : ReadsN P M t sz av ok :=
  fun H enc W sp held n cs x hn hx hk => h H enc W sp held n cs x (by omega) hx hk

theorem ReadsN.zero {α : Type} (P : Program) (t : TypeId) (sz : Nat) (av : α → AV) (ok : α → Prop) : ReadsN P 0 t sz av ok := by
  intro H enc W sp held n cs x hn hx hk
  obtain rfl : n = 0 := by omega
  simp [DataW.trod] at hx
end Go.Av

namespace Go.Av
open Go.RowKit

theorem RH.start (W : World) : RH (Cx.start W) where
  base := Nat.le_refl _
  new := fun _ _ => rfl
  lt := fun b o h => by simp [Cx.start] at h
  ge := fun b o h => by simp [Cx.start] at h
  x := ⟨fun b o h => by simp [Cx.start] at h, fun b s T e h => by simp [Cx.start] at h, fun b b' s T e s' T' e' h => by simp [Cx.start] at h, fun b cs h => by simp [Cx.start] at h, fun b l h => by simp [Cx.start] at h⟩
  box := fun b v h => by simp [Cx.start] at h
  row := fun b n s e h => by simp [Cx.start] at h

/-- A contract 'it answers true', at a call from without. -/
theorem ACalls.law {P : Program} {f : FuncId} {args : List AV} {us : List Value} {W : World} (hl : us.length = args.length)
    (hc : ACalls P f args (fun _ => none) (fun r H' => r = .ret (.bool true) ∧ H' = fun _ => none)) (hrep : ∀ (j : Nat) (v : AV) (u : Value), args[j]? = some v → us[j]? = some u → RepV (Cx.start W) v u) :
    Calls P f us.toArray W fun e w' => e = .returned (.bool true) ∧ Below W.heap.size W w' := by
  refine (hc.2 (Cx.start W) us rfl (RH.start W) hl hrep).mono fun e w' ⟨d, e1, hle, _, h⟩ => ?_
  subst e1
  refine ⟨?_, hle.os, hle.tape, hle.output, hle.size, hle.old⟩
  cases e with
  | returned u =>
    obtain ⟨v, ⟨hv, _⟩, hr⟩ := h
    injection hv with hv
    subst hv
    rw [hr.bool]
  | panicked ch =>
    obtain ⟨pv, _, hv, _⟩ := h
    cases hv
  | outgrown => exact h.elim

theorem rep_str (W : World) (s : ByteArray) (hs : s.size ≤ maxLen) : RepV (Cx.start W) (.str s.data.toList) (.string s) := by
  have h := RepC.str (c := Cx.start W) s.data.toList (by simpa using hs)
  have e : (Value.string s).cells.toList = [.string ⟨s.data.toList.toArray⟩] := by simp [Value.cells]
  exact Rep1.v ⟨by rw [e]; exact h, rfl⟩
end Go.Av
